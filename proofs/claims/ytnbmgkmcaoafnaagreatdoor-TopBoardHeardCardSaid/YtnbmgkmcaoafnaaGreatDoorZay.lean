/- The texts XK, XP, XL, XM0, in build order. -/
import Derived.Test.YtnbmgkmcaoafnaaGreatDoorZax
import Derived.Laws.NewBlocks

/- TopBoardHeard: the small functions of the law. -/
namespace Go.Proofs.YtnbmgkmcaoafnaaGreatDoor
open Go Go.RowKit Go.Oche Go.Proofs

def boardH : Bd:=⟨30,70,[(150,1),(180,2)],lines4,[5,1,3,2]⟩
theorem boardH_ok : BdOk boardH where
 r0:=by decide
 rf:=by decide
 rad:=by decide
 l0:=by decide
 lp:=by
  intro p hp
  have h : p = (-1,1) ∨ p = (1,1) ∨ p = (1, -1) ∨ p = (-1, -1):=by simpa [boardH,lines4] using hp
  rcases h with rfl | rfl | rfl | rfl <;> exact ⟨⟨by decide,by decide⟩,by decide⟩
 lt:=by
  intro i hi
  have h4 : i < 4:=hi;have : i = 0 ∨ i = 1 ∨ i = 2 ∨ i = 3:=by omega
  rcases this with rfl | rfl | rfl | rfl <;> decide
 n0:=rfl
 nr:=by decide
 nd:=by decide
theorem boardH_all {ys : List Int} (h : ys.Pairwise (· < ·)) (hm : ∀ x,x ∈ ys ↔ x ∈ keysB boardH) : ys = beds10:=by
 refine asc_ext h (by decide) fun x => (hm x).trans ?_
 have h1 : ∀ x ∈ keysB boardH,x ∈ beds10:=by decide
 have h2 : ∀ x ∈ beds10,x ∈ keysB boardH:=by decide
 exact ⟨h1 x,h2 x⟩
theorem tdiv_bd (b : Int) : (b.tdiv 100).natAbs ≤ b.natAbs:=by
 rw [Int.natAbs_tdiv]; exact Nat.div_le_self _ _
theorem armOpens_any (b g : Int) (hg : 0 ≤ g ∧ g ≤ 2) (hb : b = 0 ∨ 100 ≤ b) (hb2 : b ≤ 1000) (w : World) : Calls Tryz.prog 18 #[.int .i64 b,.int .i64 g] w fun e w' => e = .returned (.bool (decide (b ≠ 0) && opens5 b g)) ∧ Below w.heap.size w w':=by
 obtain ⟨f,hf⟩ : ∃ f,b.tdiv 100 = f:=⟨_,rfl⟩;have htd:=tdiv_bd b;rw [hf] at htd;have hw : IntKind.i64.wrap f = f:=wrap_small _ (by omega) (by omega)
 obtain ⟨z,hz⟩ : ∃ z,(b != 0) = z:=⟨_,rfl⟩;have HZ : Hid (decide (b ≠ 0) = z):=Lib.hid (by rw [← hz,Bool.eq_iff_iff]; simp)
 have HO : Hid (opens5 b g = if g = 1 then f == 2 else if g = 2 then decide (2 ≤ f) else true):=Lib.hid (by rw [← hf]; rfl)
 rw [HZ.out];clear hb hb2 htd;have hg3 : g = 0 ∨ g = 1 ∨ g = 2:=by omega
 cases z
 ·clear HO hg hw
  rcases hg3 with rfl | rfl | rfl <;> (go_enter Tryz.func18,Tryz.ntmps18; go_wp2; go_returns; exact ⟨rfl,Below.refl _ _⟩)
 ·rcases hg3 with rfl | rfl | rfl
  ·have HO1 : Hid (opens5 b 0 = true):=Lib.hid (by rw [HO.out]; rfl)
   clear HO hg;rw [HO1.out]
   go_enter Tryz.func18,Tryz.ntmps18
   go_wp2;go_returns;exact ⟨rfl,Below.refl _ _⟩
  ·have HO1 : Hid (opens5 b 1 = (f == 2)):=Lib.hid (by rw [HO.out]; rfl)
   clear HO hg;rw [HO1.out]
   go_enter Tryz.func18,Tryz.ntmps18
   go_wp2
   all_goals (go_returns; refine ⟨?_,Below.refl _ _⟩; simp_all)
  ·have HO1 : Hid (opens5 b 2 = decide (2 ≤ f)):=Lib.hid (by rw [HO.out]; rfl)
   clear HO hg;rw [HO1.out]
   go_enter Tryz.func18,Tryz.ntmps18
   go_wp2
   all_goals (go_returns; refine ⟨?_,Below.refl _ _⟩; simp_all)
theorem armScore_any (b s : Int) (hb : b.tdiv 100 * b.tmod 100 = s) (hs : 0 ≤ s ∧ s ≤ 1000) (h1 : -1000 ≤ b ∧ b ≤ 1000) (w : World) : Calls Tryz.prog 19 #[.int .i64 b] w fun e w' => e = .returned (.int .i64 s) ∧ Below w.heap.size w w':=by
 have htd:=tdiv_bd b;have w0 : IntKind.i64.wrap (b.tdiv 100) = b.tdiv 100:=wrap_small _ (by omega) (by omega)
 have w1 : IntKind.i64.wrap (b.tdiv 100 * b.tmod 100) = s:=by rw [hb]; exact wrap_small _ (by omega) (by omega)
 clear hb hs h1 htd
 go_enter Tryz.func19,Tryz.ntmps19
 go_wp2;go_returns;exact ⟨rfl,Below.refl _ _⟩
theorem armLowest_any (g : Int) (w : World) : Calls Tryz.prog 20 #[.int .i64 g] w fun e w' => e = .returned (.int .i64 (low5 g)) ∧ Below w.heap.size w w':=by
 obtain ⟨c,hc⟩ : ∃ c,(g == 0) = c:=⟨_,rfl⟩;have HC : Hid (low5 g = if c = true then 1 else 2):=Lib.hid (by rw [← hc]; simp [low5])
 go_enter Tryz.func20,Tryz.ntmps20
 cases c
 ·go_wp2
  go_returns
  exact ⟨by rw [HC.out]; rfl,Below.refl _ _⟩
 ·go_wp2
  go_returns
  exact ⟨by rw [HC.out]; rfl,Below.refl _ _⟩
theorem armIn_any (n a b : Int) (w : World) : Calls Tryz.prog 11 #[.int .i64 n,.agg #[.int .i64 a,.int .i64 b]] w fun e w' => e = .returned (.bool (decide (a ≤ n) && decide (n ≤ b))) ∧ Below w.heap.size w w':=by
 obtain ⟨w1,hw1⟩ : ∃ z,w.alloc (.cells #[.int .i64 a,.int .i64 b] 65) = z:=⟨_,rfl⟩;have hb1 : Below w.heap.size w w1:=by rw [← hw1]; exact aB _ _
 have k : w1.heap[w.heap.size]? = some (.cells #[.int .i64 a,.int .i64 b] 65 (0,0)):=by rw [← hw1]; exact World.alloc_heap_new _ _
 have c0 : w1.cell? ⟨w.heap.size,0,none⟩ = some (.int .i64 a):=by rw [cell_of_heap k]; rfl
 have c1 : w1.cell? ⟨w.heap.size,1,none⟩ = some (.int .i64 b):=by rw [cell_of_heap k]; rfl
 have HB:=Lib.hid hb1;have HW:=Lib.hid hw1;obtain ⟨p,hp⟩ : ∃ p,decide (a ≤ n) = p:=⟨_,rfl⟩;obtain ⟨q,hq⟩ : ∃ q,decide (n ≤ b) = q:=⟨_,rfl⟩;have HP:=Lib.hid (And.intro hp hq);rw [hp,hq];clear hw1 hb1 k
 go_enter Tryz.func11,Tryz.ntmps11
 go_upto_region 1 with fail
 rw [HW.out];cases p <;> cases q <;> go_wp2 <;> go_returns <;> exact ⟨rfl,HB.out⟩
open Go Go.RowKit Go.Oche Go.Proofs
set_option maxRecDepth 100000

def fourB : Bd:=⟨60,160,[(990,1)],lines4,[20,6,3,11]⟩
theorem fourB_ok : BdOk fourB where
 r0:=by decide
 rf:=by decide
 rad:=by decide
 l0:=by decide
 lp:=boardH_ok.lp
 lt:=boardH_ok.lt
 n0:=rfl
 nr:=by decide
 nd:=by decide
theorem fourB_bed : bedB fourB (500,500) = 106:=by decide +kernel
def sixB : List Int:=[120,125,205,220,225,320]
theorem sixB_i64 : ∀ b ∈ sixB,O2.I64 b:=by
 have h : sixB.all (fun b => decide (-9223372036854775808 ≤ b) && decide (b ≤ 9223372036854775807)) = true:=by decide +kernel
 intro b hb
 have:=List.all_eq_true.1 h b hb;simp at this; exact this
theorem sixB_ways : O2.waysErr sixB 1 2 110 = 0 ∧ O2.waysRes sixB 1 2 110 = [[320,225]]:=by decide +kernel
theorem sl_opened {S : Nat → Prop} {w : World} {v : Value} {xs : List Value} (h : Sl S w v xs) (hl : 0 < xs.length) : ∃ b o cap,v = .slice (some ⟨b,o,none⟩) xs.length cap ∧ xs.length ≤ cap ∧ cap ≤ maxLen ∧ ∀ i x,xs[i]? = some x → w.cell? ⟨b,o + i,none⟩ = some x:=by
 obtain ⟨a,cap,h1,h2,h3,h4⟩ := h;obtain ⟨b,o,rfl,_,_⟩ := h4 0 xs[0] (List.getElem?_eq_getElem hl)
 refine ⟨b,o,cap,h1,h2,h3,fun i x hx => ?_⟩
 obtain ⟨b',o',e,_,c⟩ := h4 i x hx;cases e; exact c
theorem slN_blk2 {k b : Nat} {w : World} {t : TypeId} {fz : Nat × Nat} {cs : Array Value} {rows : List (List Value)} (h : w.heap[b]? = some (.cells cs t fz)) (hcs : cs.toList = rows.flatten) (hr : ∀ r ∈ rows,r.length = k) (hl : rows.length ≤ maxLen) :
  SlN k (fun _ => True) w (.slice (some ⟨b,0,none⟩) rows.length rows.length) rows:=by
 refine ⟨_,_,rfl,Nat.le_refl _,hl,fun i r hi => ⟨hr r (List.mem_of_getElem? hi),b,0,rfl,trivial,fun j x hx => ?_⟩⟩
 have h2:=SlN.of_owns.flat_at (n:=0) (c:=0) (rows:=[]) hr hi hx;rw [← hcs] at h2;rw [cell_of_heap h,Nat.zero_add]
 simpa using h2
set_option maxHeartbeats 4000000 in
theorem armKnownOut_any (w : World) : Calls Tryz.prog 13 #[] w fun e w' => e = .returned (.bool true) ∧ Below w.heap.size w w':=by
 obtain ⟨wa,hwa⟩ : ∃ z,w.alloc (.cells #[.int .i64 990,.int .i64 1] 28) = z:=⟨_,rfl⟩;have ha : Below w.heap.size w wa:=by rw [← hwa]; exact aB _ _
 have za : wa.heap.size = w.heap.size + 1:=by rw [← hwa]; simp
 have ka : wa.heap[w.heap.size]? = some (.cells #[.int .i64 990,.int .i64 1] 28 (0,0)):=by rw [← hwa]; exact World.alloc_heap_new _ _
 obtain ⟨wb,hwb⟩ : ∃ z,wa.alloc (.cells #[.int .i64 (-1),.int .i64 1,.int .i64 1,.int .i64 1,.int .i64 1,.int .i64 (-1),.int .i64 (-1),.int .i64 (-1)] 31) = z:=⟨_,rfl⟩;have hb : Below wa.heap.size wa wb:=by rw [← hwb]; exact aB _ _
 have zb : wb.heap.size = w.heap.size + 1 + 1:=by rw [← hwb,← za]; simp
 have kb : wb.heap[w.heap.size + 1]? = some (.cells #[.int .i64 (-1),.int .i64 1,.int .i64 1,.int .i64 1,.int .i64 1,.int .i64 (-1),.int .i64 (-1),.int .i64 (-1)] 31 (0,0)):=by rw [← hwb,← za]; exact World.alloc_heap_new _ _
 obtain ⟨wc,hwc⟩ : ∃ z,wb.alloc (.cells #[.int .i64 20,.int .i64 6,.int .i64 3,.int .i64 11] 3) = z:=⟨_,rfl⟩;have hc : Below wb.heap.size wb wc:=by rw [← hwc]; exact aB _ _
 have zc : wc.heap.size = w.heap.size + 1 + 1 + 1:=by rw [← hwc,← zb]; simp
 have kc : wc.heap[w.heap.size + 1 + 1]? = some (.cells #[.int .i64 20,.int .i64 6,.int .i64 3,.int .i64 11] 3 (0,0)):=by rw [← hwc,← zb]; exact World.alloc_heap_new _ _
 obtain ⟨w1,hw1⟩ : ∃ z,wc.alloc (.cells #[.int .i64 60,.int .i64 160,.slice (some ⟨w.heap.size,0,none⟩) 1 1,.slice (some ⟨w.heap.size + 1,0,none⟩) 4 4,.slice (some ⟨w.heap.size + 1 + 1,0,none⟩) 4 4,.int .i64 0] 35) = z:=⟨_,rfl⟩;have hd : Below wc.heap.size wc w1:=by rw [← hw1]; exact aB _ _
 have hcd : Below wb.heap.size wb w1:=bThen hc hd;have hbd : Below wa.heap.size wa w1:=bThen hb hcd;have hrs : SlN 2 (fun _ => True) wa (.slice (some ⟨w.heap.size,0,none⟩) 1 1) (fourB.rings.map ptRow):=slN_blk2 (k:=2) (rows:=fourB.rings.map ptRow) ka rfl (by simp [fourB,ptRow]) (by simp [fourB,maxLen])
 have hls : SlN 2 (fun _ => True) wb (.slice (some ⟨w.heap.size + 1,0,none⟩) 4 4) (fourB.lines.map ptRow):=slN_blk2 (k:=2) (rows:=fourB.lines.map ptRow) kb rfl (by simp [fourB,lines4,ptRow]) (by simp [fourB,lines4,maxLen])
 have hns : Sl (fun _ => True) wc (.slice (some ⟨w.heap.size + 1 + 1,0,none⟩) 4 4) (ints fourB.ns):=sl_blk (xs:=ints fourB.ns) kc (by decide)
 have hat : BdAt (fun _ => True) w1 fourB (.slice (some ⟨w.heap.size,0,none⟩) 1 1) (.slice (some ⟨w.heap.size + 1,0,none⟩) 4 4) (.slice (some ⟨w.heap.size + 1 + 1,0,none⟩) 4 4):=⟨hrs.below hbd,hls.below hcd,hns.below hd⟩
 have hcall:=bed_any fourB fourB_ok _ _ _ (500,500) (by unfold PtOk; decide) w1 hat
 rw [fourB_bed] at hcall;have HB1:=Lib.hid (bThen ha hbd);have HW : Hid ((((w.alloc (.cells #[.int .i64 990,.int .i64 1] 28)).alloc (.cells #[.int .i64 (-1),.int .i64 1,.int .i64 1,.int .i64 1,.int .i64 1,.int .i64 (-1),.int .i64 (-1),.int .i64 (-1)] 31)).alloc (.cells #[.int .i64 20,.int .i64 6,.int .i64 3,.int .i64 11] 3)).alloc (.cells #[.int .i64 60,.int .i64 160,.slice (some ⟨w.heap.size,0,none⟩) 1 1,.slice (some ⟨w.heap.size + 1,0,none⟩) 4 4,.slice (some ⟨w.heap.size + 1 + 1,0,none⟩) 4 4,.int .i64 0] 35) = w1):=Lib.hid (by rw [hwa,hwb,hwc,hw1])
 clear hw1 hwa hwb hwc ha hb hc hd hcd hbd ka kb kc za zb zc hrs hls hns hat
 go_enter Tryz.func13,Tryz.ntmps13
 go_wp2_with fail;refine Eq.subst (motive:=fun z => Calls _ _ _ z _) HW.out.symm ?_
 refine hcall.mono ?_
 rintro e w2 ⟨rfl,hb2⟩;have HB2:=Lib.hid (bThen HB1.out hb2);clear hb2 hcall HW HB1;obtain ⟨w3,hw3⟩ : ∃ z,w2.alloc (.cells (ints sixB).toArray 47) = z:=⟨_,rfl⟩;have hb3 : Below w2.heap.size w2 w3:=by rw [← hw3]; exact aB _ _
 have k3 : w3.heap[w2.heap.size]? = some (.cells (ints sixB).toArray 47 (0,0)):=by rw [← hw3]; exact World.alloc_heap_new _ _
 have hs3 : Sl (fun _ => True) w3 (.slice (some ⟨w2.heap.size,0,none⟩) 6 6) (ints sixB):=sl_blk k3 (by decide)
 have hcall:=O2.waysF_any sixB 1 2 110 _ w3 hs3 sixB_i64;rw [sixB_ways.1,sixB_ways.2] at hcall;have HB3:=Lib.hid (bThen HB2.out hb3);have HW:=Lib.hid hw3;clear hw3 hb3 k3 hs3 HB2;go_wp2_with fail;refine Eq.subst (motive:=fun z => Calls _ _ _ z _) HW.out.symm ?_
 refine hcall.mono ?_
 rintro e w4 ⟨lv,rfl,hb4,hl⟩;obtain ⟨vs,hl1,hl2,hl3⟩ := hl;obtain ⟨u,hu,hul⟩ := hl3 0 (by simp)
 have hul : Sl (fun k => w3.heap.size ≤ k) w4 u (ints ([320,225] : List Int)):=hul
 obtain ⟨bu,ou,cu,rfl,hcu1,hcu2,hcu⟩ := sl_opened hul (by simp)
 obtain ⟨bl,ol,cl,rfl,hcl1,hcl2,hcl⟩ := sl_opened hl1 (by rw [hl2]; simp)
 have g0:=hcl 0 _ hu;have u0:=hcu 0 (.int .i64 320) rfl;have u1:=hcu 1 (.int .i64 225) rfl;have hL : vs.length = 1:=by rw [hl2]; rfl
 have hU : (ints ([320,225] : List Int)).length = 2:=rfl;rw [hL] at hcl1;rw [hU] at hcu1 g0;rw [hL];rw [Nat.add_zero] at g0 u0;have HB4:=Lib.hid (bThen HB3.out hb4);clear hcl hcu hL hU hu hul hl1 hl2 hl3 hb4 hcall HW HB3;go_wp2;go_returns;exact ⟨rfl,HB4.out⟩
open Go Go.RowKit Go.Oche Go.Proofs

def u8sH (D : List Int) : List Value:=D.map (Value.int .u8)
theorem tmodH (a b : Nat) : ((a : Int)).tmod (b : Int) = ((a % b : Nat) : Int):=by rw [Int.tmod_eq_emod_of_nonneg (by omega)]; simp
set_option maxRecDepth 100000 in
theorem armByte_any {S : Nat → Prop} (D : List Int) (hB : Bytes D) (dv : Value) (i : Nat) (w : World) (hs : Sl S w dv (u8sH D)) :
  Calls Tryz.prog 9 #[dv,.int .i64 (i : Int)] w fun e w' => e = .returned (.int .i64 (byteL D i)) ∧ Below w.heap.size w w':=by
 obtain ⟨a,cap,rfl,h2,h3⟩ := hs.form;have h4 : ∀ i x,(u8sH D)[i]? = some x → ∃ b off,a = some ⟨b,off,none⟩ ∧ S b ∧ w.cell? ⟨b,off + i,none⟩ = some x:=by
  obtain ⟨_,_,e1,_,_,h4⟩ := hs;cases e1;exact h4
 have hlen : (u8sH D).length = D.length:=List.length_map ..;clear hs;rw [hlen] at h2 ⊢;have hbd:=byteL_bd hB i;by_cases e : D = []
 ·subst e
  clear hbd
  go_enter Tryz.func9,Tryz.ntmps9
  go_wp2;go_returns;exact ⟨rfl,Below.refl _ _⟩
 ·obtain ⟨n,hn⟩ : ∃ n,D.length = n:=⟨_,rfl⟩
  obtain ⟨hlt,hat⟩ := byteL_at e i;have hn0 : ¬ n = 0:=by rw [← hn]; exact fun h => e (List.length_eq_zero_iff.1 h)
  obtain ⟨v,hv⟩ : ∃ v,byteL D i = v:=⟨_,rfl⟩;rw [hn] at hlt hat ⊢;rw [hv] at hat hbd ⊢;obtain ⟨b,off,rfl, -,hc⟩ := h4 (i % n) (.int .u8 v) (by unfold u8sH; rw [List.getElem?_map,hat]; rfl)
  clear h4;rw [hn] at h2;have hm : ((i : Int)).tmod (n : Int) = ((i % n : Nat) : Int):=tmodH i n;obtain ⟨j,hj⟩ : ∃ j,i % n = j:=⟨_,rfl⟩;rw [hj] at hm hlt hc;have d0 : ((n : Int) == 0) = false:=beq_eq_false_iff_ne.2 (by omega)
  have d1 : ¬ (n : Int) = 0:=by omega
  have w0 : IntKind.i64.wrap v = v:=wrap_small _ (by omega) (by omega)
  clear hv hat e hn h2 hj hbd
  go_enter Tryz.func9,Tryz.ntmps9
  go_wp2;go_returns;exact ⟨rfl,Below.refl _ _⟩
def u8Row (p : Int × Int) : List Value:=[.int .u8 p.1,.int .u8 p.2]
theorem pointAt_bd {x : Ovh} (hx : x.Ok) (q : Nat) : (0 ≤ (pointAt x q).1 ∧ (pointAt x q).1 < 256) ∧ 0 ≤ (pointAt x q).2 ∧ (pointAt x q).2 < 256:=by
 unfold pointAt;split
 ·exact ⟨by decide,by decide⟩
 ·rename_i h
  have hlt : q % x.points.length < x.points.length:=Nat.mod_lt _ (by cases e : x.points with
   | nil => exact absurd e h
   | cons a b => simp)
  rw [List.getD_eq_getElem?_getD,List.getElem?_eq_getElem hlt]
  exact hx.pts _ (List.getElem_mem hlt)
structure JOn (w0 : World) (R : Nat) (t : TypeId) (c : Array Value) (st : Nat) (L : Nat → Bool) (W : World) : Prop where
 g : w0.grownBy W (some R)
 at_ : ∃ old,old.size = c.size ∧ W.heap[R]? = some (.cells old t (0,0)) ∧ (L st = true → old = c)
section
variable {w0 W W' : World} {R : Nat} {t : TypeId} {c : Array Value} {st : Nat} {L : Nat → Bool}
theorem JOn.start {old : Array Value} (h : w0.heap[R]? = some (.cells old t (0,0))) (hs : old.size = c.size) : JOn w0 R t c st (fun _ => false) w0:=⟨grownBy_refl _ _,old,hs,h,fun h => (by cases h)⟩
theorem JOn.read (h : JOn w0 R t c st L W) {i : Nat} (hi : st ≠ i) : JOn w0 R t c st (setB L i) W:=by
 obtain ⟨old,h1,h2,h3⟩ := h.at_;exact ⟨h.g,old,h1,h2,by rw [setB_ne hi]; exact h3⟩
theorem JOn.call (h : JOn w0 R t c st L W) {i : Nat} (hi : st ≠ i) (hb : Below W.heap.size W W') : JOn w0 R t c st (setB L i) W':=by
 obtain ⟨old,h1,h2,h3⟩ := h.at_;exact ⟨⟨hb.os.trans h.g.os,hb.tape.trans h.g.tape,hb.output.trans h.g.output,Nat.le_trans h.g.size hb.size,fun k hk hne => (hb.block k (Nat.lt_of_lt_of_le hk h.g.size)).trans (h.g.block k hk hne)⟩,old,h1,(hb.block R (Array.getElem?_eq_some_iff.1 h2).1).trans h2,by rw [setB_ne hi]; exact h3⟩
theorem JOn.store (h : JOn w0 R t c st L W) : JOn w0 R t c st (setB L st) (W.setRow R c):=by
 obtain ⟨old,h1,h2,h3⟩ := h.at_;have hk:=setRow_heap W R old c t (0,0) h2;refine ⟨⟨h.g.os,h.g.tape,h.g.output, ?_,fun k hk' hne => ?_⟩,c,rfl,hk,fun _ => rfl⟩
 ·have:=h.g.size; rw [setRow_size]; exact this
 ·rw [setRow_other _ _ _ _ (fun e => hne (by rw [e]))]; exact h.g.block k hk' hne
theorem JOn.cell (h : JOn w0 R t c st L W) {b o : Nat} {v : Value} (hv : w0.cell? ⟨b,o,none⟩ = some v) (hb : b ≠ R) : W.cell? ⟨b,o,none⟩ = some v :=
 (World.cell?_of_block (w:=w0) (h.g.block b (World.block_lt_of_cell? w0 ⟨b,o,none⟩ hv) (fun e => hb (Option.some.inj e)))).trans hv
end
structure DartAt (x : Ovh) (S : Nat → Prop) (w : World) (pp pb po : Nat) (pv rv lv nv : Value) : Prop where
 pts : w.cell? ⟨pp,0,none⟩ = some pv
 rows : SlN 2 S w pv (x.points.map u8Row)
 bd : w.heap[pb]? = some (.cells (bdA boardH rv lv nv) 35 (0,0))
 at_ : BdAt S w boardH rv lv nv
 ok : w.heap[po]? = some (.cells #[.bool true] 4 (0,0))
theorem DartAt.below {x : Ovh} {S : Nat → Prop} {w w' : World} {pp pb po : Nat} {pv rv lv nv : Value} (h : DartAt x S w pp pb po pv rv lv nv) (hb : Below w.heap.size w w') : DartAt x S w' pp pb po pv rv lv nv :=
 ⟨bAt hb h.pts,h.rows.below hb,(hb.block pb (Array.getElem?_eq_some_iff.1 h.bd).1).trans h.bd,h.at_.below hb,(hb.block po (Array.getElem?_eq_some_iff.1 h.ok).1).trans h.ok⟩
set_option maxRecDepth 100000 in
set_option maxHeartbeats 4000000 in
theorem dartH_any {S : Nat → Prop} (x : Ovh) (hx : x.Ok) (pp pb po : Nat) (pv rv lv nv : Value) (q : Nat) (w : World) (h : DartAt x S w pp pb po pv rv lv nv) :
  Calls Tryz.prog 7 #[.int .i64 (q : Int),.pointer (some ⟨pp,0,none⟩),.pointer (some ⟨pb,0,none⟩),.pointer (some ⟨po,0,none⟩)] w fun e w' => e = .returned (.int .i64 (bedAt x q)) ∧ Below w.heap.size w w':=by
 obtain ⟨a,cap,rfl,h2,h3⟩ := h.rows.form;simp only [List.length_map] at *;unfold maxLen at h3;obtain ⟨n,hn⟩ : ∃ n,x.points.length = n:=⟨_,rfl⟩;rw [hn] at h2 h;have hbd:=pointAt_bd hx q;obtain ⟨⟨u,v⟩,hp⟩ : ∃ p,pointAt x q = p:=⟨_,rfl⟩;rw [hp] at hbd;simp only at hbd;have hbed : bedAt x q = bedB boardH (2 * u - 255,2 * v - 255):=by unfold bedAt; rw [hp]; rfl
 have HBED:=Lib.hid hbed;have HPT : Hid (PtOk (2 * u - 255,2 * v - 255)):=Lib.hid ⟨by simp only; omega,by simp only; omega⟩
 have wu : IntKind.i64.wrap u = u:=wrap_small _ (by omega) (by omega)
 have wv : IntKind.i64.wrap v = v:=wrap_small _ (by omega) (by omega)
 have wu2 : IntKind.i64.wrap (2 * u) = 2 * u:=wrap_small _ (by omega) (by omega)
 have wv2 : IntKind.i64.wrap (2 * v) = 2 * v:=wrap_small _ (by omega) (by omega)
 have wu3 : IntKind.i64.wrap (2 * u - 255) = 2 * u - 255:=wrap_small _ (by omega) (by omega)
 have wv3 : IntKind.i64.wrap (2 * v - 255) = 2 * v - 255:=wrap_small _ (by omega) (by omega)
 have HH:=Lib.hid h;have p0:=h.pts;obtain ⟨N,hN⟩ : ∃ N,w.heap.size = N:=⟨_,rfl⟩;have hwN : (if x.points = [] then (0,0) else x.points.getD (q % x.points.length) (0,0)) = (u,v):=hp
 have HN:=Lib.hid hN;have HP:=Lib.hid hwN;have HLN:=Lib.hid hn;clear hbed h hx hN hp hn hbd hwN;obtain ⟨w1,hw1⟩ : ∃ z,w.alloc (.cells #[.int .u8 0,.int .u8 0] 48) = z:=⟨_,rfl⟩;have hb1 : Below w.heap.size w w1:=by rw [← hw1]; exact aB _ _
 have k1 : w1.heap[N]? = some (.cells #[.int .u8 0,.int .u8 0] 48 (0,0)):=by rw [← hw1,← HN.out]; exact World.alloc_heap_new _ _
 have HW1:=Lib.hid hw1;have HH1:=Lib.hid (HH.out.below hb1);have p1:=bAt hb1 p0;have HB1 : Hid (Below N w w1):=Lib.hid (by rw [← HN.out]; exact hb1)
 have HK1:=Lib.hid k1;clear hw1 hb1 k1 p0
 go_enter Tryz.func7,Tryz.ntmps7
 go_upto_region 2 with fail
 rw [HW1.out,HN.out];by_cases h0 : n = 0
 ·subst h0
  have hnil : x.points = []:=List.length_eq_zero_iff.1 HLN.out;have h2:=HP.out;rw [if_pos hnil] at h2;have hu : (0 : Int) = u:=congrArg Prod.fst h2;have hv : (0 : Int) = v:=congrArg Prod.snd h2;have HK2 : Hid (w1.heap[N]? = some (.cells #[.int .u8 u,.int .u8 v] 48 (0,0))):=Lib.hid (by rw [← hu,← hv]; exact HK1.out)
  obtain ⟨w2,hw2⟩ : ∃ z,w1 = z:=⟨_,rfl⟩;have HB2 : Hid (Below N w w2):=Lib.hid (by rw [← hw2]; exact HB1.out)
  rw [hw2] at HK2;have HW2:=Lib.hid hw2;clear hnil h2 hu hv hw2;go_upto_region 4 with fail;rw [HW2.out];clear p1;have HH2:=Lib.hid (HH.out.below (by rw [HN.out]; exact HB2.out))
  clear HH1 HK1 HB1;have k0 : w2.cell? ⟨N,0,none⟩ = some (.int .u8 u):=by rw [cell_of_heap HK2.out]; rfl
  have k1 : w2.cell? ⟨N,1,none⟩ = some (.int .u8 v):=by rw [cell_of_heap HK2.out]; rfl
  obtain ⟨b0,b1,b2,b3,b4,b5⟩ := bd_cells HH2.out.bd;go_wp2_with fail;have hcall:=bed_any boardH boardH_ok rv lv nv (2 * u - 255,2 * v - 255) HPT.out w2 HH2.out.at_;unfold bdV bdA ptV ptA at hcall;rw [← HBED.out] at hcall;refine hcall.mono ?_
  rintro e w3 ⟨rfl,hb3⟩;clear hcall b0 b1 b2 b3 b4 b5 k0 k1;have HB3 : Hid (Below N w w3):=Lib.hid (HB2.out.trans (hb3.mono (by have:=HB2.out.size; rw [HN.out] at this; exact this)))
  have ko:=(HH.out.below (w':=w3) (by rw [HN.out]; exact HB3.out)).ok
  have o0 : w3.cell? ⟨po,0,none⟩ = some (.bool true):=by rw [cell_of_heap ko]; rfl
  have f0 : w3.frozen? ⟨po,0,none⟩ = false:=frozen_of_heap ko;have hst : w3.setCell ⟨po,0,none⟩ (.bool true) = w3:=setCell_same ko rfl;have HST:=Lib.hid hst;clear hb3 ko hst;go_upto_region 6 with fail;rw [HST.out];go_wp2_with fail;go_returns;exact ⟨rfl,by rw [HN.out]; exact HB3.out⟩
 ·have hne : ¬ x.points = []:=fun e => h0 (by rw [← HLN.out,e]; rfl)
  have h2:=HP.out;rw [if_neg hne,HLN.out] at h2;obtain ⟨j,hj⟩ : ∃ j,q % n = j:=⟨_,rfl⟩;have hjn : j < n:=by rw [← hj]; exact Nat.mod_lt _ (by omega)
  rw [hj] at h2;have hjl : j < x.points.length:=by rw [HLN.out]; exact hjn
  rw [List.getD_eq_getElem?_getD,List.getElem?_eq_getElem hjl] at h2
  simp only [Option.getD_some] at h2;obtain ⟨bk,off,hal, -, -,hc⟩ := HH1.out.rows.cell (show j < (x.points.map u8Row).length by rw [List.length_map]; exact hjl)
  cases hal;have z0:=hc 0 (.int .u8 u) (by simp [u8Row,h2])
  have z1:=hc 1 (.int .u8 v) (by simp [u8Row,h2])
  simp only [Nat.add_zero] at z0;have hm : ((q : Int)).tmod (n : Int) = ((j : Nat) : Int):=by rw [← hj]; exact tmodH q n
  have t1 : decide (0 < n) = true:=decide_eq_true (by omega)
  have t1i : decide ((0 : Int) < (n : Int)) = true:=decide_eq_true (by omega)
  have d1 : ¬ (n : Int) = 0:=by omega
  have hjj : (j : Int) < (n : Int):=by omega
  have hnb : ∀ {b o v},w1.cell? ⟨b,o,none⟩ = some v → (w.cell? ⟨b,o,none⟩ = some v) → b ≠ N:=fun {b o v} _ h e => by
   have:=World.block_lt_of_cell? w ⟨b,o,none⟩ h;rw [HN.out] at this;simp only at this;omega
  have hpp : pp ≠ N:=hnb p1 HH.out.pts;have hbk : bk ≠ N:=by
   obtain ⟨bk',off',hal, -, -,hc'⟩ := HH.out.rows.cell (show j < (x.points.map u8Row).length by rw [List.length_map]; exact hjl)
   cases hal;exact hnb z1 (hc' 1 (.int .u8 v) (by simp [u8Row,h2]))
  have d2 : ¬ n = 0:=h0;clear hne h2 hj hjl hc h0 hnb;go_upto_region 3 with fail;refine wp_region_seqC 8 [.slice (some ⟨bk,off,none⟩) n cap,.int .i64 (q : Int),.slice (some ⟨bk,off,none⟩) n cap,.int .i64 (n : Int),.int .i64 (j : Int),.pointer (some ⟨bk,off + j * 2,none⟩),.agg #[.int .u8 u,.int .u8 v],undef] (JOn w1.drew N 48 #[.int .u8 u,.int .u8 v] 7) rfl mix (by kernel_rfl) (by kernel_rfl) (JOn.start HK1.out rfl) ?_
  simp only [List.take_succ_cons,List.take_zero]
  iterate 7
   refine sc_rd rfl (fun _ _ _ h => h.read (by decide)) (fun w5 L hL hJ => ?_) ?_
   ·have p1':=hJ.cell p1 hpp
    have z0':=hJ.cell z0 hbk;have z1':=hJ.cell z1 hbk;simp [opOK,go_sem,p1',z0',z1',hm,hjj,d2]
    try exact rfl
   simp only [Act.put,List.setIfInBounds_toArray,List.set_cons_succ,List.set_cons_zero]
  refine sc_is rfl (fun w5 L hL hJ hd => ?_) ?_
  ·obtain ⟨old,h1,h2, -⟩ := hJ.at_
   exact opOK_store_row _ _ _ rfl N #[.int .u8 u,.int .u8 v] (by simp [Act.eval]) (by simp [Act.eval]) 48 old h2 (by kernel_rfl) h1 (by simp [Value.oneCell']) ⟨rfl,hJ.store⟩
  simp only [Act.put];refine sc_end fun w2 hJ => ?_
  simp only [List.drop_succ_cons,List.drop_zero];obtain ⟨old, -,h2,h3⟩ := hJ.at_;have h4:=h3 rfl;subst h4;have hg2 : w1.grownBy w2 (some N):=⟨hJ.g.os,hJ.g.tape,hJ.g.output,hJ.g.size,hJ.g.block⟩;have HK2:=Lib.hid h2;have HB2 : Hid (Below N w w2):=Lib.hid (HB1.out.trans (below_grownBy hg2 (by have:=HB1.out.size; rw [HN.out] at this; exact this) (fun k hk => by have:=Option.some.inj hk; omega)))
  clear hJ h2 h3 hg2 z0 z1 p1 hpp hbk t1 t1i;have HH2:=Lib.hid (HH.out.below (by rw [HN.out]; exact HB2.out))
  clear HH1 HK1 HB1;have k0 : w2.cell? ⟨N,0,none⟩ = some (.int .u8 u):=by rw [cell_of_heap HK2.out]; rfl
  have k1 : w2.cell? ⟨N,1,none⟩ = some (.int .u8 v):=by rw [cell_of_heap HK2.out]; rfl
  obtain ⟨b0,b1,b2,b3,b4,b5⟩ := bd_cells HH2.out.bd;go_wp2_with fail;have hcall:=bed_any boardH boardH_ok rv lv nv (2 * u - 255,2 * v - 255) HPT.out w2 HH2.out.at_;unfold bdV bdA ptV ptA at hcall;rw [← HBED.out] at hcall;refine hcall.mono ?_
  rintro e w3 ⟨rfl,hb3⟩;clear hcall b0 b1 b2 b3 b4 b5 k0 k1;have HB3 : Hid (Below N w w3):=Lib.hid (HB2.out.trans (hb3.mono (by have:=HB2.out.size; rw [HN.out] at this; exact this)))
  have ko:=(HH.out.below (w':=w3) (by rw [HN.out]; exact HB3.out)).ok
  have o0 : w3.cell? ⟨po,0,none⟩ = some (.bool true):=by rw [cell_of_heap ko]; rfl
  have f0 : w3.frozen? ⟨po,0,none⟩ = false:=frozen_of_heap ko;have hst : w3.setCell ⟨po,0,none⟩ (.bool true) = w3:=setCell_same ko rfl;have HST:=Lib.hid hst;clear hb3 ko hst;go_upto_region 6 with fail;rw [HST.out];go_wp2_with fail;go_returns;exact ⟨rfl,by rw [HN.out]; exact HB3.out⟩
open Go Go.RowKit Go.Oche Go.Proofs

theorem info_intH : (Tryz.prog.info? 3).map (fun i => (i.zero,i.size,i.bytes)) = some (some (.int .i64 0),1,8):=by kernel_rfl
theorem info_boolH : (Tryz.prog.info? 4).map (fun i => (i.zero,i.size,i.bytes)) = some (some (.bool false),1,1):=by kernel_rfl
theorem info_visH : (Tryz.prog.info? 56).map (fun i => (i.zero,i.size,i.bytes)) = some (some (.agg #[.slice none 0 0,.int .i64 0,.int .i64 0,.int .i64 0]),4,48):=by kernel_rfl
theorem own_cellH {W : World} {base n g c : Nat} {e : TypeId} {xs : List Value} (h : W.ownsRow base e 1 (.slice (some ⟨g,0,none⟩) n c) n xs) {j : Nat} {x : Value} (hx : xs[j]? = some x) : W.cell? ⟨g,j,none⟩ = some x ∧ W.frozen? ⟨g,j,none⟩ = false:=by
 rcases h.2 with ⟨e1,_⟩ | ⟨g',cap,cur,e1,h1,h2,h3,h4,h5,h6⟩
 ·cases e1
 ·cases e1
  refine ⟨?_,frozen_of_heap h2⟩
  rw [cell_of_heap h2];rw [← h6,List.getElem?_take] at hx
  split at hx
  ·simpa using hx
  ·cases hx
theorem own_posH {W : World} {base n k : Nat} {e : TypeId} {v : Value} {xs : List Value} (h : W.ownsRow base e k v n xs) (hn : 0 < n) : ∃ g c,v = .slice (some ⟨g,0,none⟩) n c:=by
 rcases h.2 with ⟨_,h0⟩ | ⟨g,cap,_,rfl,_⟩
 ·omega
 ·exact ⟨g,cap,rfl⟩
theorem grown_setH (W : World) (b o : Nat) (v : Value) : W.grownBy (W.setCell ⟨b,o,none⟩ v) (some b) :=
 ⟨rfl,rfl,rfl,by simp,fun k _ hne => Below.heap_setCell _ _ _ _ (by intro e; exact hne (by simpa using e))⟩
def boolsH (l : List Bool) : List Value:=l.map Value.bool
def VisR (R : List (List Value)) (out : List Sp) : Prop:=R.length = out.length ∧ ∀ (i : Nat) (sp : Sp),out[i]? = some sp → ∃ a c p,R[i]? = some [.slice a sp.darts c,.int .i64 sp.score,.int .i64 sp.en.left,.int .i64 p]
theorem VisR.nil : VisR [] []:=⟨rfl,fun i sp h => by cases h⟩
theorem VisR.snoc {R : List (List Value)} {out : List Sp} (h : VisR R out) {sp : Sp} {a : Option Addr} {c : Nat} {p : Int} : VisR (R ++ [[.slice a sp.darts c,.int .i64 sp.score,.int .i64 sp.en.left,.int .i64 p]]) (out ++ [sp]):=by
 refine ⟨by simp [h.1],fun i sp' hi => ?_⟩
 by_cases e : i < out.length
 ·rw [List.getElem?_append_left e] at hi
  obtain ⟨a',c',p',h2⟩ := h.2 i sp' hi;exact ⟨a',c',p',by rw [List.getElem?_append_left (by rw [h.1]; exact e)]; exact h2⟩
 ·rw [List.getElem?_append_right (by omega)] at hi
  have e2 : i - out.length = 0:=by
   cases hk : i - out.length with
   | zero => rfl
   | succ k => rw [hk] at hi; simp at hi
  rw [e2] at hi;simp at hi;subst hi;exact ⟨a,c,p,by rw [List.getElem?_append_right (by rw [h.1]; omega),h.1,e2]; rfl⟩
structure ArmSt (M : Nat) (W : World) (lV iV oV : Value) (ls : List Int) (is : List Bool) (R : List (List Value)) : Prop where
 left : W.ownsRow M 3 1 lV ls.length (ints ls)
 inn : W.ownsRow M 4 1 iV is.length (boolsH is)
 out : W.ownsRow M 56 4 oV R.length R.flatten
section
variable {M : Nat} {W W' : World} {lV iV oV : Value} {ls : List Int} {is : List Bool} {R : List (List Value)}
theorem ArmSt.below (h : ArmSt M W lV iV oV ls is R) (hb : Below W.heap.size W W') : ArmSt M W' lV iV oV ls is R:=⟨ownsN_below h.left hb,ownsN_below h.inn hb,ownsN_below h.out hb⟩
theorem ArmSt.keptL (h : ArmSt M W lV iV oV ls is R) (hg : W.grownBy W' lV.ownBlock) {v : Value} {x : List Int} (ho : W'.ownsRow M 3 1 v x.length (ints x)) : ArmSt M W' v iV oV x is R :=
 ⟨ho,h.inn.kept hg (ownsN_ne h.inn h.left (by decide)),h.out.kept hg (ownsN_ne h.out h.left (by decide))⟩
theorem ArmSt.keptI (h : ArmSt M W lV iV oV ls is R) (hg : W.grownBy W' iV.ownBlock) {v : Value} {x : List Bool} (ho : W'.ownsRow M 4 1 v x.length (boolsH x)) : ArmSt M W' lV v oV ls x R :=
 ⟨h.left.kept hg (ownsN_ne h.left h.inn (by decide)),ho,h.out.kept hg (ownsN_ne h.out h.inn (by decide))⟩
theorem ArmSt.keptO (h : ArmSt M W lV iV oV ls is R) (hg : W.grownBy W' oV.ownBlock) {v : Value} {x : List (List Value)} (ho : W'.ownsRow M 56 4 v x.length x.flatten) : ArmSt M W' lV iV v ls is x :=
 ⟨h.left.kept hg (ownsN_ne h.left h.out (by decide)),h.inn.kept hg (ownsN_ne h.inn h.out (by decide)),ho⟩
theorem ArmSt.setL {b c n : Nat} (h : ArmSt M W (.slice (some ⟨b,0,none⟩) n c) iV oV ls is R) (hn : ls.length = n) (j : Nat) (x : Int) : ArmSt M (W.setCell ⟨b,j,none⟩ (.int .i64 x)) (.slice (some ⟨b,0,none⟩) n c) iV oV (ls.set j x) is R ∧ W.grownBy (W.setCell ⟨b,j,none⟩ (.int .i64 x)) (some b):=by
 subst hn;have hs:=h.left.stored j (.int .i64 x);refine ⟨h.keptL hs.2 ?_,hs.2⟩
 rw [List.length_set,show ints (ls.set j x) = (ints ls).set j (.int .i64 x) from List.map_set ..]
 exact hs.1
theorem ArmSt.setI {b c n : Nat} (h : ArmSt M W lV (.slice (some ⟨b,0,none⟩) n c) oV ls is R) (hn : is.length = n) (j : Nat) (x : Bool) : ArmSt M (W.setCell ⟨b,j,none⟩ (.bool x)) lV (.slice (some ⟨b,0,none⟩) n c) oV ls (is.set j x) R ∧ W.grownBy (W.setCell ⟨b,j,none⟩ (.bool x)) (some b):=by
 subst hn;have hs:=h.inn.stored j (.bool x);refine ⟨h.keptI hs.2 ?_,hs.2⟩
 rw [List.length_set,show boolsH (is.set j x) = (boolsH is).set j (.bool x) from List.map_set ..]
 exact hs.1
theorem ArmSt.blk (h : ArmSt M W lV iV oV ls is R) {r : Option Nat} (hg : W.grownBy W' r) (h1 : lV.ownBlock = none ∨ lV.ownBlock ≠ r) (h2 : iV.ownBlock = none ∨ iV.ownBlock ≠ r) (h3 : oV.ownBlock = none ∨ oV.ownBlock ≠ r) : ArmSt M W' lV iV oV ls is R :=
 ⟨h.left.kept hg h1,h.inn.kept hg h2,h.out.kept hg h3⟩
end
end Go.Proofs.YtnbmgkmcaoafnaaGreatDoor
