/- The texts XR, in build order. -/
import Derived.Test.YtnbmgkmcaoafnaaGreatDoorZbb
import Derived.Deep.DeepCutAuto
import Derived.Deep.CutRange
import Derived.Deep.CutBlock

/- TopBoardHeard: the walk of the law, begun. -/
namespace Go.Proofs.YtnbmgkmcaoafnaaGreatDoor
open Go Go.RowKit Go.Oche Go.Proofs

theorem rpRowH_one (r : Rp) : ∀ u ∈ rpRow r,u.oneCell' = true:=fun u hu => by simp [rpRow] at hu; rcases hu with rfl | rfl | rfl <;> rfl
theorem setCell_row {W : World} {b : Nat} {old v : Value} {t : TypeId} {fz : Nat × Nat} (h : W.heap[b]? = some (.cells #[old] t fz)) : W.setCell ⟨b,0,none⟩ v = W.setRow b #[v]:=by
 have hh : (W.setCell ⟨b,0,none⟩ v).heap = (W.setRow b #[v]).heap:=by
  refine Array.ext_getElem? fun i => ?_
  by_cases e : i = b
  ·subst e
   rw [heap_setCell_at h,setRow_heap _ _ _ _ _ _ h]
   rfl
  ·rw [setRow_other _ _ _ _ e]
   exact Below.heap_setCell _ _ _ _ e
 have h1 : W.setCell ⟨b,0,none⟩ v = { W with heap:=(W.setCell ⟨b,0,none⟩ v).heap }:=rfl
 have h2 : W.setRow b #[v] = { W with heap:=(W.setRow b #[v]).heap }:=rfl
 rw [h1,h2,hh]
theorem board_built (w : World) : ∃ w',(((w.alloc (.cells #[.int .i64 150,.int .i64 1,.int .i64 180,.int .i64 2] 28)).alloc (.cells #[.int .i64 (-1),.int .i64 1,.int .i64 1,.int .i64 1,.int .i64 1,.int .i64 (-1),.int .i64 (-1),.int .i64 (-1)] 31)).alloc (.cells #[.int .i64 5,.int .i64 1,.int .i64 3,.int .i64 2] 3)).alloc (.cells #[.int .i64 30,.int .i64 70,.slice (some ⟨w.heap.size,0,none⟩) 2 2,.slice (some ⟨w.heap.size + 1,0,none⟩) 4 4,.slice (some ⟨w.heap.size + 1 + 1,0,none⟩) 4 4,.int .i64 0] 35) = w' ∧
  Below w.heap.size w w' ∧ w'.heap.size = w.heap.size + 1 + 1 + 1 + 1 ∧ w'.heap[w.heap.size + 1 + 1 + 1]? = some (.cells (bdA boardH (.slice (some ⟨w.heap.size,0,none⟩) 2 2) (.slice (some ⟨w.heap.size + 1,0,none⟩) 4 4) (.slice (some ⟨w.heap.size + 1 + 1,0,none⟩) 4 4)) 35 (0,0)) ∧
  BdAt (fun _ => True) w' boardH (.slice (some ⟨w.heap.size,0,none⟩) 2 2) (.slice (some ⟨w.heap.size + 1,0,none⟩) 4 4) (.slice (some ⟨w.heap.size + 1 + 1,0,none⟩) 4 4):=by
 obtain ⟨wa,hwa⟩ : ∃ z,w.alloc (.cells #[.int .i64 150,.int .i64 1,.int .i64 180,.int .i64 2] 28) = z:=⟨_,rfl⟩;have ha : Below w.heap.size w wa:=by rw [← hwa]; exact aB _ _
 have za : wa.heap.size = w.heap.size + 1:=by rw [← hwa]; simp
 have ka : wa.heap[w.heap.size]? = some (.cells #[.int .i64 150,.int .i64 1,.int .i64 180,.int .i64 2] 28 (0,0)):=by rw [← hwa]; exact World.alloc_heap_new _ _
 obtain ⟨wb,hwb⟩ : ∃ z,wa.alloc (.cells #[.int .i64 (-1),.int .i64 1,.int .i64 1,.int .i64 1,.int .i64 1,.int .i64 (-1),.int .i64 (-1),.int .i64 (-1)] 31) = z:=⟨_,rfl⟩;have hb : Below wa.heap.size wa wb:=by rw [← hwb]; exact aB _ _
 have zb : wb.heap.size = w.heap.size + 1 + 1:=by rw [← hwb,← za]; simp
 have kb : wb.heap[w.heap.size + 1]? = some (.cells #[.int .i64 (-1),.int .i64 1,.int .i64 1,.int .i64 1,.int .i64 1,.int .i64 (-1),.int .i64 (-1),.int .i64 (-1)] 31 (0,0)):=by rw [← hwb,← za]; exact World.alloc_heap_new _ _
 obtain ⟨wc,hwc⟩ : ∃ z,wb.alloc (.cells #[.int .i64 5,.int .i64 1,.int .i64 3,.int .i64 2] 3) = z:=⟨_,rfl⟩;have hc : Below wb.heap.size wb wc:=by rw [← hwc]; exact aB _ _
 have zc : wc.heap.size = w.heap.size + 1 + 1 + 1:=by rw [← hwc,← zb]; simp
 have kc : wc.heap[w.heap.size + 1 + 1]? = some (.cells #[.int .i64 5,.int .i64 1,.int .i64 3,.int .i64 2] 3 (0,0)):=by rw [← hwc,← zb]; exact World.alloc_heap_new _ _
 obtain ⟨w1,hw1⟩ : ∃ z,wc.alloc (.cells #[.int .i64 30,.int .i64 70,.slice (some ⟨w.heap.size,0,none⟩) 2 2,.slice (some ⟨w.heap.size + 1,0,none⟩) 4 4,.slice (some ⟨w.heap.size + 1 + 1,0,none⟩) 4 4,.int .i64 0] 35) = z:=⟨_,rfl⟩;have hd : Below wc.heap.size wc w1:=by rw [← hw1]; exact aB _ _
 have kd : w1.heap[w.heap.size + 1 + 1 + 1]? = some (.cells (bdA boardH (.slice (some ⟨w.heap.size,0,none⟩) 2 2) (.slice (some ⟨w.heap.size + 1,0,none⟩) 4 4) (.slice (some ⟨w.heap.size + 1 + 1,0,none⟩) 4 4)) 35 (0,0)):=by rw [← hw1,← zc]; exact World.alloc_heap_new _ _
 have hcd : Below wb.heap.size wb w1:=bThen hc hd;have hbd : Below wa.heap.size wa w1:=bThen hb hcd;have hrs : SlN 2 (fun _ => True) wa (.slice (some ⟨w.heap.size,0,none⟩) 2 2) (boardH.rings.map ptRow):=slN_blk2 (k:=2) (rows:=boardH.rings.map ptRow) ka rfl (by simp [boardH,ptRow]) (by simp [boardH,maxLen])
 have hls : SlN 2 (fun _ => True) wb (.slice (some ⟨w.heap.size + 1,0,none⟩) 4 4) (boardH.lines.map ptRow):=slN_blk2 (k:=2) (rows:=boardH.lines.map ptRow) kb rfl (by simp [boardH,lines4,ptRow]) (by simp [boardH,lines4,maxLen])
 have hns : Sl (fun _ => True) wc (.slice (some ⟨w.heap.size + 1 + 1,0,none⟩) 4 4) (ints boardH.ns):=sl_blk (xs:=ints boardH.ns) kc (by decide)
 exact ⟨w1,by rw [hwa,hwb,hwc,hw1],bThen ha hbd,by rw [← hw1,← zc]; simp,kd,hrs.below hbd,hls.below hcd,hns.below hd⟩
def ovhV (x : Ovh) (pv sv : Value) : Value:=.agg #[.int .u8 x.v0,.int .u8 x.v1,.int .u8 x.v2,pv,sv,.int .u8 x.lie]
set_option maxRecDepth 100000 in
set_option maxHeartbeats 40000000 in
theorem topBoardHeard_any {S S' : Nat → Prop} (x : Ovh) (hx : x.Ok) (pv sv : Value) (w : World) (hp : SlN 2 S w pv (x.points.map u8Row)) (hs : Sl S' w sv (u8sH x.said)) (hT : Tab5 w) :
  Calls Tryz.prog 3 #[ovhV x pv sv] w fun e w' => e = .returned (.bool true) ∧ Below w.heap.size w w':=by
 obtain ⟨pa,pc,rfl, -, -⟩ := hp.form;obtain ⟨sa,sc,rfl, -, -⟩ := hs.form;obtain ⟨np,hnp⟩ : ∃ n,(x.points.map u8Row).length = n:=⟨_,rfl⟩;obtain ⟨ns,hns⟩ : ∃ n,(u8sH x.said).length = n:=⟨_,rfl⟩;rw [hnp] at hp ⊢;rw [hns] at hs ⊢;obtain ⟨N,hN⟩ : ∃ N,w.heap.size = N:=⟨_,rfl⟩;obtain ⟨w1,hw1⟩ : ∃ y,w.alloc (.cells #[.int .u8 x.v0,.int .u8 x.v1,.int .u8 x.v2,.slice pa np pc,.slice sa ns sc,.int .u8 x.lie] 26) = y:=⟨_,rfl⟩;have hb1 : Below w.heap.size w w1:=by rw [← hw1]; exact aB _ _
 have k : w1.heap[N]? = some (.cells #[.int .u8 x.v0,.int .u8 x.v1,.int .u8 x.v2,.slice pa np pc,.slice sa ns sc,.int .u8 x.lie] 26 (0,0)):=by rw [← hw1,← hN]; exact World.alloc_heap_new _ _
 have x0 : w1.cell? ⟨N,0,none⟩ = some (.int .u8 x.v0):=by rw [cell_of_heap k]; rfl
 have x1 : w1.cell? ⟨N,1,none⟩ = some (.int .u8 x.v1):=by rw [cell_of_heap k]; rfl
 have x2 : w1.cell? ⟨N,2,none⟩ = some (.int .u8 x.v2):=by rw [cell_of_heap k]; rfl
 have x3 : w1.cell? ⟨N,3,none⟩ = some (.slice pa np pc):=by rw [cell_of_heap k]; rfl
 have x4 : w1.cell? ⟨N,4,none⟩ = some (.slice sa ns sc):=by rw [cell_of_heap k]; rfl
 have x5 : w1.cell? ⟨N,5,none⟩ = some (.int .u8 x.lie):=by rw [cell_of_heap k]; rfl
 have HP:=Lib.hid (hp.below hb1);have HS:=Lib.hid (hs.below hb1);have HB:=Lib.hid hb1;have HT:=Lib.hid (hT.below hb1);have HW:=Lib.hid hw1;have HN:=Lib.hid hN;have HX:=Lib.hid hx;unfold ovhV;clear hp hs hb1 hw1 hN k hx hT hnp hns
 go_enter Tryz.func3,Tryz.ntmps3
 go_upto_region 1 with fail
 rw [HW.out,HN.out];refine wp_region_seqV 14 ((fun v => v = .pointer (some ⟨N,0,none⟩)) :: (fun v => v = .agg #[.int .u8 x.v0,.int .u8 x.v1,.int .u8 x.v2]) :: (fun v => v = .pointer (some ⟨N,3,none⟩)) :: (fun v => v = .slice pa np pc) :: (fun v => v = .pointer (some ⟨N,4,none⟩)) :: (fun v => v = .slice sa ns sc) :: (fun v => v = .pointer (some ⟨N,5,none⟩)) :: (fun v => v = .int .u8 x.lie) :: (fun v => ∃ q,v = .pointer (some ⟨q,0,none⟩)) :: (fun v => ∃ q,v = .pointer (some ⟨q,0,none⟩)) :: (fun _ => True) :: (fun _ => True) :: (fun v => v = .slice sa ns sc) :: (fun v => v = .int .u8 x.lie) :: []) (JBox2 w1 8 9 10 11 22 23 #[.int .u8 0,.int .u8 0,.int .u8 0] #[.int .u8 x.v0,.int .u8 x.v1,.int .u8 x.v2] #[.slice none 0 0] #[.slice pa np pc]) rfl mix (by kernel_rfl) (by kernel_rfl) (fun _ _ _ _ hc h => h.congr hc) (fun _ => .start) ?_
 simp only [List.take_succ_cons,List.take_zero]
 iterate 8
  refine sv_rd rfl (fun _ _ _ h => h.read (by simp) (by simp) (by simp) (by simp)) (fun u1 L1 vs1 hvs1 hL1 hJ1 => ?_) ?_
  ·have y0:=bAt hJ1.below x0
   have y1:=bAt hJ1.below x1;have y2:=bAt hJ1.below x2;have y3:=bAt hJ1.below x3;have y4:=bAt hJ1.below x4;have y5:=bAt hJ1.below x5;simp [opOK,go_sem,y0,y1,y2,y3,y4,y5]
  simp only [Act.put,List.setIfInBounds_toArray,List.set_cons_succ,List.set_cons_zero,List.nil_append,List.cons_append]
 refine sv_new ⟨_,0,rfl⟩ rfl (fun u1 L1 vs1 hvs1 hL1 hJ1 hd => ?_) ?_
 ·exact opOK_val (v:=.pointer (some ⟨u1.heap.size,0,none⟩)) (w':=u1.alloc (.cells #[.int .u8 0,.int .u8 0,.int .u8 0] 22)) (by kernel_rfl) ⟨⟨_,rfl⟩,hJ1.mkA hL1 (by decide) (by decide) (by decide)⟩
 rintro _ ⟨xa,rfl⟩;simp only [Act.put,List.setIfInBounds_toArray,List.set_cons_succ,List.set_cons_zero,List.nil_append,List.cons_append];refine sv_new ⟨_,0,rfl⟩ rfl (fun u1 L1 vs1 hvs1 hL1 hJ1 hd => ?_) ?_
 ·exact opOK_val (v:=.pointer (some ⟨u1.heap.size,0,none⟩)) (w':=u1.alloc (.cells #[.slice none 0 0] 23)) (by kernel_rfl) ⟨⟨_,rfl⟩,hJ1.mkB hL1 (by decide) (by decide) (by decide)⟩
 rintro _ ⟨xb,rfl⟩;simp only [Act.put,List.setIfInBounds_toArray,List.set_cons_succ,List.set_cons_zero,List.nil_append,List.cons_append];refine sv_new ⟨undef,trivial⟩ rfl (fun u1 L1 vs1 hvs1 hL1 hJ1 hd => ?_) ?_
 ·have hl:=hd ⟨8,.data⟩ (by simp) rfl
  obtain ⟨pq,e1,e2,e3⟩ := hJ1.a hl;rw [hvs1 8 _ rfl] at e1;cases e1;exact opOK_store_row 22 (.tmp 3) (.tmp 32) rfl xa #[.int .u8 x.v0,.int .u8 x.v1,.int .u8 x.v2] (by simp [Act.eval]) (by simp [Act.eval]) 22 _ e3 (by kernel_rfl) (by split <;> rfl) (by simp [Value.oneCell']) ⟨trivial,hJ1.stA hl (hvs1 8 _ rfl) (by decide) (by decide) (by decide)⟩
 rintro _ -;simp only [Act.put,List.nil_append,List.cons_append];refine sv_new ⟨undef,trivial⟩ rfl (fun u1 L1 vs1 hvs1 hL1 hJ1 hd => ?_) ?_
 ·have hl:=hd ⟨9,.data⟩ (by simp) rfl
  obtain ⟨pq,e1,e2,e3⟩ := hJ1.b hl;rw [hvs1 9 _ rfl] at e1;cases e1;have e4 : u1.heap[xb]? = some (.cells #[.slice none 0 0] 23 (0,0)):=by rw [e3,show L1 11 = false from hL1]; rfl
  have c:=cell_of_heap (o:=0) e4;have f:=frozen_of_heap (o:=0) e4;have hj:=hJ1.stB (v:=undef) hl (hvs1 9 _ rfl) (by decide) (by decide) (by decide)
  rw [← setCell_row e4] at hj;simp at c;simp [opOK,go_sem,c,f];exact hj
 rintro _ -;simp only [Act.put,List.nil_append,List.cons_append]
 iterate 2
  refine sv_rd rfl (fun _ _ _ h => h.read (by simp) (by simp) (by simp) (by simp)) (fun u1 L1 vs1 hvs1 hL1 hJ1 => ?_) ?_
  ·simp [opOK,go_sem]
  simp only [Act.put,List.setIfInBounds_toArray,List.set_cons_succ,List.set_cons_zero,List.nil_append,List.cons_append]
 refine sv_end fun vs2 w2 hvs2 hJ2 => ?_
 simp only [List.drop_succ_cons,List.drop_zero];obtain ⟨xa',ea,la,kxa⟩ := hJ2.a (by decide)
 obtain ⟨xb',eb,lb,kxb⟩ := hJ2.b (by decide)
 rw [hvs2 8 _ rfl] at ea;rw [hvs2 9 _ rfl] at eb;cases ea;cases eb;rw [if_pos (by decide)] at kxa kxb
 have a0 : w2.cell? ⟨xa,0,none⟩ = some (.int .u8 x.v0):=by rw [cell_of_heap kxa]; rfl
 have a1 : w2.cell? ⟨xa,1,none⟩ = some (.int .u8 x.v1):=by rw [cell_of_heap kxa]; rfl
 have a2 : w2.cell? ⟨xa,2,none⟩ = some (.int .u8 x.v2):=by rw [cell_of_heap kxa]; rfl
 have pt : w2.cell? ⟨xb,0,none⟩ = some (.slice pa np pc):=by rw [cell_of_heap kxb]; rfl
 have HP2:=Lib.hid (HP.out.below hJ2.below);have HS2:=Lib.hid (HS.out.below hJ2.below);have HT2:=Lib.hid (HT.out.below hJ2.below);have HB2:=Lib.hid (bThen HB.out hJ2.below);clear hJ2 hvs2 la lb kxa kxb HP HS HT HB HW x0 x1 x2 x3 x4 x5;obtain ⟨M,hM⟩ : ∃ M,w2.heap.size = M:=⟨_,rfl⟩;obtain ⟨w3,hw3,hb3,hz3,kbd,hat⟩ := board_built w2;rw [hM] at hw3 hz3 kbd hat;have a0:=bAt hb3 a0;have a1:=bAt hb3 a1;have a2:=bAt hb3 a2;have pt:=bAt hb3 pt;have HP3:=Lib.hid (HP2.out.below hb3);have HS3:=Lib.hid (HS2.out.below hb3);have HT3:=Lib.hid (HT2.out.below hb3);have HB3:=Lib.hid (bThen HB2.out hb3);have HBD3:=Lib.hid kbd;have HAT3:=Lib.hid hat;have HW3:=Lib.hid hw3;have HM:=Lib.hid hM;clear hM hw3 hb3 hz3 kbd hat HP2 HS2 HT2 HB2;go_wp2_with fail;rw [HM.out];refine Eq.subst (motive:=fun z => Calls _ _ _ z _) HW3.out.symm ?_
 refine (allB_any boardH boardH_ok (by decide) _ _ _ w3 HAT3.out).mono ?_
 rintro e w4 ⟨v,ys,rfl,hb4,hy1,hy2,hy3⟩;obtain rfl:=boardH_all hy1 hy2;have hl10 : beds10.length = 10:=rfl;rw [hl10] at hy3;obtain ⟨ba,bc,rfl⟩ := owns_form hy3;have HBS4 : Hid (Sl (fun q => w3.heap.size ≤ q) w4 (.slice ba 10 bc) (ints beds10)):=Lib.hid (Sl.of_owns hy3)
 have a0:=bAt hb4 a0;have a1:=bAt hb4 a1;have a2:=bAt hb4 a2;have pt:=bAt hb4 pt;have HP4:=Lib.hid (HP3.out.below hb4);have HS4:=Lib.hid (HS3.out.below hb4);have HT4:=Lib.hid (HT3.out.below hb4);have HB4:=Lib.hid (bThen HB3.out hb4);have HBD4:=Lib.hid ((hb4.block _ (Array.getElem?_eq_some_iff.1 HBD3.out).1).trans HBD3.out)
 have HAT4:=Lib.hid (HAT3.out.below hb4);clear hb4 hy1 hy2 hy3 hl10 HP3 HS3 HT3 HB3 HBD3 HAT3 HW3;obtain ⟨O,hO⟩ : ∃ M,w4.heap.size = M:=⟨_,rfl⟩;obtain ⟨w5,hw5⟩ : ∃ y,w4.alloc (.cells #[.bool true] 4) = y:=⟨_,rfl⟩;have hb5 : Below w4.heap.size w4 w5:=by rw [← hw5]; exact aB _ _
 have k5 : w5.heap[O]? = some (.cells #[.bool true] 4 (0,0)):=by rw [← hw5,← hO]; exact World.alloc_heap_new _ _
 have HBS5:=Lib.hid (HBS4.out.below hb5);have a0:=bAt hb5 a0;have a1:=bAt hb5 a1;have a2:=bAt hb5 a2;have pt:=bAt hb5 pt;have HP5:=Lib.hid (HP4.out.below hb5);have HS5:=Lib.hid (HS4.out.below hb5);have HT5:=Lib.hid (HT4.out.below hb5);have HB5:=Lib.hid (bThen HB4.out hb5);have HBD5:=Lib.hid ((hb5.block _ (Array.getElem?_eq_some_iff.1 HBD4.out).1).trans HBD4.out)
 have HAT5:=Lib.hid (HAT4.out.below hb5);have HO5:=Lib.hid k5;have HO:=Lib.hid hO;have HW5:=Lib.hid hw5;clear hb5 k5 hO hw5 HP4 HS4 HT4 HB4 HBD4 HAT4 HBS4;go_upto_region 7 with fail;rw [HW5.out,HO.out];go_wp2_with fail;refine (armCount_any x.v0 x.v1 x.v2 HX.out.b0 HX.out.b1 HX.out.b2 w5).mono ?_
 rintro e w6 ⟨rfl,hb6⟩;have HBS6:=Lib.hid (HBS5.out.below hb6);have a0:=bAt hb6 a0;have a1:=bAt hb6 a1;have a2:=bAt hb6 a2;have pt:=bAt hb6 pt;have HP6:=Lib.hid (HP5.out.below hb6);have HS6:=Lib.hid (HS5.out.below hb6);have HT6:=Lib.hid (HT5.out.below hb6);have HB6:=Lib.hid (bThen HB5.out hb6);have HBD6:=Lib.hid ((hb6.block _ (Array.getElem?_eq_some_iff.1 HBD5.out).1).trans HBD5.out)
 have HAT6:=Lib.hid (HAT5.out.below hb6);have HO6:=Lib.hid ((hb6.block _ (Array.getElem?_eq_some_iff.1 HO5.out).1).trans HO5.out)
 clear hb6 HP5 HS5 HT5 HB5 HBD5 HAT5 HBS5 HO5;go_wp2_with fail;refine (armLeg_any (S:=fun _ => True) x HX.out xb (M + 1 + 1 + 1) O _ _ _ _ w6 ⟨pt,HP6.out.mono (fun _ _ => trivial),HBD6.out,HAT6.out,HO6.out⟩).mono ?_
 rintro e w7 ⟨v,R,rfl,hb7,hR,ho⟩;obtain ⟨n,hn⟩ : ∃ n,(playH x).out.length = n:=⟨_,rfl⟩;have hRn : R.length = n:=hR.1.trans hn;rw [hRn] at ho;obtain ⟨va,vc,rfl⟩ := owns_form ho;obtain ⟨wn,hwn⟩ : ∃ b,(playH x).won = b:=⟨_,rfl⟩;have hn4 : n ≤ 4:=by rw [← hn]; exact playH_len x
 have hn1 : 1 ≤ n:=by rw [← hn]; exact playH_one x
 have hHR : Hid (SlN 4 (fun q => w6.heap.size ≤ q) w7 (.slice va n vc) R):=Lib.hid (SlN.of_ownsN (by rw [hRn]; exact ho) (fun r hr => by
  obtain ⟨i,hi,rfl⟩ := List.mem_iff_getElem.1 hr;obtain ⟨a,c,p,e⟩ := hR.2 i ((playH x).out[i]'(by rw [← hR.1]; exact hi)) (List.getElem?_eq_getElem _)
  rw [List.getElem?_eq_getElem hi] at e
  have e2:=Option.some.inj e;show R[i].length = 4;rw [e2]
  rfl))
 have HNN:=Lib.hid hn;have HRN:=Lib.hid hRn;have HWN:=Lib.hid hwn;have HVR:=Lib.hid hR;rw [hwn];have HBS7:=Lib.hid (HBS6.out.below hb7);have a0:=bAt hb7 a0;have a1:=bAt hb7 a1;have a2:=bAt hb7 a2;have HS7:=Lib.hid (HS6.out.below hb7);have HT7:=Lib.hid (HT6.out.below hb7);have HB7:=Lib.hid (bThen HB6.out hb7);have o7 : w7.cell? ⟨O,0,none⟩ = some (.bool true):=bAt hb7 (by rw [cell_of_heap HO6.out]; rfl)
 clear hb7 ho hR hRn hwn hn pt HP6 HS6 HT6 HB6 HBD6 HAT6 HBS6 HO6 HW5;go_upto_region 10 with fail;go_wp2_with fail;refine (armCount_any x.v0 x.v1 x.v2 HX.out.b0 HX.out.b1 HX.out.b2 w7).mono ?_
 rintro e w8 ⟨rfl,hb8⟩;have HBS8:=Lib.hid (HBS7.out.below hb8);have HS8:=Lib.hid (HS7.out.below hb8);have HT8:=Lib.hid (HT7.out.below hb8);have HB8:=Lib.hid (bThen HB7.out hb8);have HR8:=Lib.hid (hHR.out.below hb8);clear hb8 HBS7 HS7 HT7 HB7 hHR a0 a1 a2 o7;obtain ⟨l,hl⟩ : ∃ l,legF x = l:=⟨_,rfl⟩;obtain ⟨v0,hv0⟩ : ∃ z,2 + x.v0 % 39 = z:=⟨_,rfl⟩;obtain ⟨v1,hv1⟩ : ∃ z,x.v1 % 3 = z:=⟨_,rfl⟩;obtain ⟨v2,hv2⟩ : ∃ z,x.v2 % 3 = z:=⟨_,rfl⟩;rw [hv0,hv1,hv2];have HLV : Hid (legV l (.slice ba 10 bc) = .agg #[.int .i64 v0,.int .i64 v1,.int .i64 v2,.slice ba 10 bc,.int .i64 2,.int .i64 (n : Int),.bool wn]):=Lib.hid (by rw [← hl,← hv0,← hv1,← hv2,← HNN.out,← HWN.out]; rfl)
 have HL:=Lib.hid hl;clear hl hv0 hv1 hv2;go_upto_region 11 with fail;have HVL : Hid (∀ i (hi : i < n), ∃ sp a c p,(playH x).out[i]? = some sp ∧ R[i]? = some [.slice a sp.darts c,.int .i64 sp.score,.int .i64 sp.en.left,.int .i64 p]):=Lib.hid (fun i hi => by
  have hi2 : i < (playH x).out.length:=by rw [HNN.out]; exact hi
  obtain ⟨a,c,p,e⟩ := HVR.out.2 i _ (List.getElem?_eq_getElem hi2)
  exact ⟨_,a,c,p,List.getElem?_eq_getElem hi2,e⟩)
 obtain ⟨D,hD⟩ : ∃ D,w8.heap.size = D:=⟨_,rfl⟩;obtain ⟨wz,hwz⟩ : ∃ y,w8.alloc (.cells #[] 58) = y:=⟨_,rfl⟩;have hbz : Below w8.heap.size w8 wz:=by rw [← hwz]; exact aB _ _
 have hzz : wz.heap.size = D + 1:=by rw [← hwz,← hD]; simp
 have kz : wz.heap[D]? = some (.cells #[] 58 (0,0)):=by rw [← hwz,← hD]; exact World.alloc_heap_new _ _
 obtain ⟨w9,hw9⟩ : ∃ y,wz.alloc (.cells #[.int .i64 v0,.int .i64 v1,.int .i64 v2,.slice ba 10 bc,.int .i64 2,.int .i64 (n : Int),.bool wn] 53) = y:=⟨_,rfl⟩;have hb9 : Below wz.heap.size wz w9:=by rw [← hw9]; exact aB _ _
 have hz9 : w9.heap.size = D + 1 + 1:=by rw [← hw9,← hzz]; simp
 have k9 : w9.heap[D + 1]? = some (.cells #[.int .i64 v0,.int .i64 v1,.int .i64 v2,.slice ba 10 bc,.int .i64 2,.int .i64 (n : Int),.bool wn] 53 (0,0)):=by rw [← hw9,← hzz]; exact World.alloc_heap_new _ _
 have kz9 : w9.heap[D]? = some (.cells #[] 58 (0,0)):=(hb9.block D (by omega)).trans kz
 have HO9 : Hid (w9.ownsRow D 58 3 (.slice (some ⟨D,0,none⟩) 0 0) 0 (((repsH x 0).map rpRow).flatten)):=Lib.hid (by
  have e : repsH x 0 = []:=by unfold repsH; rw [List.take_zero]; rfl
  rw [e]; exact own_empty kz9 (Nat.le_refl _))
 have HL9:=Lib.hid k9;have HB9 : Hid (Below D w8 w9):=Lib.hid (by rw [← hD]; exact bThen hbz hb9)
 have HZ9 : Hid (D + 1 < w9.heap.size):=Lib.hid (by rw [hz9]; omega)
 have HD:=Lib.hid hD;have HZZ:=Lib.hid hzz;have HWZ:=Lib.hid hwz;have HW9:=Lib.hid hw9;clear hbz hb9 hz9 k9 kz kz9 hw9 hwz hD hzz;rw [HWZ.out,HW9.out,HD.out];go_wp2_with fail;go_loopw [14,15] (fun ov iv wr => ∃ (i : Nat) (v : Value),v = ov ∧ i ≤ n ∧ iv = .int .i64 (i : Int) ∧ Hid (wr.ownsRow D 58 3 v i (((repsH x i).map rpRow).flatten)) ∧ Hid (v.ownBlock ≠ some (D + 1)) ∧ Hid (wr.heap[D + 1]? = some (.cells #[.int .i64 v0,.int .i64 v1,.int .i64 v2,.slice ba 10 bc,.int .i64 2,.int .i64 (n : Int),.bool wn] 53 (0,0))) ∧ Hid (D + 1 < wr.heap.size) ∧ Hid (Below D w8 wr)) (fun _ iv _ => n - (intOf iv).toNat)
 case atStart => exact ⟨0,_,rfl,by omega,by go_num,HO9,Lib.hid (by simp [Value.ownBlock]),HL9,HZ9,HB9⟩
 case round =>
  clear HO9 HL9 HZ9 HB9;obtain ⟨i,v,rfl,hi,rfl,HO,HNE,HLC,HZ,HBr⟩ := hrel;by_cases hlt : i < n
  ·obtain ⟨wo,rfl⟩ : ∃ wo : World,wo = wr:=⟨_,rfl⟩
   obtain ⟨oa,oc,rfl⟩ := owns_form HO.out;obtain ⟨sp,ra,rc,rp,hsp,hrow⟩ := HVL.out i hlt;have hbo : Below w8.heap.size w8 wo:=by rw [HD.out]; exact HBr.out
   have hir : i < R.length:=by rw [HRN.out]; exact hlt
   obtain ⟨tb,tf,hta, -, -,hc⟩ := (HR8.out.below hbo).cell (i:=i) hir;cases hta;have hri : R[i] = [.slice ra sp.darts rc,.int .i64 sp.score,.int .i64 sp.en.left,.int .i64 rp]:=by
    rw [List.getElem?_eq_getElem hir] at hrow
    exact Option.some.inj hrow
   rw [hri] at hc;have p1:=hc 1 (.int .i64 sp.score) rfl;have p2:=hc 2 (.int .i64 sp.en.left) rfl;have HSP:=Lib.hid hsp;obtain ⟨scv,hscv⟩ : ∃ z,sp.score = z:=⟨_,rfl⟩;obtain ⟨lev,hlev⟩ : ∃ z,sp.en.left = z:=⟨_,rfl⟩;rw [hscv] at p1;rw [hlev] at p2;have HSC:=Lib.hid hscv;have HLE:=Lib.hid hlev;have HSO:=Lib.hid (HS8.out.below hbo);obtain ⟨z,hz⟩ : ∃ z,byteL x.said i = z:=⟨_,rfl⟩;have hzb : 0 ≤ z ∧ z < 256:=by rw [← hz]; exact byteL_bd HX.out.said i
   have HZQ:=Lib.hid hz;have hzm : z.tmod 3 = z % 3:=Int.tmod_eq_emod_of_nonneg hzb.1;obtain ⟨Q,hQ⟩ : ∃ Q,wo.heap.size = Q:=⟨_,rfl⟩;have hli : (i : Int) < (n : Int):=by omega
   have hwi : IntKind.i64.wrap ((i : Int) + 1) = (i : Int) + 1:=wrap_small _ (by omega) (by omega)
   clear hsp hrow hri hc hscv hlev hz hbo hir;go_upto_region 14 with fail;refine wp_region_seqC 14 (.int .i64 (i : Int) :: .slice (some ⟨tb,tf,none⟩) n vc :: .int .i64 (i : Int) :: .pointer (some ⟨tb,tf + i * 4,none⟩) :: .pointer (some ⟨tb,tf + i * 4 + 1,none⟩) :: .int .i64 scv :: .slice (some ⟨tb,tf,none⟩) n vc :: .int .i64 (i : Int) :: .pointer (some ⟨tb,tf + i * 4,none⟩) :: .pointer (some ⟨tb,tf + i * 4 + 2,none⟩) :: .int .i64 lev :: .agg #[.int .i64 (i : Int),.int .i64 scv,.int .i64 lev] :: .pointer (some ⟨Q,0,none⟩) :: undef :: []) (JBox wo 12 13 58 #[.int .i64 0,.int .i64 0,.int .i64 0] #[.int .i64 (i : Int),.int .i64 scv,.int .i64 lev]) rfl mix (by kernel_rfl) (by kernel_rfl) JBox.start ?_
   simp only [List.take_succ_cons,List.take_zero]
   iterate 12
    refine sc_rd rfl (fun _ _ _ h => h.read (by decide) (by decide)) (fun w5 L hL hJ => ?_) ?_
    ·have p1':=bAt hJ.below p1
     have p2':=bAt hJ.below p2;simp [opOK,go_sem,p1',p2',hli]
     try exact rfl
    simp only [Act.put,List.setIfInBounds_toArray,List.set_cons_succ,List.set_cons_zero]
   refine sc_is rfl (fun w5 L hL hJ hd => ?_) ?_
   ·obtain ⟨h1,h2⟩ := hJ.alloc hL (by decide)
    have h3 : w5.heap.size = Q:=by rw [h2]; exact hQ
    exact opOK_val (v:=.pointer (some ⟨Q,0,none⟩)) (w':=w5.alloc (.cells #[.int .i64 0,.int .i64 0,.int .i64 0] 58)) (by simp [go_sem,execOp,h3]) ⟨rfl,h1⟩
   simp only [Act.put,List.setIfInBounds_toArray,List.set_cons_succ,List.set_cons_zero];refine sc_is rfl (fun w5 L hL hJ hd => ?_) ?_
   ·have h10:=hd ⟨12,.data⟩ (by simp) rfl
    have h2:=hJ.on h10 hL;have h3 : wo.heap.size = Q:=hQ;rw [h3] at h2;have h4:=hJ.store h10 hL (by decide)
    rw [h3] at h4;exact opOK_store_row _ _ _ rfl Q #[.int .i64 (i : Int),.int .i64 scv,.int .i64 lev] (by simp [Act.eval]) (by simp [Act.eval]) 58 _ h2 (by kernel_rfl) rfl (by simp [Value.oneCell']) ⟨rfl,h4⟩
   simp only [Act.put];refine sc_end fun w3r hJ => ?_
   simp only [List.drop_succ_cons,List.drop_zero];have hb3 : Below wo.heap.size wo w3r:=hJ.below;have HK3 : Hid (w3r.heap[Q]? = some (.cells #[.int .i64 (i : Int),.int .i64 scv,.int .i64 lev] 58 (0,0))):=Lib.hid (by
    have h3 : wo.heap.size = Q:=hQ;have:=hJ.st rfl;rw [h3] at this; exact this)
   have HO3:=Lib.hid (ownsN_below HO.out hb3);have HNQ : Hid ((Value.slice oa i oc).ownBlock ≠ some Q):=Lib.hid fun e => Nat.lt_irrefl Q (Nat.lt_of_lt_of_eq (HO.out.lt Q e).2 hQ)
   have HB3r : Hid (Below D w8 w3r):=Lib.hid (HBr.out.trans (hb3.mono (by have:=HZ.out; omega)))
   have HZ3 : Hid (D + 1 < w3r.heap.size):=Lib.hid (Nat.lt_of_lt_of_le HZ.out hb3.size);have HQD : Hid (D + 1 < Q):=Lib.hid (by rw [← hQ]; exact HZ.out)
   have HLC3:=Lib.hid ((hb3.block _ HZ.out).trans HLC.out);have HSO3:=Lib.hid (HSO.out.below hb3);clear hJ hb3 hQ p1 p2 HO HBr HZ HLC HSO;go_wp2_with fail;refine (armByte_any x.said HX.out.said _ i w3r HSO3.out).mono ?_
   rintro e w4r ⟨rfl,hb4⟩;rw [HZQ.out];have HK4:=Lib.hid ((hb4.block _ (Array.getElem?_eq_some_iff.1 HK3.out).1).trans HK3.out)
   have HO4:=Lib.hid (ownsN_below HO3.out hb4);have HB4 : Hid (Below D w8 w4r):=Lib.hid (HB3r.out.trans (hb4.mono (by have:=HZ3.out; omega)))
   have HZ4 : Hid (D + 1 < w4r.heap.size):=Lib.hid (Nat.lt_of_lt_of_le HZ3.out hb4.size);have HLC4:=Lib.hid ((hb4.block _ HZ3.out).trans HLC3.out);clear hb4 HK3 HO3 HB3r HZ3 HLC3 HSO3;have h30 : z % 3 = 0 ∨ z % 3 = 1 ∨ z % 3 = 2:=by omega
   rcases h30 with h3 | h3 | h3
   ·skip
    have m3 : z.tmod 3 = 0:=by rw [hzm,h3]
    have HREP : Hid (rpRow (repH x i sp) = [.int .i64 (i : Int),.int .i64 (-1),.int .i64 lev]):=Lib.hid (by unfold rpRow repH; simp only; rw [HZQ.out,h3,HSC.out,HLE.out]; simp)
    clear h3 hzm hzb;have r1 : w4r.cell? ⟨Q,1,none⟩ = some (.int .i64 scv):=by rw [cell_of_heap HK4.out]; rfl
    have fr1 : w4r.frozen? ⟨Q,1,none⟩ = false:=frozen_of_heap HK4.out;obtain ⟨w5r,hw5⟩ : ∃ y,w4r.setCell ⟨Q,1,none⟩ (.int .i64 (-1)) = y:=⟨_,rfl⟩;have hg:=grown_setH w4r Q 1 (.int .i64 (-1));rw [hw5] at hg;have HK5 : Hid (w5r.heap[Q]? = some (.cells #[.int .i64 (i : Int),.int .i64 (-1),.int .i64 lev] 58 (0,0))):=Lib.hid (by rw [← hw5]; exact heap_setCell_at HK4.out _)
    have HO5:=Lib.hid (HO4.out.kept hg (.inr HNQ.out));have HB5 : Hid (Below D w8 w5r):=Lib.hid (by rw [← hw5]; exact HB4.out.setCell (p:=⟨Q,1,none⟩) (by have:=HQD.out; show D ≤ Q; omega) _)
    have HZ5 : Hid (D + 1 < w5r.heap.size):=Lib.hid (Nat.lt_of_lt_of_le HZ4.out hg.size);have HLC5:=Lib.hid ((hg.block _ HZ4.out (fun e => by have:=Option.some.inj e; have:=HQD.out; omega)).trans HLC4.out)
    have HW5:=Lib.hid hw5;clear hw5 hg;go_upto_region 20 with fail;rw [HW5.out];clear r1 fr1;have r0 : w5r.cell? ⟨Q,0,none⟩ = some (.int .i64 (i : Int)):=by rw [cell_of_heap HK5.out]; rfl
    have r1 : w5r.cell? ⟨Q,1,none⟩ = some (.int .i64 (-1)):=by rw [cell_of_heap HK5.out]; rfl
    have r2 : w5r.cell? ⟨Q,2,none⟩ = some (.int .i64 lev):=by rw [cell_of_heap HK5.out]; rfl
    have hm9 : i + 1 ≤ 100000:=by omega
    go_wp2_with (at_builtin; refine wpList_appendN rfl (.tmp 107) (.tmp 109) 54 rfl D 58 (.agg #[.int .i64 0,.int .i64 0,.int .i64 0]) 3 24 Tryz.underlying54 info_rp rfl (by decide) (.slice oa i oc) i (((repsH x i).map rpRow).flatten) rfl (HO5.out.alloc _) w5r.heap.size 0 1 1 (rpRow (repH x i sp)) rfl (by rw [HREP.out]; rfl) (fun j u hj => by rw [cell_of_heap (World.alloc_heap_new _ _),Nat.zero_add]; rw [HREP.out] at hj; simpa using hj) (rpRowH_one _) hm9 (by decide) (by have:=HZ5.out; simp; omega) ?_)
    intro v8 w8r ho8 hg8 hat8
    have hb8 : Below w5r.heap.size w5r (w5r.alloc (.cells #[.int .i64 (i : Int),.int .i64 (-1),.int .i64 lev] 58)):=aB _ _;have HO8 : Hid (w8r.ownsRow D 58 3 v8 (i + 1) (((repsH x (i + 1)).map rpRow).flatten)):=Lib.hid (by
     rw [repsH_succ x HSP.out,List.map_append,List.flatten_append]
     simpa using ho8)
    have HZA : Hid (D + 1 < (w5r.alloc (.cells #[.int .i64 (i : Int),.int .i64 (-1),.int .i64 lev] 58)).heap.size):=Lib.hid (Nat.lt_of_lt_of_le HZ5.out hb8.size);have HB8r : Hid (Below D w8 w8r):=Lib.hid ((HB5.out.trans (hb8.mono (by have:=HZ5.out; omega))).trans (below_grownBy hg8 (by have:=HZA.out; omega) (fun q hq => (HO5.out.lt _ hq).1)))
    have HZ8 : Hid (D + 1 < w8r.heap.size):=Lib.hid (Nat.lt_of_lt_of_le HZA.out hg8.size);have HLC8:=Lib.hid ((hg8.block _ HZA.out HNE.out.symm).trans ((hb8.block _ HZ5.out).trans HLC5.out));have HNE8 : Hid (v8.ownBlock ≠ some (D + 1)):=Lib.hid (by
     rcases hat8 with e | e
     ·rw [e]; exact HNE.out
     ·rw [e]; intro e2; have h1:=Option.some.inj e2; have h2:=HZ5.out; simp at h1; omega)
    clear ho8 hg8 hat8 hb8 r0 r1 r2;go_wp2_with fail;go_roundw
    case rel => exact ⟨i + 1,_,rfl,by omega,by go_num,HO8,HNE8,HLC8,HZ8,HB8r⟩
    case measure => simp [intOf]; omega
   ·skip
    have m3 : z.tmod 3 = 1:=by rw [hzm,h3]
    have HREP : Hid (rpRow (repH x i sp) = [.int .i64 (i : Int),.int .i64 scv,.int .i64 (-1)]):=Lib.hid (by unfold rpRow repH; simp only; rw [HZQ.out,h3,HSC.out,HLE.out]; simp)
    clear h3 hzm hzb;have r1 : w4r.cell? ⟨Q,2,none⟩ = some (.int .i64 lev):=by rw [cell_of_heap HK4.out]; rfl
    have fr1 : w4r.frozen? ⟨Q,2,none⟩ = false:=frozen_of_heap HK4.out;obtain ⟨w5r,hw5⟩ : ∃ y,w4r.setCell ⟨Q,2,none⟩ (.int .i64 (-1)) = y:=⟨_,rfl⟩;have hg:=grown_setH w4r Q 2 (.int .i64 (-1));rw [hw5] at hg;have HK5 : Hid (w5r.heap[Q]? = some (.cells #[.int .i64 (i : Int),.int .i64 scv,.int .i64 (-1)] 58 (0,0))):=Lib.hid (by rw [← hw5]; exact heap_setCell_at HK4.out _)
    have HO5:=Lib.hid (HO4.out.kept hg (.inr HNQ.out));have HB5 : Hid (Below D w8 w5r):=Lib.hid (by rw [← hw5]; exact HB4.out.setCell (p:=⟨Q,2,none⟩) (by have:=HQD.out; show D ≤ Q; omega) _)
    have HZ5 : Hid (D + 1 < w5r.heap.size):=Lib.hid (Nat.lt_of_lt_of_le HZ4.out hg.size);have HLC5:=Lib.hid ((hg.block _ HZ4.out (fun e => by have:=Option.some.inj e; have:=HQD.out; omega)).trans HLC4.out)
    have HW5:=Lib.hid hw5;clear hw5 hg;go_upto_region 20 with fail;rw [HW5.out];clear r1 fr1;have r0 : w5r.cell? ⟨Q,0,none⟩ = some (.int .i64 (i : Int)):=by rw [cell_of_heap HK5.out]; rfl
    have r1 : w5r.cell? ⟨Q,1,none⟩ = some (.int .i64 scv):=by rw [cell_of_heap HK5.out]; rfl
    have r2 : w5r.cell? ⟨Q,2,none⟩ = some (.int .i64 (-1)):=by rw [cell_of_heap HK5.out]; rfl
    have hm9 : i + 1 ≤ 100000:=by omega
    go_wp2_with (at_builtin; refine wpList_appendN rfl (.tmp 107) (.tmp 109) 54 rfl D 58 (.agg #[.int .i64 0,.int .i64 0,.int .i64 0]) 3 24 Tryz.underlying54 info_rp rfl (by decide) (.slice oa i oc) i (((repsH x i).map rpRow).flatten) rfl (HO5.out.alloc _) w5r.heap.size 0 1 1 (rpRow (repH x i sp)) rfl (by rw [HREP.out]; rfl) (fun j u hj => by rw [cell_of_heap (World.alloc_heap_new _ _),Nat.zero_add]; rw [HREP.out] at hj; simpa using hj) (rpRowH_one _) hm9 (by decide) (by have:=HZ5.out; simp; omega) ?_)
    intro v8 w8r ho8 hg8 hat8
    have hb8 : Below w5r.heap.size w5r (w5r.alloc (.cells #[.int .i64 (i : Int),.int .i64 scv,.int .i64 (-1)] 58)):=aB _ _;have HO8 : Hid (w8r.ownsRow D 58 3 v8 (i + 1) (((repsH x (i + 1)).map rpRow).flatten)):=Lib.hid (by
     rw [repsH_succ x HSP.out,List.map_append,List.flatten_append]
     simpa using ho8)
    have HZA : Hid (D + 1 < (w5r.alloc (.cells #[.int .i64 (i : Int),.int .i64 scv,.int .i64 (-1)] 58)).heap.size):=Lib.hid (Nat.lt_of_lt_of_le HZ5.out hb8.size);have HB8r : Hid (Below D w8 w8r):=Lib.hid ((HB5.out.trans (hb8.mono (by have:=HZ5.out; omega))).trans (below_grownBy hg8 (by have:=HZA.out; omega) (fun q hq => (HO5.out.lt _ hq).1)))
    have HZ8 : Hid (D + 1 < w8r.heap.size):=Lib.hid (Nat.lt_of_lt_of_le HZA.out hg8.size);have HLC8:=Lib.hid ((hg8.block _ HZA.out HNE.out.symm).trans ((hb8.block _ HZ5.out).trans HLC5.out));have HNE8 : Hid (v8.ownBlock ≠ some (D + 1)):=Lib.hid (by
     rcases hat8 with e | e
     ·rw [e]; exact HNE.out
     ·rw [e]; intro e2; have h1:=Option.some.inj e2; have h2:=HZ5.out; simp at h1; omega)
    clear ho8 hg8 hat8 hb8 r0 r1 r2;go_wp2_with fail;go_roundw
    case rel => exact ⟨i + 1,_,rfl,by omega,by go_num,HO8,HNE8,HLC8,HZ8,HB8r⟩
    case measure => simp [intOf]; omega
   ·skip
    have m3 : z.tmod 3 = 2:=by rw [hzm,h3]
    have HREP : Hid (rpRow (repH x i sp) = [.int .i64 (i : Int),.int .i64 scv,.int .i64 lev]):=Lib.hid (by unfold rpRow repH; simp only; rw [HZQ.out,h3,HSC.out,HLE.out]; simp)
    clear h3 hzm hzb;have r0 : w4r.cell? ⟨Q,0,none⟩ = some (.int .i64 (i : Int)):=by rw [cell_of_heap HK4.out]; rfl
    have r1 : w4r.cell? ⟨Q,1,none⟩ = some (.int .i64 scv):=by rw [cell_of_heap HK4.out]; rfl
    have r2 : w4r.cell? ⟨Q,2,none⟩ = some (.int .i64 lev):=by rw [cell_of_heap HK4.out]; rfl
    have hm9 : i + 1 ≤ 100000:=by omega
    go_wp2_with (at_builtin; refine wpList_appendN rfl (.tmp 107) (.tmp 109) 54 rfl D 58 (.agg #[.int .i64 0,.int .i64 0,.int .i64 0]) 3 24 Tryz.underlying54 info_rp rfl (by decide) (.slice oa i oc) i (((repsH x i).map rpRow).flatten) rfl (HO4.out.alloc _) w4r.heap.size 0 1 1 (rpRow (repH x i sp)) rfl (by rw [HREP.out]; rfl) (fun j u hj => by rw [cell_of_heap (World.alloc_heap_new _ _),Nat.zero_add]; rw [HREP.out] at hj; simpa using hj) (rpRowH_one _) hm9 (by decide) (by have:=HZ4.out; simp; omega) ?_)
    intro v8 w8r ho8 hg8 hat8
    have hb8 : Below w4r.heap.size w4r (w4r.alloc (.cells #[.int .i64 (i : Int),.int .i64 scv,.int .i64 lev] 58)):=aB _ _;have HO8 : Hid (w8r.ownsRow D 58 3 v8 (i + 1) (((repsH x (i + 1)).map rpRow).flatten)):=Lib.hid (by
     rw [repsH_succ x HSP.out,List.map_append,List.flatten_append]
     simpa using ho8)
    have HZA : Hid (D + 1 < (w4r.alloc (.cells #[.int .i64 (i : Int),.int .i64 scv,.int .i64 lev] 58)).heap.size):=Lib.hid (Nat.lt_of_lt_of_le HZ4.out hb8.size);have HB8r : Hid (Below D w8 w8r):=Lib.hid ((HB4.out.trans (hb8.mono (by have:=HZ4.out; omega))).trans (below_grownBy hg8 (by have:=HZA.out; omega) (fun q hq => (HO4.out.lt _ hq).1)))
    have HZ8 : Hid (D + 1 < w8r.heap.size):=Lib.hid (Nat.lt_of_lt_of_le HZA.out hg8.size);have HLC8:=Lib.hid ((hg8.block _ HZA.out HNE.out.symm).trans ((hb8.block _ HZ4.out).trans HLC4.out));have HNE8 : Hid (v8.ownBlock ≠ some (D + 1)):=Lib.hid (by
     rcases hat8 with e | e
     ·rw [e]; exact HNE.out
     ·rw [e]; intro e2; have h1:=Option.some.inj e2; have h2:=HZ4.out; simp at h1; omega)
    clear ho8 hg8 hat8 hb8 r0 r1 r2;go_wp2_with fail;go_roundw
    case rel => exact ⟨i + 1,_,rfl,by omega,by go_num,HO8,HNE8,HLC8,HZ8,HB8r⟩
    case measure => simp [intOf]; omega
  ·obtain rfl : n = i:=by omega
   obtain ⟨wo,rfl⟩ : ∃ wo : World,wo = wr:=⟨_,rfl⟩;obtain ⟨g,oc,rfl⟩ := own_posH HO.out (by omega)
   have hbo : Below w8.heap.size w8 wo:=by rw [HD.out]; exact HBr.out
   have HBo:=Lib.hid (bThen HB8.out hbo);have HBDo : Hid (Below D w8 wo):=HBr;have HBSo:=Lib.hid (HBS8.out.below hbo);have HTo:=Lib.hid (HT8.out.below hbo);have HRo:=Lib.hid (HR8.out.below hbo);have HSLN : Hid ((saidH x).length = n):=Lib.hid (by rw [saidH_len]; exact HNN.out)
   have HSD : Hid (repsH x n = saidH x):=Lib.hid (by unfold saidH; rw [HNN.out])
   obtain ⟨list,hlist⟩ : ∃ y,saidH x = y:=⟨_,rfl⟩;have HLI:=Lib.hid hlist;have HLN : Hid (list.length = n):=Lib.hid (by rw [← hlist]; exact HSLN.out)
   have HOo : Hid (wo.ownsRow D 58 3 (.slice (some ⟨g,0,none⟩) n oc) n ((list.map rpRow).flatten)):=Lib.hid (by rw [← hlist,← HSD.out]; exact HO.out)
   have HTRU : Hid (HasTruth l (allS list)):=Lib.hid (by rw [← hlist,← HL.out]; exact (saidH_truth x).1)
   have HBAD : Hid (∀ r ∈ list,badR l.turns r = false):=Lib.hid (by rw [← hlist,← HL.out]; exact bad_of x (bad_said x))
   have HCK : Hid (checkL l = 0):=Lib.hid (by rw [← HL.out]; exact legF_check x)
   have HBI : Hid (BedsIn l):=Lib.hid (by rw [← HL.out]; exact legF_in x)
   have HTN : Hid (l.turns = (n : Int)):=Lib.hid (by rw [← HL.out,legF_turns,HNN.out])
   have HLB : Hid (ints l.beds = ints beds10):=Lib.hid (by rw [← HL.out]; rfl)
   obtain ⟨f1,hf1⟩ : ∃ f,scF l list = f:=⟨_,rfl⟩;obtain ⟨f2,hf2⟩ : ∃ f,leF l list = f:=⟨_,rfl⟩;obtain ⟨f3,hf3⟩ : ∃ f,daF l list = f:=⟨_,rfl⟩;have HF:=Lib.hid (And.intro hf1 (And.intro hf2 hf3));have HIN : Hid (∀ (i : Nat) (sp : Sp),(playH x).out[i]? = some sp → ((f1 i).1 ≤ sp.score ∧ sp.score ≤ (f1 i).2) ∧ ((f2 i).1 ≤ sp.en.left ∧ sp.en.left ≤ (f2 i).2) ∧ ((f3 i).1 ≤ (sp.darts : Int) ∧ (sp.darts : Int) ≤ (f3 i).2)):=Lib.hid (by
    intro i sp hi
    rw [← hf1,← hf2,← hf3,← hlist,← HL.out];exact playH_in x i sp hi)
   have HGD : Hid (g ≠ D + 1):=Lib.hid fun e => HNE.out (by rw [← e]; rfl)
   have HGB : Hid (D ≤ g ∧ g < wo.heap.size):=Lib.hid (HO.out.lt g rfl);have HLCo : Hid (wo.heap[D + 1]? = some (.cells #[.int .i64 v0,.int .i64 v1,.int .i64 v2,.slice ba 10 bc,.int .i64 2,.int .i64 (n : Int),.bool wn] 53 (0,0))):=HLC;have c0 : wo.cell? ⟨D + 1,0,none⟩ = some (.int .i64 v0):=by rw [cell_of_heap HLC.out]; rfl
   have c1 : wo.cell? ⟨D + 1,1,none⟩ = some (.int .i64 v1):=by rw [cell_of_heap HLC.out]; rfl
   have c2 : wo.cell? ⟨D + 1,2,none⟩ = some (.int .i64 v2):=by rw [cell_of_heap HLC.out]; rfl
   have c3 : wo.cell? ⟨D + 1,3,none⟩ = some (.slice ba 10 bc):=by rw [cell_of_heap HLC.out]; rfl
   have c4 : wo.cell? ⟨D + 1,4,none⟩ = some (.int .i64 2):=by rw [cell_of_heap HLC.out]; rfl
   have c5 : wo.cell? ⟨D + 1,5,none⟩ = some (.int .i64 (n : Int)):=by rw [cell_of_heap HLC.out]; rfl
   have c6 : wo.cell? ⟨D + 1,6,none⟩ = some (.bool wn):=by rw [cell_of_heap HLC.out]; rfl
   have HSLo : Hid (SlN 3 (fun q => D ≤ q) wo (.slice (some ⟨g,0,none⟩) n oc) (list.map rpRow)):=Lib.hid (rows_sl HOo.out HLN.out)
   clear hbo HO HBr HR8 hf1 hf2 hf3 hlist HSD HSLN HNE HLC;go_upto_region 21 with fail;refine wp_region_seqW (.is (.agg #[.int .i64 v0,.int .i64 v1,.int .i64 v2,.slice ba 10 bc,.int .i64 2,.int .i64 (n : Int),.bool wn]) :: kEmp :: .is (.slice (some ⟨g,0,none⟩) n oc) :: kTold list n :: kTr n f1 f2 f3 :: kTr n f1 f2 f3 :: kSp n f1 :: kSp n f2 :: kSp n f3 :: .is (.int .i64 0) :: kSp n f1 :: kSp n f2 :: kSp n f3 :: .is (.int .i64 0) :: []) rfl mix (by kernel_rfl) (by kernel_rfl) ?_
   refine seq_on (by rfl) (fun wr hbr _ => ?_) ?_
   ·have c0':=bAt hbr c0
    have c1':=bAt hbr c1;have c2':=bAt hbr c2;have c3':=bAt hbr c3;have c4':=bAt hbr c4;have c5':=bAt hbr c5;have c6':=bAt hbr c6;simp [opOK,go_sem,c0',c1',c2',c3',c4',c5',c6',Below.refl]
    try exact rfl
   simp only [Act.put,List.setIfInBounds_toArray,List.set_cons_succ,List.set_cons_zero];refine seq_new ⟨_,0,rfl⟩ (by rfl) (fun wr hbr hH => ?_) ?_
   ·exact opOK_val (v:=.slice (some ⟨wr.heap.size,0,none⟩) 0 0) (w':=wr.alloc (.cells #[] 58)) (by simp [go_sem,execOp]) ⟨aB _ _,⟨_,rfl⟩,trivial⟩
   rintro _ ⟨qe,rfl⟩;simp only [Act.put,List.setIfInBounds_toArray,List.set_cons_succ,List.set_cons_zero];refine seq_on (by rfl) (fun wr hbr _ => ?_) ?_
   ·simp [opOK,go_sem,Below.refl]
    try exact rfl
   simp only [Act.put,List.setIfInBounds_toArray,List.set_cons_succ,List.set_cons_zero];refine seq_new ⟨_,none,0,rfl⟩ (by rfl) (fun wr hbr hH => ?_) ?_
   ·refine opOK_mono (opOK_copyB (.tmp 113) (.tmp 114) 54 rfl 58 (.agg #[.int .i64 0,.int .i64 0,.int .i64 0]) 3 24 Tryz.underlying54 info_rp rfl (by decide) qe rfl (.slice (some ⟨g,0,none⟩) n oc) (list.map rpRow) rfl (HSLo.out.below hbr) (rp_one _) (by rw [List.length_map,HLN.out]; omega) (by decide)) ?_
    rintro v' w' ⟨h1,h2⟩;obtain ⟨xa,y,rfl, -, -⟩ := h2.form;rw [List.length_map,HLN.out] at h2 ⊢;exact ⟨h1,⟨xa,y,rfl⟩,xa,y,rfl,h2⟩
   rintro _ ⟨qo,qc,rfl⟩;simp only [Act.put,List.setIfInBounds_toArray,List.set_cons_succ,List.set_cons_zero];refine seq_new ⟨_,0,0,0,rfl⟩ (by rfl) (fun wr hbr hH => ?_) ?_
   ·obtain ⟨xb,yb,e3,hs3⟩ := hH ⟨3,.data⟩ (by simp) rfl
    cases e3;refine opOK_call (f:=10) (args:=#[.agg #[.int .i64 v0,.int .i64 v1,.int .i64 v2,.slice ba 10 bc,.int .i64 2,.int .i64 (n : Int),.bool wn],.slice qo n qc]) (by simp [go_sem]) ?_
    have ht:=truth_ok l (.slice ba 10 bc) (.slice qo n qc) list n HTN.out wr (by rw [HLB.out]; exact HBSo.out.below hbr) HBI.out hs3 HCK.out (by rw [HLN.out]; omega) HBAD.out HTRU.out
    rw [HLV.out] at ht;refine ht.mono ?_
    rintro e w' ⟨t1,t2,t3,rfl,hb',k1,k2,k3⟩;rw [HF.out.1] at k1;rw [HF.out.2.1] at k2;rw [HF.out.2.2] at k3;exact ⟨_,rfl,hb',⟨t1,t2,t3,rfl⟩,t1,t2,t3,rfl,k1,k2,k3⟩
   rintro _ ⟨t1,t2,t3,rfl⟩;simp only [Act.put,List.setIfInBounds_toArray,List.set_cons_succ,List.set_cons_zero];refine seq_new ⟨_,0,0,0,rfl⟩ (by rfl) (fun wr hbr hH => ?_) ?_
   ·have h4:=hH ⟨4,.data⟩ (by simp) rfl
    exact opOK_val (v:=tupH n t1 t2 t3) (w':=wr) (by simp [go_sem,execOp]) ⟨Below.refl _ _,⟨t1,t2,t3,rfl⟩,h4⟩
   rintro _ ⟨t4,t5,t6,rfl⟩;simp only [Act.put,List.setIfInBounds_toArray,List.set_cons_succ,List.set_cons_zero];refine seq_new ⟨_,0,rfl⟩ (by rfl) (fun wr hbr hH => ?_) ?_
   ·obtain ⟨s1,s2,s3,e5,k1,k2,k3⟩ := hH ⟨5,.data⟩ (by simp) rfl
    cases e5;exact opOK_val (v:=slH n t4) (w':=wr) (by simp [go_sem,execOp,tupH]) ⟨Below.refl _ _,⟨_,rfl⟩,_,rfl,k1⟩
   rintro _ ⟨u1,rfl⟩;simp only [Act.put,List.setIfInBounds_toArray,List.set_cons_succ,List.set_cons_zero];refine seq_new ⟨_,0,rfl⟩ (by rfl) (fun wr hbr hH => ?_) ?_
   ·obtain ⟨s1,s2,s3,e5,k1,k2,k3⟩ := hH ⟨5,.data⟩ (by simp) rfl
    cases e5;exact opOK_val (v:=slH n t5) (w':=wr) (by simp [go_sem,execOp,tupH]) ⟨Below.refl _ _,⟨_,rfl⟩,_,rfl,k2⟩
   rintro _ ⟨u2,rfl⟩;simp only [Act.put,List.setIfInBounds_toArray,List.set_cons_succ,List.set_cons_zero];refine seq_new ⟨_,0,rfl⟩ (by rfl) (fun wr hbr hH => ?_) ?_
   ·obtain ⟨s1,s2,s3,e5,k1,k2,k3⟩ := hH ⟨5,.data⟩ (by simp) rfl
    cases e5;exact opOK_val (v:=slH n t6) (w':=wr) (by simp [go_sem,execOp,tupH]) ⟨Below.refl _ _,⟨_,rfl⟩,_,rfl,k3⟩
   rintro _ ⟨u3,rfl⟩;simp only [Act.put,List.setIfInBounds_toArray,List.set_cons_succ,List.set_cons_zero];refine seq_on (by rfl) (fun wr hbr _ => ?_) ?_
   ·simp [opOK,go_sem,tupH,Below.refl]
    try exact rfl
   simp only [Act.put,List.setIfInBounds_toArray,List.set_cons_succ,List.set_cons_zero];refine seq_new ⟨_,0,rfl⟩ (by rfl) (fun wr hbr hH => ?_) ?_
   ·obtain ⟨s1,e5,k1⟩ := hH ⟨6,.data⟩ (by simp) rfl
    cases e5;exact opOK_val (v:=slH n u1) (w':=wr) (by simp [go_sem,execOp]) ⟨Below.refl _ _,⟨_,rfl⟩,_,rfl,k1⟩
   rintro _ ⟨g1,rfl⟩;simp only [Act.put,List.setIfInBounds_toArray,List.set_cons_succ,List.set_cons_zero];refine seq_new ⟨_,0,rfl⟩ (by rfl) (fun wr hbr hH => ?_) ?_
   ·obtain ⟨s1,e5,k1⟩ := hH ⟨7,.data⟩ (by simp) rfl
    cases e5;exact opOK_val (v:=slH n u2) (w':=wr) (by simp [go_sem,execOp]) ⟨Below.refl _ _,⟨_,rfl⟩,_,rfl,k1⟩
   rintro _ ⟨g2,rfl⟩;simp only [Act.put,List.setIfInBounds_toArray,List.set_cons_succ,List.set_cons_zero];refine seq_new ⟨_,0,rfl⟩ (by rfl) (fun wr hbr hH => ?_) ?_
   ·obtain ⟨s1,e5,k1⟩ := hH ⟨8,.data⟩ (by simp) rfl
    cases e5;exact opOK_val (v:=slH n u3) (w':=wr) (by simp [go_sem,execOp]) ⟨Below.refl _ _,⟨_,rfl⟩,_,rfl,k1⟩
   rintro _ ⟨g3,rfl⟩;simp only [Act.put,List.setIfInBounds_toArray,List.set_cons_succ,List.set_cons_zero];refine seq_on (by rfl) (fun wr hbr _ => ?_) ?_
   ·simp [opOK,go_sem,Below.refl]
    try exact rfl
   simp only [Act.put,List.setIfInBounds_toArray,List.set_cons_succ,List.set_cons_zero];refine seq_end fun w9 hb9 hH => ?_
   obtain ⟨_,e1,hq1⟩ := hH 10 (by decide)
   cases e1;obtain ⟨_,e1,hq2⟩ := hH 11 (by decide)
   cases e1;obtain ⟨_,e1,hq3⟩ := hH 12 (by decide)
   cases e1;have HG19:=Lib.hid hq1;have HG29:=Lib.hid hq2;have HG39:=Lib.hid hq3;clear hH hq1 hq2 hq3;have HGB9 : Hid (D ≤ g ∧ g < w9.heap.size):=Lib.hid ⟨HGB.out.1,Nat.lt_of_lt_of_le HGB.out.2 hb9.size⟩;have HBD9 : Hid (Below D w8 w9):=Lib.hid (HBDo.out.trans (hb9.mono (by have:=HGB.out; omega)))
   have HB9:=Lib.hid (bThen HBo.out hb9);have HBS9:=Lib.hid (HBSo.out.below hb9);have HT9:=Lib.hid (HTo.out.below hb9);have HR9:=Lib.hid (HRo.out.below hb9);have HSL9:=Lib.hid (HSLo.out.below hb9);have HO9:=Lib.hid (ownsN_below HOo.out hb9);have c0:=bAt hb9 c0;have c1:=bAt hb9 c1;have c2:=bAt hb9 c2;have c3:=bAt hb9 c3;have c4:=bAt hb9 c4;have c5:=bAt hb9 c5;have c6:=bAt hb9 c6;clear HBo HBSo HTo HRo HSLo HOo;clear hb9 HGB HLCo HBDo;unfold slH tupH;go_wp2_with fail;go_loopw [21] (fun iv wr => ∃ i : Nat,i ≤ n ∧ iv = .int .i64 (i : Int) ∧ Hid (Below w9.heap.size w9 wr)) (fun iv _ => n - (intOf iv).toNat)
   case atStart => exact ⟨0,by omega,by go_num,Lib.hid (Below.refl _ _)⟩
   case round =>
    obtain ⟨i,hi,rfl,HBr⟩ := hrel;obtain ⟨wo2,rfl⟩ : ∃ wo2 : World,wo2 = wr:=⟨_,rfl⟩;by_cases hlt : i < n
    ·obtain ⟨sp,ra,rc,rp,hsp,hrow⟩ := HVL.out i hlt
     have hir : i < R.length:=by rw [HRN.out]; exact hlt
     obtain ⟨tb,tf,hta, -, -,hc⟩ := (HR9.out.below HBr.out).cell (i:=i) hir;cases hta;have hri : R[i] = [.slice ra sp.darts rc,.int .i64 sp.score,.int .i64 sp.en.left,.int .i64 rp]:=by
      rw [List.getElem?_eq_getElem hir] at hrow
      exact Option.some.inj hrow
     rw [hri] at hc;have p0:=hc 0 (.slice ra sp.darts rc) rfl;have p1:=hc 1 (.int .i64 sp.score) rfl;have p2:=hc 2 (.int .i64 sp.en.left) rfl;rw [Nat.add_zero] at p0;have hh:=HIN.out i sp hsp;obtain ⟨u1,u2⟩ := (HG19.out.below HBr.out).cells hlt;obtain ⟨u3,u4⟩ := (HG29.out.below HBr.out).cells hlt;obtain ⟨u5,u6⟩ := (HG39.out.below HBr.out).cells hlt;obtain ⟨sc,hsc⟩ : ∃ z,sp.score = z:=⟨_,rfl⟩;obtain ⟨le,hle⟩ : ∃ z,sp.en.left = z:=⟨_,rfl⟩;obtain ⟨da,hda⟩ : ∃ z,sp.darts = z:=⟨_,rfl⟩;obtain ⟨a1,e1⟩ : ∃ z,(f1 i).1 = z:=⟨_,rfl⟩;obtain ⟨b1,e2⟩ : ∃ z,(f1 i).2 = z:=⟨_,rfl⟩;obtain ⟨a2,e3⟩ : ∃ z,(f2 i).1 = z:=⟨_,rfl⟩;obtain ⟨b2,e4⟩ : ∃ z,(f2 i).2 = z:=⟨_,rfl⟩;obtain ⟨a3,e5⟩ : ∃ z,(f3 i).1 = z:=⟨_,rfl⟩;obtain ⟨b3,e6⟩ : ∃ z,(f3 i).2 = z:=⟨_,rfl⟩;rw [hsc,hle,hda,e1,e2,e3,e4,e5,e6] at hh;rw [hda] at p0;rw [hsc] at p1;rw [hle] at p2;rw [e1] at u1;rw [e2] at u2;rw [e3] at u3;rw [e4] at u4;rw [e5] at u5;rw [e6] at u6;have HH:=Lib.hid hh;have hli : (i : Int) < (n : Int):=by omega
     have hwi : IntKind.i64.wrap ((i : Int) + 1) = (i : Int) + 1:=wrap_small _ (by omega) (by omega)
     clear hir hsp hrow hc hri hh hsc hle hda e1 e2 e3 e4 e5 e6;go_upto_region 27 with fail;refine wp_region_seqW (.is (.slice (some ⟨tb,tf,none⟩) n vc) :: .is (.int .i64 (i : Int)) :: .is (.pointer (some ⟨tb,tf + i * 4,none⟩)) :: .is (.pointer (some ⟨tb,tf + i * 4 + 1,none⟩)) :: .is (.int .i64 sc) :: .is (.slice (some ⟨g1,0,none⟩) n n) :: .is (.int .i64 (i : Int)) :: .is (.pointer (some ⟨g1,i * 2,none⟩)) :: .is (.agg #[.int .i64 a1,.int .i64 b1]) :: .is (.bool true) :: .is (.bool false) :: .is (.bool false) :: .is (.slice (some ⟨tb,tf,none⟩) n vc) :: .is (.int .i64 (i : Int)) :: .is (.pointer (some ⟨tb,tf + i * 4,none⟩)) :: .is (.pointer (some ⟨tb,tf + i * 4 + 2,none⟩)) :: .is (.int .i64 le) :: .is (.slice (some ⟨g2,0,none⟩) n n) :: .is (.int .i64 (i : Int)) :: .is (.pointer (some ⟨g2,i * 2,none⟩)) :: .is (.agg #[.int .i64 a2,.int .i64 b2]) :: .is (.bool true) :: .is (.bool false) :: .is (.bool false) :: .is (.bool false) :: .is (.slice (some ⟨tb,tf,none⟩) n vc) :: .is (.int .i64 (i : Int)) :: .is (.pointer (some ⟨tb,tf + i * 4,none⟩)) :: .is (.pointer (some ⟨tb,tf + i * 4,none⟩)) :: .is (.slice ra da rc) :: .is (.int .i64 (da : Int)) :: .is (.slice (some ⟨g3,0,none⟩) n n) :: .is (.int .i64 (i : Int)) :: .is (.pointer (some ⟨g3,i * 2,none⟩)) :: .is (.agg #[.int .i64 a3,.int .i64 b3]) :: .is (.bool true) :: .is (.bool false) :: .is (.bool false) :: []) rfl mix (by kernel_rfl) (by kernel_rfl) ?_
     iterate 9
      refine seq_on (by rfl) (fun w4 hb4 _ => ?_) ?_
      ·have p1':=bAt hb4 p1
       have u1':=bAt hb4 u1;have u2':=bAt hb4 u2;simp [opOK,go_sem,p1',u1',u2',hli,Below.refl]
       try exact rfl
      simp only [Act.put,List.setIfInBounds_toArray,List.set_cons_succ,List.set_cons_zero]
     refine seq_on (by rfl) (fun w4 hb4 _ => ?_) ?_
     ·refine opOK_call (f:=11) (args:=#[.int .i64 sc,.agg #[.int .i64 a1,.int .i64 b1]]) (by simp [go_sem]) ?_
      refine (armIn_yes HH.out.1 w4).mono ?_
      rintro e w' ⟨rfl,hbi⟩;exact ⟨_,rfl,rfl,hbi⟩
     simp only [Act.put,List.setIfInBounds_toArray,List.set_cons_succ,List.set_cons_zero]
     iterate 11
      refine seq_on (by rfl) (fun w4 hb4 _ => ?_) ?_
      ·have p2':=bAt hb4 p2
       have u3':=bAt hb4 u3;have u4':=bAt hb4 u4;simp [opOK,go_sem,p2',u3',u4',hli,Below.refl]
       try exact rfl
      simp only [Act.put,List.setIfInBounds_toArray,List.set_cons_succ,List.set_cons_zero]
     refine seq_on (by rfl) (fun w4 hb4 _ => ?_) ?_
     ·refine opOK_call (f:=11) (args:=#[.int .i64 le,.agg #[.int .i64 a2,.int .i64 b2]]) (by simp [go_sem]) ?_
      refine (armIn_yes HH.out.2.1 w4).mono ?_
      rintro e w' ⟨rfl,hbi⟩;exact ⟨_,rfl,rfl,hbi⟩
     simp only [Act.put,List.setIfInBounds_toArray,List.set_cons_succ,List.set_cons_zero]
     iterate 13
      refine seq_on (by rfl) (fun w4 hb4 _ => ?_) ?_
      ·have p0':=bAt hb4 p0
       have u5':=bAt hb4 u5;have u6':=bAt hb4 u6;simp [opOK,go_sem,p0',u5',u6',hli,Below.refl]
       try exact rfl
      simp only [Act.put,List.setIfInBounds_toArray,List.set_cons_succ,List.set_cons_zero]
     refine seq_on (by rfl) (fun w4 hb4 _ => ?_) ?_
     ·refine opOK_call (f:=11) (args:=#[.int .i64 (da : Int),.agg #[.int .i64 a3,.int .i64 b3]]) (by simp [go_sem]) ?_
      refine (armIn_yes HH.out.2.2 w4).mono ?_
      rintro e w' ⟨rfl,hbi⟩;exact ⟨_,rfl,rfl,hbi⟩
     simp only [Act.put,List.setIfInBounds_toArray,List.set_cons_succ,List.set_cons_zero]
     iterate 2
      refine seq_on (by rfl) (fun w4 hb4 _ => ?_) ?_
      ·have p0':=bAt hb4 p0
       simp [opOK,go_sem,p0',hli,Below.refl]
       try exact rfl
      simp only [Act.put,List.setIfInBounds_toArray,List.set_cons_succ,List.set_cons_zero]
     refine seq_end fun w4 hb4 hH => ?_
     have HB4:=Lib.hid (bThen HBr.out hb4);clear hH hb4 p0 p1 p2 u1 u2 u3 u4 u5 u6;go_wp2_with fail;go_roundw
     case rel => exact ⟨i + 1,by omega,by go_num,HB4⟩
     case measure => simp [intOf]; omega
    ·obtain rfl : n = i:=by omega
     obtain ⟨wx,rfl⟩ : ∃ y : World,y = wo2:=⟨_,rfl⟩;have hbx:=HBr.out;clear HBr HG19 HG29 HG39 HIN HF HVL;have HGBx : Hid (D ≤ g ∧ g < wx.heap.size):=Lib.hid ⟨HGB9.out.1,Nat.lt_of_lt_of_le HGB9.out.2 hbx.size⟩;have HBDx : Hid (Below D w8 wx):=Lib.hid (HBD9.out.trans (hbx.mono (by have:=HGB9.out; omega)))
     have HBx:=Lib.hid (bThen HB9.out hbx);have HBSx:=Lib.hid (HBS9.out.below hbx);have HTx:=Lib.hid (HT9.out.below hbx);have HSLx:=Lib.hid (HSL9.out.below hbx);have HOx:=Lib.hid (ownsN_below HO9.out hbx);have c0:=bAt hbx c0;have c1:=bAt hbx c1;have c2:=bAt hbx c2;have c3:=bAt hbx c3;have c4:=bAt hbx c4;have c5:=bAt hbx c5;have c6:=bAt hbx c6;clear HB9 HBS9 HT9 HSL9 HO9;clear hbx HR9 HGB9 HBD9;obtain ⟨q,hq⟩ : ∃ q,lieI x = q:=⟨_,rfl⟩;have hqn : q < n:=by rw [← hq,← HLN.out,← HLI.out]; exact lieI_lt x
     have hqm : x.lie.tmod (n : Int) = (q : Int):=by
      have hl0:=HX.out.lie.1;have h1 : lieI x = x.lie.toNat % n:=by unfold lieI; rw [HLI.out,HLN.out]
      have he : x.lie = ((x.lie.toNat : Nat) : Int):=(Int.toNat_of_nonneg hl0).symm;rw [Int.tmod_eq_emod_of_nonneg hl0,← hq,h1,Int.natCast_emod,← he]
     have HQ:=Lib.hid hq;have hn0 : ¬ (n : Int) = 0:=by omega
     have hqi : (q : Int) < (n : Int):=by omega
     have hwl : IntKind.i64.wrap x.lie = x.lie:=wrap_small _ (by have:=HX.out.lie; omega) (by have:=HX.out.lie; omega)
     have hql : q < list.length:=by rw [HLN.out]; exact hqn
     obtain ⟨⟨rt,rs,rl⟩,hr⟩ : ∃ r,list[q]? = some r:=⟨_,List.getElem?_eq_getElem hql⟩
     have hrb : (-1 ≤ rs ∧ rs ≤ 40) ∧ (-1 ≤ rl ∧ rl ≤ 40):=by
      have:=bad_said x ⟨rt,rs,rl⟩ (by rw [HLI.out]; exact List.mem_of_getElem? hr)
      exact this.2
     have HLD : Hid (liedH x = list.set q (bentR x ⟨rt,rs,rl⟩)):=Lib.hid (by
      unfold liedH;rw [HLI.out,HQ.out,List.getD_eq_getElem?_getD,hr]; rfl)
     obtain ⟨p0,p1,p2⟩ := rp_cells HSLx.out hr;rw [Nat.zero_add] at p0 p1 p2;have fr1 : wx.frozen? ⟨g,q * 3 + 1,none⟩ = false:=own_frozen HOx.out;have fr2 : wx.frozen? ⟨g,q * 3 + 2,none⟩ = false:=own_frozen HOx.out;obtain ⟨ld,hld⟩ : ∃ z,x.lie / 8 = z:=⟨_,rfl⟩;have hl8 : x.lie.tdiv 8 = ld:=by rw [Int.tdiv_eq_ediv_of_nonneg HX.out.lie.1]; exact hld
     have hldb : 0 ≤ ld ∧ ld ≤ 32:=by have:=HX.out.lie; omega
     have hwd : IntKind.i64.wrap ld = ld:=wrap_small _ (by omega) (by omega)
     have HLDV:=Lib.hid hld;have HRQ:=Lib.hid hr;clear hq hr hld hql;by_cases hs0 : 0 ≤ rs
     ·skip
      have ds : decide (0 ≤ rs) = true:=decide_eq_true hs0;obtain ⟨nv,hnv⟩ : ∃ z,(rs + 1 + ld) % 30 = z:=⟨_,rfl⟩;have hw1 : IntKind.i64.wrap (rs + 1) = rs + 1:=wrap_small _ (by omega) (by omega)
      have hw2 : IntKind.i64.wrap (rs + 1 + ld) = rs + 1 + ld:=wrap_small _ (by omega) (by omega)
      have hm30 : (rs + 1 + ld).tmod 30 = nv:=by rw [Int.tmod_eq_emod_of_nonneg (by omega)]; exact hnv
      have hnvb : 0 ≤ nv ∧ nv < 30:=by omega
      have hwn : IntKind.i64.wrap nv = nv:=wrap_small _ (by omega) (by omega)
      have HBE : Hid (bentR x ⟨rt,rs,rl⟩ = ⟨rt,nv,rl⟩):=Lib.hid (by unfold bentR; rw [if_pos hs0]; simp only [HLDV.out,hnv])
      obtain ⟨list2,hl2⟩ : ∃ y,liedH x = y:=⟨_,rfl⟩;have HL2:=Lib.hid hl2;have hl3 : list2 = list.set q ⟨rt,nv,rl⟩ := by rw [← hl2,HLD.out,HBE.out]
      have HLN2 : Hid (list2.length = n):=Lib.hid (by rw [hl3,List.length_set]; exact HLN.out)
      have HBAD2 : Hid (∀ r ∈ list2,badR l.turns r = false):=Lib.hid (by rw [← hl2,← HL.out]; exact bad_of x (bad_lied x))
      have HE2 : Hid (blameE l list2 = 0):=Lib.hid (blameE_zero HCK.out (by rw [HLN2.out]; omega) HBAD2.out)
      obtain ⟨w2,hw2e⟩ : ∃ y,wx.setCell ⟨g,q * 3 + 1,none⟩ (.int .i64 nv) = y:=⟨_,rfl⟩;have hst:=HOx.out.stored (q * 3 + 1) (.int .i64 nv);rw [hw2e] at hst;have HO2 : Hid (w2.ownsRow D 58 3 (.slice (some ⟨g,0,none⟩) n oc) n ((list2.map rpRow).flatten)):=Lib.hid (by rw [hl3,rp_setS nv HRQ.out]; exact hst.1)
      have hg2:=hst.2;have HSL2 : Hid (SlN 3 (fun q => D ≤ q) w2 (.slice (some ⟨g,0,none⟩) n oc) (list2.map rpRow)):=Lib.hid (rows_sl HO2.out HLN2.out)
      have hb82 : Below w8.heap.size w8 w2:=by
       rw [HD.out,← hw2e];exact HBDx.out.setCell (p:=⟨g,q * 3 + 1,none⟩) HGBx.out.1 _
      have HB2:=Lib.hid (bThen HB8.out hb82);have HT2:=Lib.hid (HT8.out.below hb82);have HBS2:=Lib.hid (HBS8.out.below hb82);have hbk : w2.heap[D + 1]? = wx.heap[D + 1]? := hg2.block (D + 1) (World.block_lt_of_cell? wx _ c0) (fun e => HGD.out (Option.some.inj e).symm)
      have c0:=(World.cell?_of_block (w:=wx) hbk).trans c0
      have c1:=(World.cell?_of_block (w:=wx) hbk).trans c1
      have c2:=(World.cell?_of_block (w:=wx) hbk).trans c2
      have c3:=(World.cell?_of_block (w:=wx) hbk).trans c3
      have c4:=(World.cell?_of_block (w:=wx) hbk).trans c4
      have c5:=(World.cell?_of_block (w:=wx) hbk).trans c5
      have c6:=(World.cell?_of_block (w:=wx) hbk).trans c6
      have HW2:=Lib.hid hw2e;clear hl2 hl3 hst hg2 hbk hb82 hw2e HOx HSLx HBSx HTx HBx HBDx p0 hnvb hnv HBS8 HT8 HB8;go_upto_region 31 with fail;go_upto_region 33 with fail;rw [HW2.out];clear p1 p2 fr1 fr2 HW2;go_upto_region 33 with fail;refine wp_region_seqW (.is (.agg #[.int .i64 v0,.int .i64 v1,.int .i64 v2,.slice ba 10 bc,.int .i64 2,.int .i64 (n : Int),.bool wn]) :: kEmp :: .is (.slice (some ⟨g,0,none⟩) n oc) :: kTold list2 n :: kSetsT (Blames l list2) :: kSetsT (Blames l list2) :: kSets (Blames l list2) :: .is (.int .i64 0) :: kSets (Blames l list2) :: .is (.int .i64 0) :: []) rfl mix (by kernel_rfl) (by kernel_rfl) ?_
      refine seq_on (by rfl) (fun wr hbr _ => ?_) ?_
      ·have c0':=bAt hbr c0
       have c1':=bAt hbr c1;have c2':=bAt hbr c2;have c3':=bAt hbr c3;have c4':=bAt hbr c4;have c5':=bAt hbr c5;have c6':=bAt hbr c6;simp [opOK,go_sem,c0',c1',c2',c3',c4',c5',c6',Below.refl]
       try exact rfl
      simp only [Act.put,List.setIfInBounds_toArray,List.set_cons_succ,List.set_cons_zero];refine seq_new ⟨_,0,rfl⟩ (by rfl) (fun wr hbr hH => ?_) ?_
      ·exact opOK_val (v:=.slice (some ⟨wr.heap.size,0,none⟩) 0 0) (w':=wr.alloc (.cells #[] 58)) (by simp [go_sem,execOp]) ⟨aB _ _,⟨_,rfl⟩,trivial⟩
      rintro _ ⟨qe,rfl⟩;simp only [Act.put,List.setIfInBounds_toArray,List.set_cons_succ,List.set_cons_zero];refine seq_on (by rfl) (fun wr hbr _ => ?_) ?_
      ·simp [opOK,go_sem,Below.refl]
       try exact rfl
      simp only [Act.put,List.setIfInBounds_toArray,List.set_cons_succ,List.set_cons_zero];refine seq_new ⟨_,none,0,rfl⟩ (by rfl) (fun wr hbr hH => ?_) ?_
      ·refine opOK_mono (opOK_copyB (.tmp 231) (.tmp 232) 54 rfl 58 (.agg #[.int .i64 0,.int .i64 0,.int .i64 0]) 3 24 Tryz.underlying54 info_rp rfl (by decide) qe rfl (.slice (some ⟨g,0,none⟩) n oc) (list2.map rpRow) rfl (HSL2.out.below hbr) (rp_one _) (by rw [List.length_map,HLN2.out]; omega) (by decide)) ?_
       rintro v' w' ⟨h1,h2⟩;obtain ⟨xa,y,rfl, -, -⟩ := h2.form;rw [List.length_map,HLN2.out] at h2 ⊢;exact ⟨h1,⟨xa,y,rfl⟩,xa,y,rfl,h2⟩
      rintro _ ⟨qo,qc,rfl⟩;simp only [Act.put,List.setIfInBounds_toArray,List.set_cons_succ,List.set_cons_zero];refine seq_new ⟨_,undef,rfl⟩ (by rfl) (fun wr hbr hH => ?_) ?_
      ·obtain ⟨xb,yb,e3,hs3⟩ := hH ⟨3,.data⟩ (by simp) rfl
       cases e3;refine opOK_call (f:=12) (args:=#[.agg #[.int .i64 v0,.int .i64 v1,.int .i64 v2,.slice ba 10 bc,.int .i64 2,.int .i64 (n : Int),.bool wn],.slice qo n qc]) (by simp [go_sem]) ?_
       have ht:=blamesIs l (.slice ba 10 bc) (.slice qo n qc) list2 wr (by rw [HLB.out]; exact HBS2.out.below hbr) HBI.out hs3 (by rw [HLN2.out]; omega) (HT2.out.below hbr) HE2.out
       rw [HLV.out] at ht;refine ht.mono ?_
       rintro e w' ⟨u,rfl,hb',o',hP,hs'⟩;exact ⟨_,rfl,hb',⟨u,rfl⟩,u,o',rfl,hP,hs'⟩
      rintro _ ⟨ut,rfl⟩;simp only [Act.put,List.setIfInBounds_toArray,List.set_cons_succ,List.set_cons_zero];refine seq_new ⟨_,undef,rfl⟩ (by rfl) (fun wr hbr hH => ?_) ?_
      ·have h4:=hH ⟨4,.data⟩ (by simp) rfl
       exact opOK_val (v:=.tuple #[ut,.int .i64 0]) (w':=wr) (by simp [go_sem,execOp]) ⟨Below.refl _ _,⟨ut,rfl⟩,h4⟩
      rintro _ ⟨um,rfl⟩;simp only [Act.put,List.setIfInBounds_toArray,List.set_cons_succ,List.set_cons_zero];refine seq_new ⟨undef,trivial⟩ (by rfl) (fun wr hbr hH => ?_) ?_
      ·obtain ⟨u,o',e1,hP,hs'⟩ := hH ⟨5,.data⟩ (by simp) rfl
       cases e1;exact opOK_val (v:=um) (w':=wr) (by simp [go_sem,execOp]) ⟨Below.refl _ _,trivial,o',hP,hs'⟩
      rintro ue -;simp only [Act.put,List.setIfInBounds_toArray,List.set_cons_succ,List.set_cons_zero];refine seq_on (by rfl) (fun wr hbr _ => ?_) ?_
      ·simp [opOK,go_sem,Below.refl]
       try exact rfl
      simp only [Act.put,List.setIfInBounds_toArray,List.set_cons_succ,List.set_cons_zero];refine seq_new ⟨undef,trivial⟩ (by rfl) (fun wr hbr hH => ?_) ?_
      ·have h6:=hH ⟨6,.data⟩ (by simp) rfl
       exact opOK_val (v:=ue) (w':=wr) (by simp [go_sem,execOp]) ⟨Below.refl _ _,trivial,h6⟩
      rintro ua -;simp only [Act.put,List.setIfInBounds_toArray,List.set_cons_succ,List.set_cons_zero];refine seq_on (by rfl) (fun wr hbr _ => ?_) ?_
      ·simp [opOK,go_sem,Below.refl]
       try exact rfl
      simp only [Act.put,List.setIfInBounds_toArray,List.set_cons_succ,List.set_cons_zero];refine seq_end fun w3 hb3 hH => ?_
      obtain ⟨DS,hDS,hsl⟩ := hH 8 (by decide)
      obtain ⟨da,dc,rfl,hf1,hf2⟩ := hsl.form;rw [List.length_map] at hsl hf1 ⊢;obtain ⟨nd,hnd⟩ : ∃ n,DS.length = n:=⟨_,rfl⟩;rw [hnd] at hsl hf1 ⊢;unfold maxLen at hf2;have hnm : nd ≤ 2 ^ 63 - 1:=Nat.le_trans hf1 hf2;clear hf1 hf2;have HDS3:=Lib.hid hsl;have HND:=Lib.hid hnd;have HIN3 : Hid (∀ y ∈ DS,q ∈ y):=Lib.hid (by rw [← HQ.out]; exact lied_in_all x (by rw [HL.out,HL2.out]; exact hDS))
      have HNO3 : Hid (nd = 0 ↔ HasTruth l (allS list2)):=Lib.hid (by
       have h:=lied_none x (out:=DS) (by rw [HL.out,HL2.out]; exact hDS)
       rw [HL.out,HL2.out] at h;rw [← h,← hnd]; exact List.length_eq_zero_iff)
      clear hH hsl hDS hnd;have HB3:=Lib.hid (bThen HB2.out hb3);have HBS3:=Lib.hid (HBS2.out.below hb3);have HT3:=Lib.hid (HT2.out.below hb3);have HSL3:=Lib.hid (HSL2.out.below hb3);have c0:=bAt hb3 c0;have c1:=bAt hb3 c1;have c2:=bAt hb3 c2;have c3:=bAt hb3 c3;have c4:=bAt hb3 c4;have c5:=bAt hb3 c5;have c6:=bAt hb3 c6;clear HB2 HBS2 HT2 HSL2;clear hb3;obtain ⟨te,hte⟩ : ∃ z,truthE l list2 = z:=⟨_,rfl⟩;have HTE : Hid (te = 0 ↔ nd = 0):=Lib.hid (by
       rw [HNO3.out,← hte];constructor
       ·intro h
        refine Classical.byContradiction fun hn => ?_
        rw [truthE_nine HCK.out (by rw [HLN2.out]; omega) HBAD2.out hn] at h
        cases h
       ·intro h
        exact truthE_zero HCK.out (by rw [HLN2.out]; omega) HBAD2.out h)
      have HTV:=Lib.hid hte;clear hte HNO3;go_upto_region 34 with fail;refine wp_region_seqW (.is (.agg #[.int .i64 v0,.int .i64 v1,.int .i64 v2,.slice ba 10 bc,.int .i64 2,.int .i64 (n : Int),.bool wn]) :: kEmp :: .is (.slice (some ⟨g,0,none⟩) n oc) :: kTold list2 n :: kTe te :: kTe te :: kAny :: kAny :: kAny :: .is (.int .i64 te) :: kAny :: kAny :: kAny :: .is (.int .i64 te) :: []) rfl mix (by kernel_rfl) (by kernel_rfl) ?_
      refine seq_on (by rfl) (fun wr hbr _ => ?_) ?_
      ·have c0':=bAt hbr c0
       have c1':=bAt hbr c1;have c2':=bAt hbr c2;have c3':=bAt hbr c3;have c4':=bAt hbr c4;have c5':=bAt hbr c5;have c6':=bAt hbr c6;simp [opOK,go_sem,c0',c1',c2',c3',c4',c5',c6',Below.refl]
       try exact rfl
      simp only [Act.put,List.setIfInBounds_toArray,List.set_cons_succ,List.set_cons_zero];refine seq_new ⟨_,0,rfl⟩ (by rfl) (fun wr hbr hH => ?_) ?_
      ·exact opOK_val (v:=.slice (some ⟨wr.heap.size,0,none⟩) 0 0) (w':=wr.alloc (.cells #[] 58)) (by simp [go_sem,execOp]) ⟨aB _ _,⟨_,rfl⟩,trivial⟩
      rintro _ ⟨qe,rfl⟩;simp only [Act.put,List.setIfInBounds_toArray,List.set_cons_succ,List.set_cons_zero];refine seq_on (by rfl) (fun wr hbr _ => ?_) ?_
      ·simp [opOK,go_sem,Below.refl]
       try exact rfl
      simp only [Act.put,List.setIfInBounds_toArray,List.set_cons_succ,List.set_cons_zero];refine seq_new ⟨_,none,0,rfl⟩ (by rfl) (fun wr hbr hH => ?_) ?_
      ·refine opOK_mono (opOK_copyB (.tmp 239) (.tmp 240) 54 rfl 58 (.agg #[.int .i64 0,.int .i64 0,.int .i64 0]) 3 24 Tryz.underlying54 info_rp rfl (by decide) qe rfl (.slice (some ⟨g,0,none⟩) n oc) (list2.map rpRow) rfl (HSL3.out.below hbr) (rp_one _) (by rw [List.length_map,HLN2.out]; omega) (by decide)) ?_
       rintro v' w' ⟨h1,h2⟩;obtain ⟨xa,y,rfl, -, -⟩ := h2.form;rw [List.length_map,HLN2.out] at h2 ⊢;exact ⟨h1,⟨xa,y,rfl⟩,xa,y,rfl,h2⟩
      rintro _ ⟨qo,qc,rfl⟩;simp only [Act.put,List.setIfInBounds_toArray,List.set_cons_succ,List.set_cons_zero];refine seq_new ⟨_,undef,undef,undef,rfl⟩ (by rfl) (fun wr hbr hH => ?_) ?_
      ·obtain ⟨xb,yb,e3,hs3⟩ := hH ⟨3,.data⟩ (by simp) rfl
       cases e3;refine opOK_call (f:=10) (args:=#[.agg #[.int .i64 v0,.int .i64 v1,.int .i64 v2,.slice ba 10 bc,.int .i64 2,.int .i64 (n : Int),.bool wn],.slice qo n qc]) (by simp [go_sem]) ?_
       have ht:=truth_any l (.slice ba 10 bc) (.slice qo n qc) list2 wr (by rw [HLB.out]; exact HBS3.out.below hbr) HBI.out hs3
       rw [HLV.out,HTV.out] at ht;refine ht.mono ?_
       rintro e w' ⟨t1,t2,t3,rfl,hb', -, -⟩;exact ⟨_,rfl,hb',⟨t1,t2,t3,rfl⟩,trivial⟩
      rintro _ ⟨t1,t2,t3,rfl⟩;simp only [Act.put,List.setIfInBounds_toArray,List.set_cons_succ,List.set_cons_zero];refine seq_new ⟨_,undef,undef,undef,rfl⟩ (by rfl) (fun wr hbr hH => ?_) ?_
      ·exact opOK_val (v:=.tuple #[t1,t2,t3,.int .i64 te]) (w':=wr) (by simp [go_sem,execOp]) ⟨Below.refl _ _,⟨_,_,_,rfl⟩,trivial⟩
      rintro _ ⟨s1,s2,s3,rfl⟩;simp only [Act.put,List.setIfInBounds_toArray,List.set_cons_succ,List.set_cons_zero];refine seq_new ⟨undef,trivial⟩ (by rfl) (fun wr hbr hH => ?_) ?_
      ·exact opOK_val (v:=s1) (w':=wr) (by simp [go_sem,execOp]) ⟨Below.refl _ _,trivial,trivial⟩
      rintro e1 -;simp only [Act.put,List.setIfInBounds_toArray,List.set_cons_succ,List.set_cons_zero];refine seq_new ⟨undef,trivial⟩ (by rfl) (fun wr hbr hH => ?_) ?_
      ·exact opOK_val (v:=s2) (w':=wr) (by simp [go_sem,execOp]) ⟨Below.refl _ _,trivial,trivial⟩
      rintro e2 -;simp only [Act.put,List.setIfInBounds_toArray,List.set_cons_succ,List.set_cons_zero];refine seq_new ⟨undef,trivial⟩ (by rfl) (fun wr hbr hH => ?_) ?_
      ·exact opOK_val (v:=s3) (w':=wr) (by simp [go_sem,execOp]) ⟨Below.refl _ _,trivial,trivial⟩
      rintro e3 -;simp only [Act.put,List.setIfInBounds_toArray,List.set_cons_succ,List.set_cons_zero];refine seq_on (by rfl) (fun wr hbr _ => ?_) ?_
      ·simp [opOK,go_sem,Below.refl]
       try exact rfl
      simp only [Act.put,List.setIfInBounds_toArray,List.set_cons_succ,List.set_cons_zero];refine seq_new ⟨undef,trivial⟩ (by rfl) (fun wr hbr hH => ?_) ?_
      ·exact opOK_val (v:=e1) (w':=wr) (by simp [go_sem,execOp]) ⟨Below.refl _ _,trivial,trivial⟩
      rintro z1 -;simp only [Act.put,List.setIfInBounds_toArray,List.set_cons_succ,List.set_cons_zero];refine seq_new ⟨undef,trivial⟩ (by rfl) (fun wr hbr hH => ?_) ?_
      ·exact opOK_val (v:=e2) (w':=wr) (by simp [go_sem,execOp]) ⟨Below.refl _ _,trivial,trivial⟩
      rintro z2 -;simp only [Act.put,List.setIfInBounds_toArray,List.set_cons_succ,List.set_cons_zero];refine seq_new ⟨undef,trivial⟩ (by rfl) (fun wr hbr hH => ?_) ?_
      ·exact opOK_val (v:=e3) (w':=wr) (by simp [go_sem,execOp]) ⟨Below.refl _ _,trivial,trivial⟩
      rintro z3 -;simp only [Act.put,List.setIfInBounds_toArray,List.set_cons_succ,List.set_cons_zero];refine seq_on (by rfl) (fun wr hbr _ => ?_) ?_
      ·simp [opOK,go_sem,Below.refl]
       try exact rfl
      simp only [Act.put,List.setIfInBounds_toArray,List.set_cons_succ,List.set_cons_zero];refine seq_end fun w4 hb4 hH => ?_
      clear hH;have HB4:=Lib.hid (bThen HB3.out hb4);have HDS4:=Lib.hid (HDS3.out.below hb4);clear hb4 HB3 HDS3 HBS3 HT3 HSL3 c0 c1 c2 c3 c4 c5 c6;go_upto_region 35 with fail;go_cut [256] from 247 to 255 (fun v wx => v = .bool false ∧ wx = w4)
      case first =>
       by_cases hz : nd = 0
       ·obtain rfl : te = 0:=HTE.out.2 hz
        obtain rfl : nd = 0:=hz;go_wp2_with fail
        go_meet
        case rel => exact ⟨rfl,rfl⟩
       ·have h1 : (te == 0) = false:=beq_eq_false_iff_ne.2 fun h => hz (HTE.out.1 h)
        have h2 : (nd == 0) = false:=beq_eq_false_iff_ne.2 hz;have h3 : ((nd : Int) == 0) = false:=beq_eq_false_iff_ne.2 (by omega)
        clear hz;go_wp2_with fail
        go_meet
        case rel => exact ⟨rfl,rfl⟩
      case rest =>
      obtain ⟨rfl,hwc⟩ := hcut;subst hwc;obtain ⟨w4,rfl⟩ : ∃ y : World,y = wc:=⟨_,rfl⟩;go_wp2_with fail;go_loopw [28] (fun iv wr => ∃ i : Nat,i ≤ nd ∧ iv = .int .i64 (i : Int) ∧ Hid (Below w4.heap.size w4 wr)) (fun iv _ => nd - (intOf iv).toNat)
      case atStart => exact ⟨0,by omega,by go_num,Lib.hid (Below.refl _ _)⟩
      case round =>
       --@P
       obtain ⟨i,hi,rfl,HBr⟩ := hrel;obtain ⟨wb,rfl⟩ : ∃ y : World,y = wr:=⟨_,rfl⟩
       --@Q
       by_cases hlt : i < nd
       ·obtain ⟨y,hy⟩ : ∃ y,DS[i]? = some y:=⟨_,List.getElem?_eq_getElem (by rw [HND.out]; exact hlt)⟩
        obtain ⟨b,off,xa,xc,hda,hcb,hys⟩ := sets_at (HDS4.out.below HBr.out) hy;cases hda
        --@S
        have hqy:=HIN3.out y (List.mem_of_getElem? hy);obtain ⟨ny,hny⟩ : ∃ m,y.length = m:=⟨_,rfl⟩;rw [hny] at hcb hys;obtain ⟨_,_,hfx,hf1,hf2⟩ := hys.form;have hnl : (ints (nInts y)).length = ny:=by simp [nInts,hny]
        rw [hnl] at hf1;unfold maxLen at hf2;have hnym : ny ≤ 2 ^ 63 - 1:=Nat.le_trans hf1 hf2;have HYS:=Lib.hid hys;have HNY:=Lib.hid hny;have HQY:=Lib.hid hqy;have hid : (i : Int) < (nd : Int):=by omega
        have hwi : IntKind.i64.wrap ((i : Int) + 1) = (i : Int) + 1:=wrap_small _ (by omega) (by omega)
        clear hy hys hqy hny hf1 hf2 hnl hfx
        --@K
        go_wp2_with fail;go_loopw [29,30] (fun fv jv wr => ∃ (j : Nat) (fb : Bool),j ≤ ny ∧ fv = .bool fb ∧ jv = .int .i64 (j : Int) ∧ Hid (fb = true ↔ q ∈ y.take j) ∧ wr = wb) (fun _ jv _ => ny - (intOf jv).toNat)
        case atStart => exact ⟨0,false,by omega,rfl,by go_num,Lib.hid (by simp),rfl⟩
        case round =>
         obtain ⟨j,fb,hj,rfl,rfl,HFB,hwr⟩ := hrel;subst hwr;by_cases hjt : j < ny
         ·have hjl : j < y.length:=by rw [HNY.out]; exact hjt
          obtain ⟨z,hz⟩ : ∃ z,y[j]? = some z:=⟨_,List.getElem?_eq_getElem hjl⟩
          have hzi : (ints (nInts y))[j]? = some (.int .i64 (z : Int)):=by simp [nInts,ints,hz]
          obtain ⟨yb,yo,hxa, -,hcz⟩ := Sl.at_ HYS.out hzi;cases hxa;have HZJ:=Lib.hid hz;have hij : (j : Int) < (ny : Int):=by omega
          have hwj : IntKind.i64.wrap ((j : Int) + 1) = (j : Int) + 1:=wrap_small _ (by omega) (by omega)
          have HTK : Hid (y.take (j + 1) = y.take j ++ [z]):=Lib.hid (by rw [List.take_add_one,hz]; rfl)
          clear hz hzi hjl
          --@L
          cases fb with
          | true =>
           have HF2 : Hid (true = true ↔ q ∈ y.take (j + 1)):=Lib.hid ⟨fun _ => by rw [HTK.out]; exact List.mem_append_left _ (HFB.out.1 rfl),fun _ => rfl⟩
           go_wp2_with fail;go_roundw
           case rel => exact ⟨j + 1,true,by omega,rfl,by go_num,HF2,by first | rfl | trivial⟩
           case measure => simp [intOf]; omega
          | false =>
           obtain ⟨eb,heb⟩ : ∃ e,((z : Int) == (q : Int)) = e:=⟨_,rfl⟩;have heb2 : (z == q) = eb:=by rw [← heb,Bool.eq_iff_iff,beq_iff_eq,beq_iff_eq]; omega
           have HF2 : Hid (eb = true ↔ q ∈ y.take (j + 1)):=Lib.hid (by
            rw [HTK.out,List.mem_append,List.mem_singleton,← heb2,beq_iff_eq];constructor
            ·exact fun h => .inr h.symm
            ·rintro (h | h)
             ·exact absurd (HFB.out.2 h) (by decide)
             ·exact h.symm)
           go_wp2_with fail;go_roundw
           case rel => exact ⟨j + 1,eb,by omega,rfl,by go_num,HF2,by first | rfl | trivial⟩
           case measure => simp [intOf]; omega
         ·obtain rfl : ny = j:=by omega
          obtain rfl : fb = true:=HFB.out.2 (by rw [List.take_of_length_le (by rw [HNY.out]; exact Nat.le_refl _)]; exact HQY.out)
          go_wp2_with fail;go_roundw
          case rel => exact ⟨i + 1,by omega,by go_num,HBr⟩
          case measure => simp [intOf]; omega
       ·obtain rfl : nd = i:=by omega
        obtain ⟨w5,rfl⟩ : ∃ y : World,y = wb:=⟨_,rfl⟩;have HB5:=Lib.hid (bThen HB4.out HBr.out);clear HBr;go_wp2_with fail;refine (armKnownOut_any w5).mono ?_
        rintro e w6 ⟨rfl,hb6⟩;have HB6:=Lib.hid (bThen HB5.out hb6);clear hb6;go_wp2_with fail;refine (armKnownHeard_any w6).mono ?_
        rintro e w7 ⟨rfl,hb7⟩;have HB7:=Lib.hid (bThen HB6.out hb7);clear hb7;go_wp2;go_returns;exact ⟨rfl,HB7.out⟩
     ·skip
      have ds : decide (0 ≤ rs) = false:=decide_eq_false hs0;obtain ⟨nv,hnv⟩ : ∃ z,(rl + 1 + ld) % 30 = z:=⟨_,rfl⟩;have hw1 : IntKind.i64.wrap (rl + 1) = rl + 1:=wrap_small _ (by omega) (by omega)
      have hw2 : IntKind.i64.wrap (rl + 1 + ld) = rl + 1 + ld:=wrap_small _ (by omega) (by omega)
      have hm30 : (rl + 1 + ld).tmod 30 = nv:=by rw [Int.tmod_eq_emod_of_nonneg (by omega)]; exact hnv
      have hnvb : 0 ≤ nv ∧ nv < 30:=by omega
      have hwn : IntKind.i64.wrap nv = nv:=wrap_small _ (by omega) (by omega)
      have HBE : Hid (bentR x ⟨rt,rs,rl⟩ = ⟨rt,rs,nv⟩):=Lib.hid (by unfold bentR; rw [if_neg hs0]; simp only [HLDV.out,hnv])
      obtain ⟨list2,hl2⟩ : ∃ y,liedH x = y:=⟨_,rfl⟩;have HL2:=Lib.hid hl2;have hl3 : list2 = list.set q ⟨rt,rs,nv⟩ := by rw [← hl2,HLD.out,HBE.out]
      have HLN2 : Hid (list2.length = n):=Lib.hid (by rw [hl3,List.length_set]; exact HLN.out)
      have HBAD2 : Hid (∀ r ∈ list2,badR l.turns r = false):=Lib.hid (by rw [← hl2,← HL.out]; exact bad_of x (bad_lied x))
      have HE2 : Hid (blameE l list2 = 0):=Lib.hid (blameE_zero HCK.out (by rw [HLN2.out]; omega) HBAD2.out)
      obtain ⟨w2,hw2e⟩ : ∃ y,wx.setCell ⟨g,q * 3 + 2,none⟩ (.int .i64 nv) = y:=⟨_,rfl⟩;have hst:=HOx.out.stored (q * 3 + 2) (.int .i64 nv);rw [hw2e] at hst;have HO2 : Hid (w2.ownsRow D 58 3 (.slice (some ⟨g,0,none⟩) n oc) n ((list2.map rpRow).flatten)):=Lib.hid (by rw [hl3,rp_setL nv HRQ.out]; exact hst.1)
      have hg2:=hst.2;have HSL2 : Hid (SlN 3 (fun q => D ≤ q) w2 (.slice (some ⟨g,0,none⟩) n oc) (list2.map rpRow)):=Lib.hid (rows_sl HO2.out HLN2.out)
      have hb82 : Below w8.heap.size w8 w2:=by
       rw [HD.out,← hw2e];exact HBDx.out.setCell (p:=⟨g,q * 3 + 2,none⟩) HGBx.out.1 _
      have HB2:=Lib.hid (bThen HB8.out hb82);have HT2:=Lib.hid (HT8.out.below hb82);have HBS2:=Lib.hid (HBS8.out.below hb82);have hbk : w2.heap[D + 1]? = wx.heap[D + 1]? := hg2.block (D + 1) (World.block_lt_of_cell? wx _ c0) (fun e => HGD.out (Option.some.inj e).symm)
      have c0:=(World.cell?_of_block (w:=wx) hbk).trans c0
      have c1:=(World.cell?_of_block (w:=wx) hbk).trans c1
      have c2:=(World.cell?_of_block (w:=wx) hbk).trans c2
      have c3:=(World.cell?_of_block (w:=wx) hbk).trans c3
      have c4:=(World.cell?_of_block (w:=wx) hbk).trans c4
      have c5:=(World.cell?_of_block (w:=wx) hbk).trans c5
      have c6:=(World.cell?_of_block (w:=wx) hbk).trans c6
      have HW2:=Lib.hid hw2e;clear hl2 hl3 hst hg2 hbk hb82 hw2e HOx HSLx HBSx HTx HBx HBDx p0 hnvb hnv HBS8 HT8 HB8;go_upto_region 32 with fail;go_upto_region 33 with fail;rw [HW2.out];clear p1 p2 fr1 fr2 HW2;go_upto_region 33 with fail;refine wp_region_seqW (.is (.agg #[.int .i64 v0,.int .i64 v1,.int .i64 v2,.slice ba 10 bc,.int .i64 2,.int .i64 (n : Int),.bool wn]) :: kEmp :: .is (.slice (some ⟨g,0,none⟩) n oc) :: kTold list2 n :: kSetsT (Blames l list2) :: kSetsT (Blames l list2) :: kSets (Blames l list2) :: .is (.int .i64 0) :: kSets (Blames l list2) :: .is (.int .i64 0) :: []) rfl mix (by kernel_rfl) (by kernel_rfl) ?_
      refine seq_on (by rfl) (fun wr hbr _ => ?_) ?_
      ·have c0':=bAt hbr c0
       have c1':=bAt hbr c1;have c2':=bAt hbr c2;have c3':=bAt hbr c3;have c4':=bAt hbr c4;have c5':=bAt hbr c5;have c6':=bAt hbr c6;simp [opOK,go_sem,c0',c1',c2',c3',c4',c5',c6',Below.refl]
       try exact rfl
      simp only [Act.put,List.setIfInBounds_toArray,List.set_cons_succ,List.set_cons_zero];refine seq_new ⟨_,0,rfl⟩ (by rfl) (fun wr hbr hH => ?_) ?_
      ·exact opOK_val (v:=.slice (some ⟨wr.heap.size,0,none⟩) 0 0) (w':=wr.alloc (.cells #[] 58)) (by simp [go_sem,execOp]) ⟨aB _ _,⟨_,rfl⟩,trivial⟩
      rintro _ ⟨qe,rfl⟩;simp only [Act.put,List.setIfInBounds_toArray,List.set_cons_succ,List.set_cons_zero];refine seq_on (by rfl) (fun wr hbr _ => ?_) ?_
      ·simp [opOK,go_sem,Below.refl]
       try exact rfl
      simp only [Act.put,List.setIfInBounds_toArray,List.set_cons_succ,List.set_cons_zero];refine seq_new ⟨_,none,0,rfl⟩ (by rfl) (fun wr hbr hH => ?_) ?_
      ·refine opOK_mono (opOK_copyB (.tmp 231) (.tmp 232) 54 rfl 58 (.agg #[.int .i64 0,.int .i64 0,.int .i64 0]) 3 24 Tryz.underlying54 info_rp rfl (by decide) qe rfl (.slice (some ⟨g,0,none⟩) n oc) (list2.map rpRow) rfl (HSL2.out.below hbr) (rp_one _) (by rw [List.length_map,HLN2.out]; omega) (by decide)) ?_
       rintro v' w' ⟨h1,h2⟩;obtain ⟨xa,y,rfl, -, -⟩ := h2.form;rw [List.length_map,HLN2.out] at h2 ⊢;exact ⟨h1,⟨xa,y,rfl⟩,xa,y,rfl,h2⟩
      rintro _ ⟨qo,qc,rfl⟩;simp only [Act.put,List.setIfInBounds_toArray,List.set_cons_succ,List.set_cons_zero];refine seq_new ⟨_,undef,rfl⟩ (by rfl) (fun wr hbr hH => ?_) ?_
      ·obtain ⟨xb,yb,e3,hs3⟩ := hH ⟨3,.data⟩ (by simp) rfl
       cases e3;refine opOK_call (f:=12) (args:=#[.agg #[.int .i64 v0,.int .i64 v1,.int .i64 v2,.slice ba 10 bc,.int .i64 2,.int .i64 (n : Int),.bool wn],.slice qo n qc]) (by simp [go_sem]) ?_
       have ht:=blamesIs l (.slice ba 10 bc) (.slice qo n qc) list2 wr (by rw [HLB.out]; exact HBS2.out.below hbr) HBI.out hs3 (by rw [HLN2.out]; omega) (HT2.out.below hbr) HE2.out
       rw [HLV.out] at ht;refine ht.mono ?_
       rintro e w' ⟨u,rfl,hb',o',hP,hs'⟩;exact ⟨_,rfl,hb',⟨u,rfl⟩,u,o',rfl,hP,hs'⟩
      rintro _ ⟨ut,rfl⟩;simp only [Act.put,List.setIfInBounds_toArray,List.set_cons_succ,List.set_cons_zero];refine seq_new ⟨_,undef,rfl⟩ (by rfl) (fun wr hbr hH => ?_) ?_
      ·have h4:=hH ⟨4,.data⟩ (by simp) rfl
       exact opOK_val (v:=.tuple #[ut,.int .i64 0]) (w':=wr) (by simp [go_sem,execOp]) ⟨Below.refl _ _,⟨ut,rfl⟩,h4⟩
      rintro _ ⟨um,rfl⟩;simp only [Act.put,List.setIfInBounds_toArray,List.set_cons_succ,List.set_cons_zero];refine seq_new ⟨undef,trivial⟩ (by rfl) (fun wr hbr hH => ?_) ?_
      ·obtain ⟨u,o',e1,hP,hs'⟩ := hH ⟨5,.data⟩ (by simp) rfl
       cases e1;exact opOK_val (v:=um) (w':=wr) (by simp [go_sem,execOp]) ⟨Below.refl _ _,trivial,o',hP,hs'⟩
      rintro ue -;simp only [Act.put,List.setIfInBounds_toArray,List.set_cons_succ,List.set_cons_zero];refine seq_on (by rfl) (fun wr hbr _ => ?_) ?_
      ·simp [opOK,go_sem,Below.refl]
       try exact rfl
      simp only [Act.put,List.setIfInBounds_toArray,List.set_cons_succ,List.set_cons_zero];refine seq_new ⟨undef,trivial⟩ (by rfl) (fun wr hbr hH => ?_) ?_
      ·have h6:=hH ⟨6,.data⟩ (by simp) rfl
       exact opOK_val (v:=ue) (w':=wr) (by simp [go_sem,execOp]) ⟨Below.refl _ _,trivial,h6⟩
      rintro ua -;simp only [Act.put,List.setIfInBounds_toArray,List.set_cons_succ,List.set_cons_zero];refine seq_on (by rfl) (fun wr hbr _ => ?_) ?_
      ·simp [opOK,go_sem,Below.refl]
       try exact rfl
      simp only [Act.put,List.setIfInBounds_toArray,List.set_cons_succ,List.set_cons_zero];refine seq_end fun w3 hb3 hH => ?_
      obtain ⟨DS,hDS,hsl⟩ := hH 8 (by decide)
      obtain ⟨da,dc,rfl,hf1,hf2⟩ := hsl.form;rw [List.length_map] at hsl hf1 ⊢;obtain ⟨nd,hnd⟩ : ∃ n,DS.length = n:=⟨_,rfl⟩;rw [hnd] at hsl hf1 ⊢;unfold maxLen at hf2;have hnm : nd ≤ 2 ^ 63 - 1:=Nat.le_trans hf1 hf2;clear hf1 hf2;have HDS3:=Lib.hid hsl;have HND:=Lib.hid hnd;have HIN3 : Hid (∀ y ∈ DS,q ∈ y):=Lib.hid (by rw [← HQ.out]; exact lied_in_all x (by rw [HL.out,HL2.out]; exact hDS))
      have HNO3 : Hid (nd = 0 ↔ HasTruth l (allS list2)):=Lib.hid (by
       have h:=lied_none x (out:=DS) (by rw [HL.out,HL2.out]; exact hDS)
       rw [HL.out,HL2.out] at h;rw [← h,← hnd]; exact List.length_eq_zero_iff)
      clear hH hsl hDS hnd;have HB3:=Lib.hid (bThen HB2.out hb3);have HBS3:=Lib.hid (HBS2.out.below hb3);have HT3:=Lib.hid (HT2.out.below hb3);have HSL3:=Lib.hid (HSL2.out.below hb3);have c0:=bAt hb3 c0;have c1:=bAt hb3 c1;have c2:=bAt hb3 c2;have c3:=bAt hb3 c3;have c4:=bAt hb3 c4;have c5:=bAt hb3 c5;have c6:=bAt hb3 c6;clear HB2 HBS2 HT2 HSL2;clear hb3;obtain ⟨te,hte⟩ : ∃ z,truthE l list2 = z:=⟨_,rfl⟩;have HTE : Hid (te = 0 ↔ nd = 0):=Lib.hid (by
       rw [HNO3.out,← hte];constructor
       ·intro h
        refine Classical.byContradiction fun hn => ?_
        rw [truthE_nine HCK.out (by rw [HLN2.out]; omega) HBAD2.out hn] at h
        cases h
       ·intro h
        exact truthE_zero HCK.out (by rw [HLN2.out]; omega) HBAD2.out h)
      have HTV:=Lib.hid hte;clear hte HNO3;go_upto_region 34 with fail;refine wp_region_seqW (.is (.agg #[.int .i64 v0,.int .i64 v1,.int .i64 v2,.slice ba 10 bc,.int .i64 2,.int .i64 (n : Int),.bool wn]) :: kEmp :: .is (.slice (some ⟨g,0,none⟩) n oc) :: kTold list2 n :: kTe te :: kTe te :: kAny :: kAny :: kAny :: .is (.int .i64 te) :: kAny :: kAny :: kAny :: .is (.int .i64 te) :: []) rfl mix (by kernel_rfl) (by kernel_rfl) ?_
      refine seq_on (by rfl) (fun wr hbr _ => ?_) ?_
      ·have c0':=bAt hbr c0
       have c1':=bAt hbr c1;have c2':=bAt hbr c2;have c3':=bAt hbr c3;have c4':=bAt hbr c4;have c5':=bAt hbr c5;have c6':=bAt hbr c6;simp [opOK,go_sem,c0',c1',c2',c3',c4',c5',c6',Below.refl]
       try exact rfl
      simp only [Act.put,List.setIfInBounds_toArray,List.set_cons_succ,List.set_cons_zero];refine seq_new ⟨_,0,rfl⟩ (by rfl) (fun wr hbr hH => ?_) ?_
      ·exact opOK_val (v:=.slice (some ⟨wr.heap.size,0,none⟩) 0 0) (w':=wr.alloc (.cells #[] 58)) (by simp [go_sem,execOp]) ⟨aB _ _,⟨_,rfl⟩,trivial⟩
      rintro _ ⟨qe,rfl⟩;simp only [Act.put,List.setIfInBounds_toArray,List.set_cons_succ,List.set_cons_zero];refine seq_on (by rfl) (fun wr hbr _ => ?_) ?_
      ·simp [opOK,go_sem,Below.refl]
       try exact rfl
      simp only [Act.put,List.setIfInBounds_toArray,List.set_cons_succ,List.set_cons_zero];refine seq_new ⟨_,none,0,rfl⟩ (by rfl) (fun wr hbr hH => ?_) ?_
      ·refine opOK_mono (opOK_copyB (.tmp 239) (.tmp 240) 54 rfl 58 (.agg #[.int .i64 0,.int .i64 0,.int .i64 0]) 3 24 Tryz.underlying54 info_rp rfl (by decide) qe rfl (.slice (some ⟨g,0,none⟩) n oc) (list2.map rpRow) rfl (HSL3.out.below hbr) (rp_one _) (by rw [List.length_map,HLN2.out]; omega) (by decide)) ?_
       rintro v' w' ⟨h1,h2⟩;obtain ⟨xa,y,rfl, -, -⟩ := h2.form;rw [List.length_map,HLN2.out] at h2 ⊢;exact ⟨h1,⟨xa,y,rfl⟩,xa,y,rfl,h2⟩
      rintro _ ⟨qo,qc,rfl⟩;simp only [Act.put,List.setIfInBounds_toArray,List.set_cons_succ,List.set_cons_zero];refine seq_new ⟨_,undef,undef,undef,rfl⟩ (by rfl) (fun wr hbr hH => ?_) ?_
      ·obtain ⟨xb,yb,e3,hs3⟩ := hH ⟨3,.data⟩ (by simp) rfl
       cases e3;refine opOK_call (f:=10) (args:=#[.agg #[.int .i64 v0,.int .i64 v1,.int .i64 v2,.slice ba 10 bc,.int .i64 2,.int .i64 (n : Int),.bool wn],.slice qo n qc]) (by simp [go_sem]) ?_
       have ht:=truth_any l (.slice ba 10 bc) (.slice qo n qc) list2 wr (by rw [HLB.out]; exact HBS3.out.below hbr) HBI.out hs3
       rw [HLV.out,HTV.out] at ht;refine ht.mono ?_
       rintro e w' ⟨t1,t2,t3,rfl,hb', -, -⟩;exact ⟨_,rfl,hb',⟨t1,t2,t3,rfl⟩,trivial⟩
      rintro _ ⟨t1,t2,t3,rfl⟩;simp only [Act.put,List.setIfInBounds_toArray,List.set_cons_succ,List.set_cons_zero];refine seq_new ⟨_,undef,undef,undef,rfl⟩ (by rfl) (fun wr hbr hH => ?_) ?_
      ·exact opOK_val (v:=.tuple #[t1,t2,t3,.int .i64 te]) (w':=wr) (by simp [go_sem,execOp]) ⟨Below.refl _ _,⟨_,_,_,rfl⟩,trivial⟩
      rintro _ ⟨s1,s2,s3,rfl⟩;simp only [Act.put,List.setIfInBounds_toArray,List.set_cons_succ,List.set_cons_zero];refine seq_new ⟨undef,trivial⟩ (by rfl) (fun wr hbr hH => ?_) ?_
      ·exact opOK_val (v:=s1) (w':=wr) (by simp [go_sem,execOp]) ⟨Below.refl _ _,trivial,trivial⟩
      rintro e1 -;simp only [Act.put,List.setIfInBounds_toArray,List.set_cons_succ,List.set_cons_zero];refine seq_new ⟨undef,trivial⟩ (by rfl) (fun wr hbr hH => ?_) ?_
      ·exact opOK_val (v:=s2) (w':=wr) (by simp [go_sem,execOp]) ⟨Below.refl _ _,trivial,trivial⟩
      rintro e2 -;simp only [Act.put,List.setIfInBounds_toArray,List.set_cons_succ,List.set_cons_zero];refine seq_new ⟨undef,trivial⟩ (by rfl) (fun wr hbr hH => ?_) ?_
      ·exact opOK_val (v:=s3) (w':=wr) (by simp [go_sem,execOp]) ⟨Below.refl _ _,trivial,trivial⟩
      rintro e3 -;simp only [Act.put,List.setIfInBounds_toArray,List.set_cons_succ,List.set_cons_zero];refine seq_on (by rfl) (fun wr hbr _ => ?_) ?_
      ·simp [opOK,go_sem,Below.refl]
       try exact rfl
      simp only [Act.put,List.setIfInBounds_toArray,List.set_cons_succ,List.set_cons_zero];refine seq_new ⟨undef,trivial⟩ (by rfl) (fun wr hbr hH => ?_) ?_
      ·exact opOK_val (v:=e1) (w':=wr) (by simp [go_sem,execOp]) ⟨Below.refl _ _,trivial,trivial⟩
      rintro z1 -;simp only [Act.put,List.setIfInBounds_toArray,List.set_cons_succ,List.set_cons_zero];refine seq_new ⟨undef,trivial⟩ (by rfl) (fun wr hbr hH => ?_) ?_
      ·exact opOK_val (v:=e2) (w':=wr) (by simp [go_sem,execOp]) ⟨Below.refl _ _,trivial,trivial⟩
      rintro z2 -;simp only [Act.put,List.setIfInBounds_toArray,List.set_cons_succ,List.set_cons_zero];refine seq_new ⟨undef,trivial⟩ (by rfl) (fun wr hbr hH => ?_) ?_
      ·exact opOK_val (v:=e3) (w':=wr) (by simp [go_sem,execOp]) ⟨Below.refl _ _,trivial,trivial⟩
      rintro z3 -;simp only [Act.put,List.setIfInBounds_toArray,List.set_cons_succ,List.set_cons_zero];refine seq_on (by rfl) (fun wr hbr _ => ?_) ?_
      ·simp [opOK,go_sem,Below.refl]
       try exact rfl
      simp only [Act.put,List.setIfInBounds_toArray,List.set_cons_succ,List.set_cons_zero];refine seq_end fun w4 hb4 hH => ?_
      clear hH;have HB4:=Lib.hid (bThen HB3.out hb4);have HDS4:=Lib.hid (HDS3.out.below hb4);clear hb4 HB3 HDS3 HBS3 HT3 HSL3 c0 c1 c2 c3 c4 c5 c6;go_upto_region 35 with fail;go_cut [256] from 247 to 255 (fun v wx => v = .bool false ∧ wx = w4)
      case first =>
       by_cases hz : nd = 0
       ·obtain rfl : te = 0:=HTE.out.2 hz
        obtain rfl : nd = 0:=hz;go_wp2_with fail
        go_meet
        case rel => exact ⟨rfl,rfl⟩
       ·have h1 : (te == 0) = false:=beq_eq_false_iff_ne.2 fun h => hz (HTE.out.1 h)
        have h2 : (nd == 0) = false:=beq_eq_false_iff_ne.2 hz;have h3 : ((nd : Int) == 0) = false:=beq_eq_false_iff_ne.2 (by omega)
        clear hz;go_wp2_with fail
        go_meet
        case rel => exact ⟨rfl,rfl⟩
      case rest =>
      obtain ⟨rfl,hwc⟩ := hcut;subst hwc;obtain ⟨w4,rfl⟩ : ∃ y : World,y = wc:=⟨_,rfl⟩;go_wp2_with fail;go_loopw [28] (fun iv wr => ∃ i : Nat,i ≤ nd ∧ iv = .int .i64 (i : Int) ∧ Hid (Below w4.heap.size w4 wr)) (fun iv _ => nd - (intOf iv).toNat)
      case atStart => exact ⟨0,by omega,by go_num,Lib.hid (Below.refl _ _)⟩
      case round =>
       --@P
       obtain ⟨i,hi,rfl,HBr⟩ := hrel;obtain ⟨wb,rfl⟩ : ∃ y : World,y = wr:=⟨_,rfl⟩
       --@Q
       by_cases hlt : i < nd
       ·obtain ⟨y,hy⟩ : ∃ y,DS[i]? = some y:=⟨_,List.getElem?_eq_getElem (by rw [HND.out]; exact hlt)⟩
        obtain ⟨b,off,xa,xc,hda,hcb,hys⟩ := sets_at (HDS4.out.below HBr.out) hy;cases hda
        --@S
        have hqy:=HIN3.out y (List.mem_of_getElem? hy);obtain ⟨ny,hny⟩ : ∃ m,y.length = m:=⟨_,rfl⟩;rw [hny] at hcb hys;obtain ⟨_,_,hfx,hf1,hf2⟩ := hys.form;have hnl : (ints (nInts y)).length = ny:=by simp [nInts,hny]
        rw [hnl] at hf1;unfold maxLen at hf2;have hnym : ny ≤ 2 ^ 63 - 1:=Nat.le_trans hf1 hf2;have HYS:=Lib.hid hys;have HNY:=Lib.hid hny;have HQY:=Lib.hid hqy;have hid : (i : Int) < (nd : Int):=by omega
        have hwi : IntKind.i64.wrap ((i : Int) + 1) = (i : Int) + 1:=wrap_small _ (by omega) (by omega)
        clear hy hys hqy hny hf1 hf2 hnl hfx
        --@K
        go_wp2_with fail;go_loopw [29,30] (fun fv jv wr => ∃ (j : Nat) (fb : Bool),j ≤ ny ∧ fv = .bool fb ∧ jv = .int .i64 (j : Int) ∧ Hid (fb = true ↔ q ∈ y.take j) ∧ wr = wb) (fun _ jv _ => ny - (intOf jv).toNat)
        case atStart => exact ⟨0,false,by omega,rfl,by go_num,Lib.hid (by simp),rfl⟩
        case round =>
         obtain ⟨j,fb,hj,rfl,rfl,HFB,hwr⟩ := hrel;subst hwr;by_cases hjt : j < ny
         ·have hjl : j < y.length:=by rw [HNY.out]; exact hjt
          obtain ⟨z,hz⟩ : ∃ z,y[j]? = some z:=⟨_,List.getElem?_eq_getElem hjl⟩
          have hzi : (ints (nInts y))[j]? = some (.int .i64 (z : Int)):=by simp [nInts,ints,hz]
          obtain ⟨yb,yo,hxa, -,hcz⟩ := Sl.at_ HYS.out hzi;cases hxa;have HZJ:=Lib.hid hz;have hij : (j : Int) < (ny : Int):=by omega
          have hwj : IntKind.i64.wrap ((j : Int) + 1) = (j : Int) + 1:=wrap_small _ (by omega) (by omega)
          have HTK : Hid (y.take (j + 1) = y.take j ++ [z]):=Lib.hid (by rw [List.take_add_one,hz]; rfl)
          clear hz hzi hjl
          --@L
          cases fb with
          | true =>
           have HF2 : Hid (true = true ↔ q ∈ y.take (j + 1)):=Lib.hid ⟨fun _ => by rw [HTK.out]; exact List.mem_append_left _ (HFB.out.1 rfl),fun _ => rfl⟩
           go_wp2_with fail;go_roundw
           case rel => exact ⟨j + 1,true,by omega,rfl,by go_num,HF2,by first | rfl | trivial⟩
           case measure => simp [intOf]; omega
          | false =>
           obtain ⟨eb,heb⟩ : ∃ e,((z : Int) == (q : Int)) = e:=⟨_,rfl⟩;have heb2 : (z == q) = eb:=by rw [← heb,Bool.eq_iff_iff,beq_iff_eq,beq_iff_eq]; omega
           have HF2 : Hid (eb = true ↔ q ∈ y.take (j + 1)):=Lib.hid (by
            rw [HTK.out,List.mem_append,List.mem_singleton,← heb2,beq_iff_eq];constructor
            ·exact fun h => .inr h.symm
            ·rintro (h | h)
             ·exact absurd (HFB.out.2 h) (by decide)
             ·exact h.symm)
           go_wp2_with fail;go_roundw
           case rel => exact ⟨j + 1,eb,by omega,rfl,by go_num,HF2,by first | rfl | trivial⟩
           case measure => simp [intOf]; omega
         ·obtain rfl : ny = j:=by omega
          obtain rfl : fb = true:=HFB.out.2 (by rw [List.take_of_length_le (by rw [HNY.out]; exact Nat.le_refl _)]; exact HQY.out)
          go_wp2_with fail;go_roundw
          case rel => exact ⟨i + 1,by omega,by go_num,HBr⟩
          case measure => simp [intOf]; omega
       ·obtain rfl : nd = i:=by omega
        obtain ⟨w5,rfl⟩ : ∃ y : World,y = wb:=⟨_,rfl⟩;have HB5:=Lib.hid (bThen HB4.out HBr.out);clear HBr;go_wp2_with fail;refine (armKnownOut_any w5).mono ?_
        rintro e w6 ⟨rfl,hb6⟩;have HB6:=Lib.hid (bThen HB5.out hb6);clear hb6;go_wp2_with fail;refine (armKnownHeard_any w6).mono ?_
        rintro e w7 ⟨rfl,hb7⟩;have HB7:=Lib.hid (bThen HB6.out hb7);clear hb7;go_wp2;go_returns;exact ⟨rfl,HB7.out⟩
end Go.Proofs.YtnbmgkmcaoafnaaGreatDoor
