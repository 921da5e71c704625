/- The texts EH, in build order. -/
import Derived.Test.YtnhggfnnolfcdaaGreatZbd
import Derived.Deep.DeepCutAuto
import Derived.Deep.CutRange
import Derived.Deep.MidRow

/- Chapter 4: GameEnds. -/
namespace Go.Proofs.YtnhggfnnolfcdaaGreat
open Go.RowKit Go.Oche Go.Proofs
theorem dart_r {S S' : Nat → Prop} {r : Rul} {g : Gam} {y : Nat} {d : Int} (hd : Hid (dartS r g y = d)) (M : Int) (hM : M ≤ 1000000) (hL : Live r M g) (hrd : g.round ≤ 1000000) (hy : y ≤ 255) (na : Option Addr) (nl nc : Nat) (pa : Option Addr) (n pc : Nat) (wa : Option Addr) (wl wc : Nat) (hn : g.pls.length = n) (w : World)
  (hp : SlN 9 S w (.slice pa n pc) (g.pls.map plrRow)) (hs : Sl S' w (.slice na nl nc) (ints r.nums)) :
  Calls Tryz.prog 9 #[.agg #[.int .i64 r.kind,.int .i64 r.players,.int .i64 r.last,.bool r.bull,.bool r.jump,.int .i64 r.rounds,.bool r.cut,.slice na nl nc,.int .i64 r.lives,.bool r.own],.agg #[.int .i64 g.round,.int .i64 g.player,.int .i64 g.darts,.slice pa n pc,.slice wa wl wc],.int .u8 y] w fun e w' => e = .returned (.int .i64 d) ∧ Below w.heap.size w w':=by
 rw [← hd.out]; exact dart_any r g M hM hL hrd y hy na nl nc pa n pc wa wl wc hn w hp hs
theorem bSetO {N : Nat} {W0 W : World} (h : Below N W0 W) (b o : Nat) (x : Value) (hb : N ≤ b) : Below N W0 (W.setCell ⟨b,o,none⟩ x) :=
 ⟨h.os,h.tape,h.output,by simpa using h.size,fun k hk => (Below.heap_setCell _ _ _ _ (by simp only; omega)).trans (h.block k hk)⟩
def kRul (r : Rul) (nl : Nat) : Kn:=⟨fun v => ∃ vb vd,v = .agg #[.int .i64 r.kind,.int .i64 r.players,.int .i64 r.last,.bool r.bull,.bool r.jump,.int .i64 r.rounds,.bool r.cut,.slice (some ⟨vb,0,none⟩) nl vd,.int .i64 r.lives,.bool r.own],fun v W => ∃ vb vd,v = .agg #[.int .i64 r.kind,.int .i64 r.players,.int .i64 r.last,.bool r.bull,.bool r.jump,.int .i64 r.rounds,.bool r.cut,.slice (some ⟨vb,0,none⟩) nl vd,.int .i64 r.lives,.bool r.own] ∧ W.ownsRow 0 3 1 (.slice (some ⟨vb,0,none⟩) nl vd) nl (ints r.nums),fun _ _ _ hb ⟨vb,vd,e,h⟩ => ⟨vb,vd,e,ownsN_below h hb⟩⟩
def kSl2 (n : Nat) (xs : List Value) : Kn:=⟨fun v => ∃ a c,v = .slice a n c,fun v W => Sl (fun _ => True) W v xs,fun _ _ _ hb h => h.below hb⟩
def kSo (r : Rul) (g : Gam) (bt : List Int) : Kn:=⟨fun v => ∃ a n c,v = .tuple #[.slice a n c,.int .i64 0],fun v W => ∃ bs u,v = .tuple #[u,.int .i64 0] ∧ bs.Perm bt ∧ SlSl (fun _ => True) W u (soonG r bs g),fun _ _ _ hb ⟨bs,u,e,hp,h⟩ => ⟨bs,u,e,hp,h.below hb⟩⟩
def kWs (r : Rul) (g : Gam) (bt : List Int) : Kn:=⟨fun v => ∃ a n c,v = .slice a n c,fun v W => ∃ bs,bs.Perm bt ∧ SlSl (fun _ => True) W v (soonG r bs g),fun _ _ _ hb ⟨bs,hp,h⟩ => ⟨bs,hp,h.below hb⟩⟩
theorem WinP.mem {r : Rul} {beds : List Int} : ∀ {w : List Int} {g : Gam},WinP r beds g w → ∀ b ∈ w,b ∈ beds
 | [],_,h => h.elim
 | [_],_,h => fun b hb => by rw [List.mem_singleton] at hb; rw [hb]; exact h.1
 | _ :: c :: l,_,h => fun b hb => by
  rcases List.mem_cons.1 hb with e | hb
  ·rw [e]; exact h.1
  ·exact WinP.mem (w:=c :: l) h.2.2.2 b hb
theorem play_more {r : Rul} {DL : List Int} {gl : Gam} {D : Nat} (hc : checkR r = 0) (h : playF r (initG r) 0 DL = (some gl,0,0)) (hl : DL.length = D) {x : List Int} (hx : D + x.length ≤ 600) : playG r (DL ++ x) = playF r gl D x:=by
 rw [playG_of hc (by rw [List.length_append]; omega),playF_append DL 0 _ _ _ _ h,Nat.zero_add,hl]
theorem take_mem {l : List Int} {i : Nat} {x b : Int} (hi : l[i]? = some x) : decide (b ∈ l.take (i + 1)) = (decide (b ∈ l.take i) || (x == b)):=by
 rw [Bool.eq_iff_iff,Bool.or_eq_true,decide_eq_true_eq,decide_eq_true_eq,beq_iff_eq,List.take_add_one,hi,List.mem_append,Option.toList_some,List.mem_singleton]
 exact ⟨fun h => h.imp id Eq.symm,fun h => h.imp id Eq.symm⟩
theorem beds_r {S S' : Nat → Prop} (xs ys : List Int) (va vb : Value) (w : World) (hs : Sl S w va (ints xs)) (hs' : Sl S' w vb (ints ys)) (eb : Bool) (he : Hid (decide (xs = ys) = eb)) :
  Calls Tryz.prog 11 #[va,vb] w fun e w' => e = .returned (.bool eb) ∧ Below w.heap.size w w':=by
 rw [← he.out]; exact beds_any xs ys va vb w hs hs'
theorem take_memL {l : List (List Int)} {i : Nat} {x y : List Int} (hi : l[i]? = some y) : decide (x ∈ l.take (i + 1)) = (decide (x ∈ l.take i) || decide (y = x)):=by
 rw [Bool.eq_iff_iff,Bool.or_eq_true,decide_eq_true_eq,decide_eq_true_eq,decide_eq_true_eq,List.take_add_one,hi,List.mem_append,Option.toList_some,List.mem_singleton]
 exact ⟨fun h => h.imp id Eq.symm,fun h => h.imp id Eq.symm⟩
theorem z500 : Tryz.zeroCells44 = Array.replicate 500 (.bool false):=by kernel_rfl
theorem z500a : Tryz.zeroCells44.all (·.oneCell') = true:=by rw [z500]; kernel_rfl
set_option maxRecDepth 100000 in
set_option maxHeartbeats 16000000 in
theorem gameEnds_any {S : Nat → Prop} (k p l f : Nat) (hk : k ≤ 255) (hp : p ≤ 255) (hl : l ≤ 255) (hf : f ≤ 255) (ys : List Nat) (hys : ∀ y ∈ ys,y ≤ 255) (s0 s1 s2 s3 s4 s5 : Nat) (hs0 : s0 ≤ 255 ∧ s1 ≤ 255 ∧ s2 ≤ 255 ∧ s3 ≤ 255 ∧ s4 ≤ 255 ∧ s5 ≤ 255) (bv : Value) (w : World) (hb : Sl S w bv (ys.map fun (y : Nat) => Value.int .u8 y)) :
  Calls Tryz.prog 3 #[.agg #[.int .u8 k,.int .u8 p,.int .u8 l,.int .u8 f],bv,.agg #[.int .u8 s0,.int .u8 s1,.int .u8 s2,.int .u8 s3,.int .u8 s4,.int .u8 s5]] w fun e w' => e = .returned (.bool true) ∧ Below w.heap.size w w':=by
 obtain ⟨r,hr⟩ : ∃ r,rulS k p l f = r:=⟨_,rfl⟩
 have hrc:=rulS_check k p l f
 rw [hr] at hrc
 obtain ⟨D,hD⟩ : ∃ D,(dartsS r (ys.take 60)).length = D:=⟨_,rfl⟩
 have hD60 : D ≤ 60:=by
  rw [← hD]; unfold dartsS; rw [List.length_map]
  have:=playS_len r (ys.take 60) (initG r)
  have h2 : (ys.take 60).length ≤ 60:=by rw [List.length_take]; omega
  omega
 obtain ⟨b5,hb5⟩ : ∃ b,w.heap.size + 1 = b:=⟨_,rfl⟩
 obtain ⟨w0,hw0⟩ : ∃ w0,(w.alloc (.cells #[.int .u8 k,.int .u8 p,.int .u8 l,.int .u8 f] 23)).alloc (.cells #[.int .u8 s0,.int .u8 s1,.int .u8 s2,.int .u8 s3,.int .u8 s4,.int .u8 s5] 25) = w0:=⟨_,rfl⟩
 have hb0 : Below w.heap.size w w0:=by rw [← hw0]; exact (aB _ _).alloc (by simp) _
 have K5 : Hid (w0.heap[b5]? = some (.cells #[.int .u8 s0,.int .u8 s1,.int .u8 s2,.int .u8 s3,.int .u8 s4,.int .u8 s5] 25 (0,0))):=Lib.hid (by rw [← hw0,← hb5]; exact heap_two _ _ _)
 have HPLAY:=Lib.hid (play_r k p l f hk hp hl hf ys hys 60 (by decide) r hr D hD bv w0 (hb.below hb0))
 have hlast:=games_last r (ys.take 60)
 have hgood:=(playS_play (ys.take 60) 0 (initG r) (Good.init hrc)).2
 have hall:=(playS_G hrc (l:=ys.take 60) (by rw [List.length_take]; omega)).1
 have hplf:=(playS_play (ys.take 60) 0 (initG r) (Good.init hrc)).1
 have hd64:=darts_i64 hrc (ys.take 60)
 have hdl0 : (playS r (initG r) (ys.take 60)).length = D:=by rw [← hD]; simp [dartsS]
 rw [hdl0,Nat.zero_add] at hgood
 obtain ⟨GS,hGS⟩ : ∃ GS,gamesS r (ys.take 60) = GS:=⟨_,rfl⟩
 obtain ⟨DL,hDL⟩ : ∃ DL,dartsS r (ys.take 60) = DL:=⟨_,rfl⟩
 obtain ⟨gl,hgl⟩ : ∃ gl,lastS r (initG r) (ys.take 60) = gl:=⟨_,rfl⟩
 have hplf' : playF r (initG r) 0 DL = (some gl,0,0):=by rw [← hDL,← hgl]; exact hplf
 rw [hGS,hDL,hgl] at hlast
 rw [hgl] at hgood
 rw [hDL,hgl] at hall
 rw [hDL] at hd64
 rw [hGS] at HPLAY
 rw [hDL] at hD HPLAY
 rw [hD] at hlast
 have HLAST:=Lib.hid hlast
 have HALL:=Lib.hid hall
 have HPLF:=Lib.hid hplf'
 have HGOOD:=Lib.hid hgood
 have HD64:=Lib.hid hd64
 have HDL:=Lib.hid hD
 have HRC:=Lib.hid hrc
 have HB0:=Lib.hid hb0
 have HW0:=Lib.hid hw0
 have HB5:=Lib.hid hb5
 have HS0:=Lib.hid hs0
 clear hb hys hb0 hw0 hr hrc hk hp hl hf hD hGS hDL hgl hlast hplf hplf' hd64 hgood hall hdl0 hb5 hs0
 go_enter Tryz.func3,Tryz.ntmps3
 go_wp2_with fail
 rw [HW0.out,HB5.out]
 refine HPLAY.out.mono ?_
 rintro e w1 ⟨na,nl,nc,da,dc,sa,sc,rfl,hb1,hsn,hnl8,hsd,hst⟩
 obtain ⟨E,hE⟩ : ∃ E,D + 1 = E:=⟨_,rfl⟩
 rw [hE] at hst ⊢
 have hE61 : 1 ≤ E ∧ E ≤ 61:=by omega
 obtain ⟨b7,hb7⟩ : ∃ b,w1.heap.size = b:=⟨_,rfl⟩
 obtain ⟨n,hn⟩ : ∃ n,gl.pls.length = n:=⟨_,rfl⟩
 obtain ⟨m,hm⟩ : ∃ m,gl.win.length = m:=⟨_,rfl⟩
 obtain ⟨sb,so,pa,pc,wa,wc,rfl,hra,hpl, -, -⟩ := hst.at_ HLAST.out
 rw [hn] at hra hpl
 rw [hm] at hra
 have hnr : (n : Int) = r.players:=by rw [← hn]; exact HGOOD.out.inv.len
 have hn8 : n ≤ 8:=by have:=players_of HRC.out; omega
 obtain ⟨b11,hb11⟩ : ∃ b,b7 + 1 = b:=⟨_,rfl⟩
 obtain ⟨w2,hw2⟩ : ∃ w2,(w1.alloc (.cells #[.int .i64 r.kind,.int .i64 r.players,.int .i64 r.last,.bool r.bull,.bool r.jump,.int .i64 r.rounds,.bool r.cut,.slice na nl nc,.int .i64 r.lives,.bool r.own] 29)).alloc (.cells #[.int .i64 gl.round,.int .i64 gl.player,.int .i64 gl.darts,.slice pa n pc,.slice wa m wc] 36) = w2:=⟨_,rfl⟩
 have hb2 : Below w1.heap.size w1 w2:=by rw [← hw2]; exact (aB _ _).alloc (by simp) _
 have hb12:=bThen hb1 hb2
 replace K5:=Lib.hid ((hb12.block _ (Array.getElem?_eq_some_iff.1 K5.out).1).trans K5.out)
 have KR : Hid (w2.heap[b7]? = some (.cells #[.int .i64 r.kind,.int .i64 r.players,.int .i64 r.last,.bool r.bull,.bool r.jump,.int .i64 r.rounds,.bool r.cut,.slice na nl nc,.int .i64 r.lives,.bool r.own] 29 (0,0))):=Lib.hid (by rw [← hw2,← hb7]; exact heap_old (World.alloc_heap_new _ _))
 have K11 : Hid (w2.heap[b11]? = some (.cells #[.int .i64 gl.round,.int .i64 gl.player,.int .i64 gl.darts,.slice pa n pc,.slice wa m wc] 36 (0,0))):=Lib.hid (by rw [← hw2,← hb11,← hb7]; exact heap_two _ _ _)
 have HSN:=Lib.hid (hsn.below hb2)
 have HSD:=Lib.hid (hsd.below hb2)
 have HPL:=Lib.hid (hpl.below hb2)
 have HB:=Lib.hid (bThen HB0.out hb12)
 have HW2:=Lib.hid hw2
 have HB7:=Lib.hid hb7
 have HB11:=Lib.hid hb11
 have HN:=Lib.hid hn
 have HM:=Lib.hid hm
 have HE:=Lib.hid hE
 have c0 : (w1.alloc (.cells #[.int .i64 r.kind,.int .i64 r.players,.int .i64 r.last,.bool r.bull,.bool r.jump,.int .i64 r.rounds,.bool r.cut,.slice na nl nc,.int .i64 r.lives,.bool r.own] 29)).cell? ⟨sb,so + D * 5 + 0,none⟩ = _:=bAt (aB _ _) (hra 0 _ rfl)
 have c1 : (w1.alloc (.cells #[.int .i64 r.kind,.int .i64 r.players,.int .i64 r.last,.bool r.bull,.bool r.jump,.int .i64 r.rounds,.bool r.cut,.slice na nl nc,.int .i64 r.lives,.bool r.own] 29)).cell? ⟨sb,so + D * 5 + 1,none⟩ = _:=bAt (aB _ _) (hra 1 _ rfl)
 have c2 : (w1.alloc (.cells #[.int .i64 r.kind,.int .i64 r.players,.int .i64 r.last,.bool r.bull,.bool r.jump,.int .i64 r.rounds,.bool r.cut,.slice na nl nc,.int .i64 r.lives,.bool r.own] 29)).cell? ⟨sb,so + D * 5 + 2,none⟩ = _:=bAt (aB _ _) (hra 2 _ rfl)
 have c3 : (w1.alloc (.cells #[.int .i64 r.kind,.int .i64 r.players,.int .i64 r.last,.bool r.bull,.bool r.jump,.int .i64 r.rounds,.bool r.cut,.slice na nl nc,.int .i64 r.lives,.bool r.own] 29)).cell? ⟨sb,so + D * 5 + 3,none⟩ = _:=bAt (aB _ _) (hra 3 _ rfl)
 have c4 : (w1.alloc (.cells #[.int .i64 r.kind,.int .i64 r.players,.int .i64 r.last,.bool r.bull,.bool r.jump,.int .i64 r.rounds,.bool r.cut,.slice na nl nc,.int .i64 r.lives,.bool r.own] 29)).cell? ⟨sb,so + D * 5 + 4,none⟩ = _:=bAt (aB _ _) (hra 4 _ rfl)
 simp only [Nat.add_zero] at c0
 have hE1 : (E : Int) - 1 = (D : Int):=by omega
 have hDE : D < E:=by omega
 clear hb1 hst hsn hsd hb2 hw2 hb12 hb7 hb11 hpl hra HPLAY hE hn hm
 go_upto_region 5 with fail
 rw [HW2.out,HB7.out,HB11.out]
 clear c0 c1 c2 c3 c4
 have i4 : w2.cell? ⟨b11,4,none⟩ = some (.slice wa m wc):=by rw [cell_of_heap K11.out]; rfl
 by_cases hm0 : m = 0
 ·have t0 : decide ((0 : Int) < (m : Int)) = false:=decide_eq_false (by omega)
  have t0n : decide (0 < m) = false:=decide_eq_false (by omega)
  have hw0 : gl.win = []:=List.eq_nil_of_length_eq_zero (by rw [HM.out,hm0])
  have HW0':=Lib.hid hw0
  have HLIVE:=Lib.hid (HGOOD.out.live hw0)
  clear hw0
  go_upto_region 8 with fail
  clear i4 t0 t0n
  subst hm0
  obtain ⟨b15,hb15⟩ : ∃ b,w2.heap.size + 1 = b:=⟨_,rfl⟩
  obtain ⟨wA,hwA⟩ : ∃ x,(w2.alloc (.cells #[] 45)).alloc (.cells Tryz.zeroCells44 44) = x:=⟨_,rfl⟩
  have hbA : Below w2.heap.size w2 wA:=by rw [← hwA]; exact (aB _ _).alloc (by simp) _
  have HSB : Hid (BoolBlk wA b15 44 500 fun j => decide ((j : Int) ∈ ([] : List Int))):=Lib.hid ⟨Tryz.zeroCells44,by rw [← hwA,← hb15]; exact heap_two _ _ _,by rw [z500]; simp,fun j hj => by rw [z500]; simp [hj]⟩
  have HOW : Hid (wA.ownsRow w2.heap.size 45 1 (.slice (some ⟨w2.heap.size,0,none⟩) 0 0) 0 []):=Lib.hid (by rw [← hwA]; exact ownsN_alloc (World.ownsRow_made w2 #[] 0 (Nat.le_refl _) (Nat.zero_le _) (by simp)) _)
  have HWA:=Lib.hid hwA
  have HB15:=Lib.hid hb15
  have HBA:=Lib.hid hbA
  clear hb15 hwA hbA
  have hst:=run_storeCells_new (P:=Tryz.prog) (w2.alloc (.cells #[] 45)) 44 Tryz.zeroCells44 Tryz.zeroCells44 (by kernel_rfl) rfl z500a
  rw [show (w2.alloc (.cells #[] 45)).heap.size = w2.heap.size + 1 by simp] at hst
  go_upto_region 9 with fail
  clear hst
  rw [HWA.out,HB15.out]
  go_upto_region 10 with fail
  go_loopw [14,16,17] (fun bv iv _ wr => ∃ (i L bd cd : Nat) (bl : List Int),i ≤ 4 ∧ iv = .int .i64 i ∧ bv = .slice (some ⟨bd,0,none⟩) L cd ∧ L ≤ i ∧ Hid (wr.ownsRow w2.heap.size 45 1 (.slice (some ⟨bd,0,none⟩) L cd) L (ints bl)) ∧ Hid (BoolBlk wr b15 44 500 fun j => decide ((j : Int) ∈ bl)) ∧ Hid (bl.length = L ∧ bl.Nodup ∧ (∀ b ∈ bl,okBed b = true) ∧ (1 ≤ i → 1 ≤ L)) ∧ Hid (Below w2.heap.size w2 wr)) (fun _ iv _ _ => 4 - (intOf iv).toNat)
  case atStart => exact ⟨0,0,w2.heap.size,0,[],by omega,by go_num,rfl,by omega,HOW,HSB,Lib.hid ⟨rfl,List.nodup_nil,by simp,by omega⟩,HBA⟩
  case round =>
   obtain ⟨i,L,bd,cd,bl,hi4,rfl,rfl,hLi,HO,HBB,HBL,HBW⟩ := hrel
   obtain ⟨wo,rfl⟩ : ∃ wo : World,wo = wr:=⟨_,rfl⟩
   by_cases hlt : i < 4
   ·obtain ⟨y,hy255,hcy⟩ : ∃ y : Nat,y ≤ 255 ∧ wo.cell? ⟨b5,i,none⟩ = some (.int .u8 y):=by
     have k5:=(HBW.out.block _ (Array.getElem?_eq_some_iff.1 K5.out).1).trans K5.out
     have h0:=HS0.out
     rw [cell_of_heap k5]
     have hi : i = 0 ∨ i = 1 ∨ i = 2 ∨ i = 3:=by omega
     rcases hi with rfl | rfl | rfl | rfl
     ·exact ⟨s0,h0.1,rfl⟩
     ·exact ⟨s1,h0.2.1,rfl⟩
     ·exact ⟨s2,h0.2.2.1,rfl⟩
     ·exact ⟨s3,h0.2.2.2.1,rfl⟩
    obtain ⟨dn,hdn,hdok⟩ : ∃ dn : Nat,dartS r gl y = (dn : Int) ∧ okBed (dn : Int) = true ∧ dn ≤ 420:=by
     have h1:=dartS_ok HLIVE.out y
     have h2:=okBed_bd h1
     exact ⟨(dartS r gl y).toNat,by omega,by rw [Int.toNat_of_nonneg h2.1]; exact h1,by omega⟩
    have HDN:=Lib.hid hdn
    have HDOK:=Lib.hid hdok
    have hd500 : dn < 500:=by omega
    have h6 : (i : Int) < 6:=by omega
    have KRo:=Lib.hid ((HBW.out.block _ (Array.getElem?_eq_some_iff.1 KR.out).1).trans KR.out)
    have K11o:=Lib.hid ((HBW.out.block _ (Array.getElem?_eq_some_iff.1 K11.out).1).trans K11.out)
    have HPLo:=Lib.hid (HPL.out.below HBW.out)
    have HSNo:=Lib.hid (HSN.out.below HBW.out)
    clear hdn hdok
    go_upto_region 12 with fail
    refine wp_region_seq 7 [.is (.agg #[.int .i64 r.kind,.int .i64 r.players,.int .i64 r.last,.bool r.bull,.bool r.jump,.int .i64 r.rounds,.bool r.cut,.slice na nl nc,.int .i64 r.lives,.bool r.own]),.is (.agg #[.int .i64 gl.round,.int .i64 gl.player,.int .i64 gl.darts,.slice pa n pc,.slice wa 0 wc]),.is (.int .i64 i),.is (.pointer (some ⟨b5,i,none⟩)),.is (.int .u8 y),.is (.int .i64 dn),.is (.int .i64 dn)] rfl mix (by kernel_rfl) (by kernel_rfl) ?_
    simp only [List.take_succ_cons,List.take_zero]
    refine seq_on (by rfl) (fun w3 hb3 hH => ?_) ?_
    ·have y1:=bAt hb3 hcy
     have hk:=(hb3.block _ (Array.getElem?_eq_some_iff.1 KRo.out).1).trans KRo.out
     exact opOK_load_row 29 (.tmp 7) rfl b7 #[.int .i64 r.kind,.int .i64 r.players,.int .i64 r.last,.bool r.bull,.bool r.jump,.int .i64 r.rounds,.bool r.cut,.slice na nl nc,.int .i64 r.lives,.bool r.own] (by simp [Act.eval]) 29 (0,0) hk _ Tryz.underlying29 rfl (by kernel_rfl) ⟨rfl,Below.refl _ _⟩
    simp only [Act.put,List.setIfInBounds_toArray,List.set_cons_succ,List.set_cons_zero]
    refine seq_on (by rfl) (fun w3 hb3 hH => ?_) ?_
    ·have y1:=bAt hb3 hcy
     have hk:=(hb3.block _ (Array.getElem?_eq_some_iff.1 K11o.out).1).trans K11o.out
     exact opOK_load_row 36 (.tmp 11) rfl b11 #[.int .i64 gl.round,.int .i64 gl.player,.int .i64 gl.darts,.slice pa n pc,.slice wa 0 wc] (by simp [Act.eval]) 36 (0,0) hk _ Tryz.underlying36 rfl (by kernel_rfl) ⟨rfl,Below.refl _ _⟩
    simp only [Act.put,List.setIfInBounds_toArray,List.set_cons_succ,List.set_cons_zero]
    iterate 3
     refine seq_on (by rfl) (fun w3 hb3 _ => ?_) ?_
     ·have y1:=bAt hb3 hcy
      simp [opOK,go_sem,y1,h6,Below.refl]
      try exact rfl
     simp only [Act.put,List.setIfInBounds_toArray,List.set_cons_succ,List.set_cons_zero]
    refine seq_on (by rfl) (fun w3 hb3 hH => ?_) ?_
    ·have y1:=bAt hb3 hcy
     refine opOK_call (f:=9) (args:=#[.agg #[.int .i64 r.kind,.int .i64 r.players,.int .i64 r.last,.bool r.bull,.bool r.jump,.int .i64 r.rounds,.bool r.cut,.slice na nl nc,.int .i64 r.lives,.bool r.own],.agg #[.int .i64 gl.round,.int .i64 gl.player,.int .i64 gl.darts,.slice pa n pc,.slice wa 0 wc],.int .u8 y]) (by simp [go_sem]) ?_
     exact (dart_r HDN (9 + 100 * (D : Nat)) (by omega) HLIVE.out (by have:=HGOOD.out.rd; omega) hy255 na nl nc pa n pc wa 0 wc HN.out w3 (HPLo.out.below hb3) (HSNo.out.below hb3)).mono fun e W' ⟨he,hb⟩ => ⟨_,he,rfl,hb⟩
    simp only [Act.put,List.setIfInBounds_toArray,List.set_cons_succ,List.set_cons_zero]
    refine seq_on (by rfl) (fun w3 hb3 _ => ?_) ?_
    ·have y1:=bAt hb3 hcy
     simp [opOK,go_sem,Below.refl]
     try exact rfl
    simp only [Act.put,List.setIfInBounds_toArray,List.set_cons_succ,List.set_cons_zero]
    refine seq_end fun w3 hb3 _ => ?_
    simp only [List.drop_succ_cons,List.drop_zero]
    have HB3:=Lib.hid (HBW.out.trans (hb3.mono HBW.out.size))
    have HBB3:=Lib.hid (HBB.out.below hb3)
    have HO3:=Lib.hid (ownsN_below HO.out hb3)
    obtain ⟨fb,hfb⟩ : ∃ fb,decide ((dn : Int) ∈ bl) = fb:=⟨_,rfl⟩
    have cs:=HBB3.out.cell hd500
    have fs:=HBB3.out.frozen dn
    rw [hfb] at cs
    have hd500i : (dn : Int) < 500:=by omega
    have HFB:=Lib.hid hfb
    clear hb3 HBB HO HBW hfb hcy
    cases fb
    ·have HNB : Hid ((dn : Int) ∉ bl):=Lib.hid (of_decide_eq_false HFB.out)
     go_upto_region 14 with fail
     obtain ⟨AB,hAB⟩ := HBB3.out
     have hneb:=ownsN_ne_blk HO3.out hAB.1 (by decide)
     simp only [Value.ownBlock,Option.some.injEq,reduceCtorEq,ne_eq,false_or] at hneb
     have hOA : (w3.alloc (.cells #[.int .i64 dn] 45)).ownsRow w2.heap.size 45 1 (.slice (some ⟨bd,0,none⟩) L cd) L (ints bl):=HO3.out.alloc _
     have HOA:=Lib.hid hOA
     have HNE:=Lib.hid hneb
     have HBD:=Lib.hid (HO3.out.lt bd rfl)
     clear hAB hneb hOA cs fs
     go_wp2_with (at_builtin; refine wpList_append1 rfl _ _ 30 rfl w2.heap.size 45 (.int .i64 0) 8 Tryz.underlying30 info_bed rfl _ L _ rfl HOA.out w3.heap.size 0 1 (.int .i64 dn) rfl (by simp) rfl (by omega) (by decide) (by have:=HB3.out.size; simp; omega) ?_)
     intro g1 c1 wB ho1 hg1 hat1
     have hb15 : b15 < w3.heap.size:=HBB3.out.lt
     have hBB : BoolBlk wB b15 44 500 fun j => decide ((j : Int) ∈ bl):=HBB3.out.keep ((hg1.block b15 (by simp; omega) (fun e => HNE.out (by simpa [Value.ownBlock] using e.symm))).trans ((aB w3 _).block b15 hb15))
     have hne1 : g1 ≠ b15:=by
      rcases hat1 with e | e
      ·simp only [Value.ownBlock,Option.some.injEq] at e; rw [← e]; exact HNE.out
      ·rw [e]; simp; omega
     have HBwB : Below w2.heap.size w2 wB:=(HB3.out.trans ((aB w3 _).mono HB3.out.size)).trans (below_grownBy hg1 (by have:=HB3.out.size; simp; omega) fun q hq => by simp only [Value.ownBlock,Option.some.injEq] at hq; have:=HBD.out; omega)
     have cs:=hBB.cell hd500
     have fs:=hBB.frozen dn
     have HOC : Hid ((wB.setCell ⟨b15,dn,none⟩ (.bool true)).ownsRow w2.heap.size 45 1 (.slice (some ⟨g1,0,none⟩) (L + 1) c1) (L + 1) (ints (bl ++ [(dn : Int)]))):=Lib.hid (by
      rw [ints_append]
      exact ownsN_kept ho1 fun q hq => Below.heap_setCell _ _ _ _ (by simp only [Value.ownBlock,Option.some.injEq] at hq; simp only; omega))
     have HBC : Hid (BoolBlk (wB.setCell ⟨b15,dn,none⟩ (.bool true)) b15 44 500 fun j => decide ((j : Int) ∈ bl ++ [(dn : Int)])):=Lib.hid ((hBB.set dn true).congr fun j _ => by
      by_cases e : j = dn
      ·subst e; simp
      ·have e2 : ¬ (j : Int) = (dn : Int):=by omega
       simp [e,e2])
     have HBwC:=Lib.hid (bSetO HBwB b15 dn (.bool true) (by rw [← HB15.out]; omega))
     have HBL2 : Hid ((bl ++ [(dn : Int)]).length = L + 1 ∧ (bl ++ [(dn : Int)]).Nodup ∧ (∀ b ∈ bl ++ [(dn : Int)],okBed b = true)):=Lib.hid (by
      obtain ⟨h1,h2,h3, -⟩ := HBL.out
      refine ⟨by simp [h1], ?_,fun b hb => ?_⟩
      ·rw [List.nodup_append]
       exact ⟨h2,by simp,fun a ha b hb e => HNB.out (by rw [List.mem_singleton] at hb; rw [← hb,← e]; exact ha)⟩
      ·rcases List.mem_append.1 hb with hb | hb
       ·exact h3 b hb
       ·rw [List.mem_singleton] at hb; rw [hb]; exact HDOK.out.1)
     clear ho1 hg1 hat1 hb15 hBB hne1 HBwB
     go_wp2
     go_roundw
     case rel => exact ⟨i + 1,L + 1,g1,c1,bl ++ [(dn : Int)],by omega,by go_num,rfl,by omega,HOC,HBC,Lib.hid ⟨HBL2.out.1,HBL2.out.2.1,HBL2.out.2.2,fun _ => by omega⟩,HBwC⟩
     case measure => simp [intOf]; omega
    ·go_wp2
     go_roundw
     case rel => exact ⟨i + 1,L,bd,cd,bl,by omega,by go_num,rfl,by omega,HO3,HBB3,Lib.hid ⟨HBL.out.1,HBL.out.2.1,HBL.out.2.2.1,fun _ => by
      have h1:=of_decide_eq_true HFB.out
      have h2:=HBL.out.1
      rw [← h2]; exact List.length_pos_of_mem h1⟩,HB3⟩
     case measure => simp [intOf]; omega
   ·obtain rfl : i = 4:=by omega
    have hL1 : 1 ≤ L:=HBL.out.2.2.2 (by omega)
    have hbw:=HBW.out
    replace KR:=Lib.hid ((hbw.block _ (Array.getElem?_eq_some_iff.1 KR.out).1).trans KR.out)
    replace K11:=Lib.hid ((hbw.block _ (Array.getElem?_eq_some_iff.1 K11.out).1).trans K11.out)
    replace K5:=Lib.hid ((hbw.block _ (Array.getElem?_eq_some_iff.1 K5.out).1).trans K5.out)
    replace HSN:=Lib.hid (HSN.out.below hbw)
    replace HSD:=Lib.hid (HSD.out.below hbw)
    replace HPL:=Lib.hid (HPL.out.below hbw)
    replace HB:=Lib.hid (bThen HB.out hbw)
    have HBD:=Lib.hid (Sl.of_owns HO.out)
    have hcd:=HO.out.form'
    have HCD:=Lib.hid hcd
    clear hbw HBB HBW hcd HOW HSB HBA
    go_upto_region 15 with fail
    go_wp2_with (refine wpList_opOK (o:=⟨some 93,Op.load 29 (.tmp 7),_,_,_,_⟩) (R:=fun v w' => v = .agg #[.int .i64 r.kind,.int .i64 r.players,.int .i64 r.last,.bool r.bull,.bool r.jump,.int .i64 r.rounds,.bool r.cut,.slice na nl nc,.int .i64 r.lives,.bool r.own] ∧ wo = w') rfl (opOK_load_row 29 (.tmp 7) rfl b7 #[.int .i64 r.kind,.int .i64 r.players,.int .i64 r.last,.bool r.bull,.bool r.jump,.int .i64 r.rounds,.bool r.cut,.slice na nl nc,.int .i64 r.lives,.bool r.own] rfl 29 (0,0) KR.out _ Tryz.underlying29 rfl (by kernel_rfl) ⟨rfl,rfl⟩) ?_; rintro _ _ ⟨rfl,rfl⟩)
    refine (own_any r na nl nc wo HSN.out (by omega)).mono ?_
    rintro e x1 ⟨vb,vd,rfl,hb1,hs1⟩
    replace KR:=Lib.hid ((hb1.block _ (Array.getElem?_eq_some_iff.1 KR.out).1).trans KR.out)
    replace K11:=Lib.hid ((hb1.block _ (Array.getElem?_eq_some_iff.1 K11.out).1).trans K11.out)
    replace K5:=Lib.hid ((hb1.block _ (Array.getElem?_eq_some_iff.1 K5.out).1).trans K5.out)
    replace HSN:=Lib.hid (HSN.out.below hb1)
    replace HSD:=Lib.hid (HSD.out.below hb1)
    replace HPL:=Lib.hid (HPL.out.below hb1)
    replace HBD:=Lib.hid (HBD.out.below hb1)
    replace HB:=Lib.hid (bThen HB.out hb1)
    have HV1:=Lib.hid hs1
    clear hb1 hs1
    go_wp2_with fail
    refine (copiedE_any DL D HDL.out _ x1 HSD.out (by omega)).mono ?_
    rintro e x2 ⟨g1,gc1,rfl,hb2,ho2⟩
    replace KR:=Lib.hid ((hb2.block _ (Array.getElem?_eq_some_iff.1 KR.out).1).trans KR.out)
    replace K11:=Lib.hid ((hb2.block _ (Array.getElem?_eq_some_iff.1 K11.out).1).trans K11.out)
    replace K5:=Lib.hid ((hb2.block _ (Array.getElem?_eq_some_iff.1 K5.out).1).trans K5.out)
    replace HSN:=Lib.hid (HSN.out.below hb2)
    replace HSD:=Lib.hid (HSD.out.below hb2)
    replace HPL:=Lib.hid (HPL.out.below hb2)
    replace HBD:=Lib.hid (HBD.out.below hb2)
    replace HB:=Lib.hid (bThen HB.out hb2)
    have HV2:=Lib.hid (HV1.out.below hb2)
    have HD2:=Lib.hid ((Sl.of_owns ho2).mono (S':=fun _ => True) fun _ _ => trivial)
    clear hb2 ho2 HV1
    go_wp2_with fail
    refine (copiedE_any bl L HBL.out.1 _ x2 HBD.out (by omega)).mono ?_
    rintro e x3 ⟨g2,gc2,rfl,hb3,ho3⟩
    replace KR:=Lib.hid ((hb3.block _ (Array.getElem?_eq_some_iff.1 KR.out).1).trans KR.out)
    replace K11:=Lib.hid ((hb3.block _ (Array.getElem?_eq_some_iff.1 K11.out).1).trans K11.out)
    replace K5:=Lib.hid ((hb3.block _ (Array.getElem?_eq_some_iff.1 K5.out).1).trans K5.out)
    replace HSN:=Lib.hid (HSN.out.below hb3)
    replace HSD:=Lib.hid (HSD.out.below hb3)
    replace HPL:=Lib.hid (HPL.out.below hb3)
    replace HBD:=Lib.hid (HBD.out.below hb3)
    replace HB:=Lib.hid (bThen HB.out hb3)
    have HV3:=Lib.hid (HV2.out.below hb3)
    have HD3:=Lib.hid (HD2.out.below hb3)
    have HL3:=Lib.hid ((Sl.of_owns ho3).mono (S':=fun _ => True) fun _ _ => trivial)
    clear hb3 ho3 HV2 HD2
    go_wp2_with fail
    refine (soon_any r vb nl vd (some ⟨g1,0,none⟩) D gc1 DL HDL.out HD64.out (some ⟨g2,0,none⟩) L gc2 bl HBL.out.1 (by omega) HBL.out.2.2.1 HBL.out.2.1 x3 HV3.out HD3.out HL3.out).mono ?_
    rintro e x4 ⟨hb4,hso⟩
    replace KR:=Lib.hid ((hb4.block _ (Array.getElem?_eq_some_iff.1 KR.out).1).trans KR.out)
    replace K11:=Lib.hid ((hb4.block _ (Array.getElem?_eq_some_iff.1 K11.out).1).trans K11.out)
    replace K5:=Lib.hid ((hb4.block _ (Array.getElem?_eq_some_iff.1 K5.out).1).trans K5.out)
    replace HSN:=Lib.hid (HSN.out.below hb4)
    replace HSD:=Lib.hid (HSD.out.below hb4)
    replace HPL:=Lib.hid (HPL.out.below hb4)
    replace HBD:=Lib.hid (HBD.out.below hb4)
    replace HB:=Lib.hid (bThen HB.out hb4)
    clear hb4
    obtain ⟨bs1,ua,U,uc,W1,rfl,hpm,hws,hwl,hW1⟩ : ∃ bs1 ua U uc W1,e = .returned (.tuple #[.slice ua U uc,.int .i64 0]) ∧ bs1.Perm bl ∧ SlSl (fun _ => True) x4 (.slice ua U uc) W1 ∧ W1.length = U ∧ W1 = soonG r bs1 gl:=by
     rcases hso with ⟨er,_,h,he⟩ | ⟨g',bs',v,h1,h2,h3,h4,h5⟩
     ·exact ((h gl HALL.out).1 HW0'.out).elim
     ·rw [HALL.out] at h1; cases h1
      obtain ⟨a,c,e1,_,_⟩ := h5.form
      subst e1
      exact ⟨bs',a,_,c,_,h4,h3,h5,rfl,rfl⟩
    have HW1:=Lib.hid hws
    have HWL:=Lib.hid hwl
    have HWE:=Lib.hid (And.intro hpm hW1)
    clear hso hws hwl hpm hW1 HV3 HD3 HL3
    obtain ⟨b0,bt,hbt⟩ : ∃ b0 bt,bl = b0 :: bt:=by
     cases bl with
     | nil => have:=HBL.out.1; simp at this; omega
     | cons b0 bt => exact ⟨b0,bt,rfl⟩
    obtain ⟨L1,hLL⟩ : ∃ L1,L - 1 = L1:=⟨_,rfl⟩
    have htl : bt.length = L1:=by have:=HBL.out.1; rw [hbt] at this; simp at this; omega
    have HTL : Hid (Sl (fun _ => True) x4 (.slice (some ⟨bd,1,none⟩) L1 (cd - 1)) (ints bt)):=Lib.hid (by
     have h:=sl_slice (HBD.out.mono (S':=fun _ => True) fun _ _ => trivial) (lo:=1) (hi:=L) hL1 (Nat.le_refl _)
     rw [hLL,ints_take_drop,List.take_of_length_le (Nat.le_of_eq HBL.out.1),hbt] at h
     simpa using h)
    have HBT:=Lib.hid (And.intro hbt htl)
    have hL1' : (1 : Int) ≤ (L : Int):=by omega
    have hLc:=HCD.out.1
    have hLM:=HCD.out.2
    unfold maxLen at hLM
    clear hbt htl
    go_upto_region 16 with fail
    refine wp_region_seq 13 [.is (.agg #[.int .i64 r.kind,.int .i64 r.players,.int .i64 r.last,.bool r.bull,.bool r.jump,.int .i64 r.rounds,.bool r.cut,.slice na nl nc,.int .i64 r.lives,.bool r.own]),kRul r nl,.is (.slice da D dc),kSl2 D (ints DL),.is (.slice (some ⟨bd,0,none⟩) L cd),kSl2 L1 (ints bt),kSl2 L1 (ints bt),kSo r gl bt,kSo r gl bt,kWs r gl bt,.is (.int .i64 0),kWs r gl bt,.is (.int .i64 0)] rfl mix (by kernel_rfl) (by kernel_rfl) ?_
    simp only [List.take_succ_cons,List.take_zero]
    refine seq_on (by rfl) (fun w3 hb3 hH => ?_) ?_
    ·have hk:=(hb3.block _ (Array.getElem?_eq_some_iff.1 KR.out).1).trans KR.out
     exact opOK_load_row 29 (.tmp 7) rfl b7 #[.int .i64 r.kind,.int .i64 r.players,.int .i64 r.last,.bool r.bull,.bool r.jump,.int .i64 r.rounds,.bool r.cut,.slice na nl nc,.int .i64 r.lives,.bool r.own] (by simp [Act.eval]) 29 (0,0) hk _ Tryz.underlying29 rfl (by kernel_rfl) ⟨rfl,Below.refl _ _⟩
    simp only [Act.put,List.setIfInBounds_toArray,List.set_cons_succ,List.set_cons_zero]
    refine seq_new ⟨_,0,0,rfl⟩ (by rfl) (fun w3 hb3 hH => ?_) ?_
    ·refine opOK_call (f:=6) (args:=#[.agg #[.int .i64 r.kind,.int .i64 r.players,.int .i64 r.last,.bool r.bull,.bool r.jump,.int .i64 r.rounds,.bool r.cut,.slice na nl nc,.int .i64 r.lives,.bool r.own]]) (by simp [go_sem]) ?_
     refine (ownE_any r na nl nc w3 (HSN.out.below hb3) (by omega)).mono ?_
     rintro e w' ⟨vb2,vd2,rfl,hb,hs⟩
     exact ⟨_,rfl,hb,⟨_,_,rfl⟩,⟨_,_,rfl,ownsN_base hs (Nat.zero_le _)⟩⟩
    rintro v ⟨vb2,vd2,rfl⟩
    simp only [Act.put,List.setIfInBounds_toArray,List.set_cons_succ,List.set_cons_zero]
    refine seq_on (by rfl) (fun w3 hb3 _ => ?_) ?_
    ·simp [opOK,go_sem,Below.refl]
     try exact rfl
    simp only [Act.put,List.setIfInBounds_toArray,List.set_cons_succ,List.set_cons_zero]
    refine seq_new ⟨_,none,0,rfl⟩ (by rfl) (fun w3 hb3 hH => ?_) ?_
    ·refine opOK_call (f:=7) (args:=#[.slice da D dc]) (by simp [go_sem]) ?_
     refine (copiedE_any DL D HDL.out _ w3 (HSD.out.below hb3) (by omega)).mono ?_
     rintro e w' ⟨g,c,rfl,hb,ho⟩
     exact ⟨_,rfl,hb,⟨_,_,rfl⟩,(Sl.of_owns ho).mono fun _ _ => trivial⟩
    rintro v ⟨a4,c4,rfl⟩
    simp only [Act.put,List.setIfInBounds_toArray,List.set_cons_succ,List.set_cons_zero]
    refine seq_on (by rfl) (fun w3 hb3 _ => ?_) ?_
    ·simp [opOK,go_sem,Below.refl]
     try exact rfl
    simp only [Act.put,List.setIfInBounds_toArray,List.set_cons_succ,List.set_cons_zero]
    refine seq_new ⟨_,none,0,rfl⟩ (by rfl) (fun w3 hb3 hH => ?_) ?_
    ·by_cases hc1 : cd = 1
     ·have hl0 : L = 1:=by omega
      have hl1 : L1 = 0:=by omega
      subst hc1 hl0 hl1
      exact opOK_val (v:=.slice (some ⟨bd,0,none⟩) 0 0) (w':=w3) (by simp [go_sem,execOp]) ⟨Below.refl _ _,⟨_,_,rfl⟩,by have h:=HBT.out.2; rw [List.length_eq_zero_iff] at h; rw [h]; exact ⟨_,0,rfl,Nat.le_refl _,Nat.zero_le _,fun i x hx => by simp at hx⟩⟩
     ·exact opOK_val (v:=.slice (some ⟨bd,1,none⟩) L1 (cd - 1)) (w':=w3) (by simp [go_sem,execOp,hL1',hLL,hc1]) ⟨Below.refl _ _,⟨_,_,rfl⟩,HTL.out.below hb3⟩
    rintro v ⟨a3,c3,rfl⟩
    simp only [Act.put,List.setIfInBounds_toArray,List.set_cons_succ,List.set_cons_zero]
    refine seq_new ⟨_,none,0,rfl⟩ (by rfl) (fun w3 hb3 hH => ?_) ?_
    ·refine opOK_call (f:=7) (args:=#[.slice a3 L1 c3]) (by simp [go_sem]) ?_
     have h5:=hH ⟨5,.data⟩ (by simp) rfl
     simp [addH,kSl2] at h5
     refine (copiedE_any bt L1 HBT.out.2 _ w3 h5 (by omega)).mono ?_
     rintro e w' ⟨g,c,rfl,hb,ho⟩
     exact ⟨_,rfl,hb,⟨_,_,rfl⟩,(Sl.of_owns ho).mono fun _ _ => trivial⟩
    rintro v ⟨a5,c5,rfl⟩
    simp only [Act.put,List.setIfInBounds_toArray,List.set_cons_succ,List.set_cons_zero]
    refine seq_new ⟨_,none,0,0,rfl⟩ (by rfl) (fun w3 hb3 hH => ?_) ?_
    ·have h1:=hH ⟨1,.data⟩ (by simp) rfl
     have h3:=hH ⟨3,.data⟩ (by simp) rfl
     have h6:=hH ⟨6,.data⟩ (by simp) rfl
     simp [addH,kSl2,kRul] at h1 h3 h6
     obtain ⟨vbx,vdx,⟨rfl,rfl⟩,h1⟩ := h1
     refine opOK_call (f:=5) (args:=#[.agg #[.int .i64 r.kind,.int .i64 r.players,.int .i64 r.last,.bool r.bull,.bool r.jump,.int .i64 r.rounds,.bool r.cut,.slice (some ⟨vb2,0,none⟩) nl vd2,.int .i64 r.lives,.bool r.own],.slice a4 D c4,.slice a5 L1 c5]) (by simp [go_sem]) ?_
     refine (soon_any r (some ⟨vb2,0,none⟩) nl vd2 a4 D c4 DL HDL.out HD64.out a5 L1 c5 bt HBT.out.2 (by omega) (fun b hb => HBL.out.2.2.1 b (by rw [HBT.out.1]; exact List.mem_cons_of_mem _ hb)) (by have:=HBL.out.2.1; rw [HBT.out.1] at this; exact (List.nodup_cons.1 this).2) w3 (Sl.of_owns h1) h3 h6).mono ?_
     rintro e w' ⟨hb,hso⟩
     rcases hso with ⟨er,_,h,he⟩ | ⟨g2,bs2,v2,e1,e2,e3,e4,e5⟩
     ·exact ((h gl HALL.out).1 HW0'.out).elim
     ·rw [HALL.out] at e1
      cases e1
      obtain ⟨a,c,e6,_,_⟩ := e5.form
      subst e6
      exact ⟨_,e4,hb,⟨_,_,_,rfl⟩,⟨bs2,_,rfl,e3,e5⟩⟩
    rintro v ⟨a6,U2,c6,rfl⟩
    simp only [Act.put,List.setIfInBounds_toArray,List.set_cons_succ,List.set_cons_zero]
    refine seq_new ⟨_,none,0,0,rfl⟩ (by rfl) (fun w3 hb3 hH => ?_) ?_
    ·have h7:=hH ⟨7,.data⟩ (by simp) rfl
     exact opOK_val (v:=.tuple #[.slice a6 U2 c6,.int .i64 0]) (w':=w3) (by simp [go_sem,execOp]) ⟨Below.refl _ _,⟨_,_,_,rfl⟩,h7⟩
    rintro v ⟨a7,U3,c7,rfl⟩
    simp only [Act.put,List.setIfInBounds_toArray,List.set_cons_succ,List.set_cons_zero]
    refine seq_new ⟨_,none,0,0,rfl⟩ (by rfl) (fun w3 hb3 hH => ?_) ?_
    ·obtain ⟨bs,u,e,hp,hs⟩ := hH ⟨8,.data⟩ (by simp) rfl
     cases e
     exact opOK_val (v:=.slice a7 U3 c7) (w':=w3) (by simp [go_sem,execOp]) ⟨Below.refl _ _,⟨_,_,_,rfl⟩,bs,hp,hs⟩
    rintro v ⟨a8,U4,c8,rfl⟩
    simp only [Act.put,List.setIfInBounds_toArray,List.set_cons_succ,List.set_cons_zero]
    refine seq_on (by rfl) (fun w3 hb3 _ => ?_) ?_
    ·simp [opOK,go_sem,Below.refl]
     try exact rfl
    simp only [Act.put,List.setIfInBounds_toArray,List.set_cons_succ,List.set_cons_zero]
    refine seq_new ⟨_,none,0,0,rfl⟩ (by rfl) (fun w3 hb3 hH => ?_) ?_
    ·have h9:=hH ⟨9,.data⟩ (by simp) rfl
     exact opOK_val (v:=.slice a8 U4 c8) (w':=w3) (by simp [go_sem,execOp]) ⟨Below.refl _ _,⟨_,_,_,rfl⟩,h9⟩
    rintro v ⟨a9,F,c9,rfl⟩
    simp only [Act.put,List.setIfInBounds_toArray,List.set_cons_succ,List.set_cons_zero]
    refine seq_on (by rfl) (fun w3 hb3 _ => ?_) ?_
    ·simp [opOK,go_sem,Below.refl]
     try exact rfl
    simp only [Act.put,List.setIfInBounds_toArray,List.set_cons_succ,List.set_cons_zero]
    refine seq_end fun x5 hb5 hH => ?_
    simp only [List.drop_succ_cons,List.drop_zero]
    obtain ⟨bs2,hp2,hs2⟩ := hH 11 (by decide)
    obtain ⟨W2,hW2⟩ : ∃ x,soonG r bs2 gl = x:=⟨_,rfl⟩
    rw [hW2] at hs2
    have hF : W2.length = F:=by obtain ⟨a,c,e,_,_⟩ := hs2.form; cases e; rfl
    have HS2:=Lib.hid hs2
    have HFL:=Lib.hid hF
    have HW2E:=Lib.hid (And.intro hp2 hW2)
    replace KR:=Lib.hid ((hb5.block _ (Array.getElem?_eq_some_iff.1 KR.out).1).trans KR.out)
    replace K11:=Lib.hid ((hb5.block _ (Array.getElem?_eq_some_iff.1 K11.out).1).trans K11.out)
    replace K5:=Lib.hid ((hb5.block _ (Array.getElem?_eq_some_iff.1 K5.out).1).trans K5.out)
    replace HSN:=Lib.hid (HSN.out.below hb5)
    replace HSD:=Lib.hid (HSD.out.below hb5)
    replace HPL:=Lib.hid (HPL.out.below hb5)
    replace HBD:=Lib.hid (HBD.out.below hb5)
    replace HW1:=Lib.hid (HW1.out.below hb5)
    replace HB:=Lib.hid (bThen HB.out hb5)
    clear hb5 hH hp2 hW2 hs2 hF HTL
    have hfew : ∀ x ∈ W2,W1 ≠ [] ∧ ∀ y ∈ W1,y.length ≤ x.length:=by
     intro x hx
     rw [HWE.out.2]
     rw [← HW2E.out.2] at hx
     exact soonG_fewer (fun b hb => HWE.out.1.mem_iff.2 (by rw [HBT.out.1]; exact List.mem_cons_of_mem _ (HW2E.out.1.mem_iff.1 hb))) hx
    have HFEW:=Lib.hid hfew
    clear hfew
    obtain ⟨fz,hfz⟩ : ∃ fz,decide ((0 : Int) < (F : Int)) = fz:=⟨_,rfl⟩
    have hfzn : decide (0 < F) = fz:=by rw [← hfz]; exact decide_eq_decide.2 (by omega)
    go_upto_region 17 with fail
    go_cut [139] from 113 to 138 (fun tv wx => tv = .bool false ∧ Hid (Below x5.heap.size x5 wx))
    case first =>
     cases fz
     case false =>
      go_quiet (fail)
      generalize hwd : World.drewN _ _ = wd
      have hbd : Below x5.heap.size x5 wd:=by rw [← hwd]; exact bDrew _ _
      go_wp2
      go_meet
      case rel => exact ⟨rfl,Lib.hid hbd⟩
     case true =>
      have hF0 : 0 < F:=of_decide_eq_true hfzn
      have hx0 : 0 < W2.length:=by rw [HFL.out]; exact hF0
      have hfw:=HFEW.out W2[0] (List.getElem_mem hx0)
      have hy0 : 0 < W1.length:=List.length_pos_iff.2 hfw.1
      have hle:=hfw.2 W1[0] (List.getElem_mem hy0)
      have hU0 : 0 < U:=by rw [← HWL.out]; exact hy0
      obtain ⟨fb,fo,fu,e1, -,fc,fs⟩ := HS2.out.cell hx0
      obtain ⟨ub0,uo0,uu,e2, -,uc0,us⟩ := HW1.out.cell hy0
      cases e1
      cases e2
      obtain ⟨fa,fcap,rfl, -, -⟩ := fs.form
      obtain ⟨uua,ucap,rfl, -, -⟩ := us.form
      rw [ints_length] at fc uc0
      obtain ⟨l1,hl1⟩ : ∃ x,W2[0].length = x:=⟨_,rfl⟩
      obtain ⟨l0,hl0⟩ : ∃ x,W1[0].length = x:=⟨_,rfl⟩
      rw [hl1] at fc
      rw [hl0] at uc0
      have hll : decide (l1 < l0) = false:=decide_eq_false (by omega)
      have hlli : decide ((l1 : Int) < (l0 : Int)) = false:=decide_eq_false (by omega)
      have hUe : ((U : Int) == 0) = false:=by rw [beq_eq_false_iff_ne]; omega
      have hUp : (0 : Int) < (U : Int):=by omega
      have hFp : (0 : Int) < (F : Int):=by omega
      simp only [Nat.add_zero] at fc uc0
      clear fs us hle hfw hl1 hl0 hx0 hy0
      go_quiet (fail)
      generalize hwd : World.drewN _ _ = wd
      have hbd : Below x5.heap.size x5 wd:=by rw [← hwd]; exact bDrew _ _
      go_wp2
      go_meet
      case rel => exact ⟨rfl,Lib.hid hbd⟩
    case rest =>
     obtain ⟨rfl,HB6⟩ := hcut
     obtain ⟨x6,rfl⟩ : ∃ w : World,w = wc:=⟨_,rfl⟩
     have hb6:=HB6.out
     replace KR:=Lib.hid ((hb6.block _ (Array.getElem?_eq_some_iff.1 KR.out).1).trans KR.out)
     replace K11:=Lib.hid ((hb6.block _ (Array.getElem?_eq_some_iff.1 K11.out).1).trans K11.out)
     replace K5:=Lib.hid ((hb6.block _ (Array.getElem?_eq_some_iff.1 K5.out).1).trans K5.out)
     replace HSN:=Lib.hid (HSN.out.below hb6)
     replace HSD:=Lib.hid (HSD.out.below hb6)
     replace HPL:=Lib.hid (HPL.out.below hb6)
     replace HBD:=Lib.hid (HBD.out.below hb6)
     replace HW1:=Lib.hid (HW1.out.below hb6)
     replace HB:=Lib.hid (bThen HB.out hb6)
     clear hfz hfzn hb6 HB6
     have HOKB : Hid (∀ b ∈ bs1,okBed b = true):=Lib.hid fun b hb => HBL.out.2.2.1 b (HWE.out.1.mem_iff.1 hb)
     have HD3 : Hid (gl.darts < 3):=Lib.hid HLIVE.out.darts
     have HWM : Hid (∀ x ∈ W1,WinP r bs1 gl x ∧ 1 ≤ x.length ∧ x.length + gl.darts ≤ 3 ∧ ∀ y ∈ W1,y.length = x.length):=Lib.hid fun x hx => by
      rw [HWE.out.2] at hx ⊢
      exact soonG_mem hx
     have hUb : U ≤ 9223372036854775807:=by
      obtain ⟨a,c,e,h1,h2⟩ := HW1.out.form
      simp only [Value.slice.injEq] at e
      unfold maxLen at h2
      omega
     go_upto_region 20 with fail
     clear hL1 hL1' hLc hLM hLL
     go_loopw [22,23,24,25,26,27] (fun iv _ _ _ _ _ wr => ∃ i : Nat,i ≤ U ∧ iv = .int .i64 i ∧ Hid (Below x6.heap.size x6 wr)) (fun iv _ _ _ _ _ _ => U - (intOf iv).toNat)
     case atStart => exact ⟨0,by omega,by go_num,Lib.hid (Below.refl _ _)⟩
     case round =>
      obtain ⟨i,hi,rfl,HBi⟩ := hrel
      obtain ⟨xo,rfl⟩ : ∃ w : World,w = wr:=⟨_,rfl⟩
      by_cases hiU : i < U
      ·have d1 : decide ((i : Int) < (U : Int)) = true:=decide_eq_true (by omega)
       have d1n : decide (i < U) = true:=decide_eq_true hiU
       have hix : i < W1.length:=by rw [HWL.out]; exact hiU
       have h0x : 0 < W1.length:=by omega
       obtain ⟨ub,uo,xu,e2, -,hc1,hs1⟩ := (HW1.out.below HBi.out).cell hix
       obtain ⟨ub',uo',xu0,e3, -,hc0,hs0⟩ := (HW1.out.below HBi.out).cell h0x
       cases e2
       cases e3
       obtain ⟨xa,xc,rfl, -, -⟩ := hs1.form
       obtain ⟨xa0,xc0,rfl, -, -⟩ := hs0.form
       rw [ints_length] at hc1 hc0 hs1
       obtain ⟨x,hx⟩ : ∃ x,W1[i] = x:=⟨_,rfl⟩
       obtain ⟨l0,hl0⟩ : ∃ l,W1[0].length = l:=⟨_,rfl⟩
       rw [hx] at hc1 hs1
       rw [hl0] at hc0
       obtain ⟨lx,hlx⟩ : ∃ l,x.length = l:=⟨_,rfl⟩
       rw [hlx] at hc1 hs1
       obtain ⟨hwp,hx1,hx3,hxl⟩ := HWM.out x (by rw [← hx]; exact List.getElem_mem hix)
       have hll : l0 = lx:=by rw [← hl0,← hlx]; exact hxl _ (List.getElem_mem h0x)
       obtain ⟨gz,hgz,hgw,hgg⟩ := hwp.play HOKB.out HGOOD.out HW0'.out
       rw [← play_more HRC.out HPLF.out HDL.out (by omega)] at hgz
       simp only [Nat.add_zero] at hc0
       have H64 : Hid (∀ b ∈ DL ++ x, -9223372036854775808 ≤ b ∧ b ≤ 9223372036854775807):=Lib.hid fun b hb => by
        rcases List.mem_append.1 hb with hb | hb
        ·exact HD64.out b hb
        ·have:=okBed_bd (HOKB.out b (hwp.mem b hb)); omega
       have HGZ:=Lib.hid hgz
       have HGW:=Lib.hid hgw
       have HGG:=Lib.hid hgg.inv.len
       have HXS:=Lib.hid hs1
       have HLX:=Lib.hid hlx
       have HX13 : Hid (1 ≤ lx ∧ lx + gl.darts ≤ 3):=Lib.hid (by omega)
       have HLL:=Lib.hid hll
       clear hx hl0 hlx hx1 hx3 hxl hwp hgz hgw hgg hs1 hs0 hll hix h0x
       have hbi:=HBi.out
       have KRo:=Lib.hid ((hbi.block _ (Array.getElem?_eq_some_iff.1 KR.out).1).trans KR.out)
       have K11o:=Lib.hid ((hbi.block _ (Array.getElem?_eq_some_iff.1 K11.out).1).trans K11.out)
       have K5o:=Lib.hid ((hbi.block _ (Array.getElem?_eq_some_iff.1 K5.out).1).trans K5.out)
       have HSNo:=Lib.hid (HSN.out.below hbi)
       have HSDo:=Lib.hid (HSD.out.below hbi)
       have HPLo:=Lib.hid (HPL.out.below hbi)
       have HBo:=Lib.hid (bThen HB.out hbi)
       have hbi9:=hbi
       clear hbi HBi
       obtain ⟨xb,xf,rfl,hxc⟩ : ∃ b o,xa = some ⟨b,o,none⟩ ∧ ∀ j u,(ints x)[j]? = some u → xo.cell? ⟨b,o + j,none⟩ = some u:=by
        have hx0 : 0 < x.length:=by have:=HX13.out; rw [HLX.out]; omega
        obtain ⟨b,o,e, -, -⟩ := HXS.out.cell hx0
        cases e
        obtain ⟨a',c',e',_,_,h4⟩ := HXS.out
        refine ⟨b,o,rfl,fun j u hj => ?_⟩
        obtain ⟨b2,o2,e2, -,h5⟩ := h4 j u hj
        cases e'
        cases e2
        exact h5
       have HXC:=Lib.hid hxc
       have hiUi : (i : Int) < (U : Int):=by omega
       have HXZ : Hid (lx ≤ 3):=Lib.hid (by have:=HX13.out; omega)
       clear hxc
       go_upto_region 22 with fail
       obtain ⟨mz,hmz⟩ : ∃ m,gz.win.length = m:=⟨_,rfl⟩
       have HGM:=Lib.hid hmz
       have HGN : Hid (gz.pls.length = n):=Lib.hid (by have:=HGG.out; omega)
       have HLE : Hid ((DL ++ x).length = D + lx):=Lib.hid (by rw [List.length_append,HDL.out,HLX.out])
       clear hmz
       refine wp_region_seqV 17 ((fun v => v = .agg #[.int .i64 r.kind,.int .i64 r.players,.int .i64 r.last,.bool r.bull,.bool r.jump,.int .i64 r.rounds,.bool r.cut,.slice na nl nc,.int .i64 r.lives,.bool r.own]) :: (fun v => ∃ vb vd : Nat,v = .agg #[.int .i64 r.kind,.int .i64 r.players,.int .i64 r.last,.bool r.bull,.bool r.jump,.int .i64 r.rounds,.bool r.cut,.slice (some ⟨vb,0,none⟩) nl vd,.int .i64 r.lives,.bool r.own]) :: (fun v => v = .slice da D dc) :: (fun v => ∃ b c : Nat,v = .slice (some ⟨b,0,none⟩) D c) :: (fun v => v = .slice (some ⟨ub,uo,none⟩) U uc) :: (fun v => v = .int .i64 i) :: (fun v => v = .pointer (some ⟨ub,uo + i,none⟩)) :: (fun v => v = .slice (some ⟨xb,xf,none⟩) lx xc) :: (fun v => ∃ b c : Nat,v = .slice (some ⟨b,0,none⟩) (D + lx) c) :: (fun v => ∃ (pa : Option Addr) (pc : Nat) (wa : Option Addr) (wc : Nat),v = .tuple #[.agg #[.int .i64 gz.round,.int .i64 gz.player,.int .i64 gz.darts,.slice pa n pc,.slice wa mz wc],.int .i64 0,.int .i64 0]) :: (fun v => ∃ (pa : Option Addr) (pc : Nat) (wa : Option Addr) (wc : Nat),v = .tuple #[.agg #[.int .i64 gz.round,.int .i64 gz.player,.int .i64 gz.darts,.slice pa n pc,.slice wa mz wc],.int .i64 0,.int .i64 0]) :: (fun v => ∃ (pa : Option Addr) (pc : Nat) (wa : Option Addr) (wc : Nat),v = .agg #[.int .i64 gz.round,.int .i64 gz.player,.int .i64 gz.darts,.slice pa n pc,.slice wa mz wc]) :: (fun v => v = .int .i64 0) :: (fun v => v = .int .i64 0) :: (fun v => ∃ b : Nat,v = .pointer (some ⟨b,0,none⟩)) :: (fun v => v = undef) :: (fun v => v = .int .i64 0) :: []) (JE xo r nl D (D + lx) DL (DL ++ x) gz n mz) rfl mix (by kernel_rfl) (by kernel_rfl) (fun L vs vs' w hc h => h.congr hc) (fun vs => JE.start vs) ?_
       simp only [List.take_succ_cons,List.take_zero]
       refine sv_rd rfl (fun _ _ _ h => h.read (by simp) (by simp) (by simp) (by simp) (by simp) (by simp) (by simp) (by simp)) (fun u1 L1 vs1 hvs1 hL1 hJ1 => ?_) ?_
       ·have hx:=(hJ1.below.block _ (Array.getElem?_eq_some_iff.1 KRo.out).1).trans KRo.out
        exact opOK_load_row 29 (.tmp 7) rfl b7 #[.int .i64 r.kind,.int .i64 r.players,.int .i64 r.last,.bool r.bull,.bool r.jump,.int .i64 r.rounds,.bool r.cut,.slice na nl nc,.int .i64 r.lives,.bool r.own] (by simp [Act.eval]) 29 (0,0) hx _ Tryz.underlying29 rfl (by kernel_rfl) ⟨rfl,rfl⟩
       simp only [Act.put,List.setIfInBounds_toArray,List.set_cons_succ,List.set_cons_zero,List.nil_append]
       refine sv_new ⟨_,0,0,rfl⟩ rfl (fun u1 L1 vs1 hvs1 hL1 hJ1 hd => ?_) ?_
       ·refine opOK_call (f:=6) (args:=#[.agg #[.int .i64 r.kind,.int .i64 r.players,.int .i64 r.last,.bool r.bull,.bool r.jump,.int .i64 r.rounds,.bool r.cut,.slice na nl nc,.int .i64 r.lives,.bool r.own]]) (by simp [go_sem]) ?_
        refine (ownE_any r na nl nc u1 (HSNo.out.below hJ1.below) (by omega)).mono ?_
        rintro e w' ⟨vb2,vd2,rfl,hb,hs⟩
        exact ⟨_,rfl,⟨_,_,rfl⟩,hJ1.own1 hb (ownsN_base hs hJ1.below.size)⟩
       rintro v ⟨vb2,vd2,rfl⟩
       simp only [Act.put,List.setIfInBounds_toArray,List.set_cons_succ,List.set_cons_zero,List.nil_append,List.cons_append]
       refine sv_rd rfl (fun _ _ _ h => h.read (by simp) (by simp) (by simp) (by simp) (by simp) (by simp) (by simp) (by simp)) (fun u1 L1 vs1 hvs1 hL1 hJ1 => ?_) ?_
       ·simp [opOK,go_sem]
       simp only [Act.put,List.setIfInBounds_toArray,List.set_cons_succ,List.set_cons_zero,List.nil_append,List.cons_append]
       refine sv_new ⟨_,0,0,rfl⟩ rfl (fun u1 L1 vs1 hvs1 hL1 hJ1 hd => ?_) ?_
       ·refine opOK_call (f:=7) (args:=#[.slice da D dc]) (by simp [go_sem]) ?_
        refine (copiedE_any DL D HDL.out _ u1 (HSDo.out.below hJ1.below) (by omega)).mono ?_
        rintro e w' ⟨g,c,rfl,hb,ho⟩
        exact ⟨_,rfl,⟨_,_,rfl⟩,hJ1.row3 hb (ownsN_base ho hJ1.below.size)⟩
       rintro v ⟨g8,c8,rfl⟩
       simp only [Act.put,List.setIfInBounds_toArray,List.set_cons_succ,List.set_cons_zero,List.nil_append,List.cons_append]
       refine sv_rd rfl (fun _ _ _ h => h.read (by simp) (by simp) (by simp) (by simp) (by simp) (by simp) (by simp) (by simp)) (fun u1 L1 vs1 hvs1 hL1 hJ1 => ?_) ?_
       ·simp [opOK,go_sem]
       simp only [Act.put,List.setIfInBounds_toArray,List.set_cons_succ,List.set_cons_zero,List.nil_append,List.cons_append]
       refine sv_rd rfl (fun _ _ _ h => h.read (by simp) (by simp) (by simp) (by simp) (by simp) (by simp) (by simp) (by simp)) (fun u1 L1 vs1 hvs1 hL1 hJ1 => ?_) ?_
       ·simp [opOK,go_sem]
       simp only [Act.put,List.setIfInBounds_toArray,List.set_cons_succ,List.set_cons_zero,List.nil_append,List.cons_append]
       refine sv_rd rfl (fun _ _ _ h => h.read (by simp) (by simp) (by simp) (by simp) (by simp) (by simp) (by simp) (by simp)) (fun u1 L1 vs1 hvs1 hL1 hJ1 => ?_) ?_
       ·have y1:=bAt hJ1.below hc1
        simp [opOK,go_sem,hiUi]
       simp only [Act.put,List.setIfInBounds_toArray,List.set_cons_succ,List.set_cons_zero,List.nil_append,List.cons_append]
       refine sv_rd rfl (fun _ _ _ h => h.read (by simp) (by simp) (by simp) (by simp) (by simp) (by simp) (by simp) (by simp)) (fun u1 L1 vs1 hvs1 hL1 hJ1 => ?_) ?_
       ·have y1:=bAt hJ1.below hc1
        simp [opOK,go_sem,y1]
       simp only [Act.put,List.setIfInBounds_toArray,List.set_cons_succ,List.set_cons_zero,List.nil_append,List.cons_append]
       refine sv_new ⟨_,0,0,rfl⟩ rfl (fun u1 L1 vs1 hvs1 hL1 hJ1 hd => ?_) ?_
       ·have h3:=hd ⟨3,.data⟩ (by simp) rfl
        have e3:=hvs1 3 _ rfl
        obtain ⟨b,c,e,hr⟩ := hJ1.row h3
        rw [e3] at e
        cases e
        refine opOK_mono (opOK_appendK (.tmp 150) (.tmp 154) 30 rfl xo.heap.size 45 (.int .i64 0) 8 Tryz.underlying30 info_bed rfl g8 D c8 (ints DL) (by simp [Act.eval]) hr xb xf lx xc (ints x) (by simp [Act.eval]) (by rw [ints_length,HLX.out]) (fun j u hj => bAt hJ1.below (HXC.out j u hj)) (ints_oneC x) (by have:=HXZ.out; omega) (by decide) hJ1.below.size) ?_
        rintro v' w' ⟨g',c',rfl,ho',ho,hg,_⟩
        exact ⟨⟨_,_,rfl⟩,hJ1.app8 hL1 h3 e3 hg ho (by rw [ints_append]; exact ho')⟩
       rintro v ⟨g9,c9,rfl⟩
       simp only [Act.put,List.setIfInBounds_toArray,List.set_cons_succ,List.set_cons_zero,List.nil_append,List.cons_append]
       refine sv_new ⟨_,none,0,none,0,rfl⟩ rfl (fun u1 L1 vs1 hvs1 hL1 hJ1 hd => ?_) ?_
       ·have h1:=hd ⟨1,.data⟩ (by simp) rfl
        have h8:=hd ⟨8,.data⟩ (by simp) rfl
        have e1:=hvs1 1 _ rfl
        have e8:=hvs1 8 _ rfl
        obtain ⟨vb,vd,e,hown⟩ := hJ1.own h1
        obtain ⟨b,c,e',happ⟩ := hJ1.app h8
        rw [e1] at e
        rw [e8] at e'
        simp only [rulV,Value.agg.injEq,Array.mk.injEq,List.cons.injEq,Value.slice.injEq,Option.some.injEq,Addr.mk.injEq,true_and,and_true] at e
        obtain ⟨rfl,rfl⟩ := e
        cases e'
        refine opOK_call (f:=10) (args:=#[.agg #[.int .i64 r.kind,.int .i64 r.players,.int .i64 r.last,.bool r.bull,.bool r.jump,.int .i64 r.rounds,.bool r.cut,.slice (some ⟨vb2,0,none⟩) nl vd2,.int .i64 r.lives,.bool r.own],.slice (some ⟨g9,0,none⟩) (D + lx) c9]) (by simp [go_sem]) ?_
        refine (play_g r (some ⟨vb2,0,none⟩) nl vd2 (some ⟨g9,0,none⟩) (D + lx) c9 (DL ++ x) gz n mz HGZ.out HGN.out HGM.out HLE.out H64.out u1 (Sl.of_owns hown) (Sl.of_owns happ)).mono ?_
        rintro e w' ⟨pz,cz,wz,vz,rfl,hb,hst⟩
        exact ⟨_,rfl,⟨_,_,_,_,rfl⟩,hJ1.play9 hb h8 hL1 (StaV.parts hst).2.1⟩
       rintro v ⟨pz,cz,wz,vz,rfl⟩
       simp only [Act.put,List.setIfInBounds_toArray,List.set_cons_succ,List.set_cons_zero,List.nil_append,List.cons_append]
       refine sv_new ⟨_,none,0,none,0,rfl⟩ rfl (fun u1 L1 vs1 hvs1 hL1 hJ1 hd => ?_) ?_
       ·have h9:=hd ⟨9,.data⟩ (by simp) rfl
        have e9:=hvs1 9 _ rfl
        exact opOK_val (v:=.tuple #[.agg #[.int .i64 gz.round,.int .i64 gz.player,.int .i64 gz.darts,.slice pz n cz,.slice wz mz vz],.int .i64 0,.int .i64 0]) (w':=u1) (by simp [go_sem,execOp]) ⟨⟨_,_,_,_,rfl⟩,hJ1.read10 hL1 h9 e9⟩
       rintro v ⟨pz1,cz1,wz1,vz1,rfl⟩
       simp only [Act.put,List.setIfInBounds_toArray,List.set_cons_succ,List.set_cons_zero,List.nil_append,List.cons_append]
       refine sv_new ⟨_,none,0,none,0,rfl⟩ rfl (fun u1 L1 vs1 hvs1 hL1 hJ1 hd => ?_) ?_
       ·have h10:=hd ⟨10,.data⟩ (by simp) rfl
        have e10:=hvs1 10 _ rfl
        exact opOK_val (v:=.agg #[.int .i64 gz.round,.int .i64 gz.player,.int .i64 gz.darts,.slice pz1 n cz1,.slice wz1 mz vz1]) (w':=u1) (by simp [go_sem,execOp]) ⟨⟨_,_,_,_,rfl⟩,hJ1.read11 hL1 h10 e10⟩
       rintro v ⟨pz2,cz2,wz2,vz2,rfl⟩
       simp only [Act.put,List.setIfInBounds_toArray,List.set_cons_succ,List.set_cons_zero,List.nil_append,List.cons_append]
       refine sv_rd rfl (fun _ _ _ h => h.read (by simp) (by simp) (by simp) (by simp) (by simp) (by simp) (by simp) (by simp)) (fun u1 L1 vs1 hvs1 hL1 hJ1 => ?_) ?_
       ·simp [opOK,go_sem]
       simp only [Act.put,List.setIfInBounds_toArray,List.set_cons_succ,List.set_cons_zero,List.nil_append,List.cons_append]
       refine sv_rd rfl (fun _ _ _ h => h.read (by simp) (by simp) (by simp) (by simp) (by simp) (by simp) (by simp) (by simp)) (fun u1 L1 vs1 hvs1 hL1 hJ1 => ?_) ?_
       ·simp [opOK,go_sem]
       simp only [Act.put,List.setIfInBounds_toArray,List.set_cons_succ,List.set_cons_zero,List.nil_append,List.cons_append]
       refine sv_new ⟨_,0,rfl⟩ rfl (fun u1 L1 vs1 hvs1 hL1 hJ1 hd => ?_) ?_
       ·exact opOK_val (v:=.pointer (some ⟨u1.heap.size,0,none⟩)) (w':=u1.alloc (.cells #[.int .i64 0,.int .i64 0,.int .i64 0,.slice none 0 0,.slice none 0 0] 36)) (by simp [go_sem,execOp]) ⟨⟨_,rfl⟩,hJ1.new14 hL1 rfl⟩
       rintro v ⟨b23,rfl⟩
       simp only [Act.put,List.setIfInBounds_toArray,List.set_cons_succ,List.set_cons_zero,List.nil_append,List.cons_append]
       refine sv_new ⟨undef,rfl⟩ rfl (fun u1 L1 vs1 hvs1 hL1 hJ1 hd => ?_) ?_
       ·have h14:=hd ⟨14,.data⟩ (by simp) rfl
        have h11:=hd ⟨11,.data⟩ (by simp) rfl
        have e14:=hvs1 14 _ rfl
        have e11:=hvs1 11 _ rfl
        obtain ⟨b,A,e,hb,hA,hh⟩ := hJ1.al h14
        rw [e14] at e
        cases e
        exact opOK_store_row 36 (.tmp 23) (.tmp 157) rfl b23 #[.int .i64 gz.round,.int .i64 gz.player,.int .i64 gz.darts,.slice pz2 n cz2,.slice wz2 mz vz2] (by simp [Act.eval]) (by simp [Act.eval]) 36 A hh (by kernel_rfl) hA (by simp [Value.oneCell']) ⟨rfl,hJ1.store15 h11 h14 e11 e14 _⟩
       rintro v rfl
       simp only [Act.put,List.nil_append,List.cons_append]
       refine sv_rd rfl (fun _ _ _ h => h.read (by simp) (by simp) (by simp) (by simp) (by simp) (by simp) (by simp) (by simp)) (fun u1 L1 vs1 hvs1 hL1 hJ1 => ?_) ?_
       ·simp [opOK,go_sem]
       simp only [Act.put,List.setIfInBounds_toArray,List.set_cons_succ,List.set_cons_zero,List.nil_append,List.cons_append]
       refine sv_end fun vs9 x9 hvs9 hJ9 => ?_
       simp only [List.drop_succ_cons,List.drop_zero]
       have e9:=hvs9 9 _ rfl
       have e10:=hvs9 10 _ rfl
       have e11:=hvs9 11 _ rfl
       have e14:=hvs9 14 _ rfl
       obtain ⟨paA,pcA,waA,wcA,eA,hsA⟩ := hJ9.pl (by decide)
       have eB:=(hJ9.d10 (by decide)).2
       obtain ⟨-,paC,pcC,waC,wcC,eC,eD⟩ := hJ9.d11 (by decide)
       obtain ⟨paE,pcE,waE,wcE,bE, -, -,eE,eF,hhE⟩ := hJ9.st (by decide)
       rw [e10] at eB eC
       rw [e9] at eA eB
       rw [e11] at eD eE
       rw [e14] at eF
       simp only [staV,Value.tuple.injEq,Value.agg.injEq,Array.mk.injEq,List.cons.injEq,Value.slice.injEq,Value.pointer.injEq,Option.some.injEq,Addr.mk.injEq,and_true,true_and] at eA eB eC eD eE eF
       obtain ⟨⟨rfl,rfl⟩,rfl,rfl⟩ := eA
       obtain ⟨⟨rfl,rfl⟩,rfl,rfl⟩ := eB
       obtain ⟨⟨rfl,rfl⟩,rfl,rfl⟩ := eC
       obtain ⟨⟨rfl,rfl⟩,rfl,rfl⟩ := eD
       obtain ⟨⟨rfl,rfl⟩,rfl,rfl⟩ := eE
       subst eF
       have K23:=Lib.hid hhE
       have HWZ:=Lib.hid (hsA.mono (S':=fun _ => True) fun _ _ => trivial)
       unfold staV at K23
       clear hhE hsA
       have hb9:=hJ9.below
       have HC1:=Lib.hid (And.intro (bAt hb9 hc1) (bAt hb9 hc0))
       have K11z:=Lib.hid ((hb9.block _ (Array.getElem?_eq_some_iff.1 K11o.out).1).trans K11o.out)
       have HBz:=Lib.hid (hbi9.trans (hb9.mono hbi9.size))
       clear hb9 hJ9 hvs9 hc1 hc0 e9 e10 e11 e14 hbi9
       have hmzb:=HWZ.out.len
       rw [ints_length,HGM.out] at hmzb
       unfold maxLen at hmzb
       have z4 : x9.cell? ⟨b23,4,none⟩ = some (.slice wz2 mz vz2):=by rw [cell_of_heap K23.out]; rfl
       go_upto_region 25 with fail
       clear z4
       go_loopw [26,27] (fun wv jv wr => ∃ j : Nat,j ≤ mz ∧ jv = .int .i64 j ∧ wv = .bool (decide ((gl.player : Int) ∈ gz.win.take j)) ∧ Hid (Below x9.heap.size x9 wr)) (fun _ jv _ => mz - (intOf jv).toNat)
       case atStart => exact ⟨0,by omega,by go_num,by simp,Lib.hid (Below.refl _ _)⟩
       case round =>
        obtain ⟨j,hj,rfl,rfl,HBj⟩ := hrel
        obtain ⟨wi,rfl⟩ : ∃ w : World,w = wr:=⟨_,rfl⟩
        have z4 : wi.cell? ⟨b23,4,none⟩ = some (.slice wz2 mz vz2):=bAt HBj.out (by rw [cell_of_heap K23.out]; rfl)
        have s1 : wi.cell? ⟨b11,1,none⟩ = some (.int .i64 gl.player):=bAt HBj.out (by rw [cell_of_heap K11z.out]; rfl)
        have s2 : wi.cell? ⟨b11,2,none⟩ = some (.int .i64 gl.darts):=bAt HBj.out (by rw [cell_of_heap K11z.out]; rfl)
        obtain ⟨fb,hfb⟩ : ∃ fb,decide ((gl.player : Int) ∈ gz.win.take j) = fb:=⟨_,rfl⟩
        rw [hfb]
        by_cases hjm : j < mz
        ·have d2 : decide ((j : Int) < (mz : Int)) = true:=decide_eq_true (by omega)
         have d2n : decide (j < mz) = true:=decide_eq_true hjm
         have hjl : j < gz.win.length:=by rw [HGM.out]; exact hjm
         obtain ⟨wb,wo2,ew, -,hcw⟩ := (HWZ.out.below HBj.out).cell hjl
         cases ew
         obtain ⟨y,hy⟩ : ∃ y,gz.win[j] = y:=⟨_,rfl⟩
         have hyi : gz.win[j]? = some y:=by rw [List.getElem?_eq_getElem hjl,hy]
         rw [hy] at hcw
         have htm:=take_mem (b:=(gl.player : Int)) hyi
         rw [hfb] at htm
         obtain ⟨eb,heb⟩ : ∃ eb,(y == (gl.player : Int)) = eb:=⟨_,rfl⟩
         rw [heb] at htm
         have hjmi : (j : Int) < (mz : Int):=by omega
         clear hfb hy hyi hjl s2
         cases fb
         ·have HTM : Hid (decide ((gl.player : Int) ∈ gz.win.take (j + 1)) = eb):=Lib.hid (by rw [htm]; rfl)
          clear htm
          go_upto_region 27 with fail
          go_quiet (fail)
          generalize hwd : World.drewN _ _ = wd
          have HBd:=Lib.hid (HBj.out.trans ((show Below wi.heap.size wi wd by rw [← hwd]; exact bDrew _ _).mono HBj.out.size))
          clear hwd z4 s1 hcw heb
          go_wp2
          go_roundw
          case rel => exact ⟨j + 1,by omega,by go_num,by rw [HTM.out],HBd⟩
          case measure => simp [intOf]; omega
         ·have HTM : Hid (decide ((gl.player : Int) ∈ gz.win.take (j + 1)) = true):=Lib.hid (by rw [htm]; rfl)
          clear htm
          go_upto_region 27 with fail
          go_quiet (fail)
          generalize hwd : World.drewN _ _ = wd
          have HBd:=Lib.hid (HBj.out.trans ((show Below wi.heap.size wi wd by rw [← hwd]; exact bDrew _ _).mono HBj.out.size))
          clear hwd z4 s1 hcw heb
          go_wp2
          go_roundw
          case rel => exact ⟨j + 1,by omega,by go_num,by rw [HTM.out],HBd⟩
          case measure => simp [intOf]; omega
        ·obtain rfl : j = mz:=by omega
         have hft : fb = true:=by
          rw [← hfb,List.take_of_length_le (Nat.le_of_eq HGM.out)]
          exact decide_eq_true HGW.out
         subst hft
         have y1:=bAt HBj.out HC1.out.1
         have y0:=bAt HBj.out HC1.out.2
         have hne : ((lx : Int) != (l0 : Int)) = false:=by rw [HLL.out]; simp
         have hsub : IntKind.i64.wrap (3 - (gl.darts : Int)) = 3 - (gl.darts : Int):=by have:=HD3.out; rw [wrap_small _ (by omega) (by omega)]
         have hgt : decide ((3 : Int) - (gl.darts : Int) < (lx : Int)) = false:=decide_eq_false (by have:=HX13.out; omega)
         have hUp : (0 : Int) < (U : Int):=by omega
         have d2 : decide ((j : Int) < (j : Int)) = false:=decide_eq_false (by omega)
         have d2n : decide (j < j) = false:=decide_eq_false (by omega)
         clear hfb s1
         go_upto_region 28 with fail
         clear z4
         go_quiet (fail)
         generalize hwd : World.drewN _ _ = wd
         have HBd:=Lib.hid (HBz.out.trans ((HBj.out.trans ((show Below wi.heap.size wi wd by rw [← hwd]; exact bDrew _ _).mono HBj.out.size)).mono HBz.out.size))
         clear hwd y1 y0 s2 hne hsub hgt
         go_wp2
         go_roundw
         case rel => exact ⟨i + 1,by omega,by go_num,HBd⟩
         case measure => simp [intOf]; omega
      ·obtain rfl : U = i:=by omega
       have d1 : decide ((U : Int) < (U : Int)) = false:=decide_eq_false (by omega)
       have d1n : decide (U < U) = false:=decide_eq_false (by omega)
       have hbi:=HBi.out
       replace KR:=Lib.hid ((hbi.block _ (Array.getElem?_eq_some_iff.1 KR.out).1).trans KR.out)
       replace K11:=Lib.hid ((hbi.block _ (Array.getElem?_eq_some_iff.1 K11.out).1).trans K11.out)
       replace K5:=Lib.hid ((hbi.block _ (Array.getElem?_eq_some_iff.1 K5.out).1).trans K5.out)
       replace HSN:=Lib.hid (HSN.out.below hbi)
       replace HSD:=Lib.hid (HSD.out.below hbi)
       replace HPL:=Lib.hid (HPL.out.below hbi)
       replace HBD:=Lib.hid (HBD.out.below hbi)
       replace HW1:=Lib.hid (HW1.out.below hbi)
       replace HB:=Lib.hid (bThen HB.out hbi)
       clear hbi HBi
       go_upto_region 30 with fail
       clear d1 d1n
       obtain ⟨xt,hxt⟩ : ∃ x,xo.alloc (.cells #[] 45) = x:=⟨_,rfl⟩
       have HBt : Hid (Below xo.heap.size xo xt):=Lib.hid (by rw [← hxt]; exact aB _ _)
       have HOt : Hid (xt.ownsRow xo.heap.size 45 1 (.slice (some ⟨xo.heap.size,0,none⟩) 0 0) 0 (ints [])):=Lib.hid (by rw [← hxt]; exact World.ownsRow_made xo #[] 0 (Nat.le_refl _) (Nat.zero_le _) (by simp))
       have HXT:=Lib.hid hxt
       clear hxt
       go_upto_region 32 with fail
       rw [HXT.out]
       go_loopw [28,29,30,31,32,33,34,35,36] (fun tv iv _ _ _ _ _ _ _ wr => ∃ (i tb tc : Nat) (ds : List Int) (c : Gam),iv = .int .i64 i ∧ tv = .slice (some ⟨tb,0,none⟩) i tc ∧ i ≤ 3 ∧ Hid (wr.ownsRow xo.heap.size 45 1 (.slice (some ⟨tb,0,none⟩) i tc) i (ints ds)) ∧ Hid (TryOk r bs1 gl ds c ∧ Good r (D + i) c ∧ playF r gl D ds = (some c,0,0) ∧ ds.length = i ∧ ∀ b ∈ ds,okBed b = true) ∧ Hid (Below xo.heap.size xo wr)) (fun _ iv _ _ _ _ _ _ _ _ => 4 - (intOf iv).toNat)
       case atStart => exact ⟨0,xo.heap.size,0,[],gl,by go_num,rfl,by omega,HOt,Lib.hid ⟨TryOk.nil HW0'.out,HGOOD.out,rfl,rfl,by simp⟩,HBt⟩
       case round =>
        obtain ⟨i,tb,tc,ds,c,rfl,rfl,hi3,HROW,HTRY,HBr⟩ := hrel
        obtain ⟨xr,rfl⟩ : ∃ w : World,w = wr:=⟨_,rfl⟩
        have s2 : xr.cell? ⟨b11,2,none⟩ = some (.int .i64 gl.darts):=bAt HBr.out (by rw [cell_of_heap K11.out]; rfl)
        have k4 : xr.cell? ⟨b5,4,none⟩ = some (.int .u8 s4):=bAt HBr.out (by rw [cell_of_heap K5.out]; rfl)
        have k5 : xr.cell? ⟨b5,5,none⟩ = some (.int .u8 s5):=bAt HBr.out (by rw [cell_of_heap K5.out]; rfl)
        have hs45 : s4 ≤ 255 ∧ s5 ≤ 255:=⟨HS0.out.2.2.2.2.1,HS0.out.2.2.2.2.2⟩
        have hsub : IntKind.i64.wrap (3 - (gl.darts : Int)) = 3 - (gl.darts : Int):=by have:=HD3.out; rw [wrap_small _ (by omega) (by omega)]
        obtain ⟨q4,hq4⟩ : ∃ q,s4 % 3 = q:=⟨_,rfl⟩
        have m4 : (s4 : Int).tmod 3 = (q4 : Int):=by have:=tmod_nat s4 3; rw [hq4] at this; simpa using this
        have w4 : IntKind.i64.wrap (s4 : Int) = (s4 : Int):=wrap_small _ (by omega) (by omega)
        have w5 : IntKind.i64.wrap (s5 : Int) = (s5 : Int):=wrap_small _ (by omega) (by omega)
        have a4 : IntKind.i64.wrap (1 + (q4 : Int)) = 1 + (q4 : Int):=wrap_small _ (by omega) (by omega)
        obtain ⟨c1,hc1⟩ : ∃ c,decide ((i : Int) < 3 - (gl.darts : Int)) = c:=⟨_,rfl⟩
        obtain ⟨c2,hc2⟩ : ∃ c,decide ((i : Int) < 1 + (q4 : Int)) = c:=⟨_,rfl⟩
        have HQ4:=Lib.hid hq4
        clear hq4
        by_cases hcc : c1 = true ∧ c2 = true
        ·obtain ⟨rfl,rfl⟩ := hcc
         have hlt : i + gl.darts < 3:=by have:=of_decide_eq_true hc1; omega
         have HLT3:=Lib.hid hlt
         have HC12:=Lib.hid (And.intro hc1 hc2)
         have hi2 : i ≤ 2:=by omega
         have hL1 : 1 ≤ L:=by have:=HBT.out.1; have:=HBL.out.1; rw [HBT.out.1] at this; simp at this; omega
         obtain ⟨v5,hv5⟩ : ∃ v,s5 / (1 + 3 * i) = v:=⟨_,rfl⟩
         obtain ⟨k,hk⟩ : ∃ v,v5 % L = v:=⟨_,rfl⟩
         have hkL : k < L:=by rw [← hk]; exact Nat.mod_lt _ (by omega)
         have t1 : IntKind.i64.wrap (3 * (i : Int)) = 3 * (i : Int):=wrap_small _ (by omega) (by omega)
         have t2 : IntKind.i64.wrap (1 + 3 * (i : Int)) = 1 + 3 * (i : Int):=wrap_small _ (by omega) (by omega)
         have t3 : (s5 : Int).tdiv (1 + 3 * (i : Int)) = (v5 : Int):=by have:=tdiv_nat s5 (1 + 3 * i); rw [hv5] at this; rw [← this]; congr 1
         have t4 : (v5 : Int).tmod (L : Int) = (k : Int):=by rw [tmod_nat,hk]
         have z1 : ¬ (1 + 3 * (i : Int) = 0):=by omega
         have z2 : ¬ ((L : Int) = 0):=by omega
         have hv255 : v5 ≤ 255:=by rw [← hv5]; exact Nat.le_trans (Nat.div_le_self _ _) (by omega)
         have w6 : IntKind.i64.wrap (v5 : Int) = (v5 : Int):=wrap_small _ (by omega) (by omega)
         have w7 : IntKind.i64.wrap (k : Int) = (k : Int):=wrap_small _ (by omega) (by omega)
         have hkl : k < bl.length:=by rw [HBL.out.1]; exact hkL
         obtain ⟨kb,ko,ek, -,hck⟩ := (HBD.out.below HBr.out).cell hkl
         cases ek
         obtain ⟨b,hb⟩ : ∃ b,bl[k] = b:=⟨_,rfl⟩
         rw [hb] at hck
         simp only [Nat.zero_add] at hck
         have hbm : b ∈ bl:=by rw [← hb]; exact List.getElem_mem hkl
         have HBM:=Lib.hid hbm
         have HBO : Hid (okBed b = true):=Lib.hid (HBL.out.2.2.1 b hbm)
         have hkLi : (k : Int) < (L : Int):=by omega
         obtain ⟨j,hj⟩ : ∃ j,i + 1 = j:=⟨_,rfl⟩
         have HJ:=Lib.hid hj
         clear hb hbm hkl hv5 hk hj hlt hs45
         go_upto_region 34 with fail
         clear hsub m4 w4 a4 hc1 hc2 k4
         obtain ⟨xA,hxA⟩ : ∃ x,xr.alloc (.cells #[.int .i64 b] 45) = x:=⟨_,rfl⟩
         have hbA : Below xr.heap.size xr xA:=by rw [← hxA]; exact aB _ _
         have hcA : xA.cell? ⟨xr.heap.size,0,none⟩ = some (.int .i64 b):=by rw [← hxA]; simp
         have HOA:=Lib.hid (ownsN_below HROW.out hbA)
         have HBA:=Lib.hid (HBr.out.trans (hbA.mono HBr.out.size))
         have HXA:=Lib.hid hxA
         clear hbA hxA
         go_wp2_with (at_builtin; rw [HXA.out]; refine wpList_append1 rfl _ _ 30 rfl xo.heap.size 45 (.int .i64 0) 8 Tryz.underlying30 info_bed rfl _ i _ rfl HOA.out xr.heap.size 0 1 (.int .i64 b) rfl hcA rfl (by omega) (by decide) HBA.out.size ?_)
         intro g1 c1' xB ho1 hg1 hat1
         have HROW1 : Hid (xB.ownsRow xo.heap.size 45 1 (.slice (some ⟨g1,0,none⟩) j c1') j (ints (ds ++ [b]))):=Lib.hid (by rw [← HJ.out,ints_append]; exact ho1)
         have HBB : Hid (Below xo.heap.size xo xB):=Lib.hid (HBA.out.trans (below_grownBy hg1 HBA.out.size fun q hq => (HOA.out.lt q hq).1))
         have KRb:=Lib.hid ((HBB.out.block _ (Array.getElem?_eq_some_iff.1 KR.out).1).trans KR.out)
         have HSNb:=Lib.hid (HSN.out.below HBB.out)
         have HSDb:=Lib.hid (HSD.out.below HBB.out)
         have hj3 : j ≤ 3:=by have:=HJ.out; omega
         clear ho1 hg1 hat1 hcA s2 k5 hck t1 t2 t3 t4 z1 z2 w5 w6 w7 hkLi
         rw [HJ.out]
         go_upto_region 35 with fail
         go_wp2_with (refine wpList_opOK (o:=⟨some 241,Op.load 29 (.tmp 7),_,_,_,_⟩) (R:=fun v w' => v = .agg #[.int .i64 r.kind,.int .i64 r.players,.int .i64 r.last,.bool r.bull,.bool r.jump,.int .i64 r.rounds,.bool r.cut,.slice na nl nc,.int .i64 r.lives,.bool r.own] ∧ xB = w') rfl (opOK_load_row 29 (.tmp 7) rfl b7 #[.int .i64 r.kind,.int .i64 r.players,.int .i64 r.last,.bool r.bull,.bool r.jump,.int .i64 r.rounds,.bool r.cut,.slice na nl nc,.int .i64 r.lives,.bool r.own] rfl 29 (0,0) KRb.out _ Tryz.underlying29 rfl (by kernel_rfl) ⟨rfl,rfl⟩) ?_; rintro _ _ ⟨rfl,rfl⟩)
         refine (own_any r na nl nc xB HSNb.out (by omega)).mono ?_
         rintro e y1 ⟨vb3,vd3,rfl,hy1,hs1⟩
         have HV1:=Lib.hid hs1
         have HY1:=Lib.hid hy1
         clear hs1 hy1
         go_wp2_with fail
         refine (copiedE_any DL D HDL.out _ y1 (HSDb.out.below HY1.out) (by omega)).mono ?_
         rintro e y2 ⟨g2,gc2,rfl,hy2,ho2⟩
         have HY2:=Lib.hid hy2
         have HO2:=Lib.hid ho2
         have HRW2:=Lib.hid (ownsN_below HROW1.out (bThen HY1.out hy2))
         clear hy2 ho2
         go_wp2_with (at_builtin; refine wpList_appendN rfl (.tmp 244) (.tmp 245) 30 rfl y1.heap.size 45 (.int .i64 0) 1 8 Tryz.underlying30 info_bed rfl (by decide) _ D _ rfl HO2.out g1 0 j c1' (ints (ds ++ [b])) rfl (by have:=HRW2.out.1; simpa using this) (fun q u hq => by have:=HRW2.out.cells (g:=g1) rfl q u hq; rwa [addr_at] at this) (ints_oneC _) (by omega) (by decide) HY2.out.size ?_)
         intro v3 y3 ho3 hg3 hat3
         obtain ⟨a3',c3',rfl⟩ := owns_form ho3
         have hy13 : Below y1.heap.size y1 y3:=HY2.out.trans (below_grownBy hg3 HY2.out.size fun q hq => (HO2.out.lt q hq).1)
         have HV3:=Lib.hid (HV1.out.below hy13)
         have HY3:=Lib.hid (bThen HY1.out hy13)
         have HD3' : Hid (Sl (fun _ => True) y3 (.slice a3' (D + j) c3') (ints (DL ++ (ds ++ [b])))):=Lib.hid (by rw [ints_append]; exact (Sl.of_owns ho3).mono fun _ _ => trivial)
         clear ho3 hg3 hat3 hy13
         obtain ⟨gz,hgz0⟩ : ∃ g,thr r c b = g:=⟨_,rfl⟩
         have htry:=HTRY.out.1
         have hgd:=HTRY.out.2.1
         have hlc:=hgd.live htry.win
         have hgg : Good r (D + i + 1) gz:=by rw [← hgz0]; exact hgd.throw htry.win (okBed_hit HBO.out)
         have hplf : playF r gl D (ds ++ [b]) = (some gz,0,0):=by
          rw [playF_snoc ds D gl c 0 0 HTRY.out.2.2.1,playF_on HBO.out htry.win,← hgz0]; rfl
         have hpl : playG r (DL ++ (ds ++ [b])) = (some gz,0,0):=by
          rw [play_more HRC.out HPLF.out HDL.out (by rw [List.length_append,HTRY.out.2.2.2.1]; simp; omega)]; exact hplf
         have hdart:=htry.dart hlc (b:=b) (by rw [HTRY.out.2.2.2.1]; exact HLT3.out) HLIVE.out.pl (HWE.out.1.mem_iff.2 HBM.out) HBO.out
         rw [hgz0] at hdart
         obtain ⟨mz,hmz⟩ : ∃ m,gz.win.length = m:=⟨_,rfl⟩
         have HGM:=Lib.hid hmz
         have HGN : Hid (gz.pls.length = n):=Lib.hid (by have:=hgg.inv.len; omega)
         have HLE : Hid ((DL ++ (ds ++ [b])).length = D + j):=Lib.hid (by rw [List.length_append,HDL.out,List.length_append,HTRY.out.2.2.2.1]; simp; exact HJ.out)
         have H64 : Hid (∀ q ∈ DL ++ (ds ++ [b]), -9223372036854775808 ≤ q ∧ q ≤ 9223372036854775807):=Lib.hid fun q hq => by
          rcases List.mem_append.1 hq with hq | hq
          ·exact HD64.out q hq
          ·rcases List.mem_append.1 hq with hq | hq
           ·have:=okBed_bd (HTRY.out.2.2.2.2 q hq); omega
           ·rw [List.mem_singleton] at hq; have:=okBed_bd HBO.out; omega
         have HGZ:=Lib.hid hpl
         have HGD:=Lib.hid hgg
         have HPF:=Lib.hid hplf
         have HDT:=Lib.hid hdart
         clear hgz0 htry hgd hlc hgg hplf hpl hdart hmz
         go_wp2_with fail
         refine (play_g r vb3 nl vd3 a3' (D + j) c3' (DL ++ (ds ++ [b])) gz n mz HGZ.out HGN.out HGM.out HLE.out H64.out y3 HV3.out HD3'.out).mono ?_
         rintro e y4 ⟨pz,cz,wz,vz,rfl,hy4,hst⟩
         obtain ⟨y5,hy5⟩ : ∃ x,y4.alloc (.cells #[.int .i64 gz.round,.int .i64 gz.player,.int .i64 gz.darts,.slice pz n cz,.slice wz mz vz] 36) = x:=⟨_,rfl⟩
         obtain ⟨b30,hb30⟩ : ∃ q,y4.heap.size = q:=⟨_,rfl⟩
         have hy45 : Below y4.heap.size y4 y5:=by rw [← hy5]; exact aB _ _
         have K30 : Hid (y5.heap[b30]? = some (.cells #[.int .i64 gz.round,.int .i64 gz.player,.int .i64 gz.darts,.slice pz n cz,.slice wz mz vz] 36 (0,0))):=Lib.hid (by rw [← hy5,← hb30]; exact World.alloc_heap_new _ _)
         have HWZ:=Lib.hid (StaV.parts (StV.keepS (w':=y5) (S':=fun _ => True) hst fun q _ hq => ⟨hy45.block q hq,trivial⟩)).2.1
         have HY5:=Lib.hid (bThen HY3.out (bThen hy4 hy45))
         have HXY5:=Lib.hid hy5
         have HB30:=Lib.hid hb30
         clear hy4 hst hy5 hb30 hy45
         go_upto_region 38 with fail
         rw [HXY5.out,HB30.out]
         have z4 : y5.cell? ⟨b30,4,none⟩ = some (.slice wz mz vz):=by rw [cell_of_heap K30.out]; rfl
         have HROW5:=Lib.hid (ownsN_below HROW1.out HY5.out)
         have HB5':=Lib.hid (HBB.out.trans (HY5.out.mono HBB.out.size))
         obtain ⟨wn,hwn⟩ : ∃ q,((mz : Int) == 0) = q:=⟨_,rfl⟩
         cases wn
         ·have hgw : gz.win ≠ []:=by
           intro e
           have:=HGM.out
           rw [e] at this
           rw [beq_eq_false_iff_ne] at hwn
           simp at this; omega
          have HDW:=Lib.hid (HDT.out.2 hgw)
          have hmzb:=HWZ.out.len
          rw [ints_length,HGM.out] at hmzb
          unfold maxLen at hmzb
          have K11z:=Lib.hid ((HB5'.out.block _ (Array.getElem?_eq_some_iff.1 K11.out).1).trans K11.out)
          have HW1z:=Lib.hid (HW1.out.below HB5'.out)
          have HTRS:=Lib.hid (Sl.of_owns HROW5.out)
          have HLT' : Hid ((ds ++ [b]).length + gl.darts ≤ 3):=Lib.hid (by rw [List.length_append,HTRY.out.2.2.2.1]; have:=HLT3.out; simp; omega)
          clear hgw
          go_upto_region 41 with fail
          clear z4 hwn
          go_loopw [33,35] (fun wv jv wr => ∃ q : Nat,q ≤ mz ∧ jv = .int .i64 q ∧ wv = .bool (decide ((gl.player : Int) ∈ gz.win.take q)) ∧ Hid (Below y5.heap.size y5 wr)) (fun _ jv _ => mz - (intOf jv).toNat)
          case atStart => exact ⟨0,by omega,by go_num,by simp,Lib.hid (Below.refl _ _)⟩
          case round =>
           obtain ⟨q,hq,rfl,rfl,HBj⟩ := hrel
           obtain ⟨wi,rfl⟩ : ∃ w : World,w = wr:=⟨_,rfl⟩
           have z4 : wi.cell? ⟨b30,4,none⟩ = some (.slice wz mz vz):=bAt HBj.out (by rw [cell_of_heap K30.out]; rfl)
           have s1 : wi.cell? ⟨b11,1,none⟩ = some (.int .i64 gl.player):=bAt HBj.out (by rw [cell_of_heap K11z.out]; rfl)
           obtain ⟨fb,hfb⟩ : ∃ fb,decide ((gl.player : Int) ∈ gz.win.take q) = fb:=⟨_,rfl⟩
           rw [hfb]
           by_cases hjm : q < mz
           ·have d2 : decide ((q : Int) < (mz : Int)) = true:=decide_eq_true (by omega)
            have d2n : decide (q < mz) = true:=decide_eq_true hjm
            have hjl : q < gz.win.length:=by rw [HGM.out]; exact hjm
            obtain ⟨wb,wo2,ew, -,hcw⟩ := (HWZ.out.below HBj.out).cell hjl
            cases ew
            obtain ⟨y,hy⟩ : ∃ y,gz.win[q] = y:=⟨_,rfl⟩
            have hyi : gz.win[q]? = some y:=by rw [List.getElem?_eq_getElem hjl,hy]
            rw [hy] at hcw
            have htm:=take_mem (b:=(gl.player : Int)) hyi
            rw [hfb] at htm
            obtain ⟨eb,heb⟩ : ∃ eb,(y == (gl.player : Int)) = eb:=⟨_,rfl⟩
            rw [heb] at htm
            have hjmi : (q : Int) < (mz : Int):=by omega
            clear hfb hy hyi hjl
            cases fb
            ·have HTM : Hid (decide ((gl.player : Int) ∈ gz.win.take (q + 1)) = eb):=Lib.hid (by rw [htm]; rfl)
             clear htm
             go_upto_region 43 with fail
             go_quiet (fail)
             generalize hwd : World.drewN _ _ = wd
             have HBd:=Lib.hid (HBj.out.trans ((show Below wi.heap.size wi wd by rw [← hwd]; exact bDrew _ _).mono HBj.out.size))
             clear hwd z4 s1 hcw heb
             go_wp2
             go_roundw
             case rel => exact ⟨q + 1,by omega,by go_num,by rw [HTM.out],HBd⟩
             case measure => simp [intOf]; omega
            ·have HTM : Hid (decide ((gl.player : Int) ∈ gz.win.take (q + 1)) = true):=Lib.hid (by rw [htm]; rfl)
             clear htm
             go_upto_region 43 with fail
             go_quiet (fail)
             generalize hwd : World.drewN _ _ = wd
             have HBd:=Lib.hid (HBj.out.trans ((show Below wi.heap.size wi wd by rw [← hwd]; exact bDrew _ _).mono HBj.out.size))
             clear hwd z4 s1 hcw heb
             go_wp2
             go_roundw
             case rel => exact ⟨q + 1,by omega,by go_num,by rw [HTM.out],HBd⟩
             case measure => simp [intOf]; omega
           ·obtain rfl : mz = q:=by omega
            have HWB : Hid (decide ((gl.player : Int) ∈ gz.win) = fb):=Lib.hid (by
             rw [← hfb,List.take_of_length_le (Nat.le_of_eq HGM.out)])
            have d2 : decide ((mz : Int) < (mz : Int)) = false:=decide_eq_false (by omega)
            have d2n : decide (mz < mz) = false:=decide_eq_false (by omega)
            have HW1i:=Lib.hid (HW1z.out.below HBj.out)
            have HTRi:=Lib.hid (HTRS.out.below HBj.out)
            have HBi5:=Lib.hid (bThen HB.out (HB5'.out.trans (HBj.out.mono HB5'.out.size)))
            clear hfb s1
            go_upto_region 45 with fail
            clear z4
            go_loopw [34,36] (fun fv kv wr => ∃ q : Nat,q ≤ U ∧ kv = .int .i64 q ∧ fv = .bool (decide (ds ++ [b] ∈ W1.take q)) ∧ Hid (Below wi.heap.size wi wr)) (fun _ kv _ => U - (intOf kv).toNat)
            case atStart => exact ⟨0,by omega,by go_num,by simp,Lib.hid (Below.refl _ _)⟩
            case round =>
             obtain ⟨q,hq,rfl,rfl,HBq⟩ := hrel
             obtain ⟨wq,rfl⟩ : ∃ w : World,w = wr:=⟨_,rfl⟩
             obtain ⟨fo,hfo⟩ : ∃ fo,decide (ds ++ [b] ∈ W1.take q) = fo:=⟨_,rfl⟩
             rw [hfo]
             by_cases hqU : q < U
             ·have d3 : decide ((q : Int) < (U : Int)) = true:=decide_eq_true (by omega)
              have d3n : decide (q < U) = true:=decide_eq_true hqU
              have hqi : (q : Int) < (U : Int):=by omega
              have hql : q < W1.length:=by rw [HWL.out]; exact hqU
              obtain ⟨qb,qo,qu,eq1, -,hqc,hqs⟩ := (HW1i.out.below HBq.out).cell hql
              cases eq1
              obtain ⟨wy,hwy⟩ : ∃ y,W1[q] = y:=⟨_,rfl⟩
              rw [hwy] at hqs
              have htm:=take_memL (x:=ds ++ [b]) (show W1[q]? = some wy by rw [List.getElem?_eq_getElem hql,hwy])
              rw [hfo] at htm
              obtain ⟨eb,heb⟩ : ∃ eb,decide (wy = ds ++ [b]) = eb:=⟨_,rfl⟩
              rw [heb] at htm
              have HQS:=Lib.hid hqs
              have HEB:=Lib.hid heb
              clear hfo hwy hql hqs heb
              cases fo
              ·have HTM : Hid (decide (ds ++ [b] ∈ W1.take (q + 1)) = eb):=Lib.hid (by rw [htm]; rfl)
               clear htm
               go_upto_region 47 with fail
               go_wp2_with fail
               refine (beds_r wy (ds ++ [b]) _ _ wq HQS.out (HTRi.out.below HBq.out) eb HEB).mono ?_
               rintro e w3 ⟨rfl,hb3⟩
               have HBd:=Lib.hid (HBq.out.trans (hb3.mono HBq.out.size))
               clear hb3 hqc
               go_wp2
               go_roundw
               case rel => exact ⟨q + 1,by omega,by go_num,by rw [HTM.out],HBd⟩
               case measure => simp [intOf]; omega
              ·have HTM : Hid (decide (ds ++ [b] ∈ W1.take (q + 1)) = true):=Lib.hid (by rw [htm]; rfl)
               clear htm
               go_upto_region 47 with fail
               have hb3:=Below.refl wq.heap.size wq
               have HBd:=Lib.hid (HBq.out.trans (hb3.mono HBq.out.size))
               clear hb3 hqc
               go_wp2
               go_roundw
               case rel => exact ⟨q + 1,by omega,by go_num,by rw [HTM.out],HBd⟩
               case measure => simp [intOf]; omega
             ·obtain rfl : U = q:=by omega
              have HFO : Hid (decide (ds ++ [b] ∈ W1) = fo):=Lib.hid (by
               rw [← hfo,List.take_of_length_le (Nat.le_of_eq HWL.out)])
              have d3 : decide ((U : Int) < (U : Int)) = false:=decide_eq_false (by omega)
              have d3n : decide (U < U) = false:=decide_eq_false (by omega)
              have HBF:=Lib.hid (bThen HBi5.out HBq.out)
              clear hfo
              cases fb
              ·go_upto_region 48 with fail
               go_wp2_with fail
               refine (known_any wq).mono ?_
               rintro e w3 ⟨rfl,hb3⟩
               have HBe:=Lib.hid (bThen HBF.out hb3)
               clear hb3
               go_wp2
               go_ret
               exact ⟨rfl,HBe.out⟩
              ·cases fo
               ·have hwp:=HDW.out (of_decide_eq_true HWB.out)
                have hls:=soonG_least hwp HLT'.out
                rw [← HWE.out.2] at hls
                have hnf:=of_decide_eq_false HFO.out
                have hlt2 : ∀ y ∈ W1,y.length < (ds ++ [b]).length:=hls.2.resolve_left hnf
                have h0x : 0 < W1.length:=List.length_pos_iff.2 hls.1
                have hU0 : (0 : Int) < (U : Int):=by have:=HWL.out; omega
                obtain ⟨qb,qo,qu,eq1, -,hqc,hqs⟩ := (HW1i.out.below HBq.out).cell h0x
                cases eq1
                obtain ⟨qa,qk,rfl, -, -⟩ := hqs.form
                rw [ints_length] at hqc
                obtain ⟨l0,hl0⟩ : ∃ q,W1[0].length = q:=⟨_,rfl⟩
                rw [hl0] at hqc
                have hlj : l0 < j:=by
                 have:=hlt2 _ (List.getElem_mem h0x)
                 have h2 : (ds ++ [b]).length = j:=by rw [List.length_append,HTRY.out.2.2.2.1]; exact HJ.out
                 omega
                simp only [Nat.add_zero] at hqc
                have hljd : decide ((l0 : Int) < (j : Int)) = true:=decide_eq_true (by omega)
                have hljn : decide (l0 < j) = true:=decide_eq_true hlj
                have hU0d : decide ((0 : Int) < (U : Int)) = true:=decide_eq_true hU0
                have hU0n : 0 < U:=by omega
                clear hwp hls hnf hlt2 h0x hqs hl0
                go_upto_region 48 with fail
                go_wp2_with fail
                refine (known_any wq).mono ?_
                rintro e w3 ⟨rfl,hb3⟩
                have HBe:=Lib.hid (bThen HBF.out hb3)
                clear hb3 hqc
                go_wp2
                go_ret
                exact ⟨rfl,HBe.out⟩
               ·go_upto_region 48 with fail
                go_wp2_with fail
                refine (known_any wq).mono ?_
                rintro e w3 ⟨rfl,hb3⟩
                have HBe:=Lib.hid (bThen HBF.out hb3)
                clear hb3
                go_wp2
                go_ret
                exact ⟨rfl,HBe.out⟩
         ·have hw0 : gz.win = []:=by
           rw [beq_iff_eq] at hwn
           exact List.eq_nil_of_length_eq_zero (by rw [HGM.out]; omega)
          have HT2:=Lib.hid (HDT.out.1 hw0)
          clear hw0
          go_wp2
          go_roundw
          case rel => exact ⟨i + 1,g1,c1',ds ++ [b],gz,by go_num,by rw [HJ.out],by omega,by rw [HJ.out]; exact HROW5,Lib.hid ⟨HT2.out,HGD.out,HPF.out,by rw [List.length_append,HTRY.out.2.2.2.1]; rfl,fun q hq => by
           rcases List.mem_append.1 hq with hq | hq
           ·exact HTRY.out.2.2.2.2 q hq
           ·rw [List.mem_singleton] at hq; rw [hq]; exact HBO.out⟩,HB5'⟩
          case measure => simp [intOf]; omega
        ·have hcd : c1 = false ∨ (c1 = true ∧ c2 = false):=by cases c1 <;> cases c2 <;> simp_all
         clear hcc
         rcases hcd with rfl | ⟨rfl,rfl⟩
         ·go_wp2_with fail
          refine (known_any xr).mono ?_
          rintro e x99 ⟨rfl,hb99⟩
          have HB99:=Lib.hid (bThen HB.out (HBr.out.trans (hb99.mono HBr.out.size)))
          clear hb99
          go_wp2
          go_ret
          exact ⟨rfl,HB99.out⟩
         ·go_wp2_with fail
          refine (known_any xr).mono ?_
          rintro e x99 ⟨rfl,hb99⟩
          have HB99:=Lib.hid (bThen HB.out (HBr.out.trans (hb99.mono HBr.out.size)))
          clear hb99
          go_wp2
          go_ret
          exact ⟨rfl,HB99.out⟩
 ·have t0 : decide ((0 : Int) < (m : Int)) = true:=decide_eq_true (by omega)
  have t0n : decide (0 < m) = true:=decide_eq_true (by omega)
  have hw0 : gl.win ≠ []:=fun e => hm0 (by rw [← HM.out,e]; rfl)
  have HW0':=Lib.hid hw0
  clear hw0
  go_wp2_with (refine wpList_opOK (o:=⟨some 58,Op.load 29 (.tmp 7),_,_,_,_⟩) (R:=fun v w' => v = .agg #[.int .i64 r.kind,.int .i64 r.players,.int .i64 r.last,.bool r.bull,.bool r.jump,.int .i64 r.rounds,.bool r.cut,.slice na nl nc,.int .i64 r.lives,.bool r.own] ∧ w2 = w') rfl (opOK_load_row 29 (.tmp 7) rfl b7 #[.int .i64 r.kind,.int .i64 r.players,.int .i64 r.last,.bool r.bull,.bool r.jump,.int .i64 r.rounds,.bool r.cut,.slice na nl nc,.int .i64 r.lives,.bool r.own] rfl 29 (0,0) KR.out _ Tryz.underlying29 rfl (by kernel_rfl) ⟨rfl,rfl⟩) ?_; rintro _ _ ⟨rfl,rfl⟩)
  refine (own_any r na nl nc w2 HSN.out (by omega)).mono ?_
  rintro e w3 ⟨vb,vd,rfl,hb3,hs3⟩
  replace KR:=Lib.hid ((hb3.block _ (Array.getElem?_eq_some_iff.1 KR.out).1).trans KR.out)
  replace K11:=Lib.hid ((hb3.block _ (Array.getElem?_eq_some_iff.1 K11.out).1).trans K11.out)
  replace K5:=Lib.hid ((hb3.block _ (Array.getElem?_eq_some_iff.1 K5.out).1).trans K5.out)
  replace HSN:=Lib.hid (HSN.out.below hb3)
  replace HSD:=Lib.hid (HSD.out.below hb3)
  replace HPL:=Lib.hid (HPL.out.below hb3)
  replace HB:=Lib.hid (bThen HB.out hb3)
  have HV3:=Lib.hid hs3
  clear hb3 hs3 i4
  go_wp2_with fail
  refine (copiedE_any DL D HDL.out _ w3 HSD.out (by omega)).mono ?_
  rintro e w4 ⟨g1,gc1,rfl,hb4,ho4⟩
  replace KR:=Lib.hid ((hb4.block _ (Array.getElem?_eq_some_iff.1 KR.out).1).trans KR.out)
  replace K11:=Lib.hid ((hb4.block _ (Array.getElem?_eq_some_iff.1 K11.out).1).trans K11.out)
  replace K5:=Lib.hid ((hb4.block _ (Array.getElem?_eq_some_iff.1 K5.out).1).trans K5.out)
  replace HSN:=Lib.hid (HSN.out.below hb4)
  replace HSD:=Lib.hid (HSD.out.below hb4)
  replace HPL:=Lib.hid (HPL.out.below hb4)
  replace HB:=Lib.hid (bThen HB.out hb4)
  have HV4:=Lib.hid (HV3.out.below hb4)
  have HD4:=Lib.hid ((Sl.of_owns ho4).mono (S':=fun _ => True) fun _ _ => trivial)
  clear hb4 ho4
  go_wp2_with fail
  refine (soon_any r vb nl vd (some ⟨g1,0,none⟩) D gc1 DL HDL.out HD64.out none 0 0 [] rfl (by omega) (by simp) List.nodup_nil w4 HV4.out HD4.out (Sl.nil (fun _ => True) _)).mono ?_
  rintro e w5 ⟨hb5,hso⟩
  have HB5':=Lib.hid (bThen HB.out hb5)
  clear hb5
  obtain rfl : e = .returned (.tuple #[.slice none 0 0,.int .i64 9]):=by
   rcases hso with ⟨er,_,h,he⟩ | ⟨g',bs',v,h1,h2,h3,h4⟩
   ·rw [(h gl HALL.out).2] at he; exact he
   ·rw [HALL.out] at h1; cases h1; exact (HW0'.out h2).elim
  clear hso
  go_wp2_with fail
  refine (known_any w5).mono ?_
  rintro e w9 ⟨rfl,hb9⟩
  have HB9:=Lib.hid (bThen HB5'.out hb9)
  clear hb9
  go_wp2
  go_ret
  exact ⟨rfl,HB9.out⟩
end Go.Proofs.YtnhggfnnolfcdaaGreat
