/- The texts XP, KN, SeqG, in build order. -/
import Derived.Test.YtnhggfnnolfcdaaZba

/- Chapter 4: GamePlays. -/
namespace Go.Proofs.Ytnhggfnnolfcdaa
open Go.RowKit Go.Oche Go.Proofs
theorem bedsP {S S' : Nat → Prop} (xs : List Int) (va vb : Value) (w : World) (hs : Sl S w va (ints xs)) (hs' : Sl S' w vb (ints xs)) :
  Calls Try.prog 14 #[va,vb] w fun e w' => e = .returned (.bool true) ∧ Below w.heap.size w w':=by
 have:=beds_any xs xs va vb w hs hs'
 rwa [decide_eq_true (rfl : xs = xs)] at this
end Go.Proofs.Ytnhggfnnolfcdaa

/- Chapter 4, the reference: whether two games stand the same. -/
namespace Go.Proofs.Ytnhggfnnolfcdaa
open Go.RowKit Go.Oche Go.Proofs
def alikeTo {α : Type} (x y : List α) (k : Nat) : Prop := ∀ j,j < k → x[j]? = y[j]?
theorem alikeTo.next {α : Type} {x y : List α} {k : Nat} (h : alikeTo x y k) (e : x[k]? = y[k]?) : alikeTo x y (k + 1):=fun j hj => by
 by_cases q : j = k
 ·subst q; exact e
 ·exact h j (by omega)
theorem alikeTo.all {α : Type} {x y : List α} (h : alikeTo x y x.length) (hl : x.length = y.length) : x = y:=List.ext_getElem? fun j => by
 by_cases q : j < x.length
 ·exact h j q
 ·rw [List.getElem?_eq_none (by omega),List.getElem?_eq_none (by omega)]
set_option maxRecDepth 100000 in
set_option maxHeartbeats 4000000 in
theorem refSame_any (r : Rul) (nv : Value) (a b : Gam) (n pa ca pb cb : Nat) (wa : Option Addr) (m wc : Nat) (wb : Option Addr) (m2 wd : Nat) (w : World) (hla : a.pls.length = n) (hlb : b.pls.length = n) (hn8 : n ≤ 9223372036854775807) (hm8 : m ≤ 9223372036854775807)
  (ha : GamV w r a nv pa ca (.slice wa m wc)) (hb : GamV w r b nv pb cb (.slice wb m2 wd)) :
  Calls Try.prog 46 #[.agg #[.int .i64 r.kind,.int .i64 r.players,.int .i64 r.last,.bool r.bull,.bool r.jump,.int .i64 r.rounds,.bool r.cut,nv,.int .i64 r.lives,.bool r.own,.int .i64 a.round,.int .i64 a.player,.int .i64 a.darts,.slice (some ⟨pa,0,none⟩) n ca,.slice wa m wc,.bool (hitB a 0),.bool (hitB a 1),.bool (hitB a 2),.bool (hitB a 3),.bool (hitB a 4)],.agg #[.int .i64 r.kind,.int .i64 r.players,.int .i64 r.last,.bool r.bull,.bool r.jump,.int .i64 r.rounds,.bool r.cut,nv,.int .i64 r.lives,.bool r.own,.int .i64 b.round,.int .i64 b.player,.int .i64 b.darts,.slice (some ⟨pb,0,none⟩) n cb,.slice wb m2 wd,.bool (hitB b 0),.bool (hitB b 1),.bool (hitB b 2),.bool (hitB b 3),.bool (hitB b 4)]] w fun e w' => e = .returned (.bool (sameG a b)) ∧ Below w.heap.size w w':=by
 have hma : a.win.length = m:=by obtain ⟨_,_,e,_⟩ := ha.win.form; rw [ints_length] at e; cases e; rfl
 have hmb : b.win.length = m2:=by obtain ⟨_,_,e,_⟩ := hb.win.form; rw [ints_length] at e; cases e; rfl
 obtain ⟨res,hres⟩ : ∃ x,sameG a b = x:=⟨_,rfl⟩
 rw [hres]
 obtain ⟨N,hN⟩ : ∃ N,w.heap.size = N:=⟨_,rfl⟩
 obtain ⟨w0,hw0⟩ : ∃ w0,(w.alloc (.cells #[.int .i64 r.kind,.int .i64 r.players,.int .i64 r.last,.bool r.bull,.bool r.jump,.int .i64 r.rounds,.bool r.cut,nv,.int .i64 r.lives,.bool r.own,.int .i64 a.round,.int .i64 a.player,.int .i64 a.darts,.slice (some ⟨pa,0,none⟩) n ca,.slice wa m wc,.bool (hitB a 0),.bool (hitB a 1),.bool (hitB a 2),.bool (hitB a 3),.bool (hitB a 4)] 41)).alloc (.cells #[.int .i64 r.kind,.int .i64 r.players,.int .i64 r.last,.bool r.bull,.bool r.jump,.int .i64 r.rounds,.bool r.cut,nv,.int .i64 r.lives,.bool r.own,.int .i64 b.round,.int .i64 b.player,.int .i64 b.darts,.slice (some ⟨pb,0,none⟩) n cb,.slice wb m2 wd,.bool (hitB b 0),.bool (hitB b 1),.bool (hitB b 2),.bool (hitB b 3),.bool (hitB b 4)] 41) = w0:=⟨_,rfl⟩
 have hb0 : Below w.heap.size w w0:=by rw [← hw0]; exact (aB _ _).alloc (by simp) _
 have ka : w0.heap[N]? = some (.cells #[.int .i64 r.kind,.int .i64 r.players,.int .i64 r.last,.bool r.bull,.bool r.jump,.int .i64 r.rounds,.bool r.cut,nv,.int .i64 r.lives,.bool r.own,.int .i64 a.round,.int .i64 a.player,.int .i64 a.darts,.slice (some ⟨pa,0,none⟩) n ca,.slice wa m wc,.bool (hitB a 0),.bool (hitB a 1),.bool (hitB a 2),.bool (hitB a 3),.bool (hitB a 4)] 41 (0,0)):=by rw [← hw0,← hN]; exact ((aB (w.alloc (.cells #[.int .i64 r.kind,.int .i64 r.players,.int .i64 r.last,.bool r.bull,.bool r.jump,.int .i64 r.rounds,.bool r.cut,nv,.int .i64 r.lives,.bool r.own,.int .i64 a.round,.int .i64 a.player,.int .i64 a.darts,.slice (some ⟨pa,0,none⟩) n ca,.slice wa m wc,.bool (hitB a 0),.bool (hitB a 1),.bool (hitB a 2),.bool (hitB a 3),.bool (hitB a 4)] 41)) (.cells #[.int .i64 r.kind,.int .i64 r.players,.int .i64 r.last,.bool r.bull,.bool r.jump,.int .i64 r.rounds,.bool r.cut,nv,.int .i64 r.lives,.bool r.own,.int .i64 b.round,.int .i64 b.player,.int .i64 b.darts,.slice (some ⟨pb,0,none⟩) n cb,.slice wb m2 wd,.bool (hitB b 0),.bool (hitB b 1),.bool (hitB b 2),.bool (hitB b 3),.bool (hitB b 4)] 41)).block _ (by simp)).trans (World.alloc_heap_new _ _)
 have kb : w0.heap[N + 1]? = some (.cells #[.int .i64 r.kind,.int .i64 r.players,.int .i64 r.last,.bool r.bull,.bool r.jump,.int .i64 r.rounds,.bool r.cut,nv,.int .i64 r.lives,.bool r.own,.int .i64 b.round,.int .i64 b.player,.int .i64 b.darts,.slice (some ⟨pb,0,none⟩) n cb,.slice wb m2 wd,.bool (hitB b 0),.bool (hitB b 1),.bool (hitB b 2),.bool (hitB b 3),.bool (hitB b 4)] 41 (0,0)):=by rw [← hw0,← hN]; have:=World.alloc_heap_new (w.alloc (.cells #[.int .i64 r.kind,.int .i64 r.players,.int .i64 r.last,.bool r.bull,.bool r.jump,.int .i64 r.rounds,.bool r.cut,nv,.int .i64 r.lives,.bool r.own,.int .i64 a.round,.int .i64 a.player,.int .i64 a.darts,.slice (some ⟨pa,0,none⟩) n ca,.slice wa m wc,.bool (hitB a 0),.bool (hitB a 1),.bool (hitB a 2),.bool (hitB a 3),.bool (hitB a 4)] 41)) (.cells #[.int .i64 r.kind,.int .i64 r.players,.int .i64 r.last,.bool r.bull,.bool r.jump,.int .i64 r.rounds,.bool r.cut,nv,.int .i64 r.lives,.bool r.own,.int .i64 b.round,.int .i64 b.player,.int .i64 b.darts,.slice (some ⟨pb,0,none⟩) n cb,.slice wb m2 wd,.bool (hitB b 0),.bool (hitB b 1),.bool (hitB b 2),.bool (hitB b 3),.bool (hitB b 4)] 41); simpa using this
 have a13 : w0.cell? ⟨N,13,none⟩ = some (.slice (some ⟨pa,0,none⟩) n ca):=by rw [cell_of_heap ka]; rfl
 have a14 : w0.cell? ⟨N,14,none⟩ = some (.slice wa m wc):=by rw [cell_of_heap ka]; rfl
 have b13 : w0.cell? ⟨N + 1,13,none⟩ = some (.slice (some ⟨pb,0,none⟩) n cb):=by rw [cell_of_heap kb]; rfl
 have b14 : w0.cell? ⟨N + 1,14,none⟩ = some (.slice wb m2 wd):=by rw [cell_of_heap kb]; rfl
 have HA:=Lib.hid (ha.below hb0)
 have HB:=Lib.hid (hb.below hb0)
 have HB0:=Lib.hid hb0
 have HW0:=Lib.hid hw0
 have HN:=Lib.hid hN
 have HMA:=Lib.hid hma
 have HMB:=Lib.hid hmb
 have HLA:=Lib.hid hla
 have HLB:=Lib.hid hlb
 have HRES : Hid (res = (decide (a.pls = b.pls) && decide (a.win = b.win))):=Lib.hid hres.symm
 clear ha hb hb0 hw0 hN hma hmb hla hlb hres ka kb
 go_enter Try.func46,Try.ntmps46
 go_upto_region 1 with fail
 rw [HW0.out,HN.out]
 by_cases hmm : m = m2
 ·have e1 : ((m : Int) != (m2 : Int)) = false:=by rw [hmm]; simp
  have e1n : (m != m2) = false:=by rw [hmm]; simp
  obtain rfl : m2 = m:=hmm.symm
  obtain ⟨m,rfl⟩ : ∃ y : Nat,y = m2:=⟨_,rfl⟩
  clear hmm
  go_wp2_with fail
  clear e1 e1n
  go_loopw [5] (fun iv wr => ∃ i : Nat,i ≤ m ∧ iv = .int .i64 i ∧ Hid (alikeTo a.win b.win i ∧ Below w0.heap.size w0 wr)) (fun iv _ => m - (intOf iv).toNat)
  case atStart => exact ⟨0,by omega,by go_num,Lib.hid ⟨fun j hj => by omega,Below.refl _ _⟩⟩
  case round =>
   obtain ⟨i,hi,rfl,HR⟩ := hrel
   obtain ⟨wi,rfl⟩ : ∃ y : World,y = wr:=⟨_,rfl⟩
   replace a13:=bAt HR.out.2 a13
   replace a14:=bAt HR.out.2 a14
   replace b13:=bAt HR.out.2 b13
   replace b14:=bAt HR.out.2 b14
   by_cases him : i < m
   ·have d1 : decide ((i : Int) < (m : Int)) = true:=decide_eq_true (by omega)
    have d1n : decide (i < m) = true:=decide_eq_true him
    have zi : IntKind.i64.wrap ((i : Int) + 1) = (i : Int) + 1:=wrap_small _ (by omega) (by omega)
    have hia : i < a.win.length:=by rw [HMA.out]; exact him
    have hib : i < b.win.length:=by rw [HMB.out]; exact him
    obtain ⟨ab,ao,rfl, -,hx⟩ := (HA.out.win.below HR.out.2).cell hia
    obtain ⟨bb,bo,rfl, -,hy⟩ := (HB.out.win.below HR.out.2).cell hib
    obtain ⟨x,hxe⟩ : ∃ x,a.win[i] = x:=⟨_,rfl⟩
    obtain ⟨y,hye⟩ : ∃ x,b.win[i] = x:=⟨_,rfl⟩
    rw [hxe] at hx
    rw [hye] at hy
    obtain ⟨bn,hbn⟩ : ∃ z,(x != y) = z:=⟨_,rfl⟩
    have HXY : Hid (a.win[i]? = some x ∧ b.win[i]? = some y):=Lib.hid ⟨by rw [List.getElem?_eq_getElem hia,hxe],by rw [List.getElem?_eq_getElem hib,hye]⟩
    have HBN:=Lib.hid hbn
    clear hxe hye hia hib
    go_upto_region 6 with fail
    refine wp_region_seq 13 [.is (.pointer (some ⟨N,10,none⟩)),.is (.pointer (some ⟨N,14,none⟩)),.is (.slice (some ⟨ab,ao,none⟩) m wc),.is (.int .i64 i),.is (.pointer (some ⟨ab,ao + i,none⟩)),.is (.int .i64 x),.is (.pointer (some ⟨(N + 1),10,none⟩)),.is (.pointer (some ⟨(N + 1),14,none⟩)),.is (.slice (some ⟨bb,bo,none⟩) m wd),.is (.int .i64 i),.is (.pointer (some ⟨bb,bo + i,none⟩)),.is (.int .i64 y),.is (.bool bn)] rfl mix (by kernel_rfl) (by kernel_rfl) ?seqm
    case seqm =>
     simp only [List.take_succ_cons,List.take_zero]
     iterate 13
      refine seq_on (by rfl) (fun w3 hb3 _ => ?_) ?_
      ·have y1:=bAt hb3 a14
       have y2:=bAt hb3 b14
       have y3:=bAt hb3 hx
       have y4:=bAt hb3 hy
       simp [opOK,go_sem,y1,y2,y3,y4,him,hbn,Below.refl]
       try exact rfl
      simp only [Act.put,List.setIfInBounds_toArray,List.set_cons_succ,List.set_cons_zero]
     refine seq_end fun w5 hb5 _ => ?_
     simp only [List.drop_succ_cons,List.drop_zero]
     have HB5:=Lib.hid (bThen HR.out.2 hb5)
     clear hb5 hbn a13 a14 b13 b14 hx hy
     cases bn with
     | true =>
      have HF : Hid (res = false):=Lib.hid (by
       rw [HRES.out]
       have h1 : a.win ≠ b.win:=fun e => by
        have h2:=HXY.out
        rw [e] at h2
        have h3:=h2.1.symm.trans h2.2
        have h4:=HBN.out
        simp only [Option.some.injEq] at h3
        rw [h3] at h4; simp at h4
       simp [h1])
      go_wp2
      go_ret
      exact ⟨ret_bool HF.out.symm,bThen HB0.out HB5.out⟩
     | false =>
      have HNX : Hid (alikeTo a.win b.win (i + 1)):=Lib.hid (HR.out.1.next (by
       have h4:=HBN.out
       rw [HXY.out.1,HXY.out.2]
       have h5 : x = y:=by simpa using h4
       rw [h5]))
      go_wp2
      go_roundw
      case rel => exact ⟨i + 1,by omega,by go_num,Lib.hid ⟨HNX.out,HB5.out⟩⟩
      case measure => simp [intOf]; omega
   ·obtain rfl : i = m:=by omega
    obtain ⟨m,rfl⟩ : ∃ y : Nat,y = i:=⟨_,rfl⟩
    have d1 : decide ((m : Int) < (m : Int)) = false:=decide_eq_false (by omega)
    have HWE : Hid (a.win = b.win):=Lib.hid (alikeTo.all (by rw [HMA.out]; exact HR.out.1) (by rw [HMA.out,HMB.out]))
    go_wp2_with fail
    go_loopw [6] (fun iv wr => ∃ k : Nat,k ≤ n ∧ iv = .int .i64 k ∧ Hid (alikeTo a.pls b.pls k ∧ Below wi.heap.size wi wr)) (fun iv _ => n - (intOf iv).toNat)
    case atStart => exact ⟨0,by omega,by go_num,Lib.hid ⟨fun j hj => by omega,Below.refl _ _⟩⟩
    case round =>
     obtain ⟨k,hk,rfl,HK⟩ := hrel
     obtain ⟨wk,rfl⟩ : ∃ y : World,y = wr:=⟨_,rfl⟩
     replace a13:=bAt HK.out.2 a13
     replace b13:=bAt HK.out.2 b13
     have HBW:=Lib.hid (bThen HR.out.2 HK.out.2)
     by_cases hkn : k < n
     ·have d2 : decide ((k : Int) < (n : Int)) = true:=decide_eq_true (by omega)
      have d2n : decide (k < n) = true:=decide_eq_true hkn
      have zk : IntKind.i64.wrap ((k : Int) + 1) = (k : Int) + 1:=wrap_small _ (by omega) (by omega)
      have hka : k < a.pls.length:=by rw [HLA.out]; exact hkn
      have hkb : k < b.pls.length:=by rw [HLB.out]; exact hkn
      obtain ⟨x,hxe⟩ : ∃ x,a.pls[k] = x:=⟨_,rfl⟩
      obtain ⟨y,hye⟩ : ∃ x,b.pls[k] = x:=⟨_,rfl⟩
      have HC1 : Hid (∀ j v,(plrRow x)[j]? = some v → wk.cell? ⟨pa,k * 9 + j,none⟩ = some v):=Lib.hid (fun j v hv => (HA.out.pls.below HBW.out).cell hka (by rw [hxe]; exact hv))
      have HC2 : Hid (∀ j v,(plrRow y)[j]? = some v → wk.cell? ⟨pb,k * 9 + j,none⟩ = some v):=Lib.hid (fun j v hv => (HB.out.pls.below HBW.out).cell hkb (by rw [hye]; exact hv))
      have H7 : Hid (x.mks.length = 7 ∧ y.mks.length = 7):=Lib.hid ⟨by rw [← hxe]; exact HA.out.pls.1 _ (List.getElem_mem hka),by rw [← hye]; exact HB.out.pls.1 _ (List.getElem_mem hkb)⟩
      obtain ⟨bn,hbn⟩ : ∃ z,(!decide (x = y)) = z:=⟨_,rfl⟩
      have HXY : Hid (a.pls[k]? = some x ∧ b.pls[k]? = some y):=Lib.hid ⟨by rw [List.getElem?_eq_getElem hka,hxe],by rw [List.getElem?_eq_getElem hkb,hye]⟩
      have HBN:=Lib.hid hbn
      clear hxe hye hka hkb hbn
      go_upto_region 11 with fail
      refine wp_region_seq 13 [.is (.pointer (some ⟨N,10,none⟩)),.is (.pointer (some ⟨N,13,none⟩)),.is (.slice (some ⟨pa,0,none⟩) n ca),.is (.int .i64 k),.is (.pointer (some ⟨pa,k * 9,none⟩)),.is (plrV x),.is (.pointer (some ⟨(N + 1),10,none⟩)),.is (.pointer (some ⟨(N + 1),13,none⟩)),.is (.slice (some ⟨pb,0,none⟩) n cb),.is (.int .i64 k),.is (.pointer (some ⟨pb,k * 9,none⟩)),.is (plrV y),.is (.bool bn)] rfl mix (by kernel_rfl) (by kernel_rfl) ?seqm
      case seqm =>
       simp only [List.take_succ_cons,List.take_zero]
       iterate 5
        refine seq_on (by rfl) (fun w3 hb3 _ => ?_) ?_
        ·have y1:=bAt hb3 a13
         have y2:=bAt hb3 b13
         simp [opOK,go_sem,y1,hkn,Below.refl]
         try exact rfl
        simp only [Act.put,List.setIfInBounds_toArray,List.set_cons_succ,List.set_cons_zero]
       refine seq_on (by rfl) (fun w3 hb3 hH => ?_) ?_
       ·have y1:=bAt hb3 a13
        have y2:=bAt hb3 b13
        exact opOK_load_plr9 (.tmp 49) rfl pa (k * 9) x H7.out.1 (by simp [Act.eval]) (fun j v hv => bAt hb3 (HC1.out j v hv)) ⟨rfl,Below.refl _ _⟩
       simp only [Act.put,List.setIfInBounds_toArray,List.set_cons_succ,List.set_cons_zero]
       iterate 5
        refine seq_on (by rfl) (fun w3 hb3 _ => ?_) ?_
        ·have y1:=bAt hb3 a13
         have y2:=bAt hb3 b13
         simp [opOK,go_sem,y2,hkn,Below.refl]
         try exact rfl
        simp only [Act.put,List.setIfInBounds_toArray,List.set_cons_succ,List.set_cons_zero]
       refine seq_on (by rfl) (fun w3 hb3 hH => ?_) ?_
       ·have y1:=bAt hb3 a13
        have y2:=bAt hb3 b13
        exact opOK_load_plr9 (.tmp 55) rfl pb (k * 9) y H7.out.2 (by simp [Act.eval]) (fun j v hv => bAt hb3 (HC2.out j v hv)) ⟨rfl,Below.refl _ _⟩
       simp only [Act.put,List.setIfInBounds_toArray,List.set_cons_succ,List.set_cons_zero]
       refine seq_on (by rfl) (fun w3 hb3 hH => ?_) ?_
       ·have y1:=bAt hb3 a13
        have y2:=bAt hb3 b13
        exact opOK_neq_plr (.tmp 50) (.tmp 56) _ rfl x y H7.out.1 H7.out.2 (by simp [Act.eval]) (by simp [Act.eval]) ⟨by rw [HBN.out],Below.refl _ _⟩
       simp only [Act.put,List.setIfInBounds_toArray,List.set_cons_succ,List.set_cons_zero]
       refine seq_end fun w5 hb5 _ => ?_
       simp only [List.drop_succ_cons,List.drop_zero]
       have HB5:=Lib.hid (bThen HK.out.2 hb5)
       have HB6:=Lib.hid (bThen HB0.out (bThen HR.out.2 HB5.out))
       clear hb5 a13 b13
       cases bn with
       | true =>
        have HF : Hid (res = false):=Lib.hid (by
         rw [HRES.out]
         have h1 : a.pls ≠ b.pls:=fun e => by
          have h2:=HXY.out
          rw [e] at h2
          have h3:=h2.1.symm.trans h2.2
          have h4:=HBN.out
          simp only [Option.some.injEq] at h3
          rw [h3] at h4; simp at h4
         simp [h1])
        go_wp2
        go_ret
        exact ⟨ret_bool HF.out.symm,HB6.out⟩
       | false =>
        have HNX : Hid (alikeTo a.pls b.pls (k + 1)):=Lib.hid (HK.out.1.next (by
         have h4:=HBN.out
         rw [HXY.out.1,HXY.out.2]
         have h5 : x = y:=by simpa using h4
         rw [h5]))
        go_wp2
        go_roundw
        case rel => exact ⟨k + 1,by omega,by go_num,Lib.hid ⟨HNX.out,HB5.out⟩⟩
        case measure => simp [intOf]; omega
     ·obtain rfl : k = n:=by omega
      obtain ⟨n,rfl⟩ : ∃ y : Nat,y = k:=⟨_,rfl⟩
      have d2 : decide ((n : Int) < (n : Int)) = false:=decide_eq_false (by omega)
      have HPE : Hid (a.pls = b.pls):=Lib.hid (alikeTo.all (by rw [HLA.out]; exact HK.out.1) (by rw [HLA.out,HLB.out]))
      have HT : Hid (res = true):=Lib.hid (by rw [HRES.out,HPE.out,HWE.out]; simp)
      go_wp2
      go_ret
      exact ⟨ret_bool HT.out.symm,bThen HB0.out (bThen HR.out.2 HK.out.2)⟩
 ·have e1 : ((m : Int) != (m2 : Int)) = true:=by simp; omega
  have e1n : (m != m2) = true:=by simpa using hmm
  have HF : Hid (res = false):=Lib.hid (by
   rw [HRES.out]
   have h1 : a.win ≠ b.win:=fun e => by
    have h2:=HMA.out
    rw [e,HMB.out] at h2; exact hmm h2.symm
   simp [h1])
  clear hmm
  go_wp2
  go_ret
  exact ⟨ret_bool HF.out.symm,HB0.out⟩
theorem refSame_v (r : Rul) (nv : Value) (a b : Gam) (pa ca pb cb : Nat) (wva wvb : Value) (w : World) (hl : b.pls.length = a.pls.length) (ha : GamV w r a nv pa ca wva) (hb : GamV w r b nv pb cb wvb) :
  Calls Try.prog 46 #[.agg (gamA r a nv (.slice (some ⟨pa,0,none⟩) a.pls.length ca) wva),.agg (gamA r b nv (.slice (some ⟨pb,0,none⟩) b.pls.length cb) wvb)] w fun e w' => e = .returned (.bool (sameG a b)) ∧ Below w.heap.size w w':=by
 obtain ⟨wa,wc,e1,l1,l2⟩ := ha.win.form
 obtain ⟨wb,wd,e2,_,_⟩ := hb.win.form
 have hc:=ha.cap
 subst e1 e2
 rw [hl]
 exact refSame_any r nv a b _ pa ca pb cb wa _ wc wb _ wd w rfl hl (by omega) (by unfold maxLen at l2; omega) ha hb
end Go.Proofs.Ytnhggfnnolfcdaa

/- A region that draws its order, in the text's order, where what holds speaks of the values: operations with guards. -/
namespace Go.Oche
open Go Go.RowKit
section
variable {P : Program} {ops : Array Oper} {J : (Nat → Bool) → (Nat → Value) → World → Prop} {K : Act → List Value → Prop} {ss : List (Value → Prop)} {o : Oper} {l : List Oper} {a : Act} {vals : List Value}
theorem sv_rdG {c : Value} (hg : guardOn ops o a = true) (hJ : ∀ w L vs,J L vs w → J (setB L vals.length) (updV vs vals.length c) w)
  (h : ∀ w L vs,(∀ j u,vals[j]? = some u → vs j = u) → L vals.length = false → J L vs w → opOK P o a w (fun v w' => v = c ∧ w' = w))
  (hr : SeqVAll P ops J K ss l (a.put o.dst c) (vals ++ [c])) : SeqVAll P ops J K ((fun v => v = c) :: ss) (o :: l) a vals:=by
 refine ⟨⟨c,rfl⟩,fun w L vs hvs hL hj _ => ?_,fun v hv => by subst hv; exact hr⟩
 rw [if_pos hg]
 exact opOK_mono (h w L vs hvs hL hj) fun v w' ⟨h1,h2⟩ => by subst h1 h2; exact ⟨rfl,hJ _ L vs hj⟩
theorem sv_newG {s : Value → Prop} (hs : ∃ v,s v) (hg : guardOn ops o a = true)
  (h : ∀ w L vs,(∀ j u,vals[j]? = some u → vs j = u) → L vals.length = false → J L vs w → (∀ e ∈ o.after.toList,Region.binds .any e = true → L e.on = true) → opOK P o a w (fun v w' => s v ∧ J (setB L vals.length) (updV vs vals.length v) w'))
  (hr : ∀ v,s v → SeqVAll P ops J K ss l (a.put o.dst v) (vals ++ [v])) : SeqVAll P ops J K (s :: ss) (o :: l) a vals:=by
 refine ⟨hs,fun w L vs hvs hL hj hd => ?_,hr⟩
 rw [if_pos hg]
 exact h w L vs hvs hL hj hd
theorem sv_offG (hg : guardOn ops o a = false) (hJ : ∀ w L vs,J L vs w → J (setB L vals.length) (updV vs vals.length undef) w)
  (hr : SeqVAll P ops J K ss l (a.put o.dst undef) (vals ++ [undef])) : SeqVAll P ops J K ((fun v => v = undef) :: ss) (o :: l) a vals:=by
 refine ⟨⟨undef,rfl⟩,fun w L vs hvs hL hj _ => ?_,fun v hv => by subst hv; exact hr⟩
 rw [if_neg (by rw [hg]; decide)]
 exact ⟨rfl,hJ w L vs hj⟩
end
end Go.Oche
