/- The texts IE, GI, IF, SlSl, JApp, in build order. -/
import Derived.Test.YtnhggfnnolfcdaaZap
import Derived.Handy
import Derived.Shelf.Abstract

/- Insertion sort and stable sort (less than 20) of one's own row of integers, by whatever comparison: r is greater first. -/
namespace Go.Proofs.Ytnhggfnnolfcdaa
open Go.RowKit Go.Oche Go.Proofs

theorem ints_set (xs : List Int) (i : Nat) (x : Int) : (ints xs).set i (.int .i64 x) = ints (xs.set i x):=by simp [ints,List.map_set]
theorem rowLen {W : World} {base n : Nat} {e : TypeId} {v : Value} {xs : List Value} (h : W.ownsRow base e 1 v n xs) : xs.length = n:=by have:=h.1; simpa using this
structure CmpFn (F : Nat) (caps : Array Value) (wB : World) (D : Int → Prop) (r : Int → Int) (cv : Int → Int → Int) : Prop where
 enters : Enters Try.prog F
 sgn : ∀ x y,D x → D y → (cv x y < 0 ↔ r y < r x)
 call : ∀ w x y,Below wB.heap.size wB w → D x → D y → Calls Try.prog F (#[.int .i64 x,.int .i64 y] ++ caps) w fun e w' => e = .returned (.int .i64 (cv x y)) ∧ Below w.heap.size w w'
set_option maxRecDepth 100000 in
set_option maxHeartbeats 4000000 in
theorem insG_any {F : Nat} {caps : Array Value} {wB : World} {D : Int → Prop} {r : Int → Int} {cv : Int → Int → Int} (hcmp : CmpFn F caps wB D r cv) (g c n : Nat) (xs : List Int) (a b : Nat) (w : World) (hbw : Below wB.heap.size wB w) (ho : w.ownsRow wB.heap.size 3 1 (.slice (some ⟨g,0,none⟩) n c) n (ints xs))
  (hab : a ≤ b) (hbn : b ≤ n) (hn : n ≤ 100) (hix : ∀ x ∈ xs,D x) (hasc : ∀ p q,a ≤ p → p < q → q < b → at0 xs p < at0 xs q) :
  Calls Try.prog 65 #[.slice (some ⟨g,0,none⟩) n c,.int .i64 a,.int .i64 b,.func (.func F) #[] caps] w fun e w' =>
   e = .returned (.tuple #[]) ∧ ∃ ys,w'.ownsRow wB.heap.size 3 1 (.slice (some ⟨g,0,none⟩) n c) n (ints ys) ∧ w.grownBy w' (some g) ∧ SegOk r xs a b (max (a + 1) b) ys:=by
 have hxl:=rowLen ho
 simp only [ints_length] at hxl
 have HO:=Lib.hid ho
 have HC:=Lib.hid hcmp
 have HBW:=Lib.hid hbw
 have hbg : wB.heap.size ≤ g:=(ho.lt g rfl).1
 have HBG:=Lib.hid hbg
 obtain ⟨base,hbase⟩ : ∃ base,wB.heap.size = base:=⟨_,rfl⟩
 have HBA:=Lib.hid hbase
 rw [hbase] at HO ⊢
 have HIX:=Lib.hid hix
 have HA:=Lib.hid hasc
 have hw0 : IntKind.i64.wrap ((a : Int) + 1) = (a : Int) + 1:=wrap_small _ (by omega) (by omega)
 clear ho hcmp hix hasc hbw hbg hbase
 go_enter Try.func65,Try.ntmps65
 go_wp2_with fail
 clear hw0
 go_loopw [8] (fun iv wr => ∃ (i : Nat) (ys : List Int),a + 1 ≤ i ∧ i ≤ max (a + 1) b ∧ iv = .int .i64 i ∧ Hid (SegOk r xs a b i ys) ∧ Hid (wr.ownsRow base 3 1 (.slice (some ⟨g,0,none⟩) n c) n (ints ys)) ∧ Hid (w.grownBy wr (some g))) (fun iv _ => b - (intOf iv).toNat)
 case atStart => exact ⟨a + 1,xs,by omega,by omega,by go_num,Lib.hid (SegOk.start (by omega) HA.out),HO,Lib.hid ⟨rfl,rfl,rfl,Nat.le_refl _,fun _ _ _ => rfl⟩⟩
 case round =>
  clear HO
  obtain ⟨i,ys,hi1,hi2,rfl,HS,HO,HG⟩ := hrel
  by_cases hlt : i < b
  ·have HYL:=HS.out.len
   obtain ⟨wo,rfl⟩ : ∃ wo : World,wo = wr:=⟨_,rfl⟩
   go_wp2_with fail
   go_loopw [9] (fun jv wi => ∃ (j : Nat) (zs : List Int),jv = .int .i64 j ∧ Hid (SlideOk r ys a i j zs) ∧ Hid (wi.ownsRow base 3 1 (.slice (some ⟨g,0,none⟩) n c) n (ints zs)) ∧ Hid (w.grownBy wi (some g))) (fun jv _ => (intOf jv).toNat)
   case atStart => exact ⟨i,ys,rfl,Lib.hid (SlideOk.start (by omega)),HO,HG⟩
   case round =>
    clear HO HG
    obtain ⟨j,zs,rfl,HZ,HO,HG⟩ := hrel
    obtain ⟨hj1,hj2⟩ := HZ.out.rng
    have HZL:=HZ.out.len
    obtain ⟨wi,rfl⟩ : ∃ wi : World,wi = wr:=⟨_,rfl⟩
    have HCW : Hid (Below wB.heap.size wB wi):=Lib.hid (HBW.out.trans (below_grownBy HG.out HBW.out.size (fun k hk => by cases hk; exact HBG.out)))
    by_cases hja : a < j
    ·have d1 : decide ((a : Int) < (j : Int)) = true:=decide_eq_true (by omega)
     have d1n : decide (a < j) = true:=decide_eq_true hja
     obtain ⟨m,hm⟩ : ∃ m,j = m + 1:=⟨j - 1,by omega⟩
     have hwm : IntKind.i64.wrap ((j : Int) - 1) = (m : Int):=by rw [IntKind.wrap_i64]; omega
     obtain ⟨x,hx⟩ : ∃ x,at0 zs j = x:=⟨_,rfl⟩
     obtain ⟨y,hy⟩ : ∃ y,at0 zs m = y:=⟨_,rfl⟩
     have k1 : wi.cell? ⟨g,j,none⟩ = some (.int .i64 x):=by rw [HO.out.cellAt j (by omega),intsAt (by omega),← at0_eq (by omega),hx]
     have k0 : wi.cell? ⟨g,m,none⟩ = some (.int .i64 y):=by rw [HO.out.cellAt m (by omega),intsAt (by omega),← at0_eq (by omega),hy]
     have hxb:=HIX.out x ((HZ.out.perm.trans HS.out.perm).mem_iff.1 (by rw [← hx,at0_eq (by omega)]; exact List.getElem_mem _))
     have hyb:=HIX.out y ((HZ.out.perm.trans HS.out.perm).mem_iff.1 (by rw [← hy,at0_eq (by omega)]; exact List.getElem_mem _))
     have hm1n : j < n:=by omega
     have hmn : m < n:=by omega
     obtain ⟨D0,hD⟩ : ∃ D0,cv x y = D0:=⟨_,rfl⟩
     obtain ⟨bb,hbb⟩ : ∃ bb,decide (D0 < 0) = bb:=⟨_,rfl⟩
     have HX:=Lib.hid hx
     have HY:=Lib.hid hy
     have HD:=Lib.hid hD
     have HBB:=Lib.hid hbb
     have HXB:=Lib.hid (And.intro hxb hyb)
     have HM:=Lib.hid hm
     clear hx hy hD hxb hyb hm
     go_wp2_with fail
     refine wp_region_seq 17 [.is ?_,.is ?_,.is (.bool true),.is (.bool true),.is ?_,.is ?_,.is ?_,.is ?_,.is ?_,.is ?_,.is ?_,.is ?_,.is ?_,.is ?_,.is (.int .i64 D0),.is ?_,.is (.bool bb)] rfl mix (by kernel_rfl) (by kernel_rfl) ?seqm
     case seqm =>
      simp only [List.take_succ_cons,List.take_zero]
      iterate 4
       refine seq_is rfl (fun w1 hb1 _ => ?_) ?_
       ·simp [opOK,go_sem,hja,Below.refl]
        try exact rfl
       simp only [Act.put,List.setIfInBounds_toArray,List.set_cons_succ,List.set_cons_zero]
      iterate 10
       refine seq_on (by rfl) (fun w1 hb1 _ => ?_) ?_
       ·have k0':=bAt hb1 k0
        have k1':=bAt hb1 k1
        simp [opOK,go_sem,k0',k1',hwm,hm1n,hmn,Below.refl]
        try exact rfl
       simp only [Act.put,List.setIfInBounds_toArray,List.set_cons_succ,List.set_cons_zero]
      refine seq_on (by rfl) (fun w1 hb1 _ => ?_) ?_
      ·have hen:=HC.out.enters
       unfold Enters at hen
       refine opOK_call (f:=F) (args:=#[.int .i64 x,.int .i64 y] ++ caps) (by simp [go_sem,hen]) ?_
       refine (HC.out.call w1 x y (HCW.out.trans (hb1.mono HCW.out.size)) HXB.out.1 HXB.out.2).mono ?_
       rintro e w2 ⟨rfl,hb2⟩
       exact ⟨_,rfl,by rw [HD.out],hb2⟩
      simp only [Act.put,List.setIfInBounds_toArray,List.set_cons_succ,List.set_cons_zero]
      refine seq_on (by rfl) (fun w1 hb1 _ => ?_) ?_
      ·simp [opOK,go_sem,Below.refl]
       try exact rfl
      simp only [Act.put,List.setIfInBounds_toArray,List.set_cons_succ,List.set_cons_zero]
      refine seq_is rfl (fun w1 hb1 _ => ?_) ?_
      ·simp [opOK,go_sem,HBB.out,Below.refl]
       try exact rfl
      simp only [Act.put,List.setIfInBounds_toArray,List.set_cons_succ,List.set_cons_zero]
      refine seq_end fun w6 hb6 _ => ?_
      simp only [List.drop_succ_cons,List.drop_zero]
      have hO6:=ownsN_below HO.out hb6
      have HO6:=Lib.hid hO6
      have hg6:=grownBy_trans HG.out (grownBy_below _ hb6)
      have HG6:=Lib.hid hg6
      have l1:=bAt hb6 k1
      have l0:=bAt hb6 k0
      have l1f:=hO6.frozenAt j
      have l0f:=hO6.frozenAt m
      clear k0 k1 hO6 hg6 hb6
      cases bb
      ·go_wp2_with fail
       go_roundw
       case rel => exact ⟨i + 1,zs,by omega,by omega,by go_num,Lib.hid (HS.out.next HZ.out hlt (by omega) (by omega) HA.out (.inr (by
        have h1:=of_decide_eq_false HBB.out
        have h2:=HM.out
        subst h2
        rw [Nat.add_sub_cancel,HX.out,HY.out]
        have h3:=(HC.out.sgn x y HXB.out.1 HXB.out.2).2
        rw [HD.out] at h3
        exact fun h => h1 (h3 h)))),HO6,HG6⟩
       case measure => simp [intOf]; omega
      ·go_wp2_with fail
       have hO6:=HO6.out
       obtain ⟨hO8,hg8⟩ := hO6.stored j (.int .i64 y)
       rw [ints_set] at hO8
       have HO8:=Lib.hid hO8
       have HG8:=Lib.hid (grownBy_trans HG6.out hg8)
       have HZ9 : Hid (SlideOk r ys a i m ((zs.set j y).set m x)):=Lib.hid (by
        have h2:=HM.out
        subst h2
        have h1:=of_decide_eq_true HBB.out
        have:=HZ.out.step hja (by omega) (by rw [Nat.add_sub_cancel,HX.out,HY.out]; exact (HC.out.sgn x y HXB.out.1 HXB.out.2).1 (by rw [HD.out]; exact h1))
        rw [Nat.add_sub_cancel,HX.out,HY.out] at this
        exact this)
       have hmj : ¬ m = j:=by have:=HM.out; omega
       obtain ⟨w8,hw8⟩ : ∃ w8,w6.setCell ⟨g,j,none⟩ (.int .i64 y) = w8:=⟨_,rfl⟩
       rw [hw8] at HO8 HG8
       have HW8:=Lib.hid hw8
       clear hO6 hO8 hg8 hw8
       refine wp_region_gen 17 (fun i v _ => match i with
        | 0 | 2 | 5 | 10 => v = .slice (some ⟨g,0,none⟩) n c
        | 1 | 3 | 6 | 11 => v = .int .i64 j
        | 4 | 7 => v = .int .i64 m
        | 8 | 16 => v = .pointer (some ⟨g,m,none⟩)
        | 9 => v = .int .i64 y
        | 12 | 14 => v = .pointer (some ⟨g,j,none⟩)
        | 13 => v = .int .i64 x
        | _ => True) (JSt 15 [9,13] (fun W => W = w6.drew) (fun W => W = w8.drew)) mix (by kernel_rfl) (JSt.start rfl) ?_ ?_
       ·refine ⟨?_, ?_, ?_, ?_, ?_, ?_, ?_, ?_, ?_, ?_, ?_, ?_, ?_, ?_, ?_, ?_, ?_,trivial⟩
        all_goals refine gen_plain rfl fun a W S hSi hJ hpre ht' => ?_
        all_goals
         simp [Region.binds] at hpre
         have t0:=ht' 0 rfl
         have t9:=ht' 9 rfl
         simp at t0 t9
        iterate 9
         (·simp [opOK,go_sem,hpre,t0,t9,hwm,hmn]
           refine ⟨hJ.read (by omega), ?_⟩
           intro j _ _ v h _
           exact h)
        ·have hW:=hJ.look (i:=9) (by simp) hSi
         have q0 : W.cell? ⟨g,m,none⟩ = some (.int .i64 y):=by rw [hW]; exact l0
         simp [opOK,go_sem,hpre,q0]
         refine ⟨hJ.read (by omega), ?_⟩
         intro j _ _ v h _
         exact h
        iterate 3
         (·simp [opOK,go_sem,hpre,t0,t9,hm1n]
           refine ⟨hJ.read (by omega), ?_⟩
           intro j _ _ v h _
           exact h)
        ·have hW:=hJ.look (i:=13) (by simp) hSi
         have q0 : W.cell? ⟨g,j,none⟩ = some (.int .i64 x):=by rw [hW]; exact l1
         simp [opOK,go_sem,hpre,q0]
         refine ⟨hJ.read (by omega), ?_⟩
         intro j _ _ v h _
         exact h
        ·simp [opOK,go_sem,hpre,hm1n]
         refine ⟨hJ.read (by omega), ?_⟩
         intro j _ _ v h _
         exact h
        ·have hW:=hJ.off hSi
         have q0 : W.cell? ⟨g,j,none⟩ = some (.int .i64 x):=by rw [hW]; exact l1
         have q1 : W.frozen? ⟨g,j,none⟩ = false:=by rw [hW]; exact l1f
         have e8 : W.setCell ⟨g,j,none⟩ (.int .i64 y) = w8.drew:=by rw [hW,← HW8.out]; rfl
         simp [opOK,go_sem,hpre,q0,q1,e8]
         refine ⟨JSt.write (by simp [hpre]) rfl, ?_⟩
         intro j hj _ v h _
         exact h
        ·simp [opOK,go_sem,hpre,hmn]
         refine ⟨hJ.read (by omega), ?_⟩
         intro j _ _ v h _
         exact h
       ·intro W' hJ
        have hW:=hJ.on (by decide)
        subst hW
        simp only [List.take_succ_cons,List.take_zero,List.drop_succ_cons,List.drop_zero,EndAll]
        rintro _ rfl _ rfl _ rfl _ rfl _ rfl _ rfl _ rfl _ rfl _ rfl _ rfl _ rfl _ rfl _ rfl _ rfl _ rfl v15 - _ rfl
        have q0 : w8.cell? ⟨g,m,none⟩ = some (.int .i64 y):=by rw [← HW8.out,World.cell?_setCell_other _ _ _ _ (by intro e; cases e; exact hmj rfl)]; exact l0
        have q0f:=HO8.out.frozenAt m
        obtain ⟨hO9,hg9⟩ := HO8.out.stored m (.int .i64 x)
        rw [ints_set] at hO9
        have HO9:=Lib.hid hO9
        have HG9:=Lib.hid (grownBy_trans HG8.out hg9)
        clear hO9 hg9 l0 l1 l0f l1f hJ
        go_wp2_with fail
        go_roundw
        case rel => exact ⟨m,_,rfl,HZ9,HO9,Lib.hid ⟨HG9.out.os,HG9.out.tape,HG9.out.output,HG9.out.size,HG9.out.block⟩⟩
        case measure => simp [intOf]; have:=HM.out; omega
    ·have d1 : decide ((a : Int) < (j : Int)) = false:=decide_eq_false (by omega)
     have d1n : decide (a < j) = false:=decide_eq_false hja
     go_wp2_with fail
     refine wp_region_seq 17 [.is ?_,.is ?_,.is (.bool false),.is (.bool false),.is undef,.is undef,.is undef,.is undef,.is undef,.is undef,.is undef,.is undef,.is undef,.is undef,.is undef,.is undef,.is (.bool false)] rfl mix (by kernel_rfl) (by kernel_rfl) ?seqm
     case seqm =>
      simp only [List.take_succ_cons,List.take_zero]
      iterate 4
       refine seq_is rfl (fun w1 hb1 _ => ?_) ?_
       ·simp [opOK,go_sem,hja,Below.refl]
        try exact rfl
       simp only [Act.put,List.setIfInBounds_toArray,List.set_cons_succ,List.set_cons_zero]
      iterate 12
       refine seq_off (by rfl) ?_
       simp only [Act.put,List.setIfInBounds_toArray,List.set_cons_succ,List.set_cons_zero]
      refine seq_is rfl (fun w1 hb1 _ => ?_) ?_
      ·simp [opOK,go_sem,Below.refl]
       try exact rfl
      simp only [Act.put,List.setIfInBounds_toArray,List.set_cons_succ,List.set_cons_zero]
      refine seq_end fun w6 hb6 _ => ?_
      simp only [List.drop_succ_cons,List.drop_zero]
      have HO6:=Lib.hid (ownsN_below HO.out hb6)
      have HG6:=Lib.hid (grownBy_trans HG.out (grownBy_below _ hb6))
      clear hb6
      go_wp2_with fail
      go_roundw
      case rel => exact ⟨i + 1,zs,by omega,by omega,by go_num,Lib.hid (HS.out.next HZ.out hlt (by omega) (by omega) HA.out (.inl (by omega))),HO6,HG6⟩
      case measure => simp [intOf]; omega
  ·obtain rfl : i = max (a + 1) b:=by omega
   go_wp2
   go_returns
   exact ⟨rfl,ys,HO.out,HG.out,HS.out⟩
set_option maxRecDepth 100000 in
set_option maxHeartbeats 4000000 in
theorem stableG_any {F : Nat} {caps : Array Value} {wB : World} {D : Int → Prop} {r : Int → Int} {cv : Int → Int → Int} (hcmp : CmpFn F caps wB D r cv) (g c n : Nat) (xs : List Int) (w : World) (hbw : Below wB.heap.size wB w) (ho : w.ownsRow wB.heap.size 3 1 (.slice (some ⟨g,0,none⟩) n c) n (ints xs))
  (hn0 : 1 ≤ n) (hn : n < 20) (hix : ∀ x ∈ xs,D x) (hasc : ∀ p q,p < q → q < n → at0 xs p < at0 xs q) :
  Calls Try.prog 61 #[.slice (some ⟨g,0,none⟩) n c,.int .i64 n,.func (.func F) #[] caps] w fun e w' =>
   e = .returned (.tuple #[]) ∧ ∃ ys,w'.ownsRow wB.heap.size 3 1 (.slice (some ⟨g,0,none⟩) n c) n (ints ys) ∧ w.grownBy w' (some g) ∧ SegOk r xs 0 n n ys:=by
 have HC:=Lib.hid hcmp
 have HBW:=Lib.hid hbw
 have HO:=Lib.hid ho
 have HIX:=Lib.hid hix
 have HA:=Lib.hid hasc
 clear hcmp hbw ho hix hasc
 go_enter Try.func61,Try.ntmps61
 go_wp2_with fail
 go_loopw [7,8] (fun av bv wr => av = .int .i64 0 ∧ bv = .int .i64 20 ∧ Hid (wr = w)) (fun _ _ _ => 0)
 case atStart => exact ⟨rfl,rfl,Lib.hid rfl⟩
 case round =>
  obtain ⟨rfl,rfl,HW⟩ := hrel
  obtain ⟨wo,rfl⟩ : ∃ wo : World,wo = wr:=⟨_,rfl⟩
  have d1 : decide ((20 : Int) ≤ (n : Int)) = false:=decide_eq_false (by omega)
  have d1n : decide (20 ≤ n) = false:=decide_eq_false (by omega)
  have e1 : decide ((20 : Int) < (n : Int)) = false:=decide_eq_false (by omega)
  have e1n : decide (20 < n) = false:=decide_eq_false (by omega)
  go_wp2_with fail
  refine (insG_any HC.out g c n xs 0 n wo (by rw [HW.out]; exact HBW.out) (by rw [HW.out]; exact HO.out) (by omega) (by omega) (by omega) HIX.out (fun p q _ h1 h2 => HA.out p q h1 h2)).mono ?_
  rintro e w1 ⟨rfl,ys,ho1,hg1,hs1⟩
  rw [show max (0 + 1) n = n by omega] at hs1
  have HO1:=Lib.hid ho1
  have HG1 : Hid (w.grownBy w1 (some g)):=Lib.hid (by rw [← HW.out]; exact hg1)
  have HS1:=Lib.hid hs1
  clear ho1 hg1 hs1
  go_wp2_with fail
  go_loopw [6] (fun bv wr => bv = .int .i64 20 ∧ Hid (wr = w1)) (fun _ _ => 0)
  case atStart => exact ⟨rfl,Lib.hid rfl⟩
  case round =>
   obtain ⟨rfl,HW⟩ := hrel
   go_wp2
   go_returns
   have hw:=HW.out
   subst hw
   exact ⟨rfl,ys,HO1.out,HG1.out,HS1.out⟩
set_option maxRecDepth 100000 in
set_option maxHeartbeats 4000000 in
theorem ins0_any (v : Value) (w : World) : Calls Try.prog 65 #[.slice none 0 0,.int .i64 0,.int .i64 0,v] w fun e w' => e = .returned (.tuple #[]) ∧ w = w':=by
 go_enter Try.func65,Try.ntmps65
 go_wp2_with fail
 go_loopw [8] (fun bv wr => bv = .int .i64 1 ∧ Hid (wr = w)) (fun _ _ => 0)
 case atStart => exact ⟨rfl,Lib.hid rfl⟩
 case round =>
  obtain ⟨rfl,HW⟩ := hrel
  go_wp2
  go_returns
  have hw:=HW.out
  subst hw
  exact ⟨rfl,rfl⟩
set_option maxRecDepth 100000 in
set_option maxHeartbeats 4000000 in
theorem stable0_any (v : Value) (w : World) : Calls Try.prog 61 #[.slice none 0 0,.int .i64 0,v] w fun e w' => e = .returned (.tuple #[]) ∧ w = w':=by
 go_enter Try.func61,Try.ntmps61
 go_wp2_with fail
 go_loopw [7,8] (fun av bv wr => av = .int .i64 0 ∧ bv = .int .i64 20 ∧ Hid (wr = w)) (fun _ _ _ => 0)
 case atStart => exact ⟨rfl,rfl,Lib.hid rfl⟩
 case round =>
  obtain ⟨rfl,rfl,HW⟩ := hrel
  go_wp2_with fail
  refine (ins0_any v _).mono ?_
  rintro e w1 ⟨rfl,rfl⟩
  go_wp2_with fail
  go_loopw [6] (fun bv wr => bv = .int .i64 20 ∧ Hid (wr = w)) (fun _ _ => 0)
  case atStart => exact ⟨rfl,HW⟩
  case round =>
   obtain ⟨rfl,HW⟩ := hrel
   go_wp2
   go_returns
   have hw:=HW.out
   subst hw
   exact ⟨rfl,rfl⟩
set_option maxRecDepth 100000 in
theorem sortStable0_any (v : Value) (w : World) : Calls Try.prog 42 #[.slice none 0 0,v] w fun e w' => e = .returned (.tuple #[]) ∧ w = w':=by
 go_enter Try.func42,Try.ntmps42
 go_wp2_with fail
 refine (stable0_any v w).mono ?_
 rintro e w1 ⟨rfl,rfl⟩
 go_wp2
 go_returns
 exact ⟨rfl,rfl⟩
set_option maxRecDepth 100000 in
theorem sortStableG_any {F : Nat} {caps : Array Value} {wB : World} {D : Int → Prop} {r : Int → Int} {cv : Int → Int → Int} (hcmp : CmpFn F caps wB D r cv) (g c n : Nat) (xs : List Int) (w : World) (hbw : Below wB.heap.size wB w) (ho : w.ownsRow wB.heap.size 3 1 (.slice (some ⟨g,0,none⟩) n c) n (ints xs))
  (hn0 : 1 ≤ n) (hn : n < 20) (hix : ∀ x ∈ xs,D x) (hasc : ∀ p q,p < q → q < n → at0 xs p < at0 xs q) :
  Calls Try.prog 42 #[.slice (some ⟨g,0,none⟩) n c,.func (.func F) #[] caps] w fun e w' =>
   e = .returned (.tuple #[]) ∧ ∃ ys,w'.ownsRow wB.heap.size 3 1 (.slice (some ⟨g,0,none⟩) n c) n (ints ys) ∧ w.grownBy w' (some g) ∧ SegOk r xs 0 n n ys:=by
 have HC:=Lib.hid hcmp
 have HBW:=Lib.hid hbw
 have HO:=Lib.hid ho
 have HIX:=Lib.hid hix
 have HA:=Lib.hid hasc
 clear hcmp hbw ho hix hasc
 go_enter Try.func42,Try.ntmps42
 go_wp2_with fail
 refine (stableG_any HC.out g c n xs w HBW.out HO.out hn0 hn HIX.out HA.out).mono ?_
 rintro e w1 ⟨rfl,ys,ho1,hg1,hs1⟩
 have H:=Lib.hid (And.intro ho1 (And.intro hg1 hs1))
 clear ho1 hg1 hs1
 go_wp2
 go_returns
 exact ⟨rfl,ys,H.out.1,H.out.2.1,H.out.2.2⟩
theorem seg_pair {r : Int → Int} {xs ys : List Int} {n : Nat} (h : SegOk r xs 0 n n ys) (hn : xs.length = n) : ys.Pairwise (befo r):=by
 rw [List.pairwise_iff_getElem]
 intro i j hi hj hij
 have:=h.ord i j (by omega) hij (by have:=h.len; omega)
 rwa [at0_eq hi,at0_eq hj] at this
theorem sortStableV_any {F : Nat} {caps : Array Value} {wB : World} {D : Int → Prop} {r : Int → Int} {cv : Int → Int → Int} (hcmp : CmpFn F caps wB D r cv) (v : Value) (n : Nat) (xs : List Int) (w : World) (hbw : Below wB.heap.size wB w) (ho : w.ownsRow wB.heap.size 3 1 v n (ints xs))
  (h0 : xs = [] → v = .slice none 0 0) (hn : n < 20) (hix : ∀ x ∈ xs,D x) (hasc : xs.Pairwise (· < ·)) :
  Calls Try.prog 42 #[v,.func (.func F) #[] caps] w fun e w' =>
   e = .returned (.tuple #[]) ∧ ∃ ys,w'.ownsRow wB.heap.size 3 1 v n (ints ys) ∧ w.grownBy w' v.ownBlock ∧ ys.Perm xs ∧ ys.Pairwise (befo r):=by
 have hl:=rowLen ho
 rw [ints_length] at hl
 by_cases hx : xs = []
 ·subst hx
  rw [h0 rfl] at ho ⊢
  refine (sortStable0_any _ w).mono fun e w' ⟨he,hw⟩ => ?_
  subst hw
  exact ⟨he,[],ho,⟨rfl,rfl,rfl,Nat.le_refl _,fun _ _ _ => rfl⟩,List.Perm.refl _,List.Pairwise.nil⟩
 ·have hpos : 0 < n:=by rw [← hl]; exact List.length_pos_iff.2 hx
  rcases ho.2 with ⟨_,h⟩ | ⟨g,c,cur,rfl,_⟩
  ·omega
  refine (sortStableG_any hcmp g c n xs w hbw ho hpos hn hix (fun p q h1 h2 => ?_)).mono fun e w' ⟨he,ys,ho',hg',hs'⟩ => ⟨he,ys,ho',hg',hs'.perm,seg_pair hs' hl⟩
  have:=List.pairwise_iff_getElem.1 hasc p q (by omega) (by omega) h1
  rwa [at0_eq (by omega),at0_eq (by omega)]
end Go.Proofs.Ytnhggfnnolfcdaa

/- Chapter 4, games, in plain Lean: the ranking; groups of a sorted list are the best of what is left, again and again. -/
namespace Go.Proofs.Ytnhggfnnolfcdaa
open Go.RowKit Go.Oche Go.Proofs

def rkG (r : Rul) (g : Gam) (i : Int) : Int:=((List.range g.pls.length).countP fun j => decide (cmpP r (plr g i.toNat) (plr g j) < 0) : Nat)
def cvG (r : Rul) (g : Gam) (x y : Int) : Int:=cmpP r (plr g x.toNat) (plr g y.toNat)
theorem countP_lt {α : Type} {p q : α → Bool} : ∀ {l : List α},(∀ a ∈ l,p a = true → q a = true) → (∃ a ∈ l,p a = false ∧ q a = true) → l.countP p < l.countP q
 | [],_,h => by obtain ⟨_,h,_⟩ := h; cases h
 | b :: l,h1,⟨a,ha,h2,h3⟩ => by
  rw [List.countP_cons,List.countP_cons]
  have hle : l.countP p ≤ l.countP q:=List.countP_mono_left fun a ha hp => h1 a (by simp [ha]) hp
  rcases List.mem_cons.1 ha with rfl | ha
  ·rw [h2,h3]; simp; omega
  ·have:=countP_lt (fun a ha hp => h1 a (by simp [ha]) hp) ⟨a,ha,h2,h3⟩
   have hb : (if p b = true then 1 else 0) ≤ (if q b = true then 1 else 0):=by
    split
    ·rw [if_pos (h1 b (by simp) ‹_›)]; exact Nat.le_refl _
    ·exact Nat.zero_le _
   omega
theorem cv_rk {r : Rul} {g : Gam} {x y : Int} (_hx : x.toNat < g.pls.length) (hy : y.toNat < g.pls.length) : cvG r g x y < 0 ↔ rkG r g y < rkG r g x:=by
 unfold cvG rkG
 constructor
 ·intro h
  have:=countP_lt (p:=fun j => decide (cmpP r (plr g y.toNat) (plr g j) < 0)) (q:=fun j => decide (cmpP r (plr g x.toNat) (plr g j) < 0)) (l:=List.range g.pls.length)
   (fun a _ hp => decide_eq_true (cmpP_trans h (of_decide_eq_true hp))) ⟨y.toNat,List.mem_range.2 hy,decide_eq_false (cmpP_self r _),decide_eq_true h⟩
  omega
 ·intro h
  by_cases hc : cmpP r (plr g x.toNat) (plr g y.toNat) < 0
  ·exact hc
  ·exfalso
   have : (List.range g.pls.length).countP (fun j => decide (cmpP r (plr g x.toNat) (plr g j) < 0)) ≤ (List.range g.pls.length).countP (fun j => decide (cmpP r (plr g y.toNat) (plr g j) < 0)) :=
    List.countP_mono_left fun a _ hp => by
     by_cases hd : cmpP r (plr g y.toNat) (plr g a) < 0
     ·exact decide_eq_true hd
     ·exact (cmpP_trans' hc hd (of_decide_eq_true hp)).elim
   omega
def idxG (r : Rul) (g : Gam) (x : Int) (l : List Int) : Nat:=l.findIdx fun y => decide (cvG r g x y < 0)
def grpL (r : Rul) (g : Gam) : Nat → List Int → List (List Int)
 | 0,_ => []
 | _ + 1,[] => []
 | k + 1,x :: l => (x :: l).take (idxG r g x (x :: l)) :: grpL r g k ((x :: l).drop (idxG r g x (x :: l)))
def bestsL (r : Rul) (g : Gam) : Nat → List Int → List (List Int)
 | 0,_ => []
 | _ + 1,[] => []
 | k + 1,x :: l => ((x :: l).filter fun i => (x :: l).all fun j => !decide (cvG r g j i < 0)) :: bestsL r g k ((x :: l).filter fun i => !(x :: l).all fun j => !decide (cvG r g j i < 0))
def restG (g : Gam) : List Int:=((List.range g.pls.length).filter fun (i : Nat) => !g.win.contains (i : Int)).map fun (i : Nat) => (i : Int)
def rankG (r : Rul) (g : Gam) : List (List Int):=(if g.win = [] then [] else [g.win]) ++ bestsL r g g.pls.length (restG g)
theorem idx_pos (r : Rul) (g : Gam) (x : Int) (l : List Int) : 0 < idxG r g x (x :: l):=by
 unfold idxG
 rw [List.findIdx_cons]
 have : decide (cvG r g x x < 0) = false:=decide_eq_false (cmpP_self r _)
 rw [this]; simp
theorem idx_le (r : Rul) (g : Gam) (x : Int) (l : List Int) : idxG r g x l ≤ l.length:=List.findIdx_le_length
theorem asc_eq {a b : List Int} (ha : a.Pairwise (· < ·)) (hb : b.Pairwise (· < ·)) (h : ∀ x,x ∈ a ↔ x ∈ b) : a = b:=by
 induction a generalizing b with
 | nil =>
  cases b with
  | nil => rfl
  | cons y b => have:=(h y).2 (by simp); cases this
 | cons x a ih =>
  cases b with
  | nil => have:=(h x).1 (by simp); cases this
  | cons y b =>
   rw [List.pairwise_cons] at ha hb
   have hxy : x = y:=by
    have h1:=(h x).1 (by simp)
    have h2:=(h y).2 (by simp)
    rcases List.mem_cons.1 h1 with e | e
    ·exact e
    ·rcases List.mem_cons.1 h2 with e2 | e2
     ·exact e2.symm
     ·have:=ha.1 y e2; have:=hb.1 x e; omega
   subst hxy
   congr 1
   refine ih ha.2 hb.2 fun z => ?_
   constructor
   ·intro hz
    rcases List.mem_cons.1 ((h z).1 (by simp [hz])) with e | e
    ·have:=ha.1 z hz; omega
    ·exact e
   ·intro hz
    rcases List.mem_cons.1 ((h z).2 (by simp [hz])) with e | e
    ·have:=hb.1 z hz; omega
    ·exact e
theorem take_idx {r : Rul} {g : Gam} : ∀ {x : Int} {l : List Int},x.toNat < g.pls.length → (∀ y ∈ l,y.toNat < g.pls.length) → l.Pairwise (befo (rkG r g)) → (∀ y ∈ l,rkG r g y ≤ rkG r g x) →
  l.take (idxG r g x l) = (l.filter fun y => decide (rkG r g y = rkG r g x)) ∧ l.drop (idxG r g x l) = (l.filter fun y => !decide (rkG r g y = rkG r g x))
 | x,[],_,_,_,_ => by simp [idxG]
 | x,y :: l,hx,hl,hp,hle => by
  rw [List.pairwise_cons] at hp
  unfold idxG
  rw [List.findIdx_cons]
  by_cases h : cvG r g x y < 0
  ·have hk:=(cv_rk (r:=r) hx (hl y (by simp))).1 h
   rw [decide_eq_true h]
   have hall : ∀ z ∈ y :: l, ¬ rkG r g z = rkG r g x:=fun z hz => by
    rcases List.mem_cons.1 hz with rfl | hz
    ·omega
    ·have:=hp.1 z hz; unfold befo at this; omega
   simp only [cond_true,List.take_zero,List.drop_zero]
   exact ⟨(List.filter_eq_nil_iff.2 fun z hz => by simpa using hall z hz).symm,(List.filter_eq_self.2 fun z hz => by simpa using hall z hz).symm⟩
  ·have hk : ¬ rkG r g y < rkG r g x:=fun e => h ((cv_rk (r:=r) hx (hl y (by simp))).2 e)
   have he : rkG r g y = rkG r g x:=by have:=hle y (by simp); omega
   rw [decide_eq_false h]
   simp only [cond_false,List.take_succ_cons,List.drop_succ_cons]
   have:=take_idx hx (fun z hz => hl z (by simp [hz])) hp.2 (fun z hz => hle z (by simp [hz]))
   unfold idxG at this
   rw [this.1,this.2,List.filter_cons,List.filter_cons,if_pos (by simpa using he),if_neg (by simpa using he)]
   exact ⟨rfl,rfl⟩
theorem grp_bests (r : Rul) (g : Gam) : ∀ (k : Nat) (s l : List Int),(∀ y ∈ l,0 ≤ y ∧ y.toNat < g.pls.length) → l.Pairwise (· < ·) → s.Pairwise (befo (rkG r g)) → s.Perm l → grpL r g k s = bestsL r g k l
 | 0,_,_,_,_,_,_ => rfl
 | k + 1,s,[],_,_,_,h => by rw [List.perm_nil.1 h]; rfl
 | k + 1,[],y :: l,_,_,_,h => by have:=h.length_eq; simp at this
 | k + 1,x :: s,y :: l,hl,ha,hs,h => by
  have hmem : ∀ z,z ∈ x :: s ↔ z ∈ y :: l:=fun z => h.mem_iff
  have hxl:=hl x ((hmem x).1 (by simp))
  have hle : ∀ z ∈ x :: s,rkG r g z ≤ rkG r g x:=fun z hz => by
   rcases List.mem_cons.1 hz with rfl | hz
   ·exact Int.le_refl _
   ·have:=(List.pairwise_cons.1 hs).1 z hz; unfold befo at this; omega
  have hti:=take_idx (r:=r) hxl.2 (fun z hz => (hl z ((hmem z).1 hz)).2) hs hle
  have hbest : ∀ i ∈ y :: l,((y :: l).all fun j => !decide (cvG r g j i < 0)) = decide (rkG r g i = rkG r g x):=fun i hi => by
   rw [Bool.eq_iff_iff,List.all_eq_true,decide_eq_true_eq]
   constructor
   ·intro hall
    have h1:=hall x ((hmem x).1 (by simp))
    have h2 : ¬ cvG r g x i < 0:=by simpa using h1
    have h3 : ¬ rkG r g i < rkG r g x:=fun e => h2 ((cv_rk (r:=r) hxl.2 (hl i hi).2).2 e)
    have:=hle i ((hmem i).2 hi); omega
   ·intro e j hj
    have h2 : ¬ cvG r g j i < 0:=fun e2 => by
     have:=(cv_rk (r:=r) (hl j hj).2 (hl i hi).2).1 e2
     have:=hle j ((hmem j).2 hj); omega
    simpa using h2
  have f1 : ((y :: l).filter fun i => (y :: l).all fun j => !decide (cvG r g j i < 0)) = (y :: l).filter fun i => decide (rkG r g i = rkG r g x):=List.filter_congr fun i hi => hbest i hi
  have f2 : ((y :: l).filter fun i => !(y :: l).all fun j => !decide (cvG r g j i < 0)) = (y :: l).filter fun i => !decide (rkG r g i = rkG r g x):=List.filter_congr fun i hi => by rw [hbest i hi]
  rw [grpL,bestsL,f1,f2,hti.1,hti.2]
  congr 1
  ·refine asc_eq ?_ (ha.filter _) (fun z => by rw [List.mem_filter,List.mem_filter,hmem])
   refine (List.pairwise_filter.2 ?_)
   refine hs.imp fun {a b} hab h1 h2 => ?_
   have h1':=of_decide_eq_true h1
   have h2':=of_decide_eq_true h2
   unfold befo at hab; omega
  ·exact grp_bests r g k _ _ (fun z hz => hl z (List.mem_filter.1 hz).1) (ha.filter _) (hs.filter _) (h.filter _)
theorem restG_asc (g : Gam) : (restG g).Pairwise (· < ·):=by
 unfold restG
 rw [List.pairwise_map]
 exact ((List.pairwise_lt_range).filter _).imp fun h => by omega
theorem restG_mem {g : Gam} {x : Int} (h : x ∈ restG g) : 0 ≤ x ∧ x.toNat < g.pls.length:=by
 unfold restG at h
 obtain ⟨i,hi,rfl⟩ := List.mem_map.1 h
 have:=List.mem_range.1 (List.mem_filter.1 hi).1
 exact ⟨by omega,by simpa using this⟩
end Go.Proofs.Ytnhggfnnolfcdaa

/- Chapter 4: Rank's comparison, IndexFunc, Contains. -/
namespace Go.Proofs.Ytnhggfnnolfcdaa
open Go.RowKit Go.Oche Go.Proofs
theorem compare_law (r : Rul) (nv : Value) (hk : r.kind = 1 ∨ r.kind = 2 ∨ r.kind = 3 ∨ r.kind = 4) :
  ∃ F, Enters Try.prog F ∧ (∀ w, (method 252 (lawT r) (.agg #[.int .i64 r.kind, .int .i64 r.players, .int .i64 r.last, .bool r.bull, .bool r.jump, .int .i64 r.rounds, .bool r.cut, nv, .int .i64 r.lives, .bool r.own]) "oche/game.compare").run Try.prog w = .ok (F, .agg #[.int .i64 r.kind, .int .i64 r.players, .int .i64 r.last, .bool r.bull, .bool r.jump, .int .i64 r.rounds, .bool r.cut, nv, .int .i64 r.lives, .bool r.own]) w) ∧
   ∀ w (x y : Plr),PlOk r x → PlOk r y → Calls Try.prog F #[.agg #[.int .i64 r.kind,.int .i64 r.players,.int .i64 r.last,.bool r.bull,.bool r.jump,.int .i64 r.rounds,.bool r.cut,nv,.int .i64 r.lives,.bool r.own],plrV x,plrV y] w fun e w' => e = .returned (.int .i64 (cmpP r x y)) ∧ Below w.heap.size w w':=by
 have h2 : ∀ x y : Plr,r.kind ≠ 2 → cmpP r x y = cmp3 y.pts x.pts:=fun x y k => by unfold cmpP; rw [if_neg k]
 rcases hk with k | k | k | k
 ·refine ⟨85,enters_of Try.func85 (by kernel_rfl) rfl,fun w => ?_,fun w x y hx hy => ?_⟩
  ·rw [lawT,if_pos k]; exact m_compare1 _ w
  ·rw [h2 x y (by omega)]; exact compare1_any r nv x y hx.len hy.len w
 ·refine ⟨94,enters_of Try.func94 (by kernel_rfl) rfl,fun w => ?_,fun w x y hx hy => ?_⟩
  ·rw [lawT,if_neg (by omega),if_pos k]; exact m_compare2 _ w
  ·unfold cmpP; rw [if_pos k]; exact compare2_any r nv x y hx.len hy.len (fun m hm => ⟨hx.mlo m hm,hx.mhi m hm⟩) (fun m hm => ⟨hy.mlo m hm,hy.mhi m hm⟩) w
 ·refine ⟨106,enters_of Try.func106 (by kernel_rfl) rfl,fun w => ?_,fun w x y hx hy => ?_⟩
  ·rw [lawT,if_neg (by omega),if_neg (by omega),if_pos k]; exact m_compare3 _ w
  ·rw [h2 x y (by omega)]; exact compare3_any r nv x y hx.len hy.len w
 ·refine ⟨110,enters_of Try.func110 (by kernel_rfl) rfl,fun w => ?_,fun w x y hx hy => ?_⟩
  ·rw [lawT,if_neg (by omega),if_neg (by omega),if_neg (by omega)]; exact m_compare4 _ w
  ·rw [h2 x y (by omega)]; exact compare4_any r nv x y hx.len hy.len w
set_option maxRecDepth 100000 in
set_option maxHeartbeats 4000000 in
theorem rankCmp_any (t pb cap q : Nat) (r : Rul) (g : Gam) (wv nv : Value) (M : Int) (i j : Nat) (w : World) (h : TabAt w t pb r g cap wv nv) (hi : Inv r M g) (hq : w.cell? ⟨q,0,none⟩ = some (.pointer (some ⟨t,0,none⟩))) (h1 : i < g.pls.length) (h2 : j < g.pls.length) :
  Calls Try.prog 41 #[.int .i64 i,.int .i64 j,.pointer (some ⟨q,0,none⟩)] w fun e w' => e = .returned (.int .i64 (cmpP r (plr g i) (plr g j))) ∧ Below w.heap.size w w':=by
 obtain ⟨F,hF,hm,hcall⟩ := compare_law r nv (kind_of hi.ok)
 have hc1:=(hi.each _ (List.getElem_mem h1)).1
 have hc2:=(hi.each _ (List.getElem_mem h2)).1
 rw [plr_at h1] at hc1
 rw [plr_at h2] at hc2
 obtain ⟨x,hx⟩ : ∃ x,plr g i = x:=⟨_,rfl⟩
 obtain ⟨y,hy⟩ : ∃ y,plr g j = y:=⟨_,rfl⟩
 rw [hx] at hc1
 rw [hy] at hc2
 obtain ⟨n,hn⟩ : ∃ n,g.pls.length = n:=⟨_,rfl⟩
 obtain ⟨D,hD⟩ : ∃ D,cmpP r x y = D:=⟨_,rfl⟩
 rw [hx,hy,hD]
 have hlt1 : i < n:=by omega
 have hlt2 : j < n:=by omega
 have l5 : ∀ W,TabAt W t pb r g cap wv nv → W.cell? ⟨t,5,none⟩ = some (.iface (lawT r) (.agg #[.int .i64 r.kind,.int .i64 r.players,.int .i64 r.last,.bool r.bull,.bool r.jump,.int .i64 r.rounds,.bool r.cut,nv,.int .i64 r.lives,.bool r.own])):=fun W hW => hW.at_ (j:=5) rfl
 have l3 : ∀ W,TabAt W t pb r g cap wv nv → W.cell? ⟨t,3,none⟩ = some (.slice (some ⟨pb,0,none⟩) n cap):=fun W hW => by rw [← hn]; exact hW.at_ (j:=3) rfl
 obtain ⟨LT,hLT⟩ : ∃ LT,lawT r = LT:=⟨_,rfl⟩
 rw [hLT] at hm l5
 have HF:=Lib.hid hF
 have HM:=Lib.hid hm
 have HCALL : Hid (∀ w,Calls Try.prog F #[.agg #[.int .i64 r.kind,.int .i64 r.players,.int .i64 r.last,.bool r.bull,.bool r.jump,.int .i64 r.rounds,.bool r.cut,nv,.int .i64 r.lives,.bool r.own],plrV x,plrV y] w fun e w' => e = .returned (.int .i64 D) ∧ Below w.heap.size w w'):=Lib.hid fun w => by rw [← hD]; exact hcall w x y hc1 hc2
 have HT:=Lib.hid h
 have HL5:=Lib.hid l5
 have HL3:=Lib.hid l3
 have HX : Hid (∃ a : i < g.pls.length,g.pls[i] = x):=Lib.hid ⟨h1,by rw [plr_at h1]; exact hx⟩
 have HY : Hid (∃ a : j < g.pls.length,g.pls[j] = y):=Lib.hid ⟨h2,by rw [plr_at h2]; exact hy⟩
 clear hF hm hcall h l5 l3 hx hy hi hc1 hc2 hn hD hLT h1 h2
 go_enter Try.func41,Try.ntmps41
 go_wp2_with fail
 refine wp_region_seq 24 [.is (.pointer (some ⟨t,0,none⟩)),.is (.pointer (some ⟨t,0,none⟩)),.is (.pointer (some ⟨t,5,none⟩)),.is (.iface LT (.agg #[.int .i64 r.kind,.int .i64 r.players,.int .i64 r.last,.bool r.bull,.bool r.jump,.int .i64 r.rounds,.bool r.cut,nv,.int .i64 r.lives,.bool r.own])),.is (.pointer (some ⟨t,0,none⟩)),.is (.pointer (some ⟨t,0,none⟩)),.is (.pointer (some ⟨t,0,none⟩)),.is (.pointer (some ⟨t,3,none⟩)),.is (.slice (some ⟨pb,0,none⟩) n cap),.is (.int .i64 i),.is (.pointer (some ⟨pb,i * 9,none⟩)),.is (plrV x),.is (.pointer (some ⟨t,0,none⟩)),.is (.pointer (some ⟨t,0,none⟩)),.is (.pointer (some ⟨t,0,none⟩)),.is (.pointer (some ⟨t,3,none⟩)),.is (.slice (some ⟨pb,0,none⟩) n cap),.is (.int .i64 j),.is (.pointer (some ⟨pb,j * 9,none⟩)),.is (plrV y),.is (.iface LT (.agg #[.int .i64 r.kind,.int .i64 r.players,.int .i64 r.last,.bool r.bull,.bool r.jump,.int .i64 r.rounds,.bool r.cut,nv,.int .i64 r.lives,.bool r.own])),.is (.iface LT (.agg #[.int .i64 r.kind,.int .i64 r.players,.int .i64 r.last,.bool r.bull,.bool r.jump,.int .i64 r.rounds,.bool r.cut,nv,.int .i64 r.lives,.bool r.own])),.is (.int .i64 D),.is (.int .i64 D)] rfl mix (by kernel_rfl) (by kernel_rfl) ?seqm
 case seqm =>
  simp only [List.take_succ_cons,List.take_zero]
  iterate 11
   refine seq_on (by rfl) (fun w3 hb3 _ => ?_) ?_
   ·have ht:=HT.out.below hb3
    have c5:=HL5.out w3 ht
    have c3:=HL3.out w3 ht
    have cq:=bAt hb3 hq
    simp [opOK,go_sem,c5,c3,cq,hlt1,Below.refl]
    try exact rfl
   simp only [Act.put,List.setIfInBounds_toArray,List.set_cons_succ,List.set_cons_zero]
  refine seq_on (by rfl) (fun w3 hb3 hH => ?_) ?_
  ·have ht:=HT.out.below hb3
   have c5:=HL5.out w3 ht
   have c3:=HL3.out w3 ht
   have cq:=bAt hb3 hq
   obtain ⟨q1,e1⟩ := HX.out
   rw [← e1]
   exact opOK_load_plr (.tmp 16) rfl pb i g.pls q1 (by simp [Act.eval]) ht.pls ⟨rfl,Below.refl _ _⟩
  simp only [Act.put,List.setIfInBounds_toArray,List.set_cons_succ,List.set_cons_zero]
  iterate 7
   refine seq_on (by rfl) (fun w3 hb3 _ => ?_) ?_
   ·have ht:=HT.out.below hb3
    have c5:=HL5.out w3 ht
    have c3:=HL3.out w3 ht
    have cq:=bAt hb3 hq
    simp [opOK,go_sem,c3,cq,hlt2,Below.refl]
    try exact rfl
   simp only [Act.put,List.setIfInBounds_toArray,List.set_cons_succ,List.set_cons_zero]
  refine seq_on (by rfl) (fun w3 hb3 hH => ?_) ?_
  ·have ht:=HT.out.below hb3
   have c5:=HL5.out w3 ht
   have c3:=HL3.out w3 ht
   have cq:=bAt hb3 hq
   obtain ⟨q1,e1⟩ := HY.out
   rw [← e1]
   exact opOK_load_plr (.tmp 24) rfl pb j g.pls q1 (by simp [Act.eval]) ht.pls ⟨rfl,Below.refl _ _⟩
  simp only [Act.put,List.setIfInBounds_toArray,List.set_cons_succ,List.set_cons_zero]
  iterate 2
   refine seq_on (by rfl) (fun w3 hb3 _ => ?_) ?_
   ·have ht:=HT.out.below hb3
    have c5:=HL5.out w3 ht
    have c3:=HL3.out w3 ht
    have cq:=bAt hb3 hq
    simp [opOK,go_sem,Below.refl]
    try exact rfl
   simp only [Act.put,List.setIfInBounds_toArray,List.set_cons_succ,List.set_cons_zero]
  refine seq_on (by rfl) (fun w3 hb3 hH => ?_) ?_
  ·have ht:=HT.out.below hb3
   have c5:=HL5.out w3 ht
   have c3:=HL3.out w3 ht
   have cq:=bAt hb3 hq
   have hm:=HM.out
   have hen:=HF.out
   unfold Enters at hen
   refine opOK_call (f:=F) (args:=#[.agg #[.int .i64 r.kind,.int .i64 r.players,.int .i64 r.last,.bool r.bull,.bool r.jump,.int .i64 r.rounds,.bool r.cut,nv,.int .i64 r.lives,.bool r.own],plrV x,plrV y]) (by simp [go_sem,hm,hen]) ?_
   exact (HCALL.out w3).mono fun e W' ⟨he,hb⟩ => ⟨_,he,rfl,hb⟩
  simp only [Act.put,List.setIfInBounds_toArray,List.set_cons_succ,List.set_cons_zero]
  refine seq_on (by rfl) (fun w3 hb3 _ => ?_) ?_
  ·have ht:=HT.out.below hb3
   have c5:=HL5.out w3 ht
   have c3:=HL3.out w3 ht
   have cq:=bAt hb3 hq
   simp [opOK,go_sem,Below.refl]
   try exact rfl
  simp only [Act.put,List.setIfInBounds_toArray,List.set_cons_succ,List.set_cons_zero]
  refine seq_end fun w3 hb3 _ => ?_
  simp only [List.drop_succ_cons,List.drop_zero]
  have HB4:=Lib.hid hb3
  clear hb3
  go_wp2
  go_ret
  exact ⟨rfl,HB4.out⟩
set_option maxRecDepth 100000 in
set_option maxHeartbeats 4000000 in
theorem rankIdx_any (t pb cap q qc qr b o rl rc : Nat) (r : Rul) (g : Gam) (wv nv : Value) (M : Int) (i j : Nat) (w : World) (h : TabAt w t pb r g cap wv nv) (hi : Inv r M g) (hq : w.cell? ⟨q,0,none⟩ = some (.pointer (some ⟨t,0,none⟩)))
  (hqc : w.cell? ⟨qc,0,none⟩ = some (.func (.func 41) #[] #[.pointer (some ⟨q,0,none⟩)])) (hqr : w.cell? ⟨qr,0,none⟩ = some (.slice (some ⟨b,o,none⟩) rl rc)) (hr0 : w.cell? ⟨b,o,none⟩ = some (.int .i64 i)) (hrl : 0 < rl) (h1 : i < g.pls.length) (h2 : j < g.pls.length) :
  Calls Try.prog 44 #[.int .i64 j,.pointer (some ⟨qc,0,none⟩),.pointer (some ⟨qr,0,none⟩)] w fun e w' => e = .returned (.bool (decide (cmpP r (plr g i) (plr g j) < 0))) ∧ Below w.heap.size w w':=by
 obtain ⟨D,hD⟩ : ∃ D,cmpP r (plr g i) (plr g j) = D:=⟨_,rfl⟩
 obtain ⟨bb,hbb⟩ : ∃ bb,decide (D < 0) = bb:=⟨_,rfl⟩
 have HCALL : Hid (∀ w',Below w.heap.size w w' → Calls Try.prog 41 #[.int .i64 i,.int .i64 j,.pointer (some ⟨q,0,none⟩)] w' fun e w'' => e = .returned (.int .i64 D) ∧ Below w'.heap.size w' w''):=Lib.hid fun w' hb => by
  rw [← hD]; exact rankCmp_any t pb cap q r g wv nv M i j w' (h.below hb) hi (bAt hb hq) h1 h2
 rw [hD,hbb]
 have HBB:=Lib.hid hbb
 clear h hi hD hbb hq
 go_enter Try.func44,Try.ntmps44
 go_wp2_with fail
 refine wp_region_seq 8 [.is (.func (.func 41) #[] #[.pointer (some ⟨q,0,none⟩)]),.is (.slice (some ⟨b,o,none⟩) rl rc),.is (.pointer (some ⟨b,o,none⟩)),.is (.int .i64 i),.is (.int .i64 j),.is (.int .i64 D),.is (.bool bb),.is (.bool bb)] rfl mix (by kernel_rfl) (by kernel_rfl) ?seqm
 case seqm =>
  simp only [List.take_succ_cons,List.take_zero]
  iterate 5
   refine seq_on (by rfl) (fun w3 hb3 _ => ?_) ?_
   ·have cc:=bAt hb3 hqc
    have cr:=bAt hb3 hqr
    have c0:=bAt hb3 hr0
    simp [opOK,go_sem,cc,cr,c0,hrl,Below.refl]
    try exact rfl
   simp only [Act.put,List.setIfInBounds_toArray,List.set_cons_succ,List.set_cons_zero]
  refine seq_on (by rfl) (fun w3 hb3 hH => ?_) ?_
  ·have cc:=bAt hb3 hqc
   have cr:=bAt hb3 hqr
   have c0:=bAt hb3 hr0
   refine opOK_call (f:=41) (args:=#[.int .i64 i,.int .i64 j,.pointer (some ⟨q,0,none⟩)]) (by simp [go_sem]) ?_
   exact (HCALL.out w3 hb3).mono fun e W' ⟨he,hb⟩ => ⟨_,he,rfl,hb⟩
  simp only [Act.put,List.setIfInBounds_toArray,List.set_cons_succ,List.set_cons_zero]
  iterate 2
   refine seq_on (by rfl) (fun w3 hb3 _ => ?_) ?_
   ·have cc:=bAt hb3 hqc
    have cr:=bAt hb3 hqr
    have c0:=bAt hb3 hr0
    simp [opOK,go_sem,HBB.out,Below.refl]
    try exact rfl
   simp only [Act.put,List.setIfInBounds_toArray,List.set_cons_succ,List.set_cons_zero]
  refine seq_end fun w3 hb3 _ => ?_
  simp only [List.drop_succ_cons,List.drop_zero]
  have HB4:=Lib.hid hb3
  clear hb3
  go_wp2
  go_ret
  exact ⟨rfl,HB4.out⟩
structure TestFn (F : Nat) (caps : Array Value) (wB : World) (D : Int → Prop) (p : Int → Bool) : Prop where
 enters : Enters Try.prog F
 call : ∀ w x,Below wB.heap.size wB w → D x → Calls Try.prog F (#[.int .i64 x] ++ caps) w fun e w' => e = .returned (.bool (p x)) ∧ Below w.heap.size w w'
set_option maxRecDepth 100000 in
set_option maxHeartbeats 4000000 in
theorem idxFn_any {S : Nat → Prop} {F : Nat} {caps : Array Value} {wB : World} {D : Int → Prop} {p : Int → Bool} (hp : TestFn F caps wB D p) (a : Option Addr) (n c : Nat) (xs : List Int) (hn : xs.length = n) (w : World) (hbw : Below wB.heap.size wB w) (hs : Sl S w (.slice a n c) (ints xs)) (hD : ∀ x ∈ xs,D x) :
  Calls Try.prog 43 #[.slice a n c,.func (.func F) #[] caps] w fun e w' => e = .returned (.int .i64 (if xs.findIdx p < n then (xs.findIdx p : Int) else -1)) ∧ Below w.heap.size w w':=by
 have hl:=hs.len
 rw [ints_length,hn] at hl
 unfold maxLen at hl
 obtain ⟨er,her⟩ : ∃ er,(if xs.findIdx p < n then (xs.findIdx p : Int) else -1) = er:=⟨_,rfl⟩
 rw [her]
 have HER:=Lib.hid her
 have HP:=Lib.hid hp
 have HN:=Lib.hid hn
 have HBW:=Lib.hid hbw
 have HS:=Lib.hid hs
 have HD:=Lib.hid hD
 clear hp hn hbw hs hD her
 go_enter Try.func43,Try.ntmps43
 go_wp2_with fail
 go_loopw [5,8] (fun _ iv wr => ∃ k : Nat,k ≤ n ∧ iv = .int .i64 k ∧ Hid (∀ i (h : i < xs.length),i < k → p xs[i] = false) ∧ Hid (Below w.heap.size w wr)) (fun _ iv _ => n - (intOf iv).toNat)
 case atStart => exact ⟨0,by omega,by go_num,Lib.hid (fun i _ h => by omega),Lib.hid (Below.refl _ _)⟩
 case round =>
  obtain ⟨k,hk,rfl,HK,HB⟩ := hrel
  obtain ⟨wo,rfl⟩ : ∃ wo : World,wo = wr:=⟨_,rfl⟩
  by_cases hlt : k < n
  ·have hx1 : k < xs.length:=by rw [HN.out]; exact hlt
   obtain ⟨b1,o1,hal1,_,hc1⟩ := (HS.out.below HB.out).cell hx1
   cases hal1
   obtain ⟨x,hX1⟩ : ∃ x,xs[k] = x:=⟨_,rfl⟩
   rw [hX1] at hc1
   have HX1 : Hid (∃ h : k < xs.length,xs[k] = x):=Lib.hid ⟨hx1,hX1⟩
   have HDX : Hid (D x):=Lib.hid (HD.out x (by rw [← hX1]; exact List.getElem_mem hx1))
   obtain ⟨pb,hpb⟩ : ∃ pb,p x = pb:=⟨_,rfl⟩
   have HPB:=Lib.hid hpb
   have hent:=HP.out.enters
   unfold Enters at hent
   clear hX1 hx1 hpb
   go_wp2_with fail
   clear hent
   refine (HP.out.call wo x (HBW.out.trans (HB.out.mono HBW.out.size)) HDX.out).mono ?_
   rintro e w1 ⟨rfl,hb1⟩
   rw [HPB.out]
   have HB1:=Lib.hid (HB.out.trans (hb1.mono HB.out.size))
   clear hb1 hc1
   cases pb
   ·have HK2 : Hid (∀ i (h : i < xs.length),i < k + 1 → p xs[i] = false):=Lib.hid fun i h hi => by
     by_cases e : i = k
     ·subst e; obtain ⟨_,e2⟩ := HX1.out; rw [e2]; exact HPB.out
     ·exact HK.out i h (by omega)
    go_wp2
    go_roundw
    case rel => exact ⟨k + 1,by omega,by go_num,HK2,HB1⟩
    case measure => simp [intOf]; omega
   ·have HF : Hid (er = k):=Lib.hid (by
     obtain ⟨h1,e2⟩ := HX1.out
     have hf : xs.findIdx p = k:=(List.findIdx_eq h1).2 ⟨by rw [e2]; exact HPB.out,fun j hj => HK.out j (by omega) hj⟩
     rw [← HER.out,hf,if_pos hlt])
    go_wp2
    go_ret
    exact ⟨ret_int HF.out.symm,HB1.out⟩
  ·obtain rfl : k = n:=by omega
   have HF : Hid (er = -1):=Lib.hid (by
    rw [← HER.out,if_neg]
    intro h
    have h1 : xs.findIdx p < xs.length:=by rw [HN.out]; exact h
    have:=List.findIdx_getElem (w:=h1)
    rw [HK.out _ h1 h] at this; cases this)
   go_wp2
   go_ret
   exact ⟨ret_int HF.out.symm,HB.out⟩
theorem contains_any {S : Nat → Prop} (xs : List Int) (n : Int) (v : Value) (w : World) (hs : Sl S w v (ints xs)) :
  Calls Try.prog 40 #[v,.int .i64 n] w fun e w' => e = .returned (.bool (xs.contains n)) ∧ w = w':=by
 obtain ⟨er,her⟩ : ∃ er,xs.contains n = er:=⟨_,rfl⟩
 have hid : decide (0 ≤ idxI xs n) = er:=by
  rw [← her]
  unfold idxI
  cases h : xs.findIdx? (· == n) with
  | none =>
   have hn:=List.findIdx?_eq_none_iff.1 h
   have hc : xs.contains n = false:=by
    cases hc : xs.contains n
    ·rfl
    ·have:=hn n (by simpa using hc); simp at this
   rw [hc]; rfl
  | some i =>
   obtain ⟨hi,hp, -⟩ := List.findIdx?_eq_some_iff_getElem.1 h
   have hc : xs.contains n = true:=by
    have : xs[i] = n:=by simpa using hp
    rw [← this]; simp
   rw [hc]; exact decide_eq_true (by dsimp only; omega)
 rw [her]
 have HS:=Lib.hid hs
 have HE:=Lib.hid hid
 clear hs her hid
 go_enter Try.func40,Try.ntmps40
 go_wp2_with fail
 refine (index_any xs n v w HS.out).mono ?_
 rintro e w1 ⟨rfl,rfl⟩
 obtain ⟨z,hz⟩ : ∃ z,idxI xs n = z:=⟨_,rfl⟩
 have hE:=HE.out
 rw [hz] at hE ⊢
 go_wp2
 go_ret
 exact ⟨by first | rfl | (rw [hE]),rfl⟩
end Go.Proofs.Ytnhggfnnolfcdaa

/- A slice of slices of integers. -/
namespace Go.Oche
open Go Go.RowKit
def SlSl (S : Nat → Prop) (w : World) (v : Value) (gs : List (List Int)) : Prop :=
 ∃ vs,Sl S w v vs ∧ vs.length = gs.length ∧ ∀ i (h : i < gs.length), ∃ u,vs[i]? = some u ∧ Sl S w u (ints gs[i])
section
variable {S S' : Nat → Prop} {w w' : World} {v : Value} {gs : List (List Int)}
theorem SlSl.mono (h : SlSl S w v gs) (hS : ∀ k,S k → S' k) : SlSl S' w v gs:=by
 obtain ⟨vs,h1,h2,h3⟩ := h
 exact ⟨vs,h1.mono hS,h2,fun i hi => let ⟨u,e,hu⟩ := h3 i hi; ⟨u,e,hu.mono hS⟩⟩
theorem SlSl.cells (h : SlSl S w v gs) (hc : ∀ b o,S b → (w.cell? ⟨b,o,none⟩).isSome → w'.cell? ⟨b,o,none⟩ = w.cell? ⟨b,o,none⟩) : SlSl S w' v gs:=by
 obtain ⟨vs,h1,h2,h3⟩ := h
 exact ⟨vs,h1.cells hc,h2,fun i hi => let ⟨u,e,hu⟩ := h3 i hi; ⟨u,e,hu.cells hc⟩⟩
theorem SlSl.below (h : SlSl S w v gs) (hb : Below w.heap.size w w') : SlSl S w' v gs:=by
 obtain ⟨vs,h1,h2,h3⟩ := h
 exact ⟨vs,h1.below hb,h2,fun i hi => let ⟨u,e,hu⟩ := h3 i hi; ⟨u,e,hu.below hb⟩⟩
theorem SlSl.lt (h : SlSl S w v gs) : SlSl (fun k => S k ∧ k < w.heap.size) w v gs:=by
 obtain ⟨vs,h1,h2,h3⟩ := h
 exact ⟨vs,h1.lt,h2,fun i hi => let ⟨u,e,hu⟩ := h3 i hi; ⟨u,e,hu.lt⟩⟩
theorem SlSl.form (h : SlSl S w v gs) : ∃ a cap,v = .slice a gs.length cap ∧ gs.length ≤ cap ∧ cap ≤ maxLen:=by
 obtain ⟨vs,h1,h2,_⟩ := h
 obtain ⟨a,cap,e,l1,l2⟩ := h1.form
 exact ⟨a,cap,by rw [e,h2],by omega,l2⟩
theorem SlSl.cell {a : Option Addr} {n cap : Nat} (h : SlSl S w (.slice a n cap) gs) {i : Nat} (hi : i < gs.length) : ∃ b off u,a = some ⟨b,off,none⟩ ∧ S b ∧ w.cell? ⟨b,off + i,none⟩ = some u ∧ Sl S w u (ints gs[i]):=by
 obtain ⟨vs,h1,h2,h3⟩ := h
 obtain ⟨u,e,hu⟩ := h3 i hi
 obtain ⟨a',cap',e1,_,_,h4⟩ := h1
 cases e1
 obtain ⟨b,off,e2,s,c⟩ := h4 i u e
 exact ⟨b,off,u,e2,s,c,hu⟩
theorem MapAt.ne {κ : Type} {enc : κ → Value} {M base n k : Nat} {L : List (κ × Value)} {e : TypeId} {r : Value} {xs : List Value} (h : MapAt enc w M L) (ho : w.ownsRow base e k r n xs) : some M ≠ r.ownBlock:=by
 obtain ⟨es,c,hM,_⟩ := h
 rcases ho.2 with ⟨rfl,_⟩ | ⟨g,cap,cur,rfl,_,hg,_⟩
 ·simp [Value.ownBlock]
 ·intro e2
  simp only [Value.ownBlock,Option.some.injEq] at e2
  subst e2
  rw [hM] at hg; cases hg
end
end Go.Oche

/- A region that draws its order, with one append of one new element to a row of one's own, among operations that only read. -/
namespace Go.Oche
open Go Go.RowKit
structure JApp (w : World) (v : Value) (il ia : Nat) (sg : List Nat) (L : Nat → Bool) (W : World) : Prop where
 off : L ia = false → Below w.heap.size w W
 on : L ia = true → L il = true ∧ w.grownBy W v.ownBlock
 asg : ∀ i ∈ sg,L i = true → L ia = true
def LitAt (w : World) (u : Value) (v' : Value) (W : World) : Prop := ∃ b,v' = .slice (some ⟨b,0,none⟩) 1 1 ∧ w.heap.size ≤ b ∧ b < W.heap.size ∧ W.cell? ⟨b,0,none⟩ = some u
section
variable {w W : World} {v : Value} {il ia : Nat} {sg : List Nat} {L : Nat → Bool}
theorem JApp.start : JApp w v il ia sg (fun _ => false) w.drew:=⟨fun _ => ⟨rfl,rfl,rfl,Nat.le_refl _,fun _ _ => rfl⟩,fun h => (by cases h),fun _ _ h => (by cases h)⟩
theorem JApp.size (h : JApp w v il ia sg L W) : w.heap.size ≤ W.heap.size:=by
 cases hL : L ia with
 | false => exact (h.off hL).size
 | true => exact (h.on hL).2.size
theorem JApp.cell (h : JApp w v il ia sg L W) {b o : Nat} {x : Value} (hv : w.cell? ⟨b,o,none⟩ = some x) (hb : some b ≠ v.ownBlock) : W.cell? ⟨b,o,none⟩ = some x:=by
 have hlt:=World.block_lt_of_cell? w _ hv
 cases hL : L ia with
 | false => exact bAt (h.off hL) hv
 | true => exact (World.cell?_of_block (w:=w) ((h.on hL).2.block b hlt hb)).trans hv
theorem JApp.read (h : JApp w v il ia sg L W) {i : Nat} (h1 : ia ≠ i) (h2 : i ∉ sg) : JApp w v il ia sg (setB L i) W:=by
 refine ⟨?_, ?_,fun j hj hs => ?_⟩
 ·rw [setB_ne h1]; exact h.off
 ·rw [setB_ne h1]; exact fun hL => ⟨by unfold setB; split; rfl; exact (h.on hL).1,(h.on hL).2⟩
 ·rw [setB_ne h1]; rw [setB_ne (show j ≠ i from fun e => h2 (by rw [← e]; exact hj))] at hs; exact h.asg j hj hs
theorem JApp.readAs (h : JApp w v il ia sg L W) {i : Nat} (h1 : ia ≠ i) (hL : L ia = true) : JApp w v il ia sg (setB L i) W:=by
 refine ⟨?_, ?_,fun j _ _ => ?_⟩
 ·rw [setB_ne h1]; exact h.off
 ·rw [setB_ne h1]; exact fun hL => ⟨by unfold setB; split; rfl; exact (h.on hL).1,(h.on hL).2⟩
 ·rw [setB_ne h1]; exact hL
theorem JApp.not_app (h : JApp w v il ia sg L W) (hL : L il = false) : L ia = false:=by
 cases hA : L ia with
 | false => rfl
 | true => rw [(h.on hA).1] at hL; cases hL
theorem JApp.lit (h : JApp w v il ia sg L W) (hL : L il = false) (hne : ia ≠ il) (hn : il ∉ sg) (ob : Obj) : JApp w v il ia sg (setB L il) (W.alloc ob):=by
 have hA:=h.not_app hL
 refine ⟨fun _ => (h.off hA).trans ((aB _ _).mono (h.off hA).size),fun h' => ?_,fun j hj hs => ?_⟩
 ·rw [setB_ne hne,hA] at h'; cases h'
 ·rw [setB_ne (show j ≠ il from fun e => hn (by rw [← e]; exact hj))] at hs; rw [setB_ne hne]; exact h.asg j hj hs
theorem JApp.app (h : JApp w v il ia sg L W) (hL : L il = true) (hA : L ia = false) {Wn : World} (hg : W.grownBy Wn v.ownBlock) (hne : il ≠ ia) : JApp w v il ia sg (setB L ia) Wn:=by
 refine ⟨fun h' => ?_,fun _ => ⟨by rw [setB_ne hne]; exact hL,grownBy_trans (grownBy_below _ (h.off hA)) hg⟩,fun _ _ _ => setB_eq⟩
 rw [setB_eq] at h'; cases h'
theorem LitAt.alloc {u v' : Value} (h : LitAt w u v' W) (ob : Obj) : LitAt w u v' (W.alloc ob):=by
 obtain ⟨b,e,h1,h2,h3⟩ := h
 exact ⟨b,e,h1,by simp; omega,bAt (aB _ _) h3⟩
theorem LitAt.grown {u v' : Value} {Wn : World} (h : LitAt w u v' W) (hg : W.grownBy Wn v.ownBlock) (hv : ∀ g,v.ownBlock = some g → g < w.heap.size) : LitAt w u v' Wn:=by
 obtain ⟨b,e,h1,h2,h3⟩ := h
 refine ⟨b,e,h1,Nat.lt_of_lt_of_le h2 hg.size, ?_⟩
 exact (World.cell?_of_block (w:=W) (hg.block b h2 (fun e => by have:=hv b e.symm; omega))).trans h3
end
end Go.Oche
