/- The texts JA, JB, in build order. -/
import Derived.Test.YtnhggfnnolfcdaaGreatZau

/- Chapter 4: the laws' helpers: equal, copied, own, groups, the examples' rules. -/
namespace Go.Proofs.YtnhggfnnolfcdaaGreat
open Go.RowKit Go.Oche Go.Proofs
set_option maxRecDepth 100000 in
set_option maxHeartbeats 1000000 in
theorem beds_any {S S' : Nat → Prop} (xs ys : List Int) (va vb : Value) (w : World) (hs : Sl S w va (ints xs)) (hs' : Sl S' w vb (ints ys)) :
  Calls Tryz.prog 11 #[va,vb] w fun e w' => e = .returned (.bool (decide (xs = ys))) ∧ Below w.heap.size w w':=by
 obtain ⟨a,ca,rfl,_,h3⟩ := hs.form
 obtain ⟨b,cb,rfl,_,h3'⟩ := hs'.form
 simp only [ints_length] at *
 unfold maxLen at h3 h3'
 have HS:=Lib.hid hs
 have HS':=Lib.hid hs'
 clear hs hs'
 by_cases hl : xs.length = ys.length
 ·have f0 : ((xs.length : Int) != (ys.length : Int)) = false:=by simp [hl]
  have f1 : (xs.length != ys.length) = false:=by simp [hl]
  have HL:=Lib.hid hl
  have hle : xs.length ≤ ys.length:=by omega
  clear hl
  go_enter Tryz.func11,Tryz.ntmps11
  go_wp2
  clear f0 f1
  go_loopw [5] (fun i wr => ∃ k : Nat,k ≤ xs.length ∧ i = .int .i64 k ∧ (∀ j,j < k → ∀ h1 : j < xs.length, ∀ h2 : j < ys.length,xs[j] = ys[j]) ∧ Below w.heap.size w wr) (fun i _ => xs.length - (intOf i).toNat)
  case atStart => exact ⟨0,Nat.zero_le _,rfl,fun j hj => by omega,Below.refl _ _⟩
  case round =>
   obtain ⟨k,hk,rfl,hp,hb⟩ := hrel
   have HP:=Lib.hid hp
   clear hp
   by_cases hlt : k < xs.length
   ·have hlt' : k < ys.length:=by omega
    obtain ⟨b1,o1,rfl,_,c1⟩ := HS.out.cell hlt
    obtain ⟨b2,o2,rfl,_,c2⟩ := HS'.out.cell hlt'
    obtain ⟨x,hx⟩ : ∃ x,xs[k] = x:=⟨_,rfl⟩
    obtain ⟨y,hy⟩ : ∃ y,ys[k] = y:=⟨_,rfl⟩
    rw [hx] at c1
    rw [hy] at c2
    replace c1:=bAt hb c1
    replace c2:=bAt hb c2
    have HX:=Lib.hid hx
    have HY:=Lib.hid hy
    clear hx hy
    by_cases hxy : x = y
    ·have g0 : (x != y) = false:=by simp [hxy]
     have HXY:=Lib.hid hxy
     clear hxy
     go_wp2_with fail
     go_quiet (fail)
     go_wp2
     go_roundw
     case rel => exact ⟨k + 1,by omega,by go_num,fun j hj h1 h2 => by
      by_cases e : j = k
      ·subst e; rw [HX.out,HY.out,HXY.out]
      ·exact HP.out j (by omega) h1 h2,⟨hb.os,hb.tape,hb.output,hb.size,hb.block⟩⟩
     case measure => simp [intOf]; omega
    ·have g0 : (x != y) = true:=by simp [hxy]
     have HXY:=Lib.hid hxy
     clear hxy
     go_wp2_with fail
     go_quiet (fail)
     go_wp2
     go_ret
     refine ⟨ret_bool ?_,⟨hb.os,hb.tape,hb.output,hb.size,hb.block⟩⟩
     rw [decide_eq_false (list_diff hlt hlt' (by rw [HX.out,HY.out]; exact HXY.out))]
   ·obtain rfl : k = xs.length:=by omega
    go_wp2
    go_ret
    refine ⟨ret_bool ?_,hb⟩
    rw [decide_eq_true (list_same HL.out fun j h1 h2 => HP.out j h1 h1 h2)]
 ·have f0 : ((xs.length : Int) != (ys.length : Int)) = true:=by simp; omega
  have f1 : (xs.length != ys.length) = true:=by simp [hl]
  have hne : xs ≠ ys:=fun e => hl (by rw [e])
  have HNE:=Lib.hid hne
  clear hl hne
  go_enter Tryz.func11,Tryz.ntmps11
  go_wp2
  go_ret
  exact ⟨ret_bool (by rw [decide_eq_false HNE.out]),Below.refl _ _⟩
theorem ints_one (xs : List Int) : ∀ r ∈ (ints xs).map fun x => [x], ∀ u ∈ r,u.oneCell' = true:=by
 intro r hr u hu
 obtain ⟨x,hx,rfl⟩ := List.mem_map.1 hr
 simp only [List.mem_singleton] at hu
 subst hu
 obtain ⟨z,_,rfl⟩ := List.mem_map.1 hx
 rfl
set_option maxRecDepth 100000 in
set_option maxHeartbeats 1000000 in
theorem copied_any {S : Nat → Prop} (xs : List Int) (v : Value) (w : World) (hs : Sl S w v (ints xs)) (hl : xs.length ≤ 100000) :
  Calls Tryz.prog 7 #[v] w fun e w' => ∃ a c,e = .returned (.slice a xs.length c) ∧ Below w.heap.size w w' ∧ Sl (fun k => w.heap.size ≤ k) w' (.slice a xs.length c) (ints xs):=by
 have HS:=Lib.hid hs
 clear hs
 go_enter Tryz.func7,Tryz.ntmps7
 go_wp2_with (at_builtin; refine wpList_copy rfl (.tmp 3) (.tmp 4) 30 rfl 45 (.int .i64 0) 1 8 Tryz.underlying30 info_bed rfl (by decide) rfl _ _ rfl HS.out.toN (ints_one xs) (by simp; omega) (by decide) ?_)
 intro v1 w1 hb1 hs1
 have h1:=hs1.to1
 obtain ⟨a,c,rfl,_,_⟩ := h1.form
 rw [ints_length] at h1
 have HB:=Lib.hid hb1
 have H1:=Lib.hid h1
 clear hb1 hs1 h1
 rw [ints_length]
 go_wp2
 go_ret
 exact ⟨_,_,rfl,HB.out,H1.out⟩
set_option maxRecDepth 100000 in
set_option maxHeartbeats 4000000 in
theorem own_any {S : Nat → Prop} (r : Rul) (va : Option Addr) (nl vc : Nat) (w : World) (hs : Sl S w (.slice va nl vc) (ints r.nums)) (hl : nl ≤ 100000) :
  Calls Tryz.prog 6 #[.agg #[.int .i64 r.kind,.int .i64 r.players,.int .i64 r.last,.bool r.bull,.bool r.jump,.int .i64 r.rounds,.bool r.cut,.slice va nl vc,.int .i64 r.lives,.bool r.own]] w fun e w' => ∃ vb vd,e = .returned (.agg #[.int .i64 r.kind,.int .i64 r.players,.int .i64 r.last,.bool r.bull,.bool r.jump,.int .i64 r.rounds,.bool r.cut,.slice vb nl vd,.int .i64 r.lives,.bool r.own]) ∧ Below w.heap.size w w' ∧ Sl (fun k => w.heap.size ≤ k) w' (.slice vb nl vd) (ints r.nums):=by
 have hnl : r.nums.length = nl:=by obtain ⟨_,_,e,_⟩ := hs.form; rw [ints_length] at e; cases e; rfl
 obtain ⟨w1,hw1⟩ : ∃ w1,(w.alloc (.cells #[.int .i64 r.kind,.int .i64 r.players,.int .i64 r.last,.bool r.bull,.bool r.jump,.int .i64 r.rounds,.bool r.cut,.slice va nl vc,.int .i64 r.lives,.bool r.own] 29)).alloc (.cells #[.int .i64 0,.int .i64 0,.int .i64 0,.bool false,.bool false,.int .i64 0,.bool false,.slice none 0 0,.int .i64 0,.bool false] 29) = w1:=⟨_,rfl⟩
 have hb1 : Below w.heap.size w w1:=by rw [← hw1]; exact (aB _ _).alloc (by simp) _
 have k0 : w1.heap[w.heap.size]? = some (.cells #[.int .i64 r.kind,.int .i64 r.players,.int .i64 r.last,.bool r.bull,.bool r.jump,.int .i64 r.rounds,.bool r.cut,.slice va nl vc,.int .i64 r.lives,.bool r.own] 29 (0,0)):=by rw [← hw1]; exact heap_old (World.alloc_heap_new _ _)
 have k1 : w1.heap[w.heap.size + 1]? = some (.cells #[.int .i64 0,.int .i64 0,.int .i64 0,.bool false,.bool false,.int .i64 0,.bool false,.slice none 0 0,.int .i64 0,.bool false] 29 (0,0)):=by rw [← hw1]; have:=World.alloc_heap_new (w.alloc (.cells #[.int .i64 r.kind,.int .i64 r.players,.int .i64 r.last,.bool r.bull,.bool r.jump,.int .i64 r.rounds,.bool r.cut,.slice va nl vc,.int .i64 r.lives,.bool r.own] 29)) (.cells #[.int .i64 0,.int .i64 0,.int .i64 0,.bool false,.bool false,.int .i64 0,.bool false,.slice none 0 0,.int .i64 0,.bool false] 29); simpa using this
 have hz : w1.heap.size = w.heap.size + 2:=by rw [← hw1]; simp
 obtain ⟨q,hq⟩ : ∃ q,w.heap.size = q:=⟨_,rfl⟩
 rw [hq] at k0 k1 hz
 have c7 : (w1.alloc (.cells #[] 3)).cell? ⟨q,7,none⟩ = some (.slice va nl vc):=bAt (aB _ _) (by rw [cell_of_heap k0]; rfl)
 have HS:=Lib.hid (hs.below hb1)
 have HB1:=Lib.hid hb1
 have K0:=Lib.hid k0
 have K1:=Lib.hid k1
 have HZ:=Lib.hid hz
 have HQ:=Lib.hid hq
 have HW1:=Lib.hid hw1
 have HNL:=Lib.hid hnl
 clear hs hb1 k0 k1 hz hw1 hnl
 go_enter Tryz.func6,Tryz.ntmps6
 go_wp2_with (at_builtin; refine wpList_copy rfl (.tmp 3) (.tmp 5) 27 rfl 3 (.int .i64 0) 1 8 Tryz.underlying27 info3 rfl (by decide) (by simp [Act.eval,hq]) _ _ rfl (by rw [HW1.out]; exact HS.out.toN) (ints_one r.nums) (by simp; have:=HNL.out; omega) (by decide) ?_)
 intro v1 w2 hb2 hs2
 have h2:=hs2.to1
 obtain ⟨vb,vd,rfl,_,_⟩ := h2.form
 rw [ints_length] at h2
 have hnl:=HNL.out
 rw [hnl] at h2
 rw [ints_length,hnl]
 rw [HW1.out] at hb2
 have k0:=(hb2.block q (by omega)).trans K0.out
 have k1:=(hb2.block (q + 1) (by omega)).trans K1.out
 have c7' : w2.cell? ⟨q,7,none⟩ = some (.slice va nl vc):=by rw [cell_of_heap k0]; rfl
 have f7:=frozen_of_heap (o:=7) k0
 obtain ⟨w3,hw3⟩ : ∃ w3,w2.setCell ⟨q,7,none⟩ (.slice vb nl vd) = w3:=⟨_,rfl⟩
 have k3 : w3.heap[q]? = some (.cells #[.int .i64 r.kind,.int .i64 r.players,.int .i64 r.last,.bool r.bull,.bool r.jump,.int .i64 r.rounds,.bool r.cut,.slice vb nl vd,.int .i64 r.lives,.bool r.own] 29 (0,0)):=by rw [← hw3,heap_setCell_at k0]; rfl
 have k31 : w3.heap[q + 1]? = some (.cells #[.int .i64 0,.int .i64 0,.int .i64 0,.bool false,.bool false,.int .i64 0,.bool false,.slice none 0 0,.int .i64 0,.bool false] 29 (0,0)):=by rw [← hw3]; exact (Below.heap_setCell _ _ _ _ (by show q + 1 ≠ q; omega)).trans k1
 obtain ⟨w4,hw4⟩ : ∃ w4,w3.setRow (q + 1) #[.int .i64 r.kind,.int .i64 r.players,.int .i64 r.last,.bool r.bull,.bool r.jump,.int .i64 r.rounds,.bool r.cut,.slice vb nl vd,.int .i64 r.lives,.bool r.own] = w4:=⟨_,rfl⟩
 have k4 : w4.heap[q + 1]? = some (.cells #[.int .i64 r.kind,.int .i64 r.players,.int .i64 r.last,.bool r.bull,.bool r.jump,.int .i64 r.rounds,.bool r.cut,.slice vb nl vd,.int .i64 r.lives,.bool r.own] 29 (0,0)):=by rw [← hw4]; exact setRow_heap _ _ _ _ _ _ k31
 have hb4 : Below q w w4:=by
  rw [← hw4,← hw3]
  have h1 : Below q w w2:=by have:=HB1.out; rw [hq] at this; exact this.trans (hb2.mono (by omega))
  exact below_setRow (h1.setCell (by show q ≤ q; omega) _) (by omega) _
 have HB4 : Hid (Below w.heap.size w w4):=Lib.hid (by rw [hq]; exact hb4)
 have H4 : Hid (Sl (fun k => w.heap.size ≤ k) w4 (.slice vb nl vd) (ints r.nums)):=Lib.hid (by
  rw [hq]
  refine (h2.keepB (w':=w4) fun k hk _ => ?_).mono fun k hk => by omega
  rw [← hw4,setRow_other _ _ _ _ (by omega),← hw3]
  exact Below.heap_setCell _ _ _ _ (by show k ≠ q; omega))
 have hh : ∀ j,w4.cell? ⟨q + 1,j,none⟩ = _:=fun j => cell_of_heap (o:=j) k4
 have r0:=hh 0
 have r1:=hh 1
 have r2:=hh 2
 have r3:=hh 3
 have r4:=hh 4
 have r5:=hh 5
 have r6:=hh 6
 have r7:=hh 7
 have r8:=hh 8
 have r9:=hh 9
 simp only [List.getElem?_toArray,List.getElem?_cons_zero,List.getElem?_cons_succ] at r0 r1 r2 r3 r4 r5 r6 r7 r8 r9
 have HW3:=Lib.hid hw3
 have HW4:=Lib.hid hw4
 have K3:=Lib.hid k3
 have K31:=Lib.hid k31
 clear hs2 h2 hb2 k0 k1 hw3 k3 k31 hw4 k4 hb4 hh hnl c7
 go_wp2_with (first | (rw [HW3.out]; refine wpList_opOK (o:=⟨some 8,Op.load 29 (.tmp 1),_,_,_,_⟩) (R:=fun v w' => v = .agg #[.int .i64 r.kind,.int .i64 r.players,.int .i64 r.last,.bool r.bull,.bool r.jump,.int .i64 r.rounds,.bool r.cut,.slice vb nl vd,.int .i64 r.lives,.bool r.own] ∧ w3 = w') rfl (opOK_load_row 29 (.tmp 1) rfl q #[.int .i64 r.kind,.int .i64 r.players,.int .i64 r.last,.bool r.bull,.bool r.jump,.int .i64 r.rounds,.bool r.cut,.slice vb nl vd,.int .i64 r.lives,.bool r.own] rfl 29 (0,0) K3.out _ Tryz.underlying29 rfl (by kernel_rfl) ⟨rfl,rfl⟩) ?_; rintro _ _ ⟨rfl,rfl⟩) | (refine wpList_opOK (o:=⟨none,Op.store 29 (.tmp 2) (.tmp 8),_,_,_,_⟩) (R:=fun _ w' => w4 = w') rfl (opOK_store_row 29 (.tmp 2) (.tmp 8) rfl (q + 1) #[.int .i64 r.kind,.int .i64 r.players,.int .i64 r.last,.bool r.bull,.bool r.jump,.int .i64 r.rounds,.bool r.cut,.slice vb nl vd,.int .i64 r.lives,.bool r.own] rfl rfl _ _ K31.out (by kernel_rfl) rfl (by simp [Value.oneCell']) HW4.out.symm) ?_; rintro _ _ rfl))
 try simp only [Exit.inBlock,Exit.then]
 refine bodyPost_ret (by simp [results,Tryz.results6,go_sem,r0,r1,r2,r3,r4,r5,r6,r7,r8,r9]; try rfl) rfl ?_
 exact ⟨vb,vd,rfl,HB4.out,H4.out⟩
set_option maxRecDepth 100000 in
set_option maxHeartbeats 4000000 in
theorem groups_any {S S' : Nat → Prop} (v1 v2 : Value) (l1 l2 : List (List Int)) (w : World) (h1 : SlSl S w v1 l1) (h2 : SlSl S' w v2 l2) :
  Calls Tryz.prog 28 #[v1,v2] w fun e w' => e = .returned (.bool (decide (l1 = l2))) ∧ Below w.heap.size w w':=by
 obtain ⟨a1,c1,rfl,p1,q1⟩ := h1.form
 obtain ⟨a2,c2,rfl,p2,q2⟩ := h2.form
 unfold maxLen at q1 q2
 obtain ⟨eb,heb⟩ : ∃ eb,decide (l1 = l2) = eb:=⟨_,rfl⟩
 rw [heb]
 obtain ⟨n,hn1⟩ : ∃ n,l1.length = n:=⟨_,rfl⟩
 obtain ⟨m,hn2⟩ : ∃ m,l2.length = m:=⟨_,rfl⟩
 rw [hn1] at h1 p1 ⊢
 rw [hn2] at h2 p2 ⊢
 have hnm : n ≤ 9223372036854775807 ∧ m ≤ 9223372036854775807:=by omega
 obtain ⟨lb,hlb⟩ : ∃ lb,((n : Int) != (m : Int)) = lb:=⟨_,rfl⟩
 have hlb2 : (n != m) = lb:=by rw [← hlb,Bool.eq_iff_iff]; simp; omega
 have HEB:=Lib.hid heb
 have H1:=Lib.hid h1
 have H2:=Lib.hid h2
 have HN1:=Lib.hid hn1
 have HN2:=Lib.hid hn2
 have HLB:=Lib.hid hlb
 clear heb h1 h2 hn1 hn2 q1 q2 p1 p2
 cases lb
 ·have hm : m = n:=by have:=HLB.out; simp at this; omega
  subst hm
  clear hlb hlb2
  go_enter Tryz.func28,Tryz.ntmps28
  go_wp2_with fail
  go_loopw [5] (fun iv wr => ∃ k : Nat,k ≤ m ∧ iv = .int .i64 k ∧ Hid (l1.take k = l2.take k) ∧ Hid (Below w.heap.size w wr)) (fun iv _ => m - (intOf iv).toNat)
  case atStart => exact ⟨0,by omega,by go_num,Lib.hid (by simp),Lib.hid (Below.refl _ _)⟩
  case round =>
   obtain ⟨k,hk,rfl,HK,HB⟩ := hrel
   obtain ⟨wo,rfl⟩ : ∃ wo : World,wo = wr:=⟨_,rfl⟩
   by_cases hlt : k < m
   ·have hx1 : k < l1.length:=by rw [HN1.out]; exact hlt
    have hx2 : k < l2.length:=by rw [HN2.out]; exact hlt
    obtain ⟨b1,o1,u1,hal1,_,hc1,hs1⟩ := (H1.out.below HB.out).cell hx1
    obtain ⟨b2,o2,u2,hal2,_,hc2,hs2⟩ := (H2.out.below HB.out).cell hx2
    cases hal1
    cases hal2
    obtain ⟨x,hX1⟩ : ∃ x,l1[k] = x:=⟨_,rfl⟩
    obtain ⟨y,hY1⟩ : ∃ y,l2[k] = y:=⟨_,rfl⟩
    rw [hX1] at hs1
    rw [hY1] at hs2
    obtain ⟨b,hb⟩ : ∃ b,decide (x = y) = b:=⟨_,rfl⟩
    have HBB:=Lib.hid hb
    have HCALL : Hid (∀ w3,Below wo.heap.size wo w3 → Calls Tryz.prog 27 #[u1,u2] w3 fun e w' => e = .returned (.bool b) ∧ Below w3.heap.size w3 w'):=Lib.hid fun w3 hb3 => by
     rw [← hb]; exact ints_any x y u1 u2 w3 (hs1.below hb3) (hs2.below hb3)
    have HX1 : Hid (∃ h : k < l1.length,l1[k] = x):=Lib.hid ⟨hx1,hX1⟩
    have HY1 : Hid (∃ h : k < l2.length,l2[k] = y):=Lib.hid ⟨hx2,hY1⟩
    obtain ⟨nb,hnb⟩ : ∃ nb,(!b) = nb:=⟨_,rfl⟩
    have HNB:=Lib.hid hnb
    clear hb hX1 hY1 hx1 hx2 hs1 hs2 hnb
    go_wp2_with fail
    refine wp_region_seq 10 [.is (.slice (some ⟨b1,o1,none⟩) m c1),.is (.int .i64 k),.is (.pointer (some ⟨b1,o1 + k,none⟩)),.is (u1),.is (.slice (some ⟨b2,o2,none⟩) m c2),.is (.int .i64 k),.is (.pointer (some ⟨b2,o2 + k,none⟩)),.is (u2),.is (.bool b),.is (.bool nb)] rfl mix (by kernel_rfl) (by kernel_rfl) ?seqm
    case seqm =>
     simp only [List.take_succ_cons,List.take_zero]
     refine seq_on (by rfl) (fun w3 hb3 _ => ?_) ?_
     ·have ha:=bAt hb3 hc1
      have hc:=bAt hb3 hc2
      simp [opOK,go_sem,Below.refl]
      try exact rfl
     simp only [Act.put,List.setIfInBounds_toArray,List.set_cons_succ,List.set_cons_zero]
     refine seq_on (by rfl) (fun w3 hb3 _ => ?_) ?_
     ·have ha:=bAt hb3 hc1
      have hc:=bAt hb3 hc2
      simp [opOK,go_sem,Below.refl]
      try exact rfl
     simp only [Act.put,List.setIfInBounds_toArray,List.set_cons_succ,List.set_cons_zero]
     refine seq_on (by rfl) (fun w3 hb3 _ => ?_) ?_
     ·have ha:=bAt hb3 hc1
      have hc:=bAt hb3 hc2
      simp [opOK,go_sem,hlt,Below.refl]
      try exact rfl
     simp only [Act.put,List.setIfInBounds_toArray,List.set_cons_succ,List.set_cons_zero]
     refine seq_on (by rfl) (fun w3 hb3 _ => ?_) ?_
     ·have ha:=bAt hb3 hc1
      have hc:=bAt hb3 hc2
      simp [opOK,go_sem,ha,Below.refl]
      try exact rfl
     simp only [Act.put,List.setIfInBounds_toArray,List.set_cons_succ,List.set_cons_zero]
     refine seq_on (by rfl) (fun w3 hb3 _ => ?_) ?_
     ·have ha:=bAt hb3 hc1
      have hc:=bAt hb3 hc2
      simp [opOK,go_sem,Below.refl]
      try exact rfl
     simp only [Act.put,List.setIfInBounds_toArray,List.set_cons_succ,List.set_cons_zero]
     refine seq_on (by rfl) (fun w3 hb3 _ => ?_) ?_
     ·have ha:=bAt hb3 hc1
      have hc:=bAt hb3 hc2
      simp [opOK,go_sem,Below.refl]
      try exact rfl
     simp only [Act.put,List.setIfInBounds_toArray,List.set_cons_succ,List.set_cons_zero]
     refine seq_on (by rfl) (fun w3 hb3 _ => ?_) ?_
     ·have ha:=bAt hb3 hc1
      have hc:=bAt hb3 hc2
      simp [opOK,go_sem,hlt,Below.refl]
      try exact rfl
     simp only [Act.put,List.setIfInBounds_toArray,List.set_cons_succ,List.set_cons_zero]
     refine seq_on (by rfl) (fun w3 hb3 _ => ?_) ?_
     ·have ha:=bAt hb3 hc1
      have hc:=bAt hb3 hc2
      simp [opOK,go_sem,hc,Below.refl]
      try exact rfl
     simp only [Act.put,List.setIfInBounds_toArray,List.set_cons_succ,List.set_cons_zero]
     refine seq_on (by rfl) (fun w3 hb3 hH => ?_) ?_
     ·have ha:=bAt hb3 hc1
      have hc:=bAt hb3 hc2
      refine opOK_call (f:=27) (args:=#[u1,u2]) (by simp [go_sem]) ?_
      exact (HCALL.out w3 hb3).mono fun e W' ⟨he,hb⟩ => ⟨_,he,rfl,hb⟩
     simp only [Act.put,List.setIfInBounds_toArray,List.set_cons_succ,List.set_cons_zero]
     refine seq_on (by rfl) (fun w3 hb3 _ => ?_) ?_
     ·have ha:=bAt hb3 hc1
      have hc:=bAt hb3 hc2
      simp [opOK,go_sem,HNB.out,Below.refl]
      try exact rfl
     simp only [Act.put,List.setIfInBounds_toArray,List.set_cons_succ,List.set_cons_zero]
     refine seq_end fun w3 hb3 _ => ?_
     simp only [List.drop_succ_cons,List.drop_zero]
     have HB4:=Lib.hid (HB.out.trans (hb3.mono HB.out.size))
     clear hb3 hc1 hc2
     cases b
     ·obtain rfl : nb = true:=by have:=HNB.out; exact this.symm
      have hf : eb = false:=by
       obtain ⟨q1,e1⟩ := HX1.out
       obtain ⟨q2,e2⟩ := HY1.out
       have : ¬ x = y:=by have:=HBB.out; simpa using this
       rw [← HEB.out,decide_eq_false]
       intro e
       subst e
       exact this (by rw [← e1,← e2])
      have HF:=Lib.hid hf
      clear hf
      go_wp2
      go_ret
      exact ⟨ret_bool HF.out.symm,HB4.out⟩
     ·obtain rfl : nb = false:=by have:=HNB.out; exact this.symm
      have HK2 : Hid (l1.take (k + 1) = l2.take (k + 1)):=Lib.hid (by
       obtain ⟨q1,e1⟩ := HX1.out
       obtain ⟨q2,e2⟩ := HY1.out
       have : x = y:=by have:=HBB.out; simpa using this
       exact take_eq_succ HK.out q1 q2 (by rw [e1,e2,this]))
      go_wp2
      go_roundw
      case rel => exact ⟨k + 1,by omega,by go_num,HK2,HB4⟩
      case measure => simp [intOf]; omega
   ·obtain rfl : k = m:=by omega
    have HF : Hid (eb = true):=Lib.hid (by
     rw [← HEB.out,decide_eq_true_eq]
     have:=HK.out
     rwa [List.take_of_length_le (by rw [HN1.out]; exact Nat.le_refl _),List.take_of_length_le (by rw [HN2.out]; exact Nat.le_refl _)] at this)
    go_wp2
    go_ret
    exact ⟨ret_bool HF.out.symm,HB.out⟩
 ·have hf : eb = false:=by
   rw [← HEB.out,decide_eq_false]
   intro e
   have:=HLB.out
   subst e
   have h1:=HN1.out
   have h2:=HN2.out
   simp at this; omega
  have HF:=Lib.hid hf
  clear hf
  go_enter Tryz.func28,Tryz.ntmps28
  go_wp2
  go_ret
  exact ⟨ret_bool HF.out.symm,Below.refl _ _⟩
def cricR (c : Bool) : Rul:=⟨2,2,0,false,false,20,c,[],0,false⟩
def killR0 : Rul:=⟨4,2,0,false,false,0,false,[5,9],2,true⟩
set_option maxRecDepth 100000 in
set_option maxHeartbeats 4000000 in
theorem cricket0_any (c : Bool) (w : World) : Calls Tryz.prog 23 #[.bool c] w fun e w' => e = .returned (.agg #[.int .i64 2,.int .i64 2,.int .i64 0,.bool false,.bool false,.int .i64 20,.bool c,.slice none 0 0,.int .i64 0,.bool false]) ∧ Below w.heap.size w w':=by
 have hh : ∀ j,(w.alloc (.cells #[.int .i64 2,.int .i64 2,.int .i64 0,.bool false,.bool false,.int .i64 20,.bool c,.slice none 0 0,.int .i64 0,.bool false] 29)).cell? ⟨w.heap.size,j,none⟩ = _:=fun j => cell_of_heap (o:=j) (World.alloc_heap_new _ _)
 have r0:=hh 0
 have r1:=hh 1
 have r2:=hh 2
 have r3:=hh 3
 have r4:=hh 4
 have r5:=hh 5
 have r6:=hh 6
 have r7:=hh 7
 have r8:=hh 8
 have r9:=hh 9
 simp only [List.getElem?_toArray,List.getElem?_cons_zero,List.getElem?_cons_succ] at r0 r1 r2 r3 r4 r5 r6 r7 r8 r9
 clear hh
 go_enter Tryz.func23,Tryz.ntmps23
 go_wp2
 try simp only [Exit.inBlock,Exit.then]
 refine bodyPost_ret (by simp [results,Tryz.results23,go_sem,r0,r1,r2,r3,r4,r5,r6,r7,r8,r9]; try rfl) rfl ?_
 exact ⟨rfl,aB _ _⟩
set_option maxRecDepth 100000 in
set_option maxHeartbeats 4000000 in
theorem killers0_any (w : World) : Calls Tryz.prog 24 #[] w fun e w' => ∃ a c,e = .returned (.agg #[.int .i64 4,.int .i64 2,.int .i64 0,.bool false,.bool false,.int .i64 0,.bool false,.slice a 2 c,.int .i64 2,.bool true]) ∧ Below w.heap.size w w' ∧ Sl (fun k => w.heap.size ≤ k) w' (.slice a 2 c) (ints [5,9]):=by
 obtain ⟨w1,hw1⟩ : ∃ w1,w.alloc (.cells #[.int .i64 0,.int .i64 0,.int .i64 0,.bool false,.bool false,.int .i64 0,.bool false,.slice none 0 0,.int .i64 0,.bool false] 29) = w1:=⟨_,rfl⟩
 obtain ⟨w2,hw2⟩ : ∃ w2,w1.alloc (.cells #[.int .i64 5,.int .i64 9] 3) = w2:=⟨_,rfl⟩
 have hs1 : w1.heap.size = w.heap.size + 1:=by rw [← hw1]; simp
 have k1 : w1.heap[w.heap.size]? = some (.cells #[.int .i64 0,.int .i64 0,.int .i64 0,.bool false,.bool false,.int .i64 0,.bool false,.slice none 0 0,.int .i64 0,.bool false] 29 (0,0)):=by rw [← hw1]; exact World.alloc_heap_new _ _
 have k2 : w2.heap[w.heap.size]? = some (.cells #[.int .i64 0,.int .i64 0,.int .i64 0,.bool false,.bool false,.int .i64 0,.bool false,.slice none 0 0,.int .i64 0,.bool false] 29 (0,0)):=by rw [← hw2]; exact heap_old k1
 have hsl : Sl (fun k => w.heap.size + 1 ≤ k) w2 (.slice (some ⟨w.heap.size + 1,0,none⟩) 2 2) (ints [5,9]):=by
  rw [← hw2,← hs1]; exact Sl.new _ w1 (Nat.le_refl _) 3 (ints [5,9]) (by decide)
 obtain ⟨w3,hw3⟩ : ∃ w3,w2.setRow w.heap.size #[.int .i64 4,.int .i64 2,.int .i64 0,.bool false,.bool false,.int .i64 0,.bool false,.slice (some ⟨w.heap.size + 1,0,none⟩) 2 2,.int .i64 2,.bool true] = w3:=⟨_,rfl⟩
 have k3 : w3.heap[w.heap.size]? = some (.cells #[.int .i64 4,.int .i64 2,.int .i64 0,.bool false,.bool false,.int .i64 0,.bool false,.slice (some ⟨w.heap.size + 1,0,none⟩) 2 2,.int .i64 2,.bool true] 29 (0,0)):=by rw [← hw3]; exact setRow_heap _ _ _ _ _ _ k2
 have hb3 : Below w.heap.size w w3:=by
  rw [← hw3,← hw2,← hw1]
  exact below_setRow ((aB _ _).alloc (by simp) _) (Nat.le_refl _) _
 have HS3 : Hid (Sl (fun k => w.heap.size ≤ k) w3 (.slice (some ⟨w.heap.size + 1,0,none⟩) 2 2) (ints [5,9])):=Lib.hid (by
  refine (hsl.keepB (w':=w3) fun k hk _ => ?_).mono fun k hk => by omega
  rw [← hw3,setRow_other _ _ _ _ (by omega)])
 have hh : ∀ j,w3.cell? ⟨w.heap.size,j,none⟩ = _:=fun j => cell_of_heap (o:=j) k3
 have r0:=hh 0
 have r1:=hh 1
 have r2:=hh 2
 have r3:=hh 3
 have r4:=hh 4
 have r5:=hh 5
 have r6:=hh 6
 have r7:=hh 7
 have r8:=hh 8
 have r9:=hh 9
 simp only [List.getElem?_toArray,List.getElem?_cons_zero,List.getElem?_cons_succ] at r0 r1 r2 r3 r4 r5 r6 r7 r8 r9
 clear hh
 have HB3:=Lib.hid hb3
 have HW1:=Lib.hid hw1
 have HW2:=Lib.hid hw2
 have HW3:=Lib.hid hw3
 have K2:=Lib.hid k2
 clear hw1 hw2 hw3 hs1 k1 k2 hsl k3 hb3
 go_enter Tryz.func24,Tryz.ntmps24
 go_wp2_with (rw [HW1.out,HW2.out]; refine wpList_opOK (o:=⟨none,Op.store 29 (.tmp 0) (.tmp 2),_,_,_,_⟩) (R:=fun _ w' => w3 = w') rfl (opOK_store_row 29 (.tmp 0) (.tmp 2) rfl w.heap.size #[.int .i64 4,.int .i64 2,.int .i64 0,.bool false,.bool false,.int .i64 0,.bool false,.slice (some ⟨w.heap.size + 1,0,none⟩) 2 2,.int .i64 2,.bool true] rfl rfl _ _ K2.out (by kernel_rfl) rfl (by simp [Value.oneCell']) HW3.out.symm) ?_; rintro _ _ rfl)
 try simp only [Exit.inBlock,Exit.then]
 refine bodyPost_ret (by simp [results,Tryz.results24,go_sem,r0,r1,r2,r3,r4,r5,r6,r7,r8,r9]; try rfl) rfl ?_
 exact ⟨_,_,rfl,HB3.out,HS3.out⟩
end Go.Proofs.YtnhggfnnolfcdaaGreat

/- Chapter 4: the state of a game after some darts (Play), states compared. -/
namespace Go.Proofs.YtnhggfnnolfcdaaGreat
open Go.RowKit Go.Oche Go.Proofs
def StV (S : Nat → Prop) (w : World) (v : Value) (rd pl d : Int) (pls : List Plr) (win : List Int) : Prop :=
 ∃ pa pc wa wc,v = .agg #[.int .i64 rd,.int .i64 pl,.int .i64 d,.slice pa pls.length pc,.slice wa win.length wc] ∧ SlN 9 S w (.slice pa pls.length pc) (pls.map plrRow) ∧ Sevens pls ∧ Sl S w (.slice wa win.length wc) (ints win)
structure Sta where
 rd : Int
 pl : Int
 da : Int
 pls : List Plr
 win : List Int
def staOf : Option Gam → Sta
 | none => ⟨0,0,0,[],[]⟩
 | some g => ⟨g.round,g.player,g.darts,g.pls,g.win⟩
def StaV (S : Nat → Prop) (w : World) (v : Value) (s : Sta) : Prop:=StV S w v s.rd s.pl s.da s.pls s.win
theorem StV.below {S : Nat → Prop} {w w' : World} {v : Value} {rd pl d : Int} {pls : List Plr} {win : List Int} (h : StV S w v rd pl d pls win) (hb : Below w.heap.size w w') : StV S w' v rd pl d pls win:=by
 obtain ⟨pa,pc,wa,wc,e,h1,h2,h3⟩ := h
 exact ⟨pa,pc,wa,wc,e,h1.below hb,h2,h3.below hb⟩
theorem StaV.below {S : Nat → Prop} {w w' : World} {v : Value} {s : Sta} (h : StaV S w v s) (hb : Below w.heap.size w w') : StaV S w' v s:=StV.below h hb
theorem PlsAt.slN {w : World} {pb cap n : Nat} {l : List Plr} (h : PlsAt w pb l) (hn : l.length = n) (hc : n ≤ cap ∧ cap ≤ 9223372036854775807) : SlN 9 (fun q => q = pb) w (.slice (some ⟨pb,0,none⟩) n cap) (l.map plrRow):=by
 refine ⟨_,cap,by rw [List.length_map,hn],by rw [List.length_map,hn]; exact hc.1,by unfold maxLen; omega,fun i r hr => ?_⟩
 rw [List.getElem?_map,Option.map_eq_some_iff] at hr
 obtain ⟨p,hp,rfl⟩ := hr
 obtain ⟨hi,rfl⟩ := List.getElem?_eq_some_iff.1 hp
 refine ⟨plrRow_len (h.1 _ (List.getElem_mem hi)),pb,0,rfl,rfl,fun j x hx => ?_⟩
 rw [Nat.zero_add]
 exact h.cell hi hx
def PlayPost (w : World) (x : Option Gam × Nat × Int) (e : Ending) (w' : World) : Prop :=
 ∃ v,e = .returned (.tuple #[v,.int .i64 x.2.1,.int .i64 x.2.2]) ∧ Below w.heap.size w w' ∧ StaV (fun q => w.heap.size ≤ q) w' v (staOf x.1)
set_option maxRecDepth 100000 in
set_option maxHeartbeats 4000000 in
theorem play_any {S S' : Nat → Prop} (r : Rul) (va : Option Addr) (nl vc : Nat) (da : Option Addr) (n0 dc : Nat) (darts : List Int) (hn : darts.length = n0) (h64 : ∀ b ∈ darts, -9223372036854775808 ≤ b ∧ b ≤ 9223372036854775807) (w : World) (hs : Sl S w (.slice va nl vc) (ints r.nums)) (hd : Sl S' w (.slice da n0 dc) (ints darts)) :
  Calls Tryz.prog 10 #[.agg #[.int .i64 r.kind,.int .i64 r.players,.int .i64 r.last,.bool r.bull,.bool r.jump,.int .i64 r.rounds,.bool r.cut,.slice va nl vc,.int .i64 r.lives,.bool r.own],.slice da n0 dc] w (PlayPost w (playG r darts)):=by
 obtain ⟨w0,hw0⟩ : ∃ w0,(w.alloc (.cells #[.int .i64 r.kind,.int .i64 r.players,.int .i64 r.last,.bool r.bull,.bool r.jump,.int .i64 r.rounds,.bool r.cut,.slice va nl vc,.int .i64 r.lives,.bool r.own] 29)).alloc (.cells #[.int .i64 0,.int .i64 0,.int .i64 0,.slice none 0 0,.slice none 0 0] 36) = w0:=⟨_,rfl⟩
 have hb0 : Below w.heap.size w w0:=by rw [← hw0]; exact (aB _ _).alloc (by simp) _
 have k0 : w0.heap[w.heap.size + 1]? = some (.cells #[.int .i64 0,.int .i64 0,.int .i64 0,.slice none 0 0,.slice none 0 0] 36 (0,0)):=by rw [← hw0]; have:=World.alloc_heap_new (w.alloc (.cells #[.int .i64 r.kind,.int .i64 r.players,.int .i64 r.last,.bool r.bull,.bool r.jump,.int .i64 r.rounds,.bool r.cut,.slice va nl vc,.int .i64 r.lives,.bool r.own] 29)) (.cells #[.int .i64 0,.int .i64 0,.int .i64 0,.slice none 0 0,.slice none 0 0] 36); simpa using this
 have hc:=open_any r va nl vc da n0 dc darts hn h64 w0 (hs.below hb0) (hd.below hb0)
 obtain ⟨x,hx⟩ : ∃ x,playG r darts = x:=⟨_,rfl⟩
 rw [hx] at hc ⊢
 obtain ⟨q,hq⟩ : ∃ q,w.heap.size + 1 = q:=⟨_,rfl⟩
 rw [hq] at k0
 have HC:=Lib.hid hc
 have HX:=Lib.hid hx
 have HB0:=Lib.hid hb0
 have HW0:=Lib.hid hw0
 have HQ:=Lib.hid hq
 have K0:=Lib.hid k0
 clear hs hd hc hx hb0 hw0 h64 hn hq k0
 go_enter Tryz.func10,Tryz.ntmps10
 go_wp2_with fail
 rw [HW0.out,HQ.out]
 refine HC.out.mono ?_
 rintro e w1 ⟨hb1,(⟨a,er,he,rfl⟩ | ⟨g,t,pb,cap,wv,he,rfl,ht,q1,q2⟩)⟩
 ·have hne : er ≠ 0:=playG_err (by rw [HX.out]; exact he)
  have eb : (er != 0) = true:=by simp [hne]
  have k1:=(hb1.block q (Array.getElem?_eq_some_iff.1 K0.out).1).trans K0.out
  have hh : ∀ j,w1.cell? ⟨q,j,none⟩ = _:=fun j => cell_of_heap (o:=j) k1
  have r0:=hh 0
  have r1:=hh 1
  have r2:=hh 2
  have r3:=hh 3
  have r4:=hh 4
  simp only [List.getElem?_toArray,List.getElem?_cons_zero,List.getElem?_cons_succ] at r0 r1 r2 r3 r4
  have hr1 : w1.setRow q #[.int .i64 0,.int .i64 0,.int .i64 0,.slice none 0 0,.slice none 0 0] = w1:=setRow_self w1 q _ _ _ k1
  have HR1:=Lib.hid hr1
  have K1:=Lib.hid k1
  have HB1:=Lib.hid (bThen HB0.out hb1)
  have HE:=Lib.hid he
  clear hb1 he hne hh k1 hr1
  go_wp2_with (refine wpList_opOK (o:=⟨none,Op.store 36 (.tmp 4) (.tmp 17),_,_,_,_⟩) (R:=fun _ w' => w1 = w') rfl (opOK_store_row 36 (.tmp 4) (.tmp 17) rfl q #[.int .i64 0,.int .i64 0,.int .i64 0,.slice none 0 0,.slice none 0 0] rfl rfl _ _ K1.out (by kernel_rfl) rfl (by simp [Value.oneCell']) HR1.out.symm) ?_; rintro _ _ rfl)
  try simp only [Exit.inBlock,Exit.then]
  refine bodyPost_ret (by simp [results,Tryz.results10,go_sem,r0,r1,r2,r3,r4]; try rfl) rfl ?_
  rw [HE.out]
  exact ⟨_,rfl,HB1.out,none,0,none,0,rfl,SlN.nil _ _ _,fun p hp => by simp [staOf] at hp,Sl.nil _ _⟩
 ·obtain ⟨wva,wvc,rfl,_,_⟩ := ht.win.form
  rw [ints_length] at ht
  obtain ⟨wvl,hwl⟩ : ∃ l,g.win.length = l:=⟨_,rfl⟩
  obtain ⟨n,hnn⟩ : ∃ n,g.pls.length = n:=⟨_,rfl⟩
  have hbox:=ht.box
  unfold tabA at hbox
  rw [hwl,hnn] at hbox
  have hh : ∀ j,w1.cell? ⟨t,j,none⟩ = _:=fun j => cell_of_heap (o:=j) hbox
  have t0:=hh 0
  have t1:=hh 1
  have t2:=hh 2
  have t3:=hh 3
  have t4:=hh 4
  simp only [List.getElem?_toArray,List.getElem?_cons_zero,List.getElem?_cons_succ] at t0 t1 t2 t3 t4
  clear hh
  have k1:=(hb1.block q (Array.getElem?_eq_some_iff.1 K0.out).1).trans K0.out
  obtain ⟨w2,hw2⟩ : ∃ w2,w1.setRow q #[.int .i64 g.round,.int .i64 g.player,.int .i64 g.darts,.slice (some ⟨pb,0,none⟩) n cap,.slice wva wvl wvc] = w2:=⟨_,rfl⟩
  have k2 : w2.heap[q]? = some (.cells #[.int .i64 g.round,.int .i64 g.player,.int .i64 g.darts,.slice (some ⟨pb,0,none⟩) n cap,.slice wva wvl wvc] 36 (0,0)):=by rw [← hw2]; exact setRow_heap _ _ _ _ _ _ k1
  have hh : ∀ j,w2.cell? ⟨q,j,none⟩ = _:=fun j => cell_of_heap (o:=j) k2
  have r0:=hh 0
  have r1:=hh 1
  have r2:=hh 2
  have r3:=hh 3
  have r4:=hh 4
  simp only [List.getElem?_toArray,List.getElem?_cons_zero,List.getElem?_cons_succ] at r0 r1 r2 r3 r4
  have hqw : w.heap.size ≤ q ∧ q < w0.heap.size:=⟨by have:=HQ.out; omega,(Array.getElem?_eq_some_iff.1 K0.out).1⟩
  have hP2 : PlsAt w2 pb g.pls:=ht.pls.keep (by rw [← hw2]; exact setRow_other _ _ _ _ (by omega))
  have hpb : w.heap.size ≤ pb ∧ w.heap.size ≤ t:=by have:=HB0.out.size; omega
  have hS2 : Sl (fun q => w.heap.size ≤ q) w2 (.slice wva wvl wvc) (ints g.win):=by
   have hw:=ht.win
   rw [hwl] at hw
   exact (hw.keepB fun k hk _ => by rw [← hw2]; exact setRow_other _ _ _ _ (by have:=hk.1; omega)).mono fun k hk => by have:=hk.1; omega
  have HST : Hid (StaV (fun q => w.heap.size ≤ q) w2 (.agg #[.int .i64 g.round,.int .i64 g.player,.int .i64 g.darts,.slice (some ⟨pb,0,none⟩) n cap,.slice wva wvl wvc]) (staOf (some g))):=Lib.hid ⟨some ⟨pb,0,none⟩,cap,wva,wvc,by rw [show (staOf (some g)).pls = g.pls from rfl,show (staOf (some g)).win = g.win from rfl,hnn,hwl]; rfl,by rw [show (staOf (some g)).pls = g.pls from rfl,hnn]; exact (hP2.slN hnn (by rw [← hnn]; exact ht.cap)).mono fun q e => by subst e; exact hpb.1,ht.pls.1,by rw [show (staOf (some g)).win = g.win from rfl,hwl]; exact hS2⟩
  have HB2 : Hid (Below w.heap.size w w2):=Lib.hid (by rw [← hw2]; exact below_setRow (bThen HB0.out hb1) hqw.1 _)
  have HW2:=Lib.hid hw2
  have K1:=Lib.hid k1
  have HE:=Lib.hid he
  clear hb1 ht q1 q2 hh hbox hnn hwl k1 k2 hw2 hqw hP2 hS2 he
  go_wp2_with (refine wpList_opOK (o:=⟨none,Op.store 36 (.tmp 4) (.tmp 23),_,_,_,_⟩) (R:=fun _ w' => w2 = w') rfl (opOK_store_row 36 (.tmp 4) (.tmp 23) rfl q #[.int .i64 g.round,.int .i64 g.player,.int .i64 g.darts,.slice (some ⟨pb,0,none⟩) n cap,.slice wva wvl wvc] rfl rfl _ _ K1.out (by kernel_rfl) rfl (by simp [Value.oneCell']) HW2.out.symm) ?_; rintro _ _ rfl)
  try simp only [Exit.inBlock,Exit.then]
  refine bodyPost_ret (by simp [results,Tryz.results10,go_sem,r0,r1,r2,r3,r4]; try rfl) rfl ?_
  rw [HE.out]
  exact ⟨_,rfl,HB2.out,HST.out⟩
theorem slN_cell9 {S : Nat → Prop} {w : World} {a : Option Addr} {n c : Nat} {l : List Plr} (h : SlN 9 S w (.slice a n c) (l.map plrRow)) {k : Nat} (hk : k < l.length) : ∃ b o,a = some ⟨b,o,none⟩ ∧ ∀ j x,(plrRow l[k])[j]? = some x → w.cell? ⟨b,o + k * 9 + j,none⟩ = some x:=by
 obtain ⟨b,o,e,_,_,hc⟩ := h.cell (i:=k) (by simpa using hk)
 exact ⟨b,o,e,fun j x hx => hc j x (by simpa using hx)⟩
end Go.Proofs.YtnhggfnnolfcdaaGreat
