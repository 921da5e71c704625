/- The texts RE, RD0, RF, Seq2, in build order. -/
import Derived.Test.YtpfpjbglpibdoaaGreatDoorZaw
import Derived.Lib.MinMax

/- Chapter 5, the reference: wide, index, the error of reports, which visit is right. -/
namespace Go.Proofs.YtpfpjbglpibdoaaGreatDoor
open Go Go.RowKit Go.Oche Go.Proofs

def spanV (p : Int × Int) : Value := .agg #[.int .i64 p.1, .int .i64 p.2]
def stRow (s : Std) : List Value := [.int .i64 s.left, .bool s.inn]
set_option maxRecDepth 100000 in
set_option maxHeartbeats 1000000 in
theorem refIndex_any {S : Nat → Prop} (now : List Std) (nv : Value) (s : Std) (w : World) (hs : SlN 2 S w nv (now.map stRow)) :
    Calls Tryz.prog 97 #[nv, stV s] w fun e w' => ∃ z : Int, e = .returned (.int .i64 z) ∧ Below w.heap.size w w' ∧ (z < 0 ↔ s ∉ now) := by
  obtain ⟨sl, si⟩ := s
  obtain ⟨a, cap, rfl, h2, h3⟩ := hs.form
  simp only [List.length_map] at *
  unfold maxLen at h3
  obtain ⟨n, hn⟩ : ∃ n, now.length = n := ⟨_, rfl⟩
  rw [hn] at h2 hs ⊢
  obtain ⟨N, hN⟩ : ∃ N, w.heap.size = N := ⟨_, rfl⟩
  obtain ⟨w1, hw1⟩ : ∃ z, w.alloc (.cells #[.int .i64 sl, .bool si] 29) = z := ⟨_, rfl⟩
  have hb1 : Below w.heap.size w w1 := by rw [← hw1]; exact aB _ _
  have k : w1.heap[N]? = some (.cells #[.int .i64 sl, .bool si] 29 (0, 0)) := by rw [← hw1, ← hN]; exact World.alloc_heap_new _ _
  have c0 : w1.cell? ⟨N, 0, none⟩ = some (.int .i64 sl) := by rw [cell_of_heap k]; rfl
  have c1 : w1.cell? ⟨N, 1, none⟩ = some (.bool si) := by rw [cell_of_heap k]; rfl
  have HS := Lib.hid (hs.below hb1)
  have HB := Lib.hid hb1
  have HW := Lib.hid hw1
  have HN := Lib.hid hN
  have HLN := Lib.hid hn
  unfold stV
  simp only
  clear hw1 hN k hb1 hn hs
  go_enter Tryz.func97, Tryz.ntmps97
  go_upto_region 1 with fail
  rw [HW.out, HN.out]
  have HBB : Hid (Below w1.heap.size w1 w1) := Lib.hid ⟨rfl, rfl, rfl, Nat.le_refl _, fun _ _ => rfl⟩
  have HNO : Hid (∀ s ∈ now.take 0, s ≠ (⟨sl, si⟩ : Std)) := Lib.hid (by simp)
  go_wp2
  go_loopw [5] (fun iv wr => ∃ i : Nat, i ≤ n ∧ iv = .int .i64 i ∧ Hid (∀ s ∈ now.take i, s ≠ (⟨sl, si⟩ : Std)) ∧ Hid (Below w1.heap.size w1 wr)) (fun iv _ => n - (intOf iv).toNat)
  case atStart => exact ⟨0, by omega, by go_num, HNO, HBB⟩
  case round =>
    clear HBB HNO
    obtain ⟨i, hi, rfl, HNi, HBi⟩ := hrel
    obtain ⟨wo, rfl⟩ : ∃ wo : World, wo = wr := ⟨_, rfl⟩
    have c0 := bAt HBi.out c0
    have c1 := bAt HBi.out c1
    by_cases hlt : i < n
    · have hil : i < now.length := by rw [HLN.out]; exact hlt
      obtain ⟨⟨xl, xi⟩, hp⟩ : ∃ p, now[i] = p := ⟨_, rfl⟩
      have htk : now.take (i + 1) = now.take i ++ [⟨xl, xi⟩] := by rw [List.take_succ_eq_append_getElem hil, hp]
      have hmem : (⟨xl, xi⟩ : Std) ∈ now := by rw [← hp]; exact List.getElem_mem _
      obtain ⟨b, off, hra, -, -, hc⟩ := (HS.out.below HBi.out).cell (i := i) (by rw [List.length_map]; exact hil)
      cases hra
      have hrow : (now.map stRow)[i]'(by rw [List.length_map]; exact hil) = [.int .i64 xl, .bool xi] := by rw [List.getElem_map, hp]; rfl
      rw [hrow] at hc
      have p0 := hc 0 _ rfl
      have p1 := hc 1 _ rfl
      rw [Nat.add_zero] at p0
      have HTK := Lib.hid htk
      have HMEM := Lib.hid hmem
      have hwi : IntKind.i64.wrap ((i : Int) + 1) = (i : Int) + 1 := wrap_small _ (by omega) (by omega)
      clear hc hrow hp htk hmem
      by_cases e1 : xl = sl
      · subst e1
        by_cases e2 : xi = si
        · subst e2
          go_upto_region 4 with fail
          refine wp_region_seqW (.is (.slice (some ⟨b, off, none⟩) n cap) :: .is (.int .i64 (i : Int)) :: .is (.pointer (some ⟨b, off + i * 2, none⟩)) :: .is (.agg #[.int .i64 xl, .bool xi]) :: .is (.agg #[.int .i64 xl, .bool xi]) :: .is (.bool true) :: []) rfl mix (by kernel_rfl) (by kernel_rfl) ?_
          iterate 6
            refine seq_on (by rfl) (fun w3 hb3 _ => ?_) ?_
            · have p0' := bAt hb3 p0
              have p1' := bAt hb3 p1
              have c0' := bAt hb3 c0
              have c1' := bAt hb3 c1
              simp [opOK, go_sem, p0', p1', c0', c1', hlt, Below.refl]
              try exact rfl
            simp only [Act.put, List.setIfInBounds_toArray, List.set_cons_succ, List.set_cons_zero]
          refine seq_end fun w4 hb4 _ => ?_
          have HB4 := Lib.hid (bThen HB.out (bThen HBi.out hb4))
          clear hb4
          go_wp2
          go_returns
          exact ⟨i, rfl, HB4.out, by simp only [HMEM.out, not_true, iff_false]; omega⟩
        · go_upto_region 4 with fail
          refine wp_region_seqW (.is (.slice (some ⟨b, off, none⟩) n cap) :: .is (.int .i64 (i : Int)) :: .is (.pointer (some ⟨b, off + i * 2, none⟩)) :: .is (.agg #[.int .i64 xl, .bool xi]) :: .is (.agg #[.int .i64 xl, .bool si]) :: .is (.bool false) :: []) rfl mix (by kernel_rfl) (by kernel_rfl) ?_
          iterate 5
            refine seq_on (by rfl) (fun w3 hb3 _ => ?_) ?_
            · have p0' := bAt hb3 p0
              have p1' := bAt hb3 p1
              have c0' := bAt hb3 c0
              have c1' := bAt hb3 c1
              simp [opOK, go_sem, p0', p1', c0', c1', hlt, Below.refl]
              try exact rfl
            simp only [Act.put, List.setIfInBounds_toArray, List.set_cons_succ, List.set_cons_zero]
          refine seq_on (by rfl) (fun w3 hb3 hH => ?_) ?_
          · simp [opOK, go_sem, e2, Below.refl]
            try exact rfl
          simp only [Act.put, List.setIfInBounds_toArray, List.set_cons_succ, List.set_cons_zero]
          refine seq_end fun w4 hb4 _ => ?_
          have HB4 := Lib.hid (bThen HBi.out hb4)
          have HN4 : Hid (∀ s ∈ now.take (i + 1), s ≠ (⟨xl, si⟩ : Std)) := Lib.hid (by
            rw [HTK.out]
            intro s hs
            rcases List.mem_append.1 hs with hs | hs
            · exact HNi.out s hs
            · rw [List.mem_singleton] at hs; subst hs; intro e; cases e; exact e2 rfl)
          clear hb4
          go_wp2
          go_roundw
          case rel => exact ⟨i + 1, by omega, by go_num, HN4, HB4⟩
          case measure => simp [intOf]; omega
      · go_upto_region 4 with fail
        refine wp_region_seqW (.is (.slice (some ⟨b, off, none⟩) n cap) :: .is (.int .i64 (i : Int)) :: .is (.pointer (some ⟨b, off + i * 2, none⟩)) :: .is (.agg #[.int .i64 xl, .bool xi]) :: .is (.agg #[.int .i64 sl, .bool si]) :: .is (.bool false) :: []) rfl mix (by kernel_rfl) (by kernel_rfl) ?_
        iterate 5
          refine seq_on (by rfl) (fun w3 hb3 _ => ?_) ?_
          · have p0' := bAt hb3 p0
            have p1' := bAt hb3 p1
            have c0' := bAt hb3 c0
            have c1' := bAt hb3 c1
            simp [opOK, go_sem, p0', p1', c0', c1', hlt, Below.refl]
            try exact rfl
          simp only [Act.put, List.setIfInBounds_toArray, List.set_cons_succ, List.set_cons_zero]
        refine seq_on (by rfl) (fun w3 hb3 hH => ?_) ?_
        · simp [opOK, go_sem, e1, Below.refl]
          try exact rfl
        simp only [Act.put, List.setIfInBounds_toArray, List.set_cons_succ, List.set_cons_zero]
        refine seq_end fun w4 hb4 _ => ?_
        have HB4 := Lib.hid (bThen HBi.out hb4)
        have HN4 : Hid (∀ s ∈ now.take (i + 1), s ≠ (⟨sl, si⟩ : Std)) := Lib.hid (by
          rw [HTK.out]
          intro s hs
          rcases List.mem_append.1 hs with hs | hs
          · exact HNi.out s hs
          · rw [List.mem_singleton] at hs; subst hs; intro e; cases e; exact e1 rfl)
        clear hb4
        go_wp2
        go_roundw
        case rel => exact ⟨i + 1, by omega, by go_num, HN4, HB4⟩
        case measure => simp [intOf]; omega
    · obtain rfl : i = n := by omega
      have HB4 := Lib.hid (bThen HB.out HBi.out)
      have HNO : Hid ((⟨sl, si⟩ : Std) ∉ now) := Lib.hid (fun h => HNi.out _ (by rw [List.take_of_length_le (by rw [HLN.out]; exact Nat.le_refl _)]; exact h) rfl)
      clear HNi
      go_wp2
      go_returns
      exact ⟨-1, rfl, HB4.out, by simp [HNO.out]⟩
set_option maxRecDepth 100000 in
set_option maxHeartbeats 1000000 in
theorem refReports_any {S : Nat → Prop} (l : Lg) (hT : 0 ≤ l.turns ∧ l.turns ≤ 60) (bv lv : Value) (list : List Rp) (most : Int) (w : World) (hl : SlN 3 S w lv (list.map rpRow)) :
    Calls Tryz.prog 27 #[legV l bv, lv, .int .i64 most] w fun e w' => e = .returned (.int .i64 (if most < (list.length : Int) then 5 else if list.any (badR l.turns) = true then 2 else 0)) ∧ Below w.heap.size w w' := by
  obtain ⟨a, cap, rfl, h2, h3⟩ := hl.form
  simp only [List.length_map] at *
  unfold maxLen at h3
  obtain ⟨res, hres⟩ : ∃ r, (if most < (list.length : Int) then (5 : Int) else if list.any (badR l.turns) = true then 2 else 0) = r := ⟨_, rfl⟩
  rw [hres]
  obtain ⟨n, hn⟩ : ∃ n, list.length = n := ⟨_, rfl⟩
  rw [hn] at h2 hl hres ⊢
  have HR := Lib.hid hres
  obtain ⟨T, hTT⟩ : ∃ T, l.turns = T := ⟨_, rfl⟩
  rw [hTT] at hT HR
  obtain ⟨N, hN⟩ : ∃ N, w.heap.size = N := ⟨_, rfl⟩
  obtain ⟨w1, hw1⟩ : ∃ x, w.alloc (.cells #[.int .i64 l.start, .int .i64 l.gin, .int .i64 l.gout, bv, .int .i64 l.players, .int .i64 T, .bool l.won] 27) = x := ⟨_, rfl⟩
  have hb1 : Below w.heap.size w w1 := by rw [← hw1]; exact aB _ _
  have k : w1.heap[N]? = some (.cells #[.int .i64 l.start, .int .i64 l.gin, .int .i64 l.gout, bv, .int .i64 l.players, .int .i64 T, .bool l.won] 27 (0, 0)) := by rw [← hw1, ← hN]; exact World.alloc_heap_new _ _
  have c5 : w1.cell? ⟨N, 5, none⟩ = some (.int .i64 T) := by rw [cell_of_heap k]; rfl
  have HS := Lib.hid (hl.below hb1)
  have HB := Lib.hid hb1
  have HW := Lib.hid hw1
  have HN := Lib.hid hN
  have HLN := Lib.hid hn
  unfold legV legA
  rw [hTT]
  clear hw1 hN k hb1 hn hl hres hTT
  go_enter Tryz.func27, Tryz.ntmps27
  go_upto_region 1 with fail
  rw [HW.out, HN.out]
  by_cases e0 : most < (n : Int)
  · have d0 : decide (most < (n : Int)) = true := decide_eq_true e0
    have hr : res = 5 := by rw [← HR.out, if_pos e0]
    clear HR
    subst hr
    go_wp2
    go_returns
    exact ⟨rfl, HB.out⟩
  · have d0 : decide (most < (n : Int)) = false := decide_eq_false e0
    have HRA : Hid ((if list.any (badR T) = true then (2 : Int) else 0) = res) := Lib.hid (by rw [← HR.out, if_neg e0])
    have HBB : Hid (Below w1.heap.size w1 w1) := Lib.hid ⟨rfl, rfl, rfl, Nat.le_refl _, fun _ _ => rfl⟩
    have HNO : Hid (∀ s ∈ list.take 0, badR T s = false) := Lib.hid (by simp)
    clear HR
    go_wp2
    go_loopw [7] (fun iv wr => ∃ i : Nat, i ≤ n ∧ iv = .int .i64 i ∧ Hid (∀ s ∈ list.take i, badR T s = false) ∧ Hid (Below w1.heap.size w1 wr)) (fun iv _ => n - (intOf iv).toNat)
    case atStart => exact ⟨0, by omega, by go_num, HNO, HBB⟩
    case round =>
      clear HBB HNO
      obtain ⟨i, hi, rfl, HNi, HBi⟩ := hrel
      obtain ⟨wo, rfl⟩ : ∃ wo : World, wo = wr := ⟨_, rfl⟩
      have c5 := bAt HBi.out c5
      by_cases hlt : i < n
      · have hil : i < list.length := by rw [HLN.out]; exact hlt
        obtain ⟨⟨rt, rs, rl⟩, hp⟩ : ∃ p, list[i] = p := ⟨_, rfl⟩
        have htk : list.take (i + 1) = list.take i ++ [⟨rt, rs, rl⟩] := by rw [List.take_succ_eq_append_getElem hil, hp]
        have hmem : (⟨rt, rs, rl⟩ : Rp) ∈ list := by rw [← hp]; exact List.getElem_mem _
        obtain ⟨b, off, hra, -, -, hc⟩ := (HS.out.below HBi.out).cell (i := i) (by rw [List.length_map]; exact hil)
        cases hra
        have hrow : (list.map rpRow)[i]'(by rw [List.length_map]; exact hil) = [.int .i64 rt, .int .i64 rs, .int .i64 rl] := by rw [List.getElem_map, hp]; rfl
        rw [hrow] at hc
        have p0 := hc 0 _ rfl
        have p1 := hc 1 _ rfl
        have p2 := hc 2 _ rfl
        rw [Nat.add_zero] at p0
        have HTK := Lib.hid htk
        have HMEM := Lib.hid hmem
        have hwi : IntKind.i64.wrap ((i : Int) + 1) = (i : Int) + 1 := wrap_small _ (by omega) (by omega)
        clear hc hrow hp htk hmem
        go_upto_region 7 with fail
        obtain ⟨w4, hw4⟩ : ∃ x, wo.alloc (.cells #[.int .i64 rt, .int .i64 rs, .int .i64 rl] 83) = x := ⟨_, rfl⟩
        obtain ⟨M, hM⟩ : ∃ M, wo.heap.size = M := ⟨_, rfl⟩
        have hb4 : Below wo.heap.size wo w4 := by rw [← hw4]; exact aB _ _
        have k4 : w4.heap[M]? = some (.cells #[.int .i64 rt, .int .i64 rs, .int .i64 rl] 83 (0, 0)) := by rw [← hw4, ← hM]; exact World.alloc_heap_new _ _
        have m0 : w4.cell? ⟨M, 0, none⟩ = some (.int .i64 rt) := by rw [cell_of_heap k4]; rfl
        have m1 : w4.cell? ⟨M, 1, none⟩ = some (.int .i64 rs) := by rw [cell_of_heap k4]; rfl
        have m2 : w4.cell? ⟨M, 2, none⟩ = some (.int .i64 rl) := by rw [cell_of_heap k4]; rfl
        have c5 := bAt hb4 c5
        have HB4 := Lib.hid (bThen HBi.out hb4)
        rw [hw4, hM]
        clear hb4 k4 hw4 hM p0 p1 p2
        by_cases e1 : rt < 0
        · have d1 : decide (rt < 0) = true := decide_eq_true e1
          have hbad : badR T ⟨rt, rs, rl⟩ = true := by unfold badR isIn; simp; omega
          have hr : res = 2 := by rw [← HRA.out, if_pos (List.any_eq_true.2 ⟨_, HMEM.out, hbad⟩)]
          clear hbad HRA HNi
          subst hr
          have HBZ := Lib.hid (bThen HB.out HB4.out)
          go_wp2
          go_returns
          exact ⟨rfl, HBZ.out⟩
        · have d1 : decide (rt < 0) = false := decide_eq_false e1
          by_cases e2 : T ≤ rt
          · have d2 : decide (T ≤ rt) = true := decide_eq_true e2
            have hbad : badR T ⟨rt, rs, rl⟩ = true := by unfold badR isIn; simp; omega
            have hr : res = 2 := by rw [← HRA.out, if_pos (List.any_eq_true.2 ⟨_, HMEM.out, hbad⟩)]
            clear hbad HRA HNi
            subst hr
            have HBZ := Lib.hid (bThen HB.out HB4.out)
            go_wp2
            go_returns
            exact ⟨rfl, HBZ.out⟩
          · have d2 : decide (T ≤ rt) = false := decide_eq_false e2
            by_cases e3 : rs < -1
            · have d3 : decide (rs < -1) = true := decide_eq_true e3
              have hbad : badR T ⟨rt, rs, rl⟩ = true := by unfold badR isIn; simp; omega
              have hr : res = 2 := by rw [← HRA.out, if_pos (List.any_eq_true.2 ⟨_, HMEM.out, hbad⟩)]
              clear hbad HRA HNi
              subst hr
              have HBZ := Lib.hid (bThen HB.out HB4.out)
              go_wp2
              go_returns
              exact ⟨rfl, HBZ.out⟩
            · have d3 : decide (rs < -1) = false := decide_eq_false e3
              by_cases e4 : 240 < rs
              · have d4 : decide (240 < rs) = true := decide_eq_true e4
                have hbad : badR T ⟨rt, rs, rl⟩ = true := by unfold badR isIn; simp; omega
                have hr : res = 2 := by rw [← HRA.out, if_pos (List.any_eq_true.2 ⟨_, HMEM.out, hbad⟩)]
                clear hbad HRA HNi
                subst hr
                have HBZ := Lib.hid (bThen HB.out HB4.out)
                go_wp2
                go_returns
                exact ⟨rfl, HBZ.out⟩
              · have d4 : decide (240 < rs) = false := decide_eq_false e4
                by_cases e5 : rl < -1
                · have d5 : decide (rl < -1) = true := decide_eq_true e5
                  have hbad : badR T ⟨rt, rs, rl⟩ = true := by unfold badR isIn; simp; omega
                  have hr : res = 2 := by rw [← HRA.out, if_pos (List.any_eq_true.2 ⟨_, HMEM.out, hbad⟩)]
                  clear hbad HRA HNi
                  subst hr
                  have HBZ := Lib.hid (bThen HB.out HB4.out)
                  go_wp2
                  go_returns
                  exact ⟨rfl, HBZ.out⟩
                · have d5 : decide (rl < -1) = false := decide_eq_false e5
                  by_cases e6 : 1001 < rl
                  · have d6 : decide (1001 < rl) = true := decide_eq_true e6
                    have hbad : badR T ⟨rt, rs, rl⟩ = true := by unfold badR isIn; simp; omega
                    have hr : res = 2 := by rw [← HRA.out, if_pos (List.any_eq_true.2 ⟨_, HMEM.out, hbad⟩)]
                    clear hbad HRA HNi
                    subst hr
                    have HBZ := Lib.hid (bThen HB.out HB4.out)
                    go_wp2
                    go_returns
                    exact ⟨rfl, HBZ.out⟩
                  · have d6 : decide (1001 < rl) = false := decide_eq_false e6
                    have hok : badR T ⟨rt, rs, rl⟩ = false := by unfold badR isIn; simp; omega
                    have HN4 : Hid (∀ s ∈ list.take (i + 1), badR T s = false) := Lib.hid (by
                      rw [HTK.out]
                      intro s hs
                      rcases List.mem_append.1 hs with hs | hs
                      · exact HNi.out s hs
                      · rw [List.mem_singleton] at hs; subst hs; exact hok)
                    clear hok HNi
                    go_wp2
                    go_roundw
                    case rel => exact ⟨i + 1, by omega, by go_num, HN4, HB4⟩
                    case measure => simp [intOf]; omega
      · obtain rfl : i = n := by omega
        have HB4 := Lib.hid (bThen HB.out HBi.out)
        have hr : res = 0 := by
          rw [← HRA.out, if_neg]
          rw [List.any_eq_true]
          rintro ⟨s, hs, hb⟩
          rw [HNi.out s (by rw [List.take_of_length_le (by rw [HLN.out]; exact Nat.le_refl _)]; exact hs)] at hb
          cases hb
        clear HNi HRA
        subst hr
        go_wp2
        go_returns
        exact ⟨rfl, HB4.out⟩
end Go.Proofs.YtpfpjbglpibdoaaGreatDoor

/- Chapter 5, the reference's visits: plain part, and the row that grows. -/
namespace Go.Proofs.YtpfpjbglpibdoaaGreatDoor
open Go Go.RowKit Go.Oche Go.Proofs

def visRow (x : En) (d : Nat) : List Value := [.int .i64 x.left, .bool x.inn, .bool x.won, .int .i64 (d : Int)]
def newR (l : Lg) (start : Std) (d k : Nat) (now : Std) : List (List Value) := (from5 l k now).map fun p => visRow (noBust start p.1) (p.2 + d)
def hitR (l : Lg) (start : Std) (d k : Nat) (now : Std) (h : Ht) : List (List Value) := if (dart5 l now h).2 = true then newR l start (d + 1) k (dart5 l now h).1.std else [visRow (noBust start (dart5 l now h).1) (d + 1)]
section
variable {l : Lg} {start now : Std} {d k : Nat}
theorem newR_zero : newR l start d 0 now = [visRow now.en d] := by
  unfold newR from5
  rw [List.map_singleton, Nat.zero_add]
  rfl
theorem newR_succ : newR l start d (k + 1) now = (hits5 l).flatMap (hitR l start d k now) := by
  unfold newR
  rw [from5, List.map_flatMap]
  congr 1
  funext h
  unfold hitR
  split
  · rw [List.map_map]
    unfold newR
    refine List.map_congr_left fun p _ => ?_
    simp only [Function.comp_apply]
    rw [show p.2 + 1 + d = p.2 + (d + 1) by omega]
  · rw [List.map_singleton]
    simp only
    rw [show 1 + d = d + 1 by omega]
theorem newR_len : (newR l start d k now).length = (from5 l k now).length := by simp [newR]
def preR (l : Lg) (start : Std) (d k : Nat) (now : Std) (i : Nat) : List (List Value) := ((hits5 l).take (i + 1)).flatMap (hitR l start d k now)
theorem miss_dart : dart5 l now miss5 = (⟨now.left, now.inn, false, false⟩, true) := by
  unfold dart5 miss5
  rw [if_pos (.inr rfl)]
  simp
theorem preR_zero : preR l start d k now 0 = newR l start (d + 1) k now := by
  unfold preR hits5
  rw [List.take_succ_cons, List.take_zero]
  simp only [List.flatMap_cons, List.flatMap_nil, List.append_nil]
  unfold hitR
  rw [miss_dart, if_pos rfl]
  rfl
theorem preR_succ {i : Nat} (h : i < l.beds.length) : preR l start d k now (i + 1) = preR l start d k now i ++ hitR l start d k now (hitB5 l l.beds[i]) := by
  unfold preR
  have hl : i + 1 < (hits5 l).length := by simp [hits5]; exact h
  rw [List.take_succ_eq_append_getElem hl, List.flatMap_append]
  congr 1
  simp [hits5]
theorem preR_all : preR l start d k now l.beds.length = newR l start d (k + 1) now := by
  unfold preR
  rw [newR_succ, List.take_of_length_le (by simp [hits5])]
theorem preR_le {i : Nat} (h : i ≤ l.beds.length) : (preR l start d k now i).length ≤ (newR l start d (k + 1) now).length := by
  rw [newR_succ]
  unfold preR
  have : hits5 l = (hits5 l).take (i + 1) ++ (hits5 l).drop (i + 1) := (List.take_append_drop _ _).symm
  conv => rhs; rw [this, List.flatMap_append, List.length_append]
  omega
theorem pre_hit {i : Nat} (h : i < l.beds.length) : (preR l start d k now i).length + (hitR l start d k now (hitB5 l l.beds[i])).length ≤ (newR l start d (k + 1) now).length := by
  rw [← List.length_append, ← preR_succ h]
  exact preR_le h
theorem new_bd (h6 : l.beds.length ≤ 6) (hk : k ≤ 3) : (newR l start d k now).length ≤ 343 := by
  rw [newR_len]
  refine Nat.le_trans (from_len l k now) ?_
  exact Nat.le_trans (Nat.pow_le_pow_left (show l.beds.length + 1 ≤ 7 by omega) k) (Nat.le_trans (Nat.pow_le_pow_right (by decide) hk) (by decide))
theorem dart_shut {b : Int} (h : now.inn = false) (h2 : opens5 b l.gin = false) : dart5 l now (hitB5 l b) = (⟨now.left, now.inn, false, false⟩, true) := by
  unfold dart5 hitB5
  rw [if_pos (.inl (by simp only [h, h2]; rfl))]
  simp only [h, h2, Bool.or_false]
theorem dart_open {b : Int} (hb : isBed5 b = true) (h : (now.inn || opens5 b l.gin) = true) : dart5 l now (hitB5 l b) = if now.left - b.tdiv 100 * b.tmod 100 = 0 ∧ opens5 b l.gout = true then (⟨0, true, false, true⟩, false) else if now.left - b.tdiv 100 * b.tmod 100 < low5 l.gout then (⟨0, false, true, false⟩, false) else (⟨now.left - b.tdiv 100 * b.tmod 100, true, false, false⟩, true) := by
  have hs := bed_score hb
  unfold dart5 hitB5
  simp only
  rw [if_neg]
  rintro (e | e)
  · rw [h] at e; cases e
  · omega
theorem hit_shut {b : Int} (h : now.inn = false) (h2 : opens5 b l.gin = false) : hitR l start d k now (hitB5 l b) = newR l start (d + 1) k now := by
  unfold hitR
  rw [dart_shut h h2, if_pos rfl]
  rfl
theorem hit_won {b : Int} (hb : isBed5 b = true) (h : (now.inn || opens5 b l.gin) = true) (h2 : now.left - b.tdiv 100 * b.tmod 100 = 0 ∧ opens5 b l.gout = true) : hitR l start d k now (hitB5 l b) = [visRow ⟨0, true, false, true⟩ (d + 1)] := by
  have hd := dart_open (now := now) hb h
  rw [if_pos h2] at hd
  unfold hitR
  rw [hd]
  rfl
theorem hit_on {b : Int} (hb : isBed5 b = true) (h : (now.inn || opens5 b l.gin) = true) (h2 : ¬ (now.left - b.tdiv 100 * b.tmod 100 = 0 ∧ opens5 b l.gout = true)) (h3 : low5 l.gout ≤ now.left - b.tdiv 100 * b.tmod 100) :
    hitR l start d k now (hitB5 l b) = newR l start (d + 1) k ⟨now.left - b.tdiv 100 * b.tmod 100, true⟩ := by
  have hd := dart_open (now := now) hb h
  rw [if_neg h2, if_neg (by omega)] at hd
  unfold hitR
  rw [hd]
  rfl
theorem hit_bust {b : Int} (hb : isBed5 b = true) (h : (now.inn || opens5 b l.gin) = true) (h2 : ¬ (now.left - b.tdiv 100 * b.tmod 100 = 0 ∧ opens5 b l.gout = true)) (h3 : ¬ low5 l.gout ≤ now.left - b.tdiv 100 * b.tmod 100) :
    hitR l start d k now (hitB5 l b) = [visRow start.en (d + 1)] := by
  have hd := dart_open (now := now) hb h
  rw [if_neg h2, if_pos (by omega)] at hd
  unfold hitR
  rw [hd]
  rfl
end
theorem grown_next {w w1 w2 : World} {o o1 : Option Nat} (h : w.grownBy w1 o) (h1 : w1.grownBy w2 o1) (ho : ∀ g, o1 = some g → o = some g ∨ w.heap.size ≤ g) : w.grownBy w2 o :=
  ⟨h1.os.trans h.os, h1.tape.trans h.tape, h1.output.trans h.output, Nat.le_trans h.size h1.size, fun q hq hn => (h1.block q (Nat.lt_of_lt_of_le hq h.size) fun e => by
    rcases ho q e.symm with z | z
    · exact hn z.symm
    · omega).trans (h.block q hq hn)⟩
theorem info_vis5 : (Tryz.prog.info? 44).map (fun i => (i.zero, i.size, i.bytes)) = some (some (.agg #[.int .i64 0, .bool false, .bool false, .int .i64 0]), 4, 32) := by kernel_rfl
theorem visRow_one (x : En) (d : Nat) : ∀ u ∈ visRow x d, u.oneCell' = true := fun u hu => by
  simp [visRow] at hu
  rcases hu with rfl | rfl | rfl | rfl <;> rfl
structure MoSt (base : Nat) (w1 : World) (v0 v : Value) (rows : List (List Value)) (wr : World) : Prop where
  row : wr.ownsRow base 44 4 v rows.length rows.flatten
  gr : w1.grownBy wr v0.ownBlock
  at_ : ∀ g, v.ownBlock = some g → v0.ownBlock = some g ∨ w1.heap.size ≤ g
section
variable {base : Nat} {w1 wr wr' : World} {v0 v v' : Value} {rows rows' : List (List Value)}
theorem MoSt.below (h : MoSt base w1 v0 v rows wr) (hb : Below wr.heap.size wr wr') : MoSt base w1 v0 v rows wr' := ⟨ownsN_below h.row hb, grown_next h.gr (grownBy_below none hb) (fun g e => by cases e), h.at_⟩
theorem MoSt.next (h : MoSt base w1 v0 v rows wr) (ho : wr'.ownsRow base 44 4 v' rows'.length rows'.flatten) (hg : wr.grownBy wr' v.ownBlock) (hat : ∀ g, v'.ownBlock = some g → v.ownBlock = some g ∨ wr.heap.size ≤ g) : MoSt base w1 v0 v' rows' wr' :=
  ⟨ho, grown_next h.gr hg h.at_, fun g e => (hat g e).elim (h.at_ g) fun z => .inr (Nat.le_trans h.gr.size z)⟩
theorem MoSt.app {wa : World} {r : List Value} (h : MoSt base w1 v0 v rows wr) (hb : Below wr.heap.size wr wa) (ho : wr'.ownsRow base 44 4 v' (rows.length + 1) (rows.flatten ++ r)) (hg : wa.grownBy wr' v.ownBlock) (hat : v'.ownBlock = v.ownBlock ∨ v'.ownBlock = some wa.heap.size) : MoSt base w1 v0 v' (rows ++ [r]) wr' :=
  (h.below hb).next (by rw [List.length_append, List.flatten_append]; simpa using ho) hg fun g e => by
    rcases hat with z | z
    · left; rw [← z]; exact e
    · right; rw [z] at e; cases e; exact Nat.le_refl _
theorem MoSt.enter {w : World} (hb : Below w.heap.size w w1) (h : MoSt base w1 v0 v rows wr) : MoSt base w v0 v rows wr :=
  ⟨h.row, grown_next (grownBy_below v0.ownBlock hb) h.gr fun g e => .inl e, fun g e => (h.at_ g e).elim .inl fun z => .inr (Nat.le_trans hb.size z)⟩
theorem MoSt.block (h : MoSt base w1 v0 v rows wr) {q : Nat} (hq : q < w1.heap.size) (hn : v0.ownBlock ≠ some q) : wr.heap[q]? = w1.heap[q]? := h.gr.block q hq fun e => hn e.symm
theorem MoSt.apart (h : MoSt base w1 v0 v rows wr) {q : Nat} (hq : q < w1.heap.size) (hn : v0.ownBlock ≠ some q) : v.ownBlock ≠ some q := fun e => (h.at_ q e).elim hn fun z => by omega
end
end Go.Proofs.YtpfpjbglpibdoaaGreatDoor

/- Chapter 5, the reference: whether a visit is right for all reports of a turn. -/
namespace Go.Proofs.YtpfpjbglpibdoaaGreatDoor
open Go Go.RowKit Go.Oche Go.Proofs

def visV (x : En) (d : Nat) : Value := .agg #[.int .i64 x.left, .bool x.inn, .bool x.won, .int .i64 (d : Int)]
def offR (s : Std) (x : En) (turn : Int) (r : Rp) (b : Bool) : Bool := b && (r.turn == turn && misR s x r)
theorem fits_off (s : Std) (x : En) (turn : Int) (list : List Rp) (which : Nat → Bool) : fitsP s x (saidL list which turn) = !(list.zipIdx.any fun p => offR s x turn p.1 (which p.2)) := by
  rw [fits_mis]
  unfold saidL
  rw [List.any_map, List.any_filter]
  congr 2
  funext p
  simp only [Function.comp_apply, offR]
  cases which p.2 <;> cases (p.1.turn == turn) <;> simp
theorem zip_take {list : List Rp} {i : Nat} (h : i < list.length) : list.zipIdx.take (i + 1) = list.zipIdx.take i ++ [(list[i], i)] := by
  rw [List.take_succ_eq_append_getElem (by simpa using h)]
  simp
set_option maxRecDepth 100000 in
set_option maxHeartbeats 1000000 in
theorem refRight_any {S S' : Nat → Prop} (list : List Rp) (hv : ∀ r ∈ list, -1 ≤ r.score ∧ -1 ≤ r.left) (bels : List Bool) (hbl : bels.length = list.length) (lv bv : Value) (turn : Int) (s : Std) (x : En) (d : Nat) (hxb : 0 ≤ x.left ∧ x.left ≤ 1001) (hsb : 0 ≤ s.left ∧ s.left ≤ 1001)
    (w : World) (hl : SlN 3 S w lv (list.map rpRow)) (hb : Sl S' w bv (bels.map Value.bool)) :
    Calls Tryz.prog 96 #[lv, bv, .int .i64 turn, stV s, visV x d] w fun e w' => e = .returned (.bool (fitsP s x (saidL list (fun i => bels.getD i false) turn))) ∧ Below w.heap.size w w' := by
  obtain ⟨sl, si⟩ := s
  obtain ⟨xl, xi, xb, xw⟩ := x
  simp only at hxb hsb
  obtain ⟨a, cap, rfl, h2, h3⟩ := hl.form
  obtain ⟨a', cap', rfl, h2', h3'⟩ := hb.form
  simp only [List.length_map] at *
  unfold maxLen at h3 h3'
  obtain ⟨n, hn⟩ : ∃ n, list.length = n := ⟨_, rfl⟩
  rw [hbl] at h2' hb ⊢
  rw [hn] at h2 h2' hl hb hbl ⊢
  obtain ⟨res, hres⟩ : ∃ r, fitsP ⟨sl, si⟩ ⟨xl, xi, xb, xw⟩ (saidL list (fun i => bels.getD i false) turn) = r := ⟨_, rfl⟩
  rw [hres]
  rw [fits_off] at hres
  have HR := Lib.hid hres
  obtain ⟨N, hN⟩ : ∃ N, w.heap.size = N := ⟨_, rfl⟩
  obtain ⟨w1, hw1⟩ : ∃ z, (w.alloc (.cells #[.int .i64 sl, .bool si] 29)).alloc (.cells #[.int .i64 xl, .bool xi, .bool xw, .int .i64 (d : Int)] 44) = z := ⟨_, rfl⟩
  have hb1 : Below w.heap.size w w1 := by rw [← hw1]; exact (aB _ _).alloc (by simp) _
  have k : w1.heap[N]? = some (.cells #[.int .i64 sl, .bool si] 29 (0, 0)) := by rw [← hw1, ← hN]; exact (Below.heap_alloc _ _ _ (by simp)).trans (World.alloc_heap_new _ _)
  have k2 : w1.heap[N + 1]? = some (.cells #[.int .i64 xl, .bool xi, .bool xw, .int .i64 (d : Int)] 44 (0, 0)) := by
    rw [← hw1, ← hN]
    have := World.alloc_heap_new (w.alloc (.cells #[.int .i64 sl, .bool si] 29)) (.cells #[.int .i64 xl, .bool xi, .bool xw, .int .i64 (d : Int)] 44)
    simp only [World.size_alloc] at this
    exact this
  have s0 : w1.cell? ⟨N, 0, none⟩ = some (.int .i64 sl) := by rw [cell_of_heap k]; rfl
  have x0 : w1.cell? ⟨N + 1, 0, none⟩ = some (.int .i64 xl) := by rw [cell_of_heap k2]; rfl
  have HL := Lib.hid (hl.below hb1)
  have HBL := Lib.hid (hb.below hb1)
  have HB := Lib.hid hb1
  have HW := Lib.hid hw1
  have HN := Lib.hid hN
  have HLN := Lib.hid hn
  have HLB := Lib.hid hbl
  have HV := Lib.hid hv
  have hwr : IntKind.i64.wrap (sl - xl) = sl - xl := wrap_small _ (by omega) (by omega)
  unfold stV visV
  simp only
  clear hw1 hN k k2 hb1 hn hbl hl hb hres hv
  go_enter Tryz.func96, Tryz.ntmps96
  go_upto_region 1 with fail
  rw [HW.out, HN.out]
  have HBB : Hid (Below w1.heap.size w1 w1) := Lib.hid ⟨rfl, rfl, rfl, Nat.le_refl _, fun _ _ => rfl⟩
  have HNO : Hid (((list.zipIdx.take 0).any fun p => offR ⟨sl, si⟩ ⟨xl, xi, xb, xw⟩ turn p.1 (bels.getD p.2 false)) = false) := Lib.hid rfl
  go_wp2
  go_loopw [11] (fun iv wr => ∃ i : Nat, i ≤ n ∧ iv = .int .i64 i ∧ Hid (((list.zipIdx.take i).any fun p => offR ⟨sl, si⟩ ⟨xl, xi, xb, xw⟩ turn p.1 (bels.getD p.2 false)) = false) ∧ Hid (Below w1.heap.size w1 wr)) (fun iv _ => n - (intOf iv).toNat)
  case atStart => exact ⟨0, by omega, by go_num, HNO, HBB⟩
  case round =>
    clear HBB HNO
    obtain ⟨i, hi, rfl, HNi, HBi⟩ := hrel
    obtain ⟨wo, rfl⟩ : ∃ wo : World, wo = wr := ⟨_, rfl⟩
    have s0 := bAt HBi.out s0
    have x0 := bAt HBi.out x0
    by_cases hlt : i < n
    · have hil : i < list.length := by rw [HLN.out]; exact hlt
      have hib : i < bels.length := by rw [HLB.out]; exact hlt
      obtain ⟨⟨rt, rs, rl⟩, hp⟩ : ∃ p, list[i] = p := ⟨_, rfl⟩
      have htk : list.zipIdx.take (i + 1) = list.zipIdx.take i ++ [(⟨rt, rs, rl⟩, i)] := by rw [zip_take hil, hp]
      have hrv : -1 ≤ rs ∧ -1 ≤ rl := by have := HV.out list[i] (List.getElem_mem _); rw [hp] at this; exact this
      obtain ⟨bl, hbl⟩ : ∃ b, bels[i] = b := ⟨_, rfl⟩
      have hgd : bels.getD i false = bl := by rw [List.getD_eq_getElem?_getD, List.getElem?_eq_getElem hib, hbl]; rfl
      obtain ⟨b, off, hra, -, -, hc⟩ := (HL.out.below HBi.out).cell (i := i) (by rw [List.length_map]; exact hil)
      cases hra
      have hrow : (list.map rpRow)[i]'(by rw [List.length_map]; exact hil) = [.int .i64 rt, .int .i64 rs, .int .i64 rl] := by rw [List.getElem_map, hp]; rfl
      rw [hrow] at hc
      have p0 := hc 0 _ rfl
      have p1 := hc 1 _ rfl
      have p2 := hc 2 _ rfl
      rw [Nat.add_zero] at p0
      obtain ⟨b2, off2, hra2, -, hc2⟩ := Sl.at_ (HBL.out.below HBi.out) (i := i) (x := .bool bl) (by rw [List.getElem?_map, List.getElem?_eq_getElem hib, hbl]; rfl)
      cases hra2
      have HTK := Lib.hid htk
      have HGD := Lib.hid hgd
      have hwi : IntKind.i64.wrap ((i : Int) + 1) = (i : Int) + 1 := wrap_small _ (by omega) (by omega)
      clear hc hrow hp htk hbl hgd
      go_upto_region 5 with fail
      obtain ⟨w4, hw4⟩ : ∃ x, wo.alloc (.cells #[.int .i64 rt, .int .i64 rs, .int .i64 rl] 83) = x := ⟨_, rfl⟩
      obtain ⟨M, hM⟩ : ∃ M, wo.heap.size = M := ⟨_, rfl⟩
      have hb4 : Below wo.heap.size wo w4 := by rw [← hw4]; exact aB _ _
      have k4 : w4.heap[M]? = some (.cells #[.int .i64 rt, .int .i64 rs, .int .i64 rl] 83 (0, 0)) := by rw [← hw4, ← hM]; exact World.alloc_heap_new _ _
      have m0 : w4.cell? ⟨M, 0, none⟩ = some (.int .i64 rt) := by rw [cell_of_heap k4]; rfl
      have m1 : w4.cell? ⟨M, 1, none⟩ = some (.int .i64 rs) := by rw [cell_of_heap k4]; rfl
      have m2 : w4.cell? ⟨M, 2, none⟩ = some (.int .i64 rl) := by rw [cell_of_heap k4]; rfl
      have s0 := bAt hb4 s0
      have x0 := bAt hb4 x0
      have hc2 := bAt hb4 hc2
      have HB4 := Lib.hid (bThen HBi.out hb4)
      rw [hw4, hM]
      clear hb4 k4 hw4 hM p0 p1 p2
      cases bl
      · skip
        have hok : offR ⟨sl, si⟩ ⟨xl, xi, xb, xw⟩ turn ⟨rt, rs, rl⟩ (bels.getD i false) = false := by
          rw [HGD.out]; unfold offR misR
          simp
        have HN4 : Hid (((list.zipIdx.take (i + 1)).any fun p => offR ⟨sl, si⟩ ⟨xl, xi, xb, xw⟩ turn p.1 (bels.getD p.2 false)) = false) := Lib.hid (by
          rw [HTK.out, List.any_append, HNi.out]
          simp only [List.any_cons, List.any_nil, Bool.or_false, Bool.false_or]
          exact hok)
        clear hok HNi
        go_wp2
        go_roundw
        case rel => exact ⟨i + 1, by omega, by go_num, HN4, HB4⟩
        case measure => simp [intOf]; omega
      · skip
        by_cases e0 : rt = turn
        · have de0 : (rt == turn) = true := beq_iff_eq.2 e0
          by_cases e1 : 0 ≤ rs
          · have de1 : decide (0 ≤ rs) = true := decide_eq_true e1
            by_cases e2 : rs = sl - xl
            · have de2 : (rs != sl - xl) = false := by simp [e2]
              have hs1 : (rs == -1 || rs == sl - xl) = true := by simp [e2]
              by_cases e3 : 0 ≤ rl
              · have de3 : decide (0 ≤ rl) = true := decide_eq_true e3
                by_cases e4 : rl = xl
                · have de4 : (rl != xl) = false := by simp [e4]
                  have hok : offR ⟨sl, si⟩ ⟨xl, xi, xb, xw⟩ turn ⟨rt, rs, rl⟩ (bels.getD i false) = false := by
                    rw [HGD.out]; unfold offR misR
                    simp [e0, hs1, e4]
                  have HN4 : Hid (((list.zipIdx.take (i + 1)).any fun p => offR ⟨sl, si⟩ ⟨xl, xi, xb, xw⟩ turn p.1 (bels.getD p.2 false)) = false) := Lib.hid (by
                    rw [HTK.out, List.any_append, HNi.out]
                    simp only [List.any_cons, List.any_nil, Bool.or_false, Bool.false_or]
                    exact hok)
                  clear hok HNi
                  go_wp2
                  go_roundw
                  case rel => exact ⟨i + 1, by omega, by go_num, HN4, HB4⟩
                  case measure => simp [intOf]; omega
                · have de4 : (rl != xl) = true := bne_iff_ne.2 e4
                  have hbad : offR ⟨sl, si⟩ ⟨xl, xi, xb, xw⟩ turn ⟨rt, rs, rl⟩ (bels.getD i false) = true := by
                    rw [HGD.out]; unfold offR misR
                    have h : ¬ rl = -1 := by omega
                    simp [e0, hs1, e4, h]
                  have hr : res = false := by
                    rw [← HR.out, show (list.zipIdx.any fun p => offR ⟨sl, si⟩ ⟨xl, xi, xb, xw⟩ turn p.1 (bels.getD p.2 false)) = true from ?_]
                    · rfl
                    · refine List.any_eq_true.2 ⟨(⟨rt, rs, rl⟩, i), List.mem_of_mem_take (i := i + 1) (by rw [HTK.out]; simp), hbad⟩
                  clear hbad HR HNi
                  subst hr
                  have HBZ := Lib.hid (bThen HB.out HB4.out)
                  go_wp2
                  go_returns
                  exact ⟨rfl, HBZ.out⟩
              · have de3 : decide (0 ≤ rl) = false := decide_eq_false e3
                have hok : offR ⟨sl, si⟩ ⟨xl, xi, xb, xw⟩ turn ⟨rt, rs, rl⟩ (bels.getD i false) = false := by
                  rw [HGD.out]; unfold offR misR
                  have h : rl = -1 := by omega
                  simp [e0, hs1, h]
                have HN4 : Hid (((list.zipIdx.take (i + 1)).any fun p => offR ⟨sl, si⟩ ⟨xl, xi, xb, xw⟩ turn p.1 (bels.getD p.2 false)) = false) := Lib.hid (by
                  rw [HTK.out, List.any_append, HNi.out]
                  simp only [List.any_cons, List.any_nil, Bool.or_false, Bool.false_or]
                  exact hok)
                clear hok HNi
                go_wp2
                go_roundw
                case rel => exact ⟨i + 1, by omega, by go_num, HN4, HB4⟩
                case measure => simp [intOf]; omega
            · have de2 : (rs != sl - xl) = true := bne_iff_ne.2 e2
              have hbad : offR ⟨sl, si⟩ ⟨xl, xi, xb, xw⟩ turn ⟨rt, rs, rl⟩ (bels.getD i false) = true := by
                rw [HGD.out]; unfold offR misR
                have h : ¬ rs = -1 := by omega
                simp [e0, e2, h]
              have hr : res = false := by
                rw [← HR.out, show (list.zipIdx.any fun p => offR ⟨sl, si⟩ ⟨xl, xi, xb, xw⟩ turn p.1 (bels.getD p.2 false)) = true from ?_]
                · rfl
                · refine List.any_eq_true.2 ⟨(⟨rt, rs, rl⟩, i), List.mem_of_mem_take (i := i + 1) (by rw [HTK.out]; simp), hbad⟩
              clear hbad HR HNi
              subst hr
              have HBZ := Lib.hid (bThen HB.out HB4.out)
              go_wp2
              go_returns
              exact ⟨rfl, HBZ.out⟩
          · have de1 : decide (0 ≤ rs) = false := decide_eq_false e1
            have hs1 : (rs == -1 || rs == sl - xl) = true := by
              have h : rs = -1 := by omega
              simp [h]
            by_cases e3 : 0 ≤ rl
            · have de3 : decide (0 ≤ rl) = true := decide_eq_true e3
              by_cases e4 : rl = xl
              · have de4 : (rl != xl) = false := by simp [e4]
                have hok : offR ⟨sl, si⟩ ⟨xl, xi, xb, xw⟩ turn ⟨rt, rs, rl⟩ (bels.getD i false) = false := by
                  rw [HGD.out]; unfold offR misR
                  simp [e0, hs1, e4]
                have HN4 : Hid (((list.zipIdx.take (i + 1)).any fun p => offR ⟨sl, si⟩ ⟨xl, xi, xb, xw⟩ turn p.1 (bels.getD p.2 false)) = false) := Lib.hid (by
                  rw [HTK.out, List.any_append, HNi.out]
                  simp only [List.any_cons, List.any_nil, Bool.or_false, Bool.false_or]
                  exact hok)
                clear hok HNi
                go_wp2
                go_roundw
                case rel => exact ⟨i + 1, by omega, by go_num, HN4, HB4⟩
                case measure => simp [intOf]; omega
              · have de4 : (rl != xl) = true := bne_iff_ne.2 e4
                have hbad : offR ⟨sl, si⟩ ⟨xl, xi, xb, xw⟩ turn ⟨rt, rs, rl⟩ (bels.getD i false) = true := by
                  rw [HGD.out]; unfold offR misR
                  have h : ¬ rl = -1 := by omega
                  simp [e0, hs1, e4, h]
                have hr : res = false := by
                  rw [← HR.out, show (list.zipIdx.any fun p => offR ⟨sl, si⟩ ⟨xl, xi, xb, xw⟩ turn p.1 (bels.getD p.2 false)) = true from ?_]
                  · rfl
                  · refine List.any_eq_true.2 ⟨(⟨rt, rs, rl⟩, i), List.mem_of_mem_take (i := i + 1) (by rw [HTK.out]; simp), hbad⟩
                clear hbad HR HNi
                subst hr
                have HBZ := Lib.hid (bThen HB.out HB4.out)
                go_wp2
                go_returns
                exact ⟨rfl, HBZ.out⟩
            · have de3 : decide (0 ≤ rl) = false := decide_eq_false e3
              have hok : offR ⟨sl, si⟩ ⟨xl, xi, xb, xw⟩ turn ⟨rt, rs, rl⟩ (bels.getD i false) = false := by
                rw [HGD.out]; unfold offR misR
                have h : rl = -1 := by omega
                simp [e0, hs1, h]
              have HN4 : Hid (((list.zipIdx.take (i + 1)).any fun p => offR ⟨sl, si⟩ ⟨xl, xi, xb, xw⟩ turn p.1 (bels.getD p.2 false)) = false) := Lib.hid (by
                rw [HTK.out, List.any_append, HNi.out]
                simp only [List.any_cons, List.any_nil, Bool.or_false, Bool.false_or]
                exact hok)
              clear hok HNi
              go_wp2
              go_roundw
              case rel => exact ⟨i + 1, by omega, by go_num, HN4, HB4⟩
              case measure => simp [intOf]; omega
        · have de0 : (rt == turn) = false := beq_eq_false_iff_ne.2 e0
          have hok : offR ⟨sl, si⟩ ⟨xl, xi, xb, xw⟩ turn ⟨rt, rs, rl⟩ (bels.getD i false) = false := by
            rw [HGD.out]; unfold offR misR
            simp [e0]
          have HN4 : Hid (((list.zipIdx.take (i + 1)).any fun p => offR ⟨sl, si⟩ ⟨xl, xi, xb, xw⟩ turn p.1 (bels.getD p.2 false)) = false) := Lib.hid (by
            rw [HTK.out, List.any_append, HNi.out]
            simp only [List.any_cons, List.any_nil, Bool.or_false, Bool.false_or]
            exact hok)
          clear hok HNi
          go_wp2
          go_roundw
          case rel => exact ⟨i + 1, by omega, by go_num, HN4, HB4⟩
          case measure => simp [intOf]; omega
    · obtain rfl : i = n := by omega
      have HB4 := Lib.hid (bThen HB.out HBi.out)
      have hr : res = true := by
        have h1 := HNi.out
        rw [List.take_of_length_le (by simp [HLN.out])] at h1
        rw [← HR.out, h1]
        rfl
      clear HNi HR
      subst hr
      go_wp2
      go_returns
      exact ⟨rfl, HB4.out⟩
end Go.Proofs.YtpfpjbglpibdoaaGreatDoor

/- A new block within a region that draws its order. -/
namespace Go.Oche
open Go Go.RowKit
def kBox (N : Nat) (t : TypeId) (cs : Array Value) : Kn where
  s := fun v => ∃ b, v = .pointer (some ⟨b, 0, none⟩)
  p := fun v w => ∃ b, v = .pointer (some ⟨b, 0, none⟩) ∧ N ≤ b ∧ w.heap[b]? = some (.cells cs t (0, 0))
  m := fun _ _ _ hb ⟨b, h1, h2, h3⟩ => ⟨b, h1, h2, (hb.block b (Array.getElem?_eq_some_iff.1 h3).1).trans h3⟩
theorem opOK_alloc {P : Program} {o : Oper} {a : Act} {w : World} {N : Nat} {t : TypeId} {cs : Array Value} (hr : (execOp a.eval o).run P w = .ok (.value (.pointer (some ⟨w.heap.size, 0, none⟩))) (w.alloc (.cells cs t))) (hN : N ≤ w.heap.size) :
    opOK P o a w (fun v w' => Below w.heap.size w w' ∧ (kBox N t cs).s v ∧ (kBox N t cs).p v w') := by
  unfold opOK
  rw [hr]
  exact ⟨⟨rfl, rfl, rfl, by simp, fun k hk => Below.heap_alloc _ _ _ hk⟩, ⟨_, rfl⟩, _, rfl, hN, World.alloc_heap_new _ _⟩
end Go.Oche
