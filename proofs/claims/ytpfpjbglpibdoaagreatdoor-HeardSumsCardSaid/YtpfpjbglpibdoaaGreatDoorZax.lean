/- The texts SL, KNA, KNB, in build order. -/
import Derived.Test.YtpfpjbglpibdoaaGreatDoorZaw

/- Chapter 5: the statements' small helpers: leg, to, alike, equal. -/
namespace Go.Proofs.YtpfpjbglpibdoaaGreatDoor
open Go Go.RowKit Go.Oche Go.Proofs

def leg5K : Lg := { start := 50, gin := 0, gout := 1, beds := [101, 120, 201, 220, 320], players := 2, turns := 4, won := true }
theorem to_any (a b : Int) (w : World) : Calls Tryz.prog 23 #[.int .i64 a, .int .i64 b] w fun e w' => e = .returned (.agg #[.int .i64 a, .int .i64 b]) ∧ Below w.heap.size w w' := by
  obtain ⟨w1, hw1⟩ : ∃ x, w.alloc (.cells #[.int .i64 a, .int .i64 b] 48) = x := ⟨_, rfl⟩
  have hb1 : Below w.heap.size w w1 := by rw [← hw1]; exact aB _ _
  have k : w1.heap[w.heap.size]? = some (.cells #[.int .i64 a, .int .i64 b] 48 (0, 0)) := by rw [← hw1]; exact World.alloc_heap_new _ _
  have c0 : w1.cell? ⟨w.heap.size, 0, none⟩ = some (.int .i64 a) := by rw [cell_of_heap k]; rfl
  have c1 : w1.cell? ⟨w.heap.size, 1, none⟩ = some (.int .i64 b) := by rw [cell_of_heap k]; rfl
  have HW := Lib.hid hw1
  have HB := Lib.hid hb1
  clear hw1 hb1 k
  go_enter Tryz.func23, Tryz.ntmps23
  go_wp2
  rw [HW.out]
  refine bodyPost_ret (v := .agg #[.int .i64 a, .int .i64 b]) (by simp [results, Tryz.results23, go_sem, c0, c1]) rfl ?_
  exact ⟨rfl, HB.out⟩
set_option maxRecDepth 100000 in
theorem leg_any (w : World) : Calls Tryz.prog 40 #[] w fun e w' => ∃ bv, e = .returned (legV leg5K bv) ∧ Below w.heap.size w w' ∧ Sl (fun q => w.heap.size ≤ q) w' bv (ints leg5K.beds) := by
  go_enter Tryz.func40, Tryz.ntmps40
  obtain ⟨w1, hw1⟩ : ∃ x, (w.alloc (.cells #[.int .i64 50, .int .i64 0, .int .i64 1, .slice (some ⟨w.heap.size + 1, 0, none⟩) 5 5, .int .i64 2, .int .i64 4, .bool true] 27)).alloc (.cells #[.int .i64 101, .int .i64 120, .int .i64 201, .int .i64 220, .int .i64 320] 95) = x := ⟨_, rfl⟩
  have hb1 : Below w.heap.size w w1 := by rw [← hw1]; exact (aB _ _).alloc (by simp) _
  have k : w1.heap[w.heap.size]? = some (.cells #[.int .i64 50, .int .i64 0, .int .i64 1, .slice (some ⟨w.heap.size + 1, 0, none⟩) 5 5, .int .i64 2, .int .i64 4, .bool true] 27 (0, 0)) := by rw [← hw1]; exact (Below.heap_alloc _ _ _ (by simp)).trans (World.alloc_heap_new _ _)
  have k2 : w1.heap[w.heap.size + 1]? = some (.cells (ints [101, 120, 201, 220, 320]).toArray 95 (0, 0)) := by
    rw [← hw1]
    have := World.alloc_heap_new (w.alloc (.cells #[.int .i64 50, .int .i64 0, .int .i64 1, .slice (some ⟨w.heap.size + 1, 0, none⟩) 5 5, .int .i64 2, .int .i64 4, .bool true] 27)) (.cells #[.int .i64 101, .int .i64 120, .int .i64 201, .int .i64 220, .int .i64 320] 95)
    simp only [World.size_alloc] at this
    exact this
  have c0 : w1.cell? ⟨w.heap.size, 0, none⟩ = some (.int .i64 50) := by rw [cell_of_heap k]; rfl
  have c1 : w1.cell? ⟨w.heap.size, 1, none⟩ = some (.int .i64 0) := by rw [cell_of_heap k]; rfl
  have c2 : w1.cell? ⟨w.heap.size, 2, none⟩ = some (.int .i64 1) := by rw [cell_of_heap k]; rfl
  have c3 : w1.cell? ⟨w.heap.size, 3, none⟩ = some (.slice (some ⟨w.heap.size + 1, 0, none⟩) 5 5) := by rw [cell_of_heap k]; rfl
  have c4 : w1.cell? ⟨w.heap.size, 4, none⟩ = some (.int .i64 2) := by rw [cell_of_heap k]; rfl
  have c5 : w1.cell? ⟨w.heap.size, 5, none⟩ = some (.int .i64 4) := by rw [cell_of_heap k]; rfl
  have c6 : w1.cell? ⟨w.heap.size, 6, none⟩ = some (.bool true) := by rw [cell_of_heap k]; rfl
  have hsl : Sl (fun q => w.heap.size ≤ q) w1 (.slice (some ⟨w.heap.size + 1, 0, none⟩) 5 5) (ints leg5K.beds) := ⟨_, 5, rfl, by decide, by decide, fun i x hx => ⟨_, 0, rfl, by omega, by
    rw [cell_of_heap k2, Nat.zero_add]; simpa [leg5K] using hx⟩⟩
  have HW := Lib.hid hw1
  have HB := Lib.hid hb1
  have HSL := Lib.hid hsl
  clear hw1 hb1 k k2 hsl
  go_wp2
  rw [HW.out]
  refine bodyPost_ret (v := legV leg5K (.slice (some ⟨w.heap.size + 1, 0, none⟩) 5 5)) (by simp [results, Tryz.results40, go_sem, c0, c1, c2, c3, c4, c5, c6, legV, legA, leg5K]) rfl ?_
  exact ⟨_, rfl, HB.out, HSL.out⟩
set_option maxRecDepth 100000 in
set_option maxHeartbeats 1000000 in
theorem alike_any {S S' : Nat → Prop} (xs ys : List Int) (u v : Value) (w : World) (hx : Sl S w u (ints xs)) (hy : Sl S' w v (ints ys)) :
    Calls Tryz.prog 21 #[u, v] w fun e w' => e = .returned (.bool (decide (xs = ys))) ∧ Below w.heap.size w w' := by
  obtain ⟨a, cap, rfl, h2, h3⟩ := hx.form
  obtain ⟨a', cap', rfl, h2', h3'⟩ := hy.form
  simp only [ints_length] at *
  unfold maxLen at h3 h3'
  obtain ⟨res, hres⟩ : ∃ r, decide (xs = ys) = r := ⟨_, rfl⟩
  rw [hres]
  have HR := Lib.hid hres
  have HX := Lib.hid hx
  have HY := Lib.hid hy
  obtain ⟨n, hn⟩ : ∃ n, xs.length = n := ⟨_, rfl⟩
  obtain ⟨m, hm⟩ : ∃ n, ys.length = n := ⟨_, rfl⟩
  have HN := Lib.hid hn
  have HM := Lib.hid hm
  rw [hn] at h2 HX ⊢
  rw [hm] at h2' HY ⊢
  clear hres hx hy hn hm
  go_enter Tryz.func21, Tryz.ntmps21
  by_cases hnm : n = m
  · have d0 : ((n : Int) == (m : Int)) = true := by rw [beq_iff_eq]; omega
    have d0b : ((n : Int) != (m : Int)) = false := by rw [bne_eq_false_iff_eq]; omega
    have HNM := Lib.hid hnm
    clear hnm
    go_wp2
    go_loopw [5] (fun iv wr => ∃ i : Nat, i ≤ n ∧ iv = .int .i64 i ∧ Hid (xs.take i = ys.take i) ∧ Hid (Below w.heap.size w wr)) (fun iv _ => n - (intOf iv).toNat)
    case atStart => exact ⟨0, by omega, by go_num, Lib.hid rfl, Lib.hid (Below.refl _ _)⟩
    case round =>
      obtain ⟨i, hi, rfl, HI, HB⟩ := hrel
      obtain ⟨wo, rfl⟩ : ∃ wo : World, wo = wr := ⟨_, rfl⟩
      by_cases hlt : i < n
      · have hltm : i < m := by have := HNM.out; omega
        obtain ⟨x, hxx⟩ : ∃ x, xs[i]'(by rw [HN.out]; exact hlt) = x := ⟨_, rfl⟩
        obtain ⟨y, hyy⟩ : ∃ y, ys[i]'(by rw [HM.out]; exact hltm) = y := ⟨_, rfl⟩
        obtain ⟨b, off, rfl, -, hc⟩ := Sl.at_ (HX.out.below HB.out) (intsAt (by rw [HN.out]; exact hlt))
        obtain ⟨b', off', rfl, -, hc'⟩ := Sl.at_ (HY.out.below HB.out) (intsAt (by rw [HM.out]; exact hltm))
        rw [hxx] at hc
        rw [hyy] at hc'
        obtain ⟨z, hz⟩ : ∃ z, (x != y) = z := ⟨_, rfl⟩
        have HXX := Lib.hid hxx
        have HYY := Lib.hid hyy
        have HZ := Lib.hid hz
        clear hxx hyy hz
        go_upto_region 6 with fail
        refine wp_region_seq 9 [.is (.slice (some ⟨b, off, none⟩) n cap), .is (.int .i64 (i : Int)), .is (.pointer (some ⟨b, off + i, none⟩)), .is (.int .i64 x), .is (.slice (some ⟨b', off', none⟩) m cap'), .is (.int .i64 (i : Int)), .is (.pointer (some ⟨b', off' + i, none⟩)), .is (.int .i64 y), .is (.bool z)] rfl mix (by kernel_rfl) (by kernel_rfl) ?seqm
        case seqm =>
          simp only [List.take_succ_cons, List.take_zero]
          iterate 9
            refine seq_on (by rfl) (fun w3 hb3 _ => ?_) ?_
            · have k1 := bAt hb3 hc
              have k2 := bAt hb3 hc'
              simp [opOK, go_sem, k1, k2, hlt, hltm, HZ.out, Below.refl]
              try exact rfl
            simp only [Act.put, List.setIfInBounds_toArray, List.set_cons_succ, List.set_cons_zero]
          refine seq_end fun w3 hb3 _ => ?_
          simp only [List.drop_succ_cons, List.drop_zero]
          have HB3 := Lib.hid (bThen HB.out hb3)
          clear hb3 hc hc'
          cases z
          · have hxy : x = y := by simpa using HZ.out
            have HI2 : Hid (xs.take (i + 1) = ys.take (i + 1)) := Lib.hid (by
              rw [List.take_succ_eq_append_getElem (by rw [HN.out]; exact hlt), List.take_succ_eq_append_getElem (by rw [HM.out]; exact hltm), HI.out, HXX.out, HYY.out, hxy])
            have hwi : IntKind.i64.wrap ((i : Int) + 1) = (i : Int) + 1 := wrap_small _ (by omega) (by omega)
            clear hxy
            go_wp2
            go_roundw
            case rel => exact ⟨i + 1, by omega, by go_num, HI2, HB3⟩
            case measure => simp [intOf]; omega
          · have hr : res = false := by
              rw [← HR.out, decide_eq_false_iff_not]
              intro e
              have h1 : x ≠ y := by simpa using HZ.out
              subst e
              exact h1 (by rw [← HXX.out, ← HYY.out])
            clear HR
            subst hr
            go_wp2
            go_returns
            exact ⟨rfl, HB3.out⟩
      · obtain rfl : i = n := by omega
        have hr : res = true := by
          rw [← HR.out, decide_eq_true_eq]
          have := HI.out
          rw [List.take_of_length_le (by rw [HN.out]; omega), List.take_of_length_le (by rw [HM.out]; have := HNM.out; omega)] at this
          exact this
        clear HR
        subst hr
        go_wp2
        go_returns
        exact ⟨rfl, HB.out⟩
  · have d0 : ((n : Int) == (m : Int)) = false := beq_eq_false_iff_ne.2 (by omega)
    have d0b : ((n : Int) != (m : Int)) = true := by rw [bne_iff_ne]; omega
    have hr : res = false := by rw [← HR.out, decide_eq_false_iff_not]; intro e; apply hnm; rw [← HN.out, ← HM.out, e]
    clear HR
    subst hr
    go_wp2
    go_returns
    exact ⟨rfl, Below.refl _ _⟩
set_option maxRecDepth 100000 in
set_option maxHeartbeats 1000000 in
theorem equal_any {S S' : Nat → Prop} (xs ys : List (List Int)) (u v : Value) (w : World) (hx : SlSl S w u xs) (hy : SlSl S' w v ys) :
    Calls Tryz.prog 31 #[u, v] w fun e w' => e = .returned (.bool (decide (xs = ys))) ∧ Below w.heap.size w w' := by
  obtain ⟨a, cap, rfl, h2, h3⟩ := hx.form
  obtain ⟨a', cap', rfl, h2', h3'⟩ := hy.form
  unfold maxLen at h3 h3'
  obtain ⟨res, hres⟩ : ∃ r, decide (xs = ys) = r := ⟨_, rfl⟩
  rw [hres]
  have HR := Lib.hid hres
  have HX := Lib.hid hx
  have HY := Lib.hid hy
  obtain ⟨n, hn⟩ : ∃ n, xs.length = n := ⟨_, rfl⟩
  obtain ⟨m, hm⟩ : ∃ n, ys.length = n := ⟨_, rfl⟩
  have HN := Lib.hid hn
  have HM := Lib.hid hm
  rw [hn] at h2 HX ⊢
  rw [hm] at h2' HY ⊢
  clear hres hx hy hn hm
  go_enter Tryz.func31, Tryz.ntmps31
  by_cases hnm : n = m
  · have d0 : ((n : Int) == (m : Int)) = true := by rw [beq_iff_eq]; omega
    have d0b : ((n : Int) != (m : Int)) = false := by rw [bne_eq_false_iff_eq]; omega
    have HNM := Lib.hid hnm
    clear hnm
    go_wp2
    go_loopw [5] (fun iv wr => ∃ i : Nat, i ≤ n ∧ iv = .int .i64 i ∧ Hid (xs.take i = ys.take i) ∧ Hid (Below w.heap.size w wr)) (fun iv _ => n - (intOf iv).toNat)
    case atStart => exact ⟨0, by omega, by go_num, Lib.hid rfl, Lib.hid (Below.refl _ _)⟩
    case round =>
      obtain ⟨i, hi, rfl, HI, HB⟩ := hrel
      obtain ⟨wo, rfl⟩ : ∃ wo : World, wo = wr := ⟨_, rfl⟩
      by_cases hlt : i < n
      · have hltm : i < m := by have := HNM.out; omega
        obtain ⟨x, hxx⟩ : ∃ x, xs[i]'(by rw [HN.out]; exact hlt) = x := ⟨_, rfl⟩
        obtain ⟨y, hyy⟩ : ∃ y, ys[i]'(by rw [HM.out]; exact hltm) = y := ⟨_, rfl⟩
        obtain ⟨b, off, p, rfl, -, hc, hpx⟩ := (HX.out.below HB.out).cell (i := i) (by rw [HN.out]; exact hlt)
        obtain ⟨b', off', q, rfl, -, hc', hqy⟩ := (HY.out.below HB.out).cell (i := i) (by rw [HM.out]; exact hltm)
        rw [hxx] at hpx
        rw [hyy] at hqy
        obtain ⟨pa, pc, rfl, -, -⟩ := hpx.form
        obtain ⟨qa, qc, rfl, -, -⟩ := hqy.form
        simp only [ints_length] at hpx hqy hc hc'
        have HPX := Lib.hid hpx
        have HQY := Lib.hid hqy
        clear hpx hqy
        obtain ⟨z, hz⟩ : ∃ z, (!decide (x = y)) = z := ⟨_, rfl⟩
        have HXX := Lib.hid hxx
        have HYY := Lib.hid hyy
        have HZ := Lib.hid hz
        clear hxx hyy hz
        go_upto_region 6 with fail
        refine wp_region_seq 10 [.is (.slice (some ⟨b, off, none⟩) n cap), .is (.int .i64 (i : Int)), .is (.pointer (some ⟨b, off + i, none⟩)), .is (.slice pa x.length pc), .is (.slice (some ⟨b', off', none⟩) m cap'), .is (.int .i64 (i : Int)), .is (.pointer (some ⟨b', off' + i, none⟩)), .is (.slice qa y.length qc), .is (.bool (decide (x = y))), .is (.bool z)] rfl mix (by kernel_rfl) (by kernel_rfl) ?seqm
        case seqm =>
          simp only [List.take_succ_cons, List.take_zero]
          iterate 8
            refine seq_on (by rfl) (fun w3 hb3 _ => ?_) ?_
            · have k1 := bAt hb3 hc
              have k2 := bAt hb3 hc'
              simp [opOK, go_sem, k1, k2, hlt, hltm, Below.refl]
              try exact rfl
            simp only [Act.put, List.setIfInBounds_toArray, List.set_cons_succ, List.set_cons_zero]
          refine seq_on (by rfl) (fun w3 hb3 _ => ?_) ?_
          · refine opOK_call (f := 21) (args := #[.slice pa x.length pc, .slice qa y.length qc]) (by simp [go_sem]) ?_
            refine (alike_any x y _ _ w3 (HPX.out.below hb3) (HQY.out.below hb3)).mono ?_
            rintro e W' ⟨rfl, hb⟩
            exact ⟨_, rfl, rfl, hb⟩
          simp only [Act.put, List.setIfInBounds_toArray, List.set_cons_succ, List.set_cons_zero]
          refine seq_on (by rfl) (fun w3 hb3 _ => ?_) ?_
          · have hz := HZ.out
            simp [opOK, go_sem, Below.refl]
            first | exact rfl | exact hz | simpa using hz
          simp only [Act.put, List.setIfInBounds_toArray, List.set_cons_succ, List.set_cons_zero]
          refine seq_end fun w3 hb3 _ => ?_
          simp only [List.drop_succ_cons, List.drop_zero]
          have HB3 := Lib.hid (bThen HB.out hb3)
          clear hb3 hc hc'
          cases z
          · have hxy : x = y := by simpa using HZ.out
            have HI2 : Hid (xs.take (i + 1) = ys.take (i + 1)) := Lib.hid (by
              rw [List.take_succ_eq_append_getElem (by rw [HN.out]; exact hlt), List.take_succ_eq_append_getElem (by rw [HM.out]; exact hltm), HI.out, HXX.out, HYY.out, hxy])
            have hwi : IntKind.i64.wrap ((i : Int) + 1) = (i : Int) + 1 := wrap_small _ (by omega) (by omega)
            clear hxy
            go_wp2
            go_roundw
            case rel => exact ⟨i + 1, by omega, by go_num, HI2, HB3⟩
            case measure => simp [intOf]; omega
          · have hr : res = false := by
              rw [← HR.out, decide_eq_false_iff_not]
              intro e
              have h1 : x ≠ y := by simpa using HZ.out
              subst e
              exact h1 (by rw [← HXX.out, ← HYY.out])
            clear HR
            subst hr
            go_wp2
            go_returns
            exact ⟨rfl, HB3.out⟩
      · obtain rfl : i = n := by omega
        have hr : res = true := by
          rw [← HR.out, decide_eq_true_eq]
          have := HI.out
          rw [List.take_of_length_le (by rw [HN.out]; omega), List.take_of_length_le (by rw [HM.out]; have := HNM.out; omega)] at this
          exact this
        clear HR
        subst hr
        go_wp2
        go_returns
        exact ⟨rfl, HB.out⟩
  · have d0 : ((n : Int) == (m : Int)) = false := beq_eq_false_iff_ne.2 (by omega)
    have d0b : ((n : Int) != (m : Int)) = true := by rw [bne_iff_ne]; omega
    have hr : res = false := by rw [← HR.out, decide_eq_false_iff_not]; intro e; apply hnm; rw [← HN.out, ← HM.out, e]
    clear HR
    subst hr
    go_wp2
    go_returns
    exact ⟨rfl, Below.refl _ _⟩
end Go.Proofs.YtpfpjbglpibdoaaGreatDoor

/- Chapter 5, in plain Lean: the document's examples. -/
namespace Go.Proofs.YtpfpjbglpibdoaaGreatDoor
open Go.RowKit Go.Oche Go.Proofs
set_option maxRecDepth 100000

def repK : List Rp := [⟨1, -1, 44⟩, ⟨3, 6, -1⟩, ⟨0, 40, -1⟩]
theorem k_open : openE leg5K ⟨2, true⟩ = 0 := by decide +kernel
theorem k_wins : winsL leg5K ⟨2, true⟩ = true := by decide +kernel
theorem k_vis : (vis5 leg5K ⟨2, true⟩).all (fun p => p.1.won || decide ((2 : Int) - p.1.left = 0)) = true := by decide +kernel
theorem k_vis0 : (vis5 leg5K ⟨2, true⟩).any (fun p => !p.1.won && decide ((2 : Int) - p.1.left = 0)) = true := by decide +kernel
theorem k_scores {xs : List Int} (h : IsScores leg5K ⟨2, true⟩ xs) : xs = [0] := by
  obtain ⟨h1, h2⟩ := h
  have a1 : ∀ x ∈ xs, x = 0 := fun x hx => by
    obtain ⟨p, hp, hw, hd⟩ := (h2 x).1 hx
    have := List.all_eq_true.1 k_vis p hp
    rw [hw, Bool.false_or, decide_eq_true_eq] at this
    rw [← hd]; exact this
  have a2 : (0 : Int) ∈ xs := by
    obtain ⟨p, hp, hq⟩ := List.any_eq_true.1 k_vis0
    rw [Bool.and_eq_true, decide_eq_true_eq, Bool.not_eq_true'] at hq
    exact (h2 0).2 ⟨p, hp, hq.1, hq.2⟩
  match xs, h1, a1, a2 with
  | [], _, _, h => cases h
  | [x], _, a1, _ => rw [a1 x (by simp)]
  | x :: y :: xs, h1, a1, _ =>
    rw [List.pairwise_cons] at h1
    have := h1.1 y (by simp)
    rw [a1 x (by simp), a1 y (by simp)] at this
    omega
theorem k_waysE : waysE leg5K ⟨2, true⟩ 0 = 0 := by decide +kernel
theorem k_waysR : waysR leg5K ⟨2, true⟩ 0 = ⟨13, 1, 3⟩ := by decide +kernel
theorem k_truth : truthE leg5K [] = 0 := by decide +kernel
theorem k_truth9 : truthE leg5K repK = 9 := by decide +kernel
theorem k_score : ((List.range leg5K.turns.toNat).map fun t => (trL (keptL leg5K (allS []) t)).score) = [(0, 44), (6, 44), (0, 44), (6, 44)] := by decide +kernel
theorem k_left : ((List.range leg5K.turns.toNat).map fun t => (trL (keptL leg5K (allS []) t)).left) = [(6, 50), (6, 44), (2, 50), (0, 0)] := by decide +kernel
theorem k_darts : ((List.range leg5K.turns.toNat).map fun t => (trL (keptL leg5K (allS []) t)).darts) = [(1, 3), (3, 3), (1, 3), (3, 3)] := by decide +kernel
theorem k_blameE : blameE leg5K repK = 0 := by decide +kernel
theorem k_dropE : dropE leg5K repK = 0 := by decide +kernel
theorem k_isBlame : ∀ s : Fin 8, isBlame leg5K repK s.val = (s.val == 3 || s.val == 7) := by decide +kernel
theorem k_isDrop : ∀ s : Fin 8, isDrop leg5K repK s.val = (s.val != 0 && s.val != 4) := by decide +kernel
theorem k_blame {out : List (List Nat)} (h : Blames leg5K repK out) : out = [[0, 1]] := by
  have hi : LeastInv 3 (isBlame leg5K repK) (2 ^ 3) 2 [3] := by
    refine ⟨by simp, fun s => ?_, fun s hs hi => ?_, by decide, fun e => by cases e⟩
    · by_cases c : s < 8
      · rw [show isBlame leg5K repK s = _ from k_isBlame ⟨s, c⟩]
        have : ∀ s : Fin 8, s.val ∈ [3] ↔ s.val < 2 ^ 3 ∧ (s.val == 3 || s.val == 7) = true ∧ (bitsN 3 s.val).length = 2 := by decide +kernel
        exact this ⟨s, c⟩
      · constructor
        · intro e; rw [List.mem_singleton] at e; omega
        · intro e; have := e.1; omega
    · rw [show isBlame leg5K repK s = _ from k_isBlame ⟨s, hs⟩] at hi
      have : ∀ s : Fin 8, (s.val == 3 || s.val == 7) = true → 2 ≤ (bitsN 3 s.val).length := by decide +kernel
      exact this ⟨s, hs⟩ hi
  have h0 := hi.done (by decide) (ys := [kS 3]) (List.Perm.refl _) (fun p q h1 h2 => by simp at h2; omega)
  exact IsMin.unique h h0
theorem k_drop {out : List (List Nat)} (h : Drops leg5K repK out) : out = [[0], [1]] := by
  have hi : LeastInv 3 (isDrop leg5K repK) (2 ^ 3) 1 [1, 2] := by
    refine ⟨by simp, fun s => ?_, fun s hs hi => ?_, by decide, fun e => by cases e⟩
    · by_cases c : s < 8
      · rw [show isDrop leg5K repK s = _ from k_isDrop ⟨s, c⟩]
        have : ∀ s : Fin 8, s.val ∈ [1, 2] ↔ s.val < 2 ^ 3 ∧ (s.val != 0 && s.val != 4) = true ∧ (bitsN 3 s.val).length = 1 := by decide +kernel
        exact this ⟨s, c⟩
      · constructor
        · intro e; simp at e; omega
        · intro e; have := e.1; omega
    · rw [show isDrop leg5K repK s = _ from k_isDrop ⟨s, hs⟩] at hi
      have : ∀ s : Fin 8, (s.val != 0 && s.val != 4) = true → 1 ≤ (bitsN 3 s.val).length := by decide +kernel
      exact this ⟨s, hs⟩ hi
  have h0 := hi.done (by decide) (ys := [kS 1, kS 2]) (List.Perm.refl _) (fun p q h1 h2 => by
    have : p = 0 ∧ q = 1 := by simp at h2; omega
    rw [this.1, this.2]; decide)
  exact IsMin.unique h h0
end Go.Proofs.YtpfpjbglpibdoaaGreatDoor

/- Chapter 5: the document's examples (known). -/
namespace Go.Proofs.YtpfpjbglpibdoaaGreatDoor
open Go.RowKit Go.Oche Go.Proofs

theorem slN_blk {k b : Nat} {w : World} {t : TypeId} {fz : Nat × Nat} {cs : Array Value} {rows : List (List Value)} (h : w.heap[b]? = some (.cells cs t fz)) (hcs : cs.toList = rows.flatten) (hr : ∀ r ∈ rows, r.length = k) (hl : rows.length ≤ maxLen) :
    SlN k (fun _ => True) w (.slice (some ⟨b, 0, none⟩) rows.length rows.length) rows := by
  refine ⟨_, _, rfl, Nat.le_refl _, hl, fun i r hi => ⟨hr r (List.mem_of_getElem? hi), b, 0, rfl, trivial, fun j x hx => ?_⟩⟩
  have h2 := SlN.of_owns.flat_at (n := 0) (c := 0) (rows := []) hr hi hx
  rw [← hcs] at h2
  rw [cell_of_heap h, Nat.zero_add]
  simpa using h2
def kSS (gs : List (List Int)) : Kn where
  s := fun v => ∃ b, v = .slice (some ⟨b, 0, none⟩) gs.length gs.length
  p := fun v w => SlSl (fun _ => True) w v gs
  m := fun _ _ _ hb h => h.below hb
theorem slsl_one (w : World) (b : Nat) (xs : List Int) (h : w.heap[b]? = some (.cells (ints xs).toArray 3 (0, 0))) (hl : xs.length ≤ 100 := by decide) : SlSl (fun _ => True) (w.alloc (.cells #[.slice (some ⟨b, 0, none⟩) xs.length xs.length] 35)) (.slice (some ⟨w.heap.size, 0, none⟩) 1 1) [xs] := by
  refine ⟨[.slice (some ⟨b, 0, none⟩) xs.length xs.length], sl_blk (xs := [_]) (World.alloc_heap_new _ _) (by simp [maxLen]), rfl, fun i hi => ?_⟩
  match i, hi with
  | 0, _ =>
    have := sl_blk (xs := ints xs) h (by simp [maxLen]; omega)
    rw [ints_length] at this
    exact ⟨_, rfl, this.below (aB _ _)⟩
  | i + 1, hi => simp at hi
theorem slsl_two (w : World) (b c : Nat) (xs ys : List Int) (h : w.heap[b]? = some (.cells (ints xs).toArray 3 (0, 0))) (h' : w.heap[c]? = some (.cells (ints ys).toArray 3 (0, 0))) (hl : xs.length ≤ 100 := by decide) (hl' : ys.length ≤ 100 := by decide) : SlSl (fun _ => True) (w.alloc (.cells #[.slice (some ⟨b, 0, none⟩) xs.length xs.length, .slice (some ⟨c, 0, none⟩) ys.length ys.length] 35)) (.slice (some ⟨w.heap.size, 0, none⟩) 2 2) [xs, ys] := by
  refine ⟨[.slice (some ⟨b, 0, none⟩) xs.length xs.length, .slice (some ⟨c, 0, none⟩) ys.length ys.length], sl_blk (xs := [_, _]) (World.alloc_heap_new _ _) (by simp [maxLen]), rfl, fun i hi => ?_⟩
  have h1 := sl_blk (xs := ints xs) h (by simp [maxLen]; omega)
  rw [ints_length] at h1
  have h2 := sl_blk (xs := ints ys) h' (by simp [maxLen]; omega)
  rw [ints_length] at h2
  match i, hi with
  | 0, _ => exact ⟨_, rfl, h1.below (aB _ _)⟩
  | 1, _ => exact ⟨_, rfl, h2.below (aB _ _)⟩
  | i + 2, hi => simp at hi; omega
theorem leg5K_in : BedsIn leg5K := by intro b hb; simp [leg5K] at hb; omega
set_option maxRecDepth 100000 in
set_option maxHeartbeats 4000000 in
theorem known_any (w : World) (hT : Tab5 w) : Calls Tryz.prog 13 #[] w fun e w' => e = .returned (.bool true) ∧ Below w.heap.size w w' := by
  have HT := Lib.hid hT
  clear hT
  go_enter Tryz.func13, Tryz.ntmps13
  -- Visits
  go_wp2_with fail
  refine (leg_any w).mono ?_
  rintro e w1 ⟨bv, rfl, hb1, hs1⟩
  have HB1 := Lib.hid hb1
  clear hb1
  go_wp2_with fail
  have hcall := visits2_any leg5K bv ⟨2, true⟩ w1 hs1 leg5K_in
  rw [k_open] at hcall
  refine hcall.mono ?_
  rintro e w2 ⟨sv, xs, wn, rfl, hb2, hs2, -, hk⟩
  obtain ⟨hxs, rfl⟩ := hk rfl
  obtain rfl := k_scores hxs
  rw [k_wins]
  have HB2 := Lib.hid (bThen HB1.out hb2)
  have HS2 := Lib.hid hs2
  clear hcall hb2 hs2 hxs hk hs1
  -- Ways
  go_wp2_with fail
  refine (leg_any w2).mono ?_
  rintro e w3 ⟨bv3, rfl, hb3, hs3⟩
  have HB3 := Lib.hid (bThen HB2.out hb3)
  have HS3 := Lib.hid (HS2.out.below hb3)
  clear hb3 HS2
  go_wp2_with fail
  have hcall := ways_any leg5K bv3 ⟨2, true⟩ 0 w3 hs3 leg5K_in
  rw [k_waysE, k_waysR] at hcall
  refine hcall.mono ?_
  rintro e w4 ⟨rfl, hb4⟩
  have HB4 := Lib.hid (bThen HB3.out hb4)
  have HS4 := Lib.hid (HS3.out.below hb4)
  clear hcall hb4 hs3 HS3
  go_upto_region 3 with fail
  obtain ⟨w5, hw5⟩ : ∃ x, w4.alloc (.cells #[.int .i64 1, .int .i64 3] 48) = x := ⟨_, rfl⟩
  have hb5 : Below w4.heap.size w4 w5 := by rw [← hw5]; exact aB _ _
  obtain ⟨D, hD⟩ : ∃ D, w4.heap.size = D := ⟨_, rfl⟩
  have k5 : w5.heap[D]? = some (.cells #[.int .i64 1, .int .i64 3] 48 (0, 0)) := by rw [← hw5, ← hD]; exact World.alloc_heap_new _ _
  have d0 : w5.cell? ⟨D, 0, none⟩ = some (.int .i64 1) := by rw [cell_of_heap k5]; rfl
  have d1 : w5.cell? ⟨D, 1, none⟩ = some (.int .i64 3) := by rw [cell_of_heap k5]; rfl
  have HB5 := Lib.hid (bThen HB4.out hb5)
  have HS5 := Lib.hid (HS4.out.below hb5)
  rw [hw5, hD]
  clear hb5 k5 hw5 hD HS4
  -- Truth
  go_wp2_with fail
  refine (leg_any w5).mono ?_
  rintro e w6 ⟨bv6, rfl, hb6, hs6⟩
  have HB6 := Lib.hid (bThen HB5.out hb6)
  have HS6 := Lib.hid (HS5.out.below hb6)
  have d0 := bAt hb6 d0
  have d1 := bAt hb6 d1
  clear hb6 HS5
  go_wp2_with fail
  have hcall := truth_any (S' := fun _ => True) leg5K bv6 (.slice none 0 0) [] w6 hs6 leg5K_in (SlN.nil 3 _ w6)
  rw [k_truth] at hcall
  refine hcall.mono ?_
  rintro e w7 ⟨v1, v2, v3, rfl, hb7, -, hk⟩
  obtain ⟨g1, g2, g3, rfl, rfl, rfl, -, -, -, q1, q2, q3⟩ := hk rfl
  rw [k_score] at q1
  rw [k_left] at q2
  rw [k_darts] at q3
  rw [show leg5K.turns.toNat = 4 from rfl]
  have s10 : w7.cell? ⟨g1, 2, none⟩ = some (.int .i64 6) := by rw [cell_of_heap q1]; rfl
  have s11 : w7.cell? ⟨g1, 3, none⟩ = some (.int .i64 44) := by rw [cell_of_heap q1]; rfl
  have s20 : w7.cell? ⟨g1, 4, none⟩ = some (.int .i64 0) := by rw [cell_of_heap q1]; rfl
  have s21 : w7.cell? ⟨g1, 5, none⟩ = some (.int .i64 44) := by rw [cell_of_heap q1]; rfl
  have l10 : w7.cell? ⟨g2, 2, none⟩ = some (.int .i64 6) := by rw [cell_of_heap q2]; rfl
  have l11 : w7.cell? ⟨g2, 3, none⟩ = some (.int .i64 44) := by rw [cell_of_heap q2]; rfl
  have l20 : w7.cell? ⟨g2, 4, none⟩ = some (.int .i64 2) := by rw [cell_of_heap q2]; rfl
  have l21 : w7.cell? ⟨g2, 5, none⟩ = some (.int .i64 50) := by rw [cell_of_heap q2]; rfl
  have l30 : w7.cell? ⟨g2, 6, none⟩ = some (.int .i64 0) := by rw [cell_of_heap q2]; rfl
  have l31 : w7.cell? ⟨g2, 7, none⟩ = some (.int .i64 0) := by rw [cell_of_heap q2]; rfl
  have t10 : w7.cell? ⟨g3, 2, none⟩ = some (.int .i64 3) := by rw [cell_of_heap q3]; rfl
  have t11 : w7.cell? ⟨g3, 3, none⟩ = some (.int .i64 3) := by rw [cell_of_heap q3]; rfl
  have HB7 := Lib.hid (bThen HB6.out hb7)
  have HS7 := Lib.hid (HS6.out.below hb7)
  have d0 := bAt hb7 d0
  have d1 := bAt hb7 d1
  clear hcall hb7 hk q1 q2 q3 hs6 HS6
  go_upto_region 5 with fail
  obtain ⟨w8, hw8⟩ : ∃ x, w7.alloc (.cells #[.int .i64 1, .int .i64 (-1), .int .i64 44, .int .i64 3, .int .i64 6, .int .i64 (-1), .int .i64 0, .int .i64 40, .int .i64 (-1)] 83) = x := ⟨_, rfl⟩
  have hb8 : Below w7.heap.size w7 w8 := by rw [← hw8]; exact aB _ _
  obtain ⟨E, hE⟩ : ∃ D, w7.heap.size = D := ⟨_, rfl⟩
  have k8 : w8.heap[E]? = some (.cells #[.int .i64 1, .int .i64 (-1), .int .i64 44, .int .i64 3, .int .i64 6, .int .i64 (-1), .int .i64 0, .int .i64 40, .int .i64 (-1)] 83 (0, 0)) := by rw [← hw8, ← hE]; exact World.alloc_heap_new _ _
  have HL8 : Hid (SlN 3 (fun _ => True) w8 (.slice (some ⟨E, 0, none⟩) 3 3) (repK.map rpRow)) := Lib.hid (slN_blk (k := 3) (rows := repK.map rpRow) k8 rfl (by simp [repK, rpRow]) (by simp [repK, maxLen]))
  have HB8 := Lib.hid (bThen HB7.out hb8)
  have HS8 := Lib.hid (HS7.out.below hb8)
  have d0 := bAt hb8 d0
  have d1 := bAt hb8 d1
  have s10 := bAt hb8 s10
  have s11 := bAt hb8 s11
  have s20 := bAt hb8 s20
  have s21 := bAt hb8 s21
  have l10 := bAt hb8 l10
  have l11 := bAt hb8 l11
  have l20 := bAt hb8 l20
  have l21 := bAt hb8 l21
  have l30 := bAt hb8 l30
  have l31 := bAt hb8 l31
  have t10 := bAt hb8 t10
  have t11 := bAt hb8 t11
  rw [hw8, hE]
  clear hb8 k8 hw8 hE HS7
  -- Blame
  go_wp2_with fail
  refine (leg_any w8).mono ?_
  rintro e w9 ⟨bv9, rfl, hb9, hs9⟩
  have HL9 := Lib.hid (HL8.out.below hb9)
  have HB9 := Lib.hid (bThen HB8.out hb9)
  have HS9 := Lib.hid (HS8.out.below hb9)
  have d0 := bAt hb9 d0
  have d1 := bAt hb9 d1
  have s10 := bAt hb9 s10
  have s11 := bAt hb9 s11
  have s20 := bAt hb9 s20
  have s21 := bAt hb9 s21
  have l10 := bAt hb9 l10
  have l11 := bAt hb9 l11
  have l20 := bAt hb9 l20
  have l21 := bAt hb9 l21
  have l30 := bAt hb9 l30
  have l31 := bAt hb9 l31
  have t10 := bAt hb9 t10
  have t11 := bAt hb9 t11
  clear hb9 HS8 HL8
  go_wp2_with fail
  have hcall := blame_any leg5K bv9 (.slice (some ⟨E, 0, none⟩) 3 3) repK w9 hs9 leg5K_in HL9.out (.inl (by decide)) (HT.out.below HB9.out)
  rw [k_blameE] at hcall
  refine hcall.mono ?_
  rintro e wa ⟨vb, out, rfl, hba, -, hk⟩
  obtain ⟨hbl, hsl⟩ := hk rfl
  obtain rfl := k_blame hbl
  have HBLA := Lib.hid hsl
  have HLA := Lib.hid (HL9.out.below hba)
  have HBA := Lib.hid (bThen HB9.out hba)
  have HSA := Lib.hid (HS9.out.below hba)
  have d0 := bAt hba d0
  have d1 := bAt hba d1
  have s10 := bAt hba s10
  have s11 := bAt hba s11
  have s20 := bAt hba s20
  have s21 := bAt hba s21
  have l10 := bAt hba l10
  have l11 := bAt hba l11
  have l20 := bAt hba l20
  have l21 := bAt hba l21
  have l30 := bAt hba l30
  have l31 := bAt hba l31
  have t10 := bAt hba t10
  have t11 := bAt hba t11
  clear hcall hba hk hbl hsl hs9 HS9 HL9
  -- Drop
  go_wp2_with fail
  refine (leg_any wa).mono ?_
  rintro e wb ⟨bvb, rfl, hbb, hsb⟩
  have HLB := Lib.hid (HLA.out.below hbb)
  have HBLB := Lib.hid (HBLA.out.below hbb)
  have HBB := Lib.hid (bThen HBA.out hbb)
  have HSB := Lib.hid (HSA.out.below hbb)
  have d0 := bAt hbb d0
  have d1 := bAt hbb d1
  have s10 := bAt hbb s10
  have s11 := bAt hbb s11
  have s20 := bAt hbb s20
  have s21 := bAt hbb s21
  have l10 := bAt hbb l10
  have l11 := bAt hbb l11
  have l20 := bAt hbb l20
  have l21 := bAt hbb l21
  have l30 := bAt hbb l30
  have l31 := bAt hbb l31
  have t10 := bAt hbb t10
  have t11 := bAt hbb t11
  clear hbb HSA HLA HBLA
  go_wp2_with fail
  have hcall := drop_any leg5K bvb (.slice (some ⟨E, 0, none⟩) 3 3) repK wb hsb leg5K_in HLB.out (.inl (by decide)) (HT.out.below HBB.out)
  rw [k_dropE] at hcall
  refine hcall.mono ?_
  rintro e wc ⟨vd, out, rfl, hbc, -, hk⟩
  obtain ⟨hbl, hsl⟩ := hk rfl
  obtain rfl := k_drop hbl
  have HDRC := Lib.hid hsl
  have HLC := Lib.hid (HLB.out.below hbc)
  have HBLC := Lib.hid (HBLB.out.below hbc)
  have HBC := Lib.hid (bThen HBB.out hbc)
  have HSC := Lib.hid (HSB.out.below hbc)
  have d0 := bAt hbc d0
  have d1 := bAt hbc d1
  have s10 := bAt hbc s10
  have s11 := bAt hbc s11
  have s20 := bAt hbc s20
  have s21 := bAt hbc s21
  have l10 := bAt hbc l10
  have l11 := bAt hbc l11
  have l20 := bAt hbc l20
  have l21 := bAt hbc l21
  have l30 := bAt hbc l30
  have l31 := bAt hbc l31
  have t10 := bAt hbc t10
  have t11 := bAt hbc t11
  clear hcall hbc hk hbl hsl hsb HSB HLB HBLB
  -- Truth again
  go_wp2_with fail
  refine (leg_any wc).mono ?_
  rintro e wd ⟨bvd, rfl, hbd, hsd⟩
  have HLD := Lib.hid (HLC.out.below hbd)
  have HBLD := Lib.hid (HBLC.out.below hbd)
  have HDRD := Lib.hid (HDRC.out.below hbd)
  have HBD := Lib.hid (bThen HBC.out hbd)
  have HSD := Lib.hid (HSC.out.below hbd)
  have d0 := bAt hbd d0
  have d1 := bAt hbd d1
  have s10 := bAt hbd s10
  have s11 := bAt hbd s11
  have s20 := bAt hbd s20
  have s21 := bAt hbd s21
  have l10 := bAt hbd l10
  have l11 := bAt hbd l11
  have l20 := bAt hbd l20
  have l21 := bAt hbd l21
  have l30 := bAt hbd l30
  have l31 := bAt hbd l31
  have t10 := bAt hbd t10
  have t11 := bAt hbd t11
  clear hbd HSC HLC HBLC HDRC
  go_wp2_with fail
  have hcall := truth_any leg5K bvd (.slice (some ⟨E, 0, none⟩) 3 3) repK wd hsd leg5K_in HLD.out
  rw [k_truth9] at hcall
  refine hcall.mono ?_
  rintro e we ⟨u1, u2, u3, rfl, hbe, hk, -⟩
  obtain ⟨rfl, rfl, rfl⟩ := hk (by decide)
  have HBLE := Lib.hid (HBLD.out.below hbe)
  have HDRE := Lib.hid (HDRD.out.below hbe)
  have HBE := Lib.hid (bThen HBD.out hbe)
  have HSE := Lib.hid (HSD.out.below hbe)
  have d0 := bAt hbe d0
  have d1 := bAt hbe d1
  have s10 := bAt hbe s10
  have s11 := bAt hbe s11
  have s20 := bAt hbe s20
  have s21 := bAt hbe s21
  have l10 := bAt hbe l10
  have l11 := bAt hbe l11
  have l20 := bAt hbe l20
  have l21 := bAt hbe l21
  have l30 := bAt hbe l30
  have l31 := bAt hbe l31
  have t10 := bAt hbe t10
  have t11 := bAt hbe t11
  clear hcall hbe hk hsd HSD HLD HBLD HDRD
  go_upto_region 10 with fail
  refine wp_region_seqW (.is (sv) :: kSl 3 [.int .i64 0] :: .is (.bool true) :: .is (.bool true) :: .is (.bool true) :: .is (.bool true) :: .is (.bool true) :: .is (.int .i64 13) :: .is (.bool true) :: .is (.bool true) :: .is (.bool true) :: .is (.agg #[.int .i64 1, .int .i64 3]) :: .is (.agg #[.int .i64 1, .int .i64 3]) :: .is (.bool true) :: .is (.bool true) :: .is (.bool true) :: .is (.slice (some ⟨g1, 0, none⟩) 4 4) :: .is (.pointer (some ⟨g1, 2, none⟩)) :: .is (.agg #[.int .i64 6, .int .i64 44]) :: .is (.agg #[.int .i64 6, .int .i64 44]) :: .is (.bool true) :: .is (.bool true) :: .is (.bool true) :: .is (.slice (some ⟨g2, 0, none⟩) 4 4) :: .is (.pointer (some ⟨g2, 2, none⟩)) :: .is (.agg #[.int .i64 6, .int .i64 44]) :: .is (.agg #[.int .i64 6, .int .i64 44]) :: .is (.bool true) :: .is (.bool true) :: .is (.bool true) :: .is (.slice (some ⟨g3, 0, none⟩) 4 4) :: .is (.pointer (some ⟨g3, 2, none⟩)) :: .is (.agg #[.int .i64 3, .int .i64 3]) :: .is (.agg #[.int .i64 3, .int .i64 3]) :: .is (.bool true) :: .is (.bool true) :: .is (.bool true) :: .is (.slice (some ⟨g1, 0, none⟩) 4 4) :: .is (.pointer (some ⟨g1, 4, none⟩)) :: .is (.agg #[.int .i64 0, .int .i64 44]) :: .is (.agg #[.int .i64 0, .int .i64 44]) :: .is (.bool true) :: .is (.bool true) :: .is (.bool true) :: .is (.slice (some ⟨g2, 0, none⟩) 4 4) :: .is (.pointer (some ⟨g2, 4, none⟩)) :: .is (.agg #[.int .i64 2, .int .i64 50]) :: .is (.agg #[.int .i64 2, .int .i64 50]) :: .is (.bool true) :: .is (.bool true) :: .is (.bool true) :: .is (.slice (some ⟨g2, 0, none⟩) 4 4) :: .is (.pointer (some ⟨g2, 6, none⟩)) :: .is (.agg #[.int .i64 0, .int .i64 0]) :: .is (.agg #[.int .i64 0, .int .i64 0]) :: .is (.bool true) :: .is (.bool true) :: .is (.bool true) :: .is (vb) :: kSl 3 [.int .i64 0, .int .i64 1] :: kSS [[0, 1]] :: .is (.bool true) :: .is (.bool true) :: .is (.bool true) :: .is (vd) :: kSl 3 [.int .i64 0] :: kSl 3 [.int .i64 1] :: kSS [[0], [1]] :: .is (.bool true) :: .is (.bool true) :: .is (.bool true) :: []) rfl mix (by kernel_rfl) (by kernel_rfl) ?seqm
  case seqm =>
    refine seq_on (by rfl) (fun w3 hb3 _ => ?_) ?_
    · simp [opOK, go_sem, Below.refl]
      try exact rfl
    simp only [Act.put, List.setIfInBounds_toArray, List.set_cons_succ, List.set_cons_zero]
    refine seq_new ⟨_, 0, rfl⟩ (by rfl) (fun w3 hb3 hH => ?_) ?_
    · exact opOK_val (v := .slice (some ⟨w3.heap.size, 0, none⟩) 1 1) (w' := w3.alloc (.cells #[.int .i64 0] 3)) (by simp [go_sem, execOp]) ⟨aB _ _, ⟨_, rfl⟩, _, rfl, World.alloc_heap_new _ _⟩
    rintro _ ⟨p1, rfl⟩
    simp only [Act.put, List.setIfInBounds_toArray, List.set_cons_succ, List.set_cons_zero]
    refine seq_on (by rfl) (fun w3 hb3 hH => ?_) ?_
    · have hsl := hH ⟨1, .data⟩ (by simp) rfl
      simp [addH, kSl] at hsl
      refine opOK_call (f := 21) (args := #[sv, .slice (some ⟨p1, 0, none⟩) 1 1]) (by simp [go_sem]) ?_
      exact (alike_any [0] [0] _ _ w3 (HSE.out.below hb3) (sl_blk (t := 3) (xs := ints [0]) hsl (by simp [maxLen]))).mono fun e W' ⟨he, hb⟩ => ⟨_, he, rfl, hb⟩
    simp only [Act.put, List.setIfInBounds_toArray, List.set_cons_succ, List.set_cons_zero]
    iterate 8
      refine seq_on (by rfl) (fun w3 hb3 _ => ?_) ?_
      · simp [opOK, go_sem, Below.refl]
        try exact rfl
      simp only [Act.put, List.setIfInBounds_toArray, List.set_cons_succ, List.set_cons_zero]
    refine seq_on (by rfl) (fun w3 hb3 _ => ?_) ?_
    · have d0' := bAt hb3 d0
      have d1' := bAt hb3 d1
      simp [opOK, go_sem, d0', d1', Below.refl]
      try exact rfl
    simp only [Act.put, List.setIfInBounds_toArray, List.set_cons_succ, List.set_cons_zero]
    refine seq_on (by rfl) (fun w3 hb3 hH => ?_) ?_
    · refine opOK_call (f := 23) (args := #[.int .i64 1, .int .i64 3]) (by simp [go_sem]) ?_
      exact (to_any 1 3 w3).mono fun e W' ⟨he, hb⟩ => ⟨_, he, rfl, hb⟩
    simp only [Act.put, List.setIfInBounds_toArray, List.set_cons_succ, List.set_cons_zero]
    iterate 5
      refine seq_on (by rfl) (fun w3 hb3 _ => ?_) ?_
      · simp [opOK, go_sem, Below.refl]
        try exact rfl
      simp only [Act.put, List.setIfInBounds_toArray, List.set_cons_succ, List.set_cons_zero]
    refine seq_on (by rfl) (fun w3 hb3 _ => ?_) ?_
    · have s10' := bAt hb3 s10
      have s11' := bAt hb3 s11
      simp [opOK, go_sem, s10', s11', Below.refl]
      try exact rfl
    simp only [Act.put, List.setIfInBounds_toArray, List.set_cons_succ, List.set_cons_zero]
    refine seq_on (by rfl) (fun w3 hb3 hH => ?_) ?_
    · refine opOK_call (f := 23) (args := #[.int .i64 6, .int .i64 44]) (by simp [go_sem]) ?_
      exact (to_any 6 44 w3).mono fun e W' ⟨he, hb⟩ => ⟨_, he, rfl, hb⟩
    simp only [Act.put, List.setIfInBounds_toArray, List.set_cons_succ, List.set_cons_zero]
    iterate 5
      refine seq_on (by rfl) (fun w3 hb3 _ => ?_) ?_
      · simp [opOK, go_sem, Below.refl]
        try exact rfl
      simp only [Act.put, List.setIfInBounds_toArray, List.set_cons_succ, List.set_cons_zero]
    refine seq_on (by rfl) (fun w3 hb3 _ => ?_) ?_
    · have l10' := bAt hb3 l10
      have l11' := bAt hb3 l11
      simp [opOK, go_sem, l10', l11', Below.refl]
      try exact rfl
    simp only [Act.put, List.setIfInBounds_toArray, List.set_cons_succ, List.set_cons_zero]
    refine seq_on (by rfl) (fun w3 hb3 hH => ?_) ?_
    · refine opOK_call (f := 23) (args := #[.int .i64 6, .int .i64 44]) (by simp [go_sem]) ?_
      exact (to_any 6 44 w3).mono fun e W' ⟨he, hb⟩ => ⟨_, he, rfl, hb⟩
    simp only [Act.put, List.setIfInBounds_toArray, List.set_cons_succ, List.set_cons_zero]
    iterate 5
      refine seq_on (by rfl) (fun w3 hb3 _ => ?_) ?_
      · simp [opOK, go_sem, Below.refl]
        try exact rfl
      simp only [Act.put, List.setIfInBounds_toArray, List.set_cons_succ, List.set_cons_zero]
    refine seq_on (by rfl) (fun w3 hb3 _ => ?_) ?_
    · have t10' := bAt hb3 t10
      have t11' := bAt hb3 t11
      simp [opOK, go_sem, t10', t11', Below.refl]
      try exact rfl
    simp only [Act.put, List.setIfInBounds_toArray, List.set_cons_succ, List.set_cons_zero]
    refine seq_on (by rfl) (fun w3 hb3 hH => ?_) ?_
    · refine opOK_call (f := 23) (args := #[.int .i64 3, .int .i64 3]) (by simp [go_sem]) ?_
      exact (to_any 3 3 w3).mono fun e W' ⟨he, hb⟩ => ⟨_, he, rfl, hb⟩
    simp only [Act.put, List.setIfInBounds_toArray, List.set_cons_succ, List.set_cons_zero]
    iterate 5
      refine seq_on (by rfl) (fun w3 hb3 _ => ?_) ?_
      · simp [opOK, go_sem, Below.refl]
        try exact rfl
      simp only [Act.put, List.setIfInBounds_toArray, List.set_cons_succ, List.set_cons_zero]
    refine seq_on (by rfl) (fun w3 hb3 _ => ?_) ?_
    · have s20' := bAt hb3 s20
      have s21' := bAt hb3 s21
      simp [opOK, go_sem, s20', s21', Below.refl]
      try exact rfl
    simp only [Act.put, List.setIfInBounds_toArray, List.set_cons_succ, List.set_cons_zero]
    refine seq_on (by rfl) (fun w3 hb3 hH => ?_) ?_
    · refine opOK_call (f := 23) (args := #[.int .i64 0, .int .i64 44]) (by simp [go_sem]) ?_
      exact (to_any 0 44 w3).mono fun e W' ⟨he, hb⟩ => ⟨_, he, rfl, hb⟩
    simp only [Act.put, List.setIfInBounds_toArray, List.set_cons_succ, List.set_cons_zero]
    iterate 5
      refine seq_on (by rfl) (fun w3 hb3 _ => ?_) ?_
      · simp [opOK, go_sem, Below.refl]
        try exact rfl
      simp only [Act.put, List.setIfInBounds_toArray, List.set_cons_succ, List.set_cons_zero]
    refine seq_on (by rfl) (fun w3 hb3 _ => ?_) ?_
    · have l20' := bAt hb3 l20
      have l21' := bAt hb3 l21
      simp [opOK, go_sem, l20', l21', Below.refl]
      try exact rfl
    simp only [Act.put, List.setIfInBounds_toArray, List.set_cons_succ, List.set_cons_zero]
    refine seq_on (by rfl) (fun w3 hb3 hH => ?_) ?_
    · refine opOK_call (f := 23) (args := #[.int .i64 2, .int .i64 50]) (by simp [go_sem]) ?_
      exact (to_any 2 50 w3).mono fun e W' ⟨he, hb⟩ => ⟨_, he, rfl, hb⟩
    simp only [Act.put, List.setIfInBounds_toArray, List.set_cons_succ, List.set_cons_zero]
    iterate 5
      refine seq_on (by rfl) (fun w3 hb3 _ => ?_) ?_
      · simp [opOK, go_sem, Below.refl]
        try exact rfl
      simp only [Act.put, List.setIfInBounds_toArray, List.set_cons_succ, List.set_cons_zero]
    refine seq_on (by rfl) (fun w3 hb3 _ => ?_) ?_
    · have l30' := bAt hb3 l30
      have l31' := bAt hb3 l31
      simp [opOK, go_sem, l30', l31', Below.refl]
      try exact rfl
    simp only [Act.put, List.setIfInBounds_toArray, List.set_cons_succ, List.set_cons_zero]
    refine seq_on (by rfl) (fun w3 hb3 hH => ?_) ?_
    · refine opOK_call (f := 23) (args := #[.int .i64 0, .int .i64 0]) (by simp [go_sem]) ?_
      exact (to_any 0 0 w3).mono fun e W' ⟨he, hb⟩ => ⟨_, he, rfl, hb⟩
    simp only [Act.put, List.setIfInBounds_toArray, List.set_cons_succ, List.set_cons_zero]
    iterate 4
      refine seq_on (by rfl) (fun w3 hb3 _ => ?_) ?_
      · simp [opOK, go_sem, Below.refl]
        try exact rfl
      simp only [Act.put, List.setIfInBounds_toArray, List.set_cons_succ, List.set_cons_zero]
    refine seq_new ⟨_, 0, rfl⟩ (by rfl) (fun w3 hb3 hH => ?_) ?_
    · exact opOK_val (v := .slice (some ⟨w3.heap.size, 0, none⟩) 2 2) (w' := w3.alloc (.cells #[.int .i64 0, .int .i64 1] 3)) (by simp [go_sem, execOp]) ⟨aB _ _, ⟨_, rfl⟩, _, rfl, World.alloc_heap_new _ _⟩
    rintro _ ⟨p2, rfl⟩
    simp only [Act.put, List.setIfInBounds_toArray, List.set_cons_succ, List.set_cons_zero]
    refine seq_new ⟨_, 0, rfl⟩ (by rfl) (fun w3 hb3 hH => ?_) ?_
    · have hsl := hH ⟨59, .data⟩ (by simp) rfl
      simp [addH, kSl] at hsl
      exact opOK_val (v := .slice (some ⟨w3.heap.size, 0, none⟩) 1 1) (w' := w3.alloc (.cells #[.slice (some ⟨p2, 0, none⟩) 2 2] 35)) (by simp [go_sem, execOp]) ⟨aB _ _, ⟨_, rfl⟩, slsl_one w3 p2 [0, 1] hsl⟩
    rintro _ ⟨p3, rfl⟩
    simp only [Act.put, List.setIfInBounds_toArray, List.set_cons_succ, List.set_cons_zero]
    refine seq_on (by rfl) (fun w3 hb3 hH => ?_) ?_
    · have hsl := hH ⟨60, .data⟩ (by simp) rfl
      simp [addH, kSS] at hsl
      refine opOK_call (f := 31) (args := #[vb, .slice (some ⟨p3, 0, none⟩) 1 1]) (by simp [go_sem]) ?_
      exact (equal_any [[0, 1]] [[0, 1]] _ _ w3 (HBLE.out.below hb3) hsl).mono fun e W' ⟨he, hb⟩ => ⟨_, he, rfl, hb⟩
    simp only [Act.put, List.setIfInBounds_toArray, List.set_cons_succ, List.set_cons_zero]
    iterate 3
      refine seq_on (by rfl) (fun w3 hb3 _ => ?_) ?_
      · simp [opOK, go_sem, Below.refl]
        try exact rfl
      simp only [Act.put, List.setIfInBounds_toArray, List.set_cons_succ, List.set_cons_zero]
    refine seq_new ⟨_, 0, rfl⟩ (by rfl) (fun w3 hb3 hH => ?_) ?_
    · exact opOK_val (v := .slice (some ⟨w3.heap.size, 0, none⟩) 1 1) (w' := w3.alloc (.cells #[.int .i64 0] 3)) (by simp [go_sem, execOp]) ⟨aB _ _, ⟨_, rfl⟩, _, rfl, World.alloc_heap_new _ _⟩
    rintro _ ⟨p4, rfl⟩
    simp only [Act.put, List.setIfInBounds_toArray, List.set_cons_succ, List.set_cons_zero]
    refine seq_new ⟨_, 0, rfl⟩ (by rfl) (fun w3 hb3 hH => ?_) ?_
    · exact opOK_val (v := .slice (some ⟨w3.heap.size, 0, none⟩) 1 1) (w' := w3.alloc (.cells #[.int .i64 1] 3)) (by simp [go_sem, execOp]) ⟨aB _ _, ⟨_, rfl⟩, _, rfl, World.alloc_heap_new _ _⟩
    rintro _ ⟨p5, rfl⟩
    simp only [Act.put, List.setIfInBounds_toArray, List.set_cons_succ, List.set_cons_zero]
    refine seq_new ⟨_, 0, rfl⟩ (by rfl) (fun w3 hb3 hH => ?_) ?_
    · have hsl := hH ⟨65, .data⟩ (by simp) rfl
      simp [addH, kSl] at hsl
      have hsl2 := hH ⟨66, .data⟩ (by simp) rfl
      simp [addH, kSl] at hsl2
      exact opOK_val (v := .slice (some ⟨w3.heap.size, 0, none⟩) 2 2) (w' := w3.alloc (.cells #[.slice (some ⟨p4, 0, none⟩) 1 1, .slice (some ⟨p5, 0, none⟩) 1 1] 35)) (by simp [go_sem, execOp]) ⟨aB _ _, ⟨_, rfl⟩, slsl_two w3 p4 p5 [0] [1] hsl hsl2⟩
    rintro _ ⟨p6, rfl⟩
    simp only [Act.put, List.setIfInBounds_toArray, List.set_cons_succ, List.set_cons_zero]
    refine seq_on (by rfl) (fun w3 hb3 hH => ?_) ?_
    · have hsl := hH ⟨67, .data⟩ (by simp) rfl
      simp [addH, kSS] at hsl
      refine opOK_call (f := 31) (args := #[vd, .slice (some ⟨p6, 0, none⟩) 2 2]) (by simp [go_sem]) ?_
      exact (equal_any [[0], [1]] [[0], [1]] _ _ w3 (HDRE.out.below hb3) hsl).mono fun e W' ⟨he, hb⟩ => ⟨_, he, rfl, hb⟩
    simp only [Act.put, List.setIfInBounds_toArray, List.set_cons_succ, List.set_cons_zero]
    iterate 2
      refine seq_on (by rfl) (fun w3 hb3 _ => ?_) ?_
      · simp [opOK, go_sem, Below.refl]
        try exact rfl
      simp only [Act.put, List.setIfInBounds_toArray, List.set_cons_succ, List.set_cons_zero]
    refine seq_end fun w3 hb3 _ => ?_
    have HZ := Lib.hid (bThen HBE.out hb3)
    clear hb3 d0 d1 s10 s11 s20 s21 l10 l11 l20 l21 l30 l31 t10 t11
    go_wp2
    go_returns
    exact ⟨rfl, HZ.out⟩
end Go.Proofs.YtpfpjbglpibdoaaGreatDoor
