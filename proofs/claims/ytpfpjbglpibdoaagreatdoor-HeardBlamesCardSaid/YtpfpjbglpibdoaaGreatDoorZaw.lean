/- The texts RA, RB, RC, in build order. -/
import Derived.Test.YtpfpjbglpibdoaaGreatDoorZav

/- Chapter 5, the reference: beds, gates, the error of a leg. -/
namespace Go.Proofs.YtpfpjbglpibdoaaGreatDoor
open Go Go.RowKit Go.Oche Go.Proofs

set_option maxRecDepth 100000 in
set_option maxHeartbeats 1000000 in
theorem refBed_any (b : Int) (hb : -2 ^ 63 ≤ b ∧ b < 2 ^ 63) (w : World) : Calls Tryz.prog 54 #[.int .i64 b] w fun e w' => e = .returned (.bool (isBed5 b)) ∧ Below w.heap.size w w' := by
  obtain ⟨res, hres⟩ : ∃ r, isBed5 b = r := ⟨_, rfl⟩
  rw [hres]
  unfold isBed5 isIn at hres
  have HR := Lib.hid hres
  have HBB := Lib.hid hb
  have ht : b ≤ 0 → b.tdiv 100 ≤ 0 := fun h => by
    have h1 : (-b).tdiv 100 = -(b.tdiv 100) := Int.neg_tdiv _ _
    have h2 : 0 ≤ (-b).tdiv 100 := Int.tdiv_nonneg (by omega) (by omega)
    omega
  obtain ⟨f, hf⟩ : ∃ f, b.tdiv 100 = f := ⟨_, rfl⟩
  obtain ⟨n, hn⟩ : ∃ n, b.tmod 100 = n := ⟨_, rfl⟩
  have hfb : -2 ^ 63 ≤ f ∧ f < 2 ^ 63 := by
    have h1 : f.natAbs = b.natAbs / 100 := by rw [← hf, Int.natAbs_tdiv]; rfl
    omega
  rw [hf] at HR ht
  rw [hn] at HR
  have HFF := Lib.hid hf
  have HNN := Lib.hid hn
  have hwf : IntKind.i64.wrap f = f := wrap_small _ (by omega) (by omega)
  clear hres hb
  go_enter Tryz.func54, Tryz.ntmps54
  by_cases e1 : b = 125
  · have d1 : (b == (125 : Int)) = true := beq_iff_eq.2 (by omega)
    have hr : res = true := by rw [← HR.out]; simp [e1]
    clear HR
    subst hr
    go_wp2
    go_returns
    exact ⟨rfl, Below.refl _ _⟩
  · have d1 : (b == (125 : Int)) = false := beq_eq_false_iff_ne.2 (by omega)
    by_cases e2 : b = 225
    · have d2 : (b == (225 : Int)) = true := beq_iff_eq.2 (by omega)
      have hr : res = true := by rw [← HR.out]; simp [e2]
      clear HR
      subst hr
      go_wp2
      go_returns
      exact ⟨rfl, Below.refl _ _⟩
    · have d2 : (b == (225 : Int)) = false := beq_eq_false_iff_ne.2 (by omega)
      by_cases e3 : 0 < b
      · have d3 : decide ((0 : Int) < b) = true := decide_eq_true (by omega)
        by_cases e4 : 1 ≤ f
        · have d4 : decide ((1 : Int) ≤ f) = true := decide_eq_true (by omega)
          by_cases e5 : f ≤ 4
          · have d5 : decide (f ≤ (4 : Int)) = true := decide_eq_true (by omega)
            by_cases e6 : 1 ≤ n
            · have d6 : decide ((1 : Int) ≤ n) = true := decide_eq_true (by omega)
              by_cases e7 : n ≤ 20
              · have d7 : decide (n ≤ (20 : Int)) = true := decide_eq_true (by omega)
                have hr : res = true := by rw [← HR.out]; simp [e4, e5, e6, e7]
                clear HR
                subst hr
                go_wp2
                go_returns
                exact ⟨rfl, Below.refl _ _⟩
              · have d7 : decide (n ≤ (20 : Int)) = false := decide_eq_false (by omega)
                have hr : res = false := by rw [← HR.out]; simp [e1, e2, e4, e5, e6, e7]
                clear HR
                subst hr
                go_wp2
                go_returns
                exact ⟨rfl, Below.refl _ _⟩
            · have d6 : decide ((1 : Int) ≤ n) = false := decide_eq_false (by omega)
              have hr : res = false := by rw [← HR.out]; simp [e1, e2, e4, e5, e6]
              clear HR
              subst hr
              go_wp2
              go_returns
              exact ⟨rfl, Below.refl _ _⟩
          · have d5 : decide (f ≤ (4 : Int)) = false := decide_eq_false (by omega)
            have hr : res = false := by rw [← HR.out]; simp [e1, e2, e4, e5]
            clear HR
            subst hr
            go_wp2
            go_returns
            exact ⟨rfl, Below.refl _ _⟩
        · have d4 : decide ((1 : Int) ≤ f) = false := decide_eq_false (by omega)
          have hr : res = false := by rw [← HR.out]; simp [e1, e2, e4]
          clear HR
          subst hr
          go_wp2
          go_returns
          exact ⟨rfl, Below.refl _ _⟩
      · have d3 : decide ((0 : Int) < b) = false := decide_eq_false (by omega)
        have e4 : ¬ 1 ≤ f := by omega
        have hr : res = false := by rw [← HR.out]; simp [e1, e2, e4]
        clear HR
        subst hr
        go_wp2
        go_returns
        exact ⟨rfl, Below.refl _ _⟩
theorem refLow_any (g : Int) (w : World) : Calls Tryz.prog 55 #[.int .i64 g] w fun e w' => e = .returned (.int .i64 (low5 g)) ∧ w = w' := by
  obtain ⟨c, hc⟩ : ∃ c, (g == 0) = c := ⟨_, rfl⟩
  have HC : Hid (low5 g = if c = true then 1 else 2) := Lib.hid (by rw [← hc]; simp [low5])
  go_enter Tryz.func55, Tryz.ntmps55
  cases c <;> go_wp2 <;> (go_ret; exact ⟨ret_int (by rw [HC.out]; rfl), rfl⟩)
theorem refOpens_any (b g : Int) (hb : -2 ^ 63 ≤ b ∧ b < 2 ^ 63) (h0 : b ≠ 0) (hg : 0 ≤ g ∧ g ≤ 2) (w : World) : Calls Tryz.prog 87 #[.int .i64 b, .int .i64 g] w fun e w' => e = .returned (.bool (opens5 b g)) ∧ w = w' := by
  obtain ⟨res, hres⟩ : ∃ r, opens5 b g = r := ⟨_, rfl⟩
  rw [hres]
  unfold opens5 at hres
  obtain ⟨f, hf⟩ : ∃ f, b.tdiv 100 = f := ⟨_, rfl⟩
  rw [hf] at hres
  have hfb : -2 ^ 63 ≤ f ∧ f < 2 ^ 63 := by
    have h1 : f.natAbs = b.natAbs / 100 := by rw [← hf, Int.natAbs_tdiv]; rfl
    omega
  have hwf : IntKind.i64.wrap f = f := wrap_small _ (by omega) (by omega)
  have HFF := Lib.hid hf
  have HR := Lib.hid hres
  have n0 : (b != 0) = true := by rw [bne_iff_ne]; exact h0
  clear hres
  go_enter Tryz.func87, Tryz.ntmps87
  by_cases g0 : g = 0
  · subst g0
    have hr : res = true := by rw [← HR.out]; simp
    clear HR
    subst hr
    go_wp2
    go_returns
    exact ⟨rfl, rfl⟩
  · have d0 : (g == 0) = false := beq_eq_false_iff_ne.2 g0
    by_cases g1 : g = 1
    · subst g1
      obtain ⟨q, hq⟩ : ∃ q, (f == 2) = q := ⟨_, rfl⟩
      have hr : res = q := by rw [← HR.out, if_pos rfl]; exact hq
      clear HR
      subst hr
      go_wp2
      go_returns
      exact ⟨rfl, rfl⟩
    · obtain rfl : g = 2 := by omega
      obtain ⟨q, hq⟩ : ∃ q, decide ((2 : Int) ≤ f) = q := ⟨_, rfl⟩
      have hr : res = q := by rw [← HR.out, if_neg (by omega), if_pos rfl]; exact hq
      clear HR
      subst hr
      go_wp2
      go_returns
      exact ⟨rfl, rfl⟩
theorem refPoints_any (b : Int) (hb : isBed5 b = true) (w : World) : Calls Tryz.prog 88 #[.int .i64 b] w fun e w' => e = .returned (.int .i64 (b.tdiv 100 * b.tmod 100)) ∧ w = w' := by
  have hs := bed_score hb
  obtain ⟨f, hf⟩ : ∃ f, b.tdiv 100 = f := ⟨_, rfl⟩
  obtain ⟨n, hn⟩ : ∃ n, b.tmod 100 = n := ⟨_, rfl⟩
  rw [hf, hn] at hs
  obtain ⟨p, hp⟩ : ∃ p, f * n = p := ⟨_, rfl⟩
  rw [hp] at hs
  have hwf : IntKind.i64.wrap f = f := wrap_small _ (by omega) (by omega)
  have hwp : IntKind.i64.wrap p = p := wrap_small _ (by omega) (by omega)
  rw [hf, hn, hp]
  have HFF := Lib.hid hf
  have HNN := Lib.hid hn
  have HPP := Lib.hid hp
  clear hs hb
  go_enter Tryz.func88, Tryz.ntmps88
  go_wp2
  go_returns
  exact ⟨by first | rfl | simp [hf, hn, hp], rfl⟩
end Go.Proofs.YtpfpjbglpibdoaaGreatDoor

/- Chapter 5, the reference: the error of a leg. -/
namespace Go.Proofs.YtpfpjbglpibdoaaGreatDoor
open Go Go.RowKit Go.Oche Go.Proofs

section
variable {l : Lg}
theorem chk5 (h : 82 < l.beds.length) : checkL l = 5 := by unfold checkL; rw [if_pos h]
theorem chk2a (h : ¬ 82 < l.beds.length) (h2 : l.start < 2 ∨ 1001 < l.start ∨ l.gin < 0 ∨ 2 < l.gin ∨ l.gout < 0 ∨ 2 < l.gout ∨ l.beds.length = 0) : checkL l = 2 := by
  unfold checkL
  rw [if_neg h, if_pos]
  by_cases c : l.beds.length = 0
  · exact .inr (.inl (List.eq_nil_of_length_eq_zero c))
  · left
    unfold okCount isIn
    simp only [Bool.and_eq_false_iff, decide_eq_false_iff_not]
    omega
theorem chk2b (h : ¬ 82 < l.beds.length) (h2 : ¬ l.beds.Pairwise (· < ·) ∨ ∃ b ∈ l.beds, isBed5 b = false) : checkL l = 2 := by
  unfold checkL
  rw [if_neg h, if_pos (.inr (.inr h2))]
theorem chk_mid (h : ¬ 82 < l.beds.length) (h2 : ¬ (l.start < 2 ∨ 1001 < l.start ∨ l.gin < 0 ∨ 2 < l.gin ∨ l.gout < 0 ∨ 2 < l.gout ∨ l.beds.length = 0)) (h3 : l.beds.Pairwise (· < ·)) (h4 : ∀ b ∈ l.beds, isBed5 b = true) :
    checkL l = if isIn l.players 1 4 = false ∨ isIn l.turns 0 60 = false ∨ (l.won = true ∧ l.turns = 0) then 2 else 0 := by
  unfold checkL
  rw [if_neg h, if_neg]
  rintro (h5 | h5 | h5 | ⟨b, hb, h5⟩)
  · unfold okCount isIn at h5
    simp only [Bool.and_eq_false_iff, decide_eq_false_iff_not] at h5
    omega
  · rw [h5] at h2; simp at h2
  · exact h5 h3
  · rw [h4 b hb] at h5; cases h5
theorem chk2c (h : checkL l = if isIn l.players 1 4 = false ∨ isIn l.turns 0 60 = false ∨ (l.won = true ∧ l.turns = 0) then 2 else 0) (h2 : l.players < 1 ∨ 4 < l.players ∨ l.turns < 0 ∨ 60 < l.turns ∨ (l.won = true ∧ l.turns = 0)) : checkL l = 2 := by
  rw [h, if_pos]
  unfold isIn
  simp only [Bool.and_eq_false_iff, decide_eq_false_iff_not]
  rcases h2 with h2 | h2 | h2 | h2 | h2
  · left; omega
  · left; omega
  · right; left; omega
  · right; left; omega
  · exact .inr (.inr h2)
theorem chk0 (h : checkL l = if isIn l.players 1 4 = false ∨ isIn l.turns 0 60 = false ∨ (l.won = true ∧ l.turns = 0) then 2 else 0) (h2 : ¬ (l.players < 1 ∨ 4 < l.players ∨ l.turns < 0 ∨ 60 < l.turns ∨ (l.won = true ∧ l.turns = 0))) : checkL l = 0 := by
  rw [h, if_neg]
  unfold isIn
  simp only [Bool.and_eq_false_iff, decide_eq_false_iff_not]
  rintro (h3 | h3 | h3)
  · rcases Int.lt_or_le l.players 1 with c | c
    · exact h2 (.inl c)
    · exact h2 (.inr (.inl (by omega)))
  · rcases Int.lt_or_le l.turns 0 with c | c
    · exact h2 (.inr (.inr (.inl c)))
    · exact h2 (.inr (.inr (.inr (.inl (by omega)))))
  · exact h2 (.inr (.inr (.inr (.inr h3))))
end
set_option maxRecDepth 100000 in
set_option maxHeartbeats 4000000 in
theorem refCheck_any {S : Nat → Prop} (l : Lg) (bv : Value) (w : World) (hs : Sl S w bv (ints l.beds)) (hbd : BedsIn l) :
    Calls Tryz.prog 17 #[legV l bv] w fun e w' => e = .returned (.int .i64 (checkL l)) ∧ Below w.heap.size w w' := by
  obtain ⟨a, cap, rfl, h2, h3⟩ := hs.form
  simp only [ints_length] at *
  unfold maxLen at h3
  obtain ⟨res, hres⟩ : ∃ r, checkL l = r := ⟨_, rfl⟩
  rw [hres]
  obtain ⟨n, hn⟩ : ∃ n, l.beds.length = n := ⟨_, rfl⟩
  rw [hn] at h2 hs ⊢
  obtain ⟨w1, hw1⟩ : ∃ x, w.alloc (.cells #[.int .i64 l.start, .int .i64 l.gin, .int .i64 l.gout, .slice a n cap, .int .i64 l.players, .int .i64 l.turns, .bool l.won] 27) = x := ⟨_, rfl⟩
  have hb1 : Below w.heap.size w w1 := by rw [← hw1]; exact aB _ _
  obtain ⟨N, hN⟩ : ∃ N, w.heap.size = N := ⟨_, rfl⟩
  have k : w1.heap[N]? = some (.cells #[.int .i64 l.start, .int .i64 l.gin, .int .i64 l.gout, .slice a n cap, .int .i64 l.players, .int .i64 l.turns, .bool l.won] 27 (0, 0)) := by rw [← hw1, ← hN]; exact World.alloc_heap_new _ _
  have c0 : w1.cell? ⟨N, 0, none⟩ = some (.int .i64 l.start) := by rw [cell_of_heap k]; rfl
  have c1 : w1.cell? ⟨N, 1, none⟩ = some (.int .i64 l.gin) := by rw [cell_of_heap k]; rfl
  have c2 : w1.cell? ⟨N, 2, none⟩ = some (.int .i64 l.gout) := by rw [cell_of_heap k]; rfl
  have c3 : w1.cell? ⟨N, 3, none⟩ = some (.slice a n cap) := by rw [cell_of_heap k]; rfl
  have c4 : w1.cell? ⟨N, 4, none⟩ = some (.int .i64 l.players) := by rw [cell_of_heap k]; rfl
  have c5 : w1.cell? ⟨N, 5, none⟩ = some (.int .i64 l.turns) := by rw [cell_of_heap k]; rfl
  have c6 : w1.cell? ⟨N, 6, none⟩ = some (.bool l.won) := by rw [cell_of_heap k]; rfl
  have HR := Lib.hid hres
  have HS := Lib.hid (hs.below hb1)
  have HB := Lib.hid hb1
  have HW := Lib.hid hw1
  have HN := Lib.hid hN
  have HLN := Lib.hid hn
  have HBD := Lib.hid hbd
  have hN1 : N < w1.heap.size := (Array.getElem?_eq_some_iff.1 k).1
  unfold legV legA
  rw [hN]
  clear hw1 hb1 k hs hres hn hbd hN
  go_enter Tryz.func17, Tryz.ntmps17
  go_upto_region 1 with fail
  rw [HW.out, HN.out]
  by_cases e0 : 82 < n
  · have d0 : decide ((82 : Int) < (n : Int)) = true := decide_eq_true (by omega)
    have d0n : decide (82 < n) = true := decide_eq_true e0
    have hr : res = 5 := by rw [← HR.out]; exact chk5 (by rw [HLN.out]; exact e0)
    clear HR
    subst hr
    go_wp2
    go_returns
    exact ⟨rfl, by rw [← HN.out]; exact HB.out⟩
  · have d0 : decide ((82 : Int) < (n : Int)) = false := decide_eq_false (by omega)
    have d0n : decide (82 < n) = false := decide_eq_false e0
    have HE0 : Hid (¬ 82 < l.beds.length) := Lib.hid (by rw [HLN.out]; exact e0)
    go_upto_region 4 with fail
    obtain ⟨w2, hw2⟩ : ∃ x, w1.alloc (.cells #[.int .i64 l.start, .int .i64 l.gin, .int .i64 l.gout] 24) = x := ⟨_, rfl⟩
    have hb2 : Below w1.heap.size w1 w2 := by rw [← hw2]; exact aB _ _
    obtain ⟨M, hM⟩ : ∃ M, w1.heap.size = M := ⟨_, rfl⟩
    have k2 : w2.heap[M]? = some (.cells #[.int .i64 l.start, .int .i64 l.gin, .int .i64 l.gout] 24 (0, 0)) := by rw [← hw2, ← hM]; exact World.alloc_heap_new _ _
    have m0 : w2.cell? ⟨M, 0, none⟩ = some (.int .i64 l.start) := by rw [cell_of_heap k2]; rfl
    have m1 : w2.cell? ⟨M, 1, none⟩ = some (.int .i64 l.gin) := by rw [cell_of_heap k2]; rfl
    have m2 : w2.cell? ⟨M, 2, none⟩ = some (.int .i64 l.gout) := by rw [cell_of_heap k2]; rfl
    have c0 := bAt hb2 c0
    have c1 := bAt hb2 c1
    have c2 := bAt hb2 c2
    have c3 := bAt hb2 c3
    have c4 := bAt hb2 c4
    have c5 := bAt hb2 c5
    have c6 := bAt hb2 c6
    have HB2 := Lib.hid (bThen HB.out hb2)
    have HS2 := Lib.hid (HS.out.below hb2)
    rw [hw2, hM]
    clear hb2 k2 hw2 hM hN1
    by_cases e1 : l.start < 2
    · have d1 : decide (l.start < 2) = true := decide_eq_true (by omega)
      have hr : res = 2 := by rw [← HR.out]; exact chk2a HE0.out (by rw [HLN.out]; omega)
      clear HR
      subst hr
      go_wp2
      go_returns
      exact ⟨rfl, by rw [← HN.out]; exact HB2.out⟩
    · have d1 : decide (l.start < 2) = false := decide_eq_false (by omega)
      by_cases e2 : 1001 < l.start
      · have d2 : decide (1001 < l.start) = true := decide_eq_true (by omega)
        have hr : res = 2 := by rw [← HR.out]; exact chk2a HE0.out (by rw [HLN.out]; omega)
        clear HR
        subst hr
        go_wp2
        go_returns
        exact ⟨rfl, by rw [← HN.out]; exact HB2.out⟩
      · have d2 : decide (1001 < l.start) = false := decide_eq_false (by omega)
        by_cases e3 : l.gin < 0
        · have d3 : decide (l.gin < 0) = true := decide_eq_true (by omega)
          have hr : res = 2 := by rw [← HR.out]; exact chk2a HE0.out (by rw [HLN.out]; omega)
          clear HR
          subst hr
          go_wp2
          go_returns
          exact ⟨rfl, by rw [← HN.out]; exact HB2.out⟩
        · have d3 : decide (l.gin < 0) = false := decide_eq_false (by omega)
          by_cases e4 : 2 < l.gin
          · have d4 : decide (2 < l.gin) = true := decide_eq_true (by omega)
            have hr : res = 2 := by rw [← HR.out]; exact chk2a HE0.out (by rw [HLN.out]; omega)
            clear HR
            subst hr
            go_wp2
            go_returns
            exact ⟨rfl, by rw [← HN.out]; exact HB2.out⟩
          · have d4 : decide (2 < l.gin) = false := decide_eq_false (by omega)
            by_cases e5 : l.gout < 0
            · have d5 : decide (l.gout < 0) = true := decide_eq_true (by omega)
              have hr : res = 2 := by rw [← HR.out]; exact chk2a HE0.out (by rw [HLN.out]; omega)
              clear HR
              subst hr
              go_wp2
              go_returns
              exact ⟨rfl, by rw [← HN.out]; exact HB2.out⟩
            · have d5 : decide (l.gout < 0) = false := decide_eq_false (by omega)
              by_cases e6 : 2 < l.gout
              · have d6 : decide (2 < l.gout) = true := decide_eq_true (by omega)
                have hr : res = 2 := by rw [← HR.out]; exact chk2a HE0.out (by rw [HLN.out]; omega)
                clear HR
                subst hr
                go_wp2
                go_returns
                exact ⟨rfl, by rw [← HN.out]; exact HB2.out⟩
              · have d6 : decide (2 < l.gout) = false := decide_eq_false (by omega)
                by_cases e7 : n = 0
                · have d7 : ((n : Int) == 0) = true := beq_iff_eq.2 (by omega)
                  have hr : res = 2 := by rw [← HR.out]; exact chk2a HE0.out (by rw [HLN.out]; omega)
                  clear HR
                  subst hr
                  go_wp2
                  go_returns
                  exact ⟨rfl, by rw [← HN.out]; exact HB2.out⟩
                · have d7 : ((n : Int) == 0) = false := beq_eq_false_iff_ne.2 (by omega)
                  have HE1 : Hid (¬ (l.start < 2 ∨ 1001 < l.start ∨ l.gin < 0 ∨ 2 < l.gin ∨ l.gout < 0 ∨ 2 < l.gout ∨ l.beds.length = 0)) := Lib.hid (by rw [HLN.out]; omega)
                  go_wp2_with fail
                  clear m0 m1 m2 c0 c1 c2 d0 d0n d1 d2 d3 d4 d5 d6 d7 e1 e2 e3 e4 e5 e6
                  go_loopw [4] (fun iv wr => ∃ i : Nat, i ≤ n ∧ iv = .int .i64 i ∧ Hid (∀ j, (h : j < l.beds.length) → j < i → isBed5 l.beds[j] = true ∧ ∀ h' : j + 1 < l.beds.length, j + 1 < i → l.beds[j] < l.beds[j + 1]) ∧ Hid (Below w2.heap.size w2 wr)) (fun iv _ => n - (intOf iv).toNat)
                  case atStart => exact ⟨0, by omega, by go_num, Lib.hid (fun j h h' => by omega), Lib.hid (Below.refl _ _)⟩
                  case round =>
                    obtain ⟨i, hi, rfl, HI, HBr⟩ := hrel
                    obtain ⟨wo, rfl⟩ : ∃ wo : World, wo = wr := ⟨_, rfl⟩
                    have c3 := bAt HBr.out c3
                    have c4 := bAt HBr.out c4
                    have c5 := bAt HBr.out c5
                    have c6 := bAt HBr.out c6
                    by_cases hlt : i < n
                    · have hil : i < l.beds.length := by rw [HLN.out]; exact hlt
                      obtain ⟨x, hxx⟩ : ∃ x, l.beds[i] = x := ⟨_, rfl⟩
                      obtain ⟨b, off, rfl, -, hc⟩ := Sl.at_ (HS2.out.below HBr.out) (intsAt hil)
                      rw [hxx] at hc
                      obtain ⟨q, hq⟩ : ∃ q, isBed5 x = q := ⟨_, rfl⟩
                      have hxb : -2 ^ 63 ≤ x ∧ x < 2 ^ 63 := by rw [← hxx]; exact HBD.out _ (List.getElem_mem _)
                      have HCALL : Hid (∀ w3, Calls Tryz.prog 54 #[.int .i64 x] w3 fun e w' => e = .returned (.bool q) ∧ Below w3.heap.size w3 w') := Lib.hid (fun w3 => by rw [← hq]; exact refBed_any x hxb w3)
                      have HXX := Lib.hid hxx
                      have HQ := Lib.hid hq
                      have HIL := Lib.hid hil
                      have hwi : IntKind.i64.wrap ((i : Int) + 1) = (i : Int) + 1 := wrap_small _ (by omega) (by omega)
                      clear hxx hq hxb
                      cases q
                      · go_upto_region 9 with fail
                        refine wp_region_seq 25 [.is (.pointer (some ⟨N, 3, none⟩)), .is (.slice (some ⟨b, off, none⟩) n cap), .is (.int .i64 (i : Int)), .is (.pointer (some ⟨b, off + i, none⟩)), .is (.int .i64 x), .is (.bool false), .is (.bool true), .is (.bool true), .is (undef), .is (undef), .is (undef), .is (undef), .is (undef), .is (undef), .is (undef), .is (undef), .is (undef), .is (undef), .is (undef), .is (undef), .is (undef), .is (undef), .is (undef), .is (undef), .is (.bool true)] rfl mix (by kernel_rfl) (by kernel_rfl) ?seqm
                        case seqm =>
                          simp only [List.take_succ_cons, List.take_zero]
                          iterate 5
                            refine seq_on (by rfl) (fun w3 hb3 _ => ?_) ?_
                            · have c3' := bAt hb3 c3
                              have hc' := bAt hb3 hc
                              simp [opOK, go_sem, c3', hc', hlt, Below.refl]
                              try exact rfl
                            simp only [Act.put, List.setIfInBounds_toArray, List.set_cons_succ, List.set_cons_zero]
                          refine seq_on (by rfl) (fun w3 hb3 hH => ?_) ?_
                          · refine opOK_call (f := 54) (args := #[.int .i64 x]) (by simp [go_sem]) ?_
                            exact (HCALL.out w3).mono fun e W' ⟨he, hb⟩ => ⟨_, he, rfl, hb⟩
                          simp only [Act.put, List.setIfInBounds_toArray, List.set_cons_succ, List.set_cons_zero]
                          iterate 2
                            refine seq_on (by rfl) (fun w3 hb3 _ => ?_) ?_
                            · have c3' := bAt hb3 c3
                              have hc' := bAt hb3 hc
                              simp [opOK, go_sem, Below.refl]
                              try exact rfl
                            simp only [Act.put, List.setIfInBounds_toArray, List.set_cons_succ, List.set_cons_zero]
                          iterate 16
                            refine seq_off (by rfl) ?_
                            simp only [Act.put, List.setIfInBounds_toArray, List.set_cons_succ, List.set_cons_zero]
                          refine seq_on (by rfl) (fun w3 hb3 _ => ?_) ?_
                          · have c3' := bAt hb3 c3
                            have hc' := bAt hb3 hc
                            simp [opOK, go_sem, Below.refl]
                            try exact rfl
                          simp only [Act.put, List.setIfInBounds_toArray, List.set_cons_succ, List.set_cons_zero]
                          refine seq_end fun w3 hb3 _ => ?_
                          simp only [List.drop_succ_cons, List.drop_zero]
                          have HB3 := Lib.hid (bThen HB2.out (HBr.out.trans (hb3.mono HBr.out.size)))
                          clear hb3 hc c3 c4 c5 c6
                          have hr : res = 2 := by rw [← HR.out]; exact chk2b HE0.out (.inr ⟨x, by rw [← HXX.out]; exact List.getElem_mem _, HQ.out⟩)
                          clear HR
                          subst hr
                          go_wp2
                          go_returns
                          exact ⟨rfl, by rw [← HN.out]; exact HB3.out⟩
                      · by_cases hi0 : i = 0
                        · subst hi0
                          rw [Nat.add_zero] at hc
                          go_upto_region 9 with fail
                          refine wp_region_seq 25 [.is (.pointer (some ⟨N, 3, none⟩)), .is (.slice (some ⟨b, off, none⟩) n cap), .is (.int .i64 0), .is (.pointer (some ⟨b, off, none⟩)), .is (.int .i64 x), .is (.bool true), .is (.bool false), .is (.bool false), .is (.int .i64 0), .is (.bool false), .is (.bool false), .is (undef), .is (undef), .is (undef), .is (undef), .is (undef), .is (undef), .is (undef), .is (undef), .is (undef), .is (undef), .is (undef), .is (undef), .is (.bool false), .is (.bool false)] rfl mix (by kernel_rfl) (by kernel_rfl) ?seqm
                          case seqm =>
                            simp only [List.take_succ_cons, List.take_zero]
                            iterate 5
                              refine seq_on (by rfl) (fun w3 hb3 _ => ?_) ?_
                              · have c3' := bAt hb3 c3
                                have hc' := bAt hb3 hc
                                simp [opOK, go_sem, c3', hc', hlt, Below.refl]
                                try exact rfl
                              simp only [Act.put, List.setIfInBounds_toArray, List.set_cons_succ, List.set_cons_zero]
                            refine seq_on (by rfl) (fun w3 hb3 hH => ?_) ?_
                            · refine opOK_call (f := 54) (args := #[.int .i64 x]) (by simp [go_sem]) ?_
                              exact (HCALL.out w3).mono fun e W' ⟨he, hb⟩ => ⟨_, he, rfl, hb⟩
                            simp only [Act.put, List.setIfInBounds_toArray, List.set_cons_succ, List.set_cons_zero]
                            iterate 5
                              refine seq_on (by rfl) (fun w3 hb3 _ => ?_) ?_
                              · have c3' := bAt hb3 c3
                                have hc' := bAt hb3 hc
                                simp [opOK, go_sem, Below.refl]
                                try exact rfl
                              simp only [Act.put, List.setIfInBounds_toArray, List.set_cons_succ, List.set_cons_zero]
                            iterate 12
                              refine seq_off (by rfl) ?_
                              simp only [Act.put, List.setIfInBounds_toArray, List.set_cons_succ, List.set_cons_zero]
                            iterate 2
                              refine seq_on (by rfl) (fun w3 hb3 _ => ?_) ?_
                              · have c3' := bAt hb3 c3
                                have hc' := bAt hb3 hc
                                simp [opOK, go_sem, Below.refl]
                                try exact rfl
                              simp only [Act.put, List.setIfInBounds_toArray, List.set_cons_succ, List.set_cons_zero]
                            refine seq_end fun w3 hb3 _ => ?_
                            simp only [List.drop_succ_cons, List.drop_zero]
                            have HB3 := Lib.hid (HBr.out.trans (hb3.mono HBr.out.size))
                            have HI2 : Hid (∀ j, (h : j < l.beds.length) → j < 0 + 1 → isBed5 l.beds[j] = true ∧ ∀ h' : j + 1 < l.beds.length, j + 1 < 0 + 1 → l.beds[j] < l.beds[j + 1]) := Lib.hid (fun j h h' => by
                              obtain rfl : j = 0 := by omega
                              exact ⟨by rw [HXX.out]; exact HQ.out, fun _ h2 => by omega⟩)
                            clear hb3 hc c3 c4 c5 c6
                            go_wp2
                            go_roundw
                            case rel => exact ⟨0 + 1, by omega, by go_num, HI2, HB3⟩
                            case measure => simp [intOf]; omega
                        · obtain ⟨m, rfl⟩ : ∃ m, i = m + 1 := ⟨i - 1, by omega⟩
                          have hml : m < l.beds.length := by have := HIL.out; omega
                          obtain ⟨y, hyy⟩ : ∃ y, l.beds[m] = y := ⟨_, rfl⟩
                          obtain ⟨b', off', heq, -, hcy⟩ := Sl.at_ (HS2.out.below HBr.out) (intsAt hml)
                          cases heq
                          rw [hyy] at hcy
                          have hwm : IntKind.i64.wrap (((m + 1 : Nat) : Int) - 1) = (m : Int) := by rw [IntKind.wrap_i64]; omega
                          have hwm2 : IntKind.i64.wrap ((m : Int) + 1 - 1) = (m : Int) := by rw [IntKind.wrap_i64]; omega
                          have hwm3 : IntKind.i64.wrap (m : Int) = (m : Int) := wrap_small _ (by omega) (by omega)
                          obtain ⟨p, hp⟩ : ∃ p, decide (x ≤ y) = p := ⟨_, rfl⟩
                          have hp0 : (0 : Int) ≤ (m : Int) + 1 := by omega
                          have hp1 : (m : Int) + 1 < (n : Int) := by omega
                          have hp2 : (m : Int) < (n : Int) := by omega
                          have hp3 : m < n := by omega
                          have hp4 : (0 : Int) < (m : Int) + 1 := by omega
                          have HYY := Lib.hid hyy
                          have HP := Lib.hid hp
                          have HML := Lib.hid hml
                          clear hyy hp
                          go_upto_region 9 with fail
                          refine wp_region_seq 25 [.is (.pointer (some ⟨N, 3, none⟩)), .is (.slice (some ⟨b, off, none⟩) n cap), .is (.int .i64 ((m : Int) + 1)), .is (.pointer (some ⟨b, off + (m + 1), none⟩)), .is (.int .i64 x), .is (.bool true), .is (.bool false), .is (.bool false), .is (.int .i64 ((m : Int) + 1)), .is (.bool true), .is (.bool true), .is (.pointer (some ⟨N, 3, none⟩)), .is (.slice (some ⟨b, off, none⟩) n cap), .is (.int .i64 ((m : Int) + 1)), .is (.pointer (some ⟨b, off + (m + 1), none⟩)), .is (.int .i64 x), .is (.pointer (some ⟨N, 3, none⟩)), .is (.slice (some ⟨b, off, none⟩) n cap), .is (.int .i64 ((m : Int) + 1)), .is (.int .i64 (m : Int)), .is (.pointer (some ⟨b, off + m, none⟩)), .is (.int .i64 y), .is (.bool p), .is (.bool p), .is (.bool p)] rfl mix (by kernel_rfl) (by kernel_rfl) ?seqm
                          case seqm =>
                            simp only [List.take_succ_cons, List.take_zero]
                            iterate 5
                              refine seq_on (by rfl) (fun w3 hb3 _ => ?_) ?_
                              · have c3' := bAt hb3 c3
                                have hc' := bAt hb3 hc
                                have hcy' := bAt hb3 hcy
                                simp [opOK, go_sem, c3', hc', hp0, hp1, Below.refl]
                                try exact rfl
                              simp only [Act.put, List.setIfInBounds_toArray, List.set_cons_succ, List.set_cons_zero]
                            refine seq_on (by rfl) (fun w3 hb3 hH => ?_) ?_
                            · refine opOK_call (f := 54) (args := #[.int .i64 x]) (by simp [go_sem]) ?_
                              exact (HCALL.out w3).mono fun e W' ⟨he, hb⟩ => ⟨_, he, rfl, hb⟩
                            simp only [Act.put, List.setIfInBounds_toArray, List.set_cons_succ, List.set_cons_zero]
                            iterate 19
                              refine seq_on (by rfl) (fun w3 hb3 _ => ?_) ?_
                              · have c3' := bAt hb3 c3
                                have hc' := bAt hb3 hc
                                have hcy' := bAt hb3 hcy
                                simp [opOK, go_sem, c3', hc', hcy', hwm3, hp0, hp1, hp2, hp4, HP.out, Below.refl]
                                try exact rfl
                              simp only [Act.put, List.setIfInBounds_toArray, List.set_cons_succ, List.set_cons_zero]
                            refine seq_end fun w3 hb3 _ => ?_
                            simp only [List.drop_succ_cons, List.drop_zero]
                            cases p
                            · have HB3 := Lib.hid (HBr.out.trans (hb3.mono HBr.out.size))
                              have HI2 : Hid (∀ j, (h : j < l.beds.length) → j < m + 1 + 1 → isBed5 l.beds[j] = true ∧ ∀ h' : j + 1 < l.beds.length, j + 1 < m + 1 + 1 → l.beds[j] < l.beds[j + 1]) := Lib.hid (fun j h h' => by
                                by_cases c : j = m + 1
                                · subst c; exact ⟨by rw [HXX.out]; exact HQ.out, fun _ h2 => by omega⟩
                                · refine ⟨(HI.out j h (by omega)).1, fun h2 h3 => ?_⟩
                                  by_cases c2 : j = m
                                  · subst c2; rw [HXX.out, HYY.out]; have := of_decide_eq_false HP.out; omega
                                  · exact (HI.out j h (by omega)).2 h2 (by omega))
                              clear hb3 hc hcy c3 c4 c5 c6
                              go_wp2
                              go_roundw
                              case rel => exact ⟨m + 1 + 1, by omega, by go_num, HI2, HB3⟩
                              case measure => simp [intOf]; omega
                            · have HB3 := Lib.hid (bThen HB2.out (HBr.out.trans (hb3.mono HBr.out.size)))
                              clear hb3 hc hcy c3 c4 c5 c6
                              have hr : res = 2 := by rw [← HR.out]; exact chk2b HE0.out (.inl fun h => by have h2 := rises_step.1 h m HIL.out; rw [HXX.out, HYY.out] at h2; have := of_decide_eq_true HP.out; omega)
                              clear HR
                              subst hr
                              go_wp2
                              go_returns
                              exact ⟨rfl, by rw [← HN.out]; exact HB3.out⟩
                    · obtain rfl : i = n := by omega
                      have HB3 := Lib.hid (bThen HB2.out HBr.out)
                      have HMID : Hid (checkL l = if isIn l.players 1 4 = false ∨ isIn l.turns 0 60 = false ∨ (l.won = true ∧ l.turns = 0) then 2 else 0) := Lib.hid (chk_mid HE0.out HE1.out (rises_step.2 fun j h => (HI.out j (by omega) (by have := HLN.out; omega)).2 h (by have := HLN.out; omega)) (fun b hb => by
                        obtain ⟨j, hj, rfl⟩ := List.getElem_of_mem hb
                        exact (HI.out j hj (by have := HLN.out; omega)).1))
                      clear HI HBr HE1
                      by_cases e11 : l.players < 1
                      · have d11 : decide (l.players < 1) = true := decide_eq_true (by omega)
                        have hr : res = 2 := by rw [← HR.out]; exact chk2c HMID.out (by omega)
                        clear HR
                        subst hr
                        go_wp2
                        go_returns
                        exact ⟨rfl, by rw [← HN.out]; exact HB3.out⟩
                      · have d11 : decide (l.players < 1) = false := decide_eq_false (by omega)
                        by_cases e12 : 4 < l.players
                        · have d12 : decide (4 < l.players) = true := decide_eq_true (by omega)
                          have hr : res = 2 := by rw [← HR.out]; exact chk2c HMID.out (by omega)
                          clear HR
                          subst hr
                          go_wp2
                          go_returns
                          exact ⟨rfl, by rw [← HN.out]; exact HB3.out⟩
                        · have d12 : decide (4 < l.players) = false := decide_eq_false (by omega)
                          by_cases e13 : l.turns < 0
                          · have d13 : decide (l.turns < 0) = true := decide_eq_true (by omega)
                            have hr : res = 2 := by rw [← HR.out]; exact chk2c HMID.out (by omega)
                            clear HR
                            subst hr
                            go_wp2
                            go_returns
                            exact ⟨rfl, by rw [← HN.out]; exact HB3.out⟩
                          · have d13 : decide (l.turns < 0) = false := decide_eq_false (by omega)
                            by_cases e14 : 60 < l.turns
                            · have d14 : decide (60 < l.turns) = true := decide_eq_true (by omega)
                              have hr : res = 2 := by rw [← HR.out]; exact chk2c HMID.out (by omega)
                              clear HR
                              subst hr
                              go_wp2
                              go_returns
                              exact ⟨rfl, by rw [← HN.out]; exact HB3.out⟩
                            · have d14 : decide (60 < l.turns) = false := decide_eq_false (by omega)
                              obtain ⟨wn, hwn⟩ : ∃ b, l.won = b := ⟨_, rfl⟩
                              rw [hwn] at c6 ⊢
                              have HWN := Lib.hid hwn
                              clear hwn
                              cases wn
                              · have hr : res = 0 := by rw [← HR.out]; exact chk0 HMID.out (by rw [HWN.out]; simp; omega)
                                clear HR
                                subst hr
                                go_wp2
                                go_returns
                                exact ⟨rfl, by rw [← HN.out]; exact HB3.out⟩
                              · by_cases e15 : l.turns = 0
                                · have d15 : (l.turns == (0 : Int)) = true := beq_iff_eq.2 (by omega)
                                  have hr : res = 2 := by rw [← HR.out]; exact chk2c HMID.out (by rw [HWN.out]; simp; omega)
                                  clear HR
                                  subst hr
                                  go_wp2
                                  go_returns
                                  exact ⟨rfl, by rw [← HN.out]; exact HB3.out⟩
                                · have d15 : (l.turns == (0 : Int)) = false := beq_eq_false_iff_ne.2 (by omega)
                                  have hr : res = 0 := by rw [← HR.out]; exact chk0 HMID.out (by rw [HWN.out]; simp; omega)
                                  clear HR
                                  subst hr
                                  go_wp2
                                  go_returns
                                  exact ⟨rfl, by rw [← HN.out]; exact HB3.out⟩
end Go.Proofs.YtpfpjbglpibdoaaGreatDoor

/- Chapter 5, the reference: the error of a stand. -/
namespace Go.Proofs.YtpfpjbglpibdoaaGreatDoor
open Go Go.RowKit Go.Oche Go.Proofs

end Go.Proofs.YtpfpjbglpibdoaaGreatDoor
