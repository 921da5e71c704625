/- The texts LA, KA, KB, LB, in build order. -/
import Derived.Test.YtcnofoopdghjiaaZal

/- Chapter 2, the laws' helpers: large, rules, much, sound, hit, six. -/
namespace Go.Proofs.Ytcnofoopdghjiaa
open Go.RowKit Go.Oche Go.Proofs

theorem large_any {S : Nat → Prop} (bs : List Int) (g d : Int) (v : Value) (w : World) (hs : Sl S w v (ints bs)) :
    Calls Try.prog 12 #[.agg #[v, .int .i64 g, .int .i64 d]] w fun e w' => e = .returned (.bool (decide (85 < bs.length))) ∧ Below w.heap.size w w' := by
  obtain ⟨a, cap, rfl, _, h3⟩ := hs.form
  simp only [ints_length] at *
  clear hs
  go_enter Try.func12, Try.ntmps12
  go_wp2
  go_ret
  exact ⟨ret_bool (by rw [Bool.eq_iff_iff]; simp; omega), aB _ _⟩

/-- A copy of a list of beds. -/
theorem copy_run {S : Nat → Prop} {W : World} {v : Value} {xs : List Int} (h : Sl S W v (ints xs)) (hl : xs.length ≤ 100) (b : Nat) :
    ∃ v' W', (Builtin.append_ #[22, 22] 22 #[.slice (some ⟨b, 0, none⟩) 0 0, v]).run Try.prog W = .ok v' W' ∧ AccAt W.heap.size W' v' (ints xs) ∧ Below W.heap.size W W' := by
  obtain ⟨a', c', rfl, _, _, h4⟩ := h
  rw [ints_length]
  cases a' with
  | none =>
    have hnil : xs = [] := List.eq_nil_of_length_eq_zero (by
      rcases Nat.eq_zero_or_pos xs.length with h | h
      · exact h
      · obtain ⟨_, _, e, _⟩ := h4 0 _ (intsAt h); cases e)
    subst hnil
    exact ⟨_, W, acc_append_nil W b c', .inl ⟨rfl, b, rfl⟩, Below.refl _ _⟩
  | some ad =>
    obtain ⟨v', W', hrun, ha1, _, _, hb, _⟩ := acc_append (N := W.heap.size) (W := W) (v := .slice (some ⟨b, 0, none⟩) 0 0) (xs := []) (.inl ⟨rfl, b, rfl⟩) (by simp) ad xs.length c' (ints xs) (by simp) (by omega) (fun j u hj => by
      obtain ⟨b', off', e, _, hc⟩ := h4 j u hj
      cases e
      rw [addr_add]; exact hc) ints_one (Nat.le_refl _)
    exact ⟨v', W', hrun, by simpa using ha1, hb rfl⟩

set_option maxRecDepth 100000 in
set_option maxHeartbeats 1000000 in
theorem rules_any {S : Nat → Prop} (bs : List Int) (g d : Int) (v : Value) (w : World) (hs : Sl S w v (ints bs)) (hl : bs.length ≤ 85) :
    Calls Try.prog 15 #[.agg #[v, .int .i64 g, .int .i64 d]] w fun e w' => ∃ v', e = .returned (.agg #[v', .int .i64 g, .int .i64 d]) ∧ Below w.heap.size w w' ∧ Sl (fun k => w.heap.size ≤ k) w' v' (ints bs) := by
  obtain ⟨a, cap, rfl, _, h3⟩ := hs.form
  simp only [ints_length] at *
  obtain ⟨w1, hw1⟩ : ∃ w1, ((w.alloc (.cells #[.slice a bs.length cap, .int .i64 g, .int .i64 d] 25)).alloc (.cells #[.slice none 0 0, .int .i64 0, .int .i64 0] 25)).alloc (.cells #[] 61) = w1 := ⟨_, rfl⟩
  have hb1 : Below w.heap.size w w1 := by rw [← hw1]; exact ((aB _ _).trans ((aB _ _).mono (by simp))).trans ((aB _ _).mono (by simp; omega))
  have h1 : w1.heap[w.heap.size]? = some (.cells #[.slice a bs.length cap, .int .i64 g, .int .i64 d] 25 (0, 0)) := by
    rw [← hw1, Below.heap_alloc _ _ _ (by simp <;> omega), Below.heap_alloc _ _ _ (by simp)]; exact World.alloc_heap_new _ _
  have h2 : w1.heap[w.heap.size + 1]? = some (.cells #[.slice none 0 0, .int .i64 0, .int .i64 0] 25 (0, 0)) := by
    rw [← hw1, Below.heap_alloc _ _ _ (by simp)]; have := World.alloc_heap_new (w.alloc (.cells #[.slice a bs.length cap, .int .i64 g, .int .i64 d] 25)) (.cells #[.slice none 0 0, .int .i64 0, .int .i64 0] 25); rw [World.size_alloc] at this; exact this
  have hz1 : w1.heap.size = w.heap.size + 3 := by rw [← hw1]; simp
  obtain ⟨v', W', hrun, hacc, hb'⟩ := copy_run (hs.below hb1) (by omega) (w.heap.size + 1 + 1)
  obtain ⟨b', c', rfl⟩ := hacc.form
  rw [ints_length] at *
  have hX1 := (hb'.block _ (by omega)).trans h1
  have hX2 := (hb'.block _ (by omega)).trans h2
  have x10 : W'.cell? ⟨w.heap.size, 0, none⟩ = some (.slice a bs.length cap) := by rw [cell_of_heap hX1]; rfl
  have x11 : W'.cell? ⟨w.heap.size, 1, none⟩ = some (.int .i64 g) := by rw [cell_of_heap hX1]; rfl
  have x12 : W'.cell? ⟨w.heap.size, 2, none⟩ = some (.int .i64 d) := by rw [cell_of_heap hX1]; rfl
  have x1f : ∀ o, W'.frozen? ⟨w.heap.size, o, none⟩ = false := fun o => frozen_of_heap hX1
  have x20 : W'.cell? ⟨w.heap.size + 1, 0, none⟩ = some (.slice none 0 0) := by rw [cell_of_heap hX2]; rfl
  have x21 : W'.cell? ⟨w.heap.size + 1, 1, none⟩ = some (.int .i64 0) := by rw [cell_of_heap hX2]; rfl
  have x22 : W'.cell? ⟨w.heap.size + 1, 2, none⟩ = some (.int .i64 0) := by rw [cell_of_heap hX2]; rfl
  have x2f : ∀ o, W'.frozen? ⟨w.heap.size + 1, o, none⟩ = false := fun o => frozen_of_heap hX2
  have x1f0 := x1f 0
  have x2f0 := x2f 0
  have x2f1 := x2f 1
  have x2f2 := x2f 2
  have HX2 := Lib.hid hX2
  have HX1 := Lib.hid hX1
  have HACC := Lib.hid hacc
  have HW1 := Lib.hid hw1
  have HRUN := Lib.hid hrun
  have hbw : Below w.heap.size w W' := hb1.trans (hb'.mono (by omega))
  clear hs h1 h2 hw1 hrun hacc hX1 hX2 x1f x2f
  go_enter Try.func15, Try.ntmps15
  go_wp2_with (rw [HW1.out]; refine wpList_opOK rfl (opOK_append_run (v1 := .slice (some ⟨w.heap.size + 1 + 1, 0, none⟩) 0 0) (v2 := .slice a bs.length cap) (R := fun v'' W'' => v'' = .slice (some ⟨b', 0, none⟩) bs.length c' ∧ W' = W'') (.tmp 3) (.tmp 5) 22 rfl rfl rfl HRUN.out ⟨rfl, rfl⟩) ?_; rintro _ _ ⟨rfl, rfl⟩)
  have hN1 : ∀ u, (W'.setCell ⟨w.heap.size, 0, none⟩ u).heap[w.heap.size + 1]? = some (.cells #[.slice none 0 0, .int .i64 0, .int .i64 0] 25 (0, 0)) := fun u => by
    rw [Below.heap_setCell _ _ _ _ (by simp)]; exact HX2.out
  have e1 := heap_setCell_at (o := 0) (hN1 (.slice (some ⟨b', 0, none⟩) bs.length c')) (.slice (some ⟨b', 0, none⟩) bs.length c')
  have e2 := heap_setCell_at (o := 1) e1 (.int .i64 g)
  have e3 := heap_setCell_at (o := 2) e2 (.int .i64 d)
  have y0 := cell_of_heap (o := 0) e3
  have y1 := cell_of_heap (o := 1) e3
  have y2 := cell_of_heap (o := 2) e3
  simp only [List.setIfInBounds_toArray, List.set_cons_succ, List.set_cons_zero] at y0 y1 y2
  refine bodyPost_ret (v := .agg #[.slice (some ⟨b', 0, none⟩) bs.length c', .int .i64 g, .int .i64 d]) (by simp [results, Try.results15, go_sem, y0, y1, y2]) rfl ⟨_, rfl, ?_, ?_⟩
  · exact (((hbw.setCell (p := ⟨w.heap.size, 0, none⟩) (by simp) _).setCell (p := ⟨w.heap.size + 1, 0, none⟩) (by simp) _).setCell (p := ⟨w.heap.size + 1, 1, none⟩) (by simp) _).setCell (p := ⟨w.heap.size + 1, 2, none⟩) (by simp) _
  · refine (HACC.out.sl.cells fun b o hb _ => ?_).mono fun k hk => by omega
    rw [World.cell?_setCell_other _ _ _ _ (fun e => by simp at e <;> omega), World.cell?_setCell_other _ _ _ _ (fun e => by simp at e <;> omega), World.cell?_setCell_other _ _ _ _ (fun e => by simp at e <;> omega), World.cell?_setCell_other _ _ _ _ (fun e => by simp at e <;> omega)]

theorem rRules_r {S : Nat → Prop} (bs : List Int) (g d : Int) (r : Bool) (hr : Hid (rulesOk bs g d = r)) (v : Value) (w : World) (hs : Sl S w v (ints bs)) (hi : ∀ b ∈ bs, I64 b) :
    Calls Try.prog 20 #[.agg #[v, .int .i64 g, .int .i64 d]] w fun e w' => e = .returned (.bool r) ∧ Below w.heap.size w w' := by rw [← hr.out]; exact rRules_any bs g d v w hs hi
/-- Are there more lists than are tried? -/
def muchB (bs : List Int) (g d : Int) : Bool := rulesOk bs g d && decide (200000 < workTo bs.length d.toNat)
set_option maxRecDepth 100000 in
set_option maxHeartbeats 1000000 in
theorem much_any {S : Nat → Prop} (bs : List Int) (g d : Int) (v : Value) (w : World) (hs : Sl S w v (ints bs)) (hi : ∀ b ∈ bs, I64 b) :
    Calls Try.prog 13 #[.agg #[v, .int .i64 g, .int .i64 d]] w fun e w' => e = .returned (.bool (muchB bs g d)) ∧ Below w.heap.size w w' := by
  obtain ⟨a, cap, rfl, _, h3⟩ := hs.form
  simp only [ints_length] at *
  obtain ⟨w0, hw0⟩ : ∃ w0, w0 = w.alloc (.cells #[.slice a bs.length cap, .int .i64 g, .int .i64 d] 25) := ⟨_, rfl⟩
  have hb0 : Below w.heap.size w w0 := by rw [hw0]; exact aB _ _
  have h2 : w0.heap[w.heap.size]? = some (.cells #[.slice a bs.length cap, .int .i64 g, .int .i64 d] 25 (0, 0)) := by rw [hw0]; exact World.alloc_heap_new _ _
  have H2 := Lib.hid h2
  have HS := Lib.hid (hs.below hb0)
  have HI := Lib.hid hi
  have HW := Lib.hid hw0
  have hz0 : w.heap.size < w0.heap.size := (Array.getElem?_eq_some_iff.1 h2).1
  have HMU : Hid (muchB bs g d = (rulesOk bs g d && decide (200000 < workTo bs.length d.toNat))) := Lib.hid rfl
  clear hs hi hw0 h2
  cases hr : rulesOk bs g d
  · have HR := Lib.hid hr
    clear hr
    go_enter Try.func13, Try.ntmps13
    go_wp2_with fail
    rw [← HW.out]
    refine (rRules_r bs g d _ HR _ _ HS.out HI.out).mono ?_
    rintro e w1 ⟨rfl, hb1⟩
    go_wp2
    go_ret
    exact ⟨ret_bool (by rw [HMU.out, HR.out]; rfl), hb0.trans (hb1.mono hb0.size)⟩
  · have hrs := rulesOk_spec hr
    have hbl := (bedsOk_spec hrs.1).2.2.2
    obtain ⟨d, rfl⟩ : ∃ d' : Nat, d = d' := ⟨d.toNat, by omega⟩
    have hd9 := hrs.2.2.2
    have HR := Lib.hid hr
    clear hr hrs
    go_enter Try.func13, Try.ntmps13
    go_wp2_with fail
    rw [← HW.out]
    refine (rRules_r bs g d _ HR _ _ HS.out HI.out).mono ?_
    rintro e w1 ⟨rfl, hb1⟩
    have hX := (hb1.block _ hz0).trans H2.out
    have x0 : w1.cell? ⟨w.heap.size, 0, none⟩ = some (.slice a bs.length cap) := by rw [cell_of_heap hX]; rfl
    have x1 : w1.cell? ⟨w.heap.size, 1, none⟩ = some (.int .i64 g) := by rw [cell_of_heap hX]; rfl
    have x2 : w1.cell? ⟨w.heap.size, 2, none⟩ = some (.int .i64 d) := by rw [cell_of_heap hX]; rfl
    clear hX
    go_wp2_with fail
    refine (work_any bs g d _ _ (HS.out.below hb1) (by omega) (by omega)).mono ?_
    rintro e w2 ⟨rfl, hb2⟩
    have hz1 := hb1.size
    go_wp2
    go_ret
    refine ⟨ret_bool (by rw [HMU.out, HR.out]; simp), (hb0.trans (hb1.mono hb0.size)).trans (hb2.mono (by omega))⟩

theorem six_any (w : World) : Calls Try.prog 43 #[] w fun e w' => ∃ v', e = .returned (.agg #[v', .int .i64 1, .int .i64 2]) ∧ Below w.heap.size w w' ∧ Sl (fun k => w.heap.size ≤ k) w' v' (ints [120, 125, 205, 220, 225, 320]) := by
  obtain ⟨w1, hw1⟩ : ∃ w1, (w.alloc (.cells #[.slice (some ⟨w.heap.size + 1, 0, none⟩) 6 6, .int .i64 1, .int .i64 2] 25)).alloc (.cells #[.int .i64 120, .int .i64 125, .int .i64 205, .int .i64 220, .int .i64 225, .int .i64 320] 61) = w1 := ⟨_, rfl⟩
  have h1 : w1.heap[w.heap.size]? = some (.cells #[.slice (some ⟨w.heap.size + 1, 0, none⟩) 6 6, .int .i64 1, .int .i64 2] 25 (0, 0)) := by
    rw [← hw1, Below.heap_alloc _ _ _ (by simp)]; exact World.alloc_heap_new _ _
  have y0 := cell_of_heap (o := 0) h1
  have y1 := cell_of_heap (o := 1) h1
  have y2 := cell_of_heap (o := 2) h1
  have hb : Below w.heap.size w w1 := by rw [← hw1]; exact (aB _ _).trans ((aB _ _).mono (by simp))
  have hsl : Sl (fun k => w.heap.size ≤ k) w1 (.slice (some ⟨w.heap.size + 1, 0, none⟩) 6 6) (ints [120, 125, 205, 220, 225, 320]) := by
    have := Sl.new (fun k => w.heap.size ≤ k) (w.alloc (.cells #[.slice (some ⟨w.heap.size + 1, 0, none⟩) 6 6, .int .i64 1, .int .i64 2] 25)) (by simp) 61 (ints [120, 125, 205, 220, 225, 320]) (by simp [maxLen])
    rw [World.size_alloc] at this
    rw [← hw1]; exact this
  have HW1 := Lib.hid hw1
  have Y0 := Lib.hid y0
  have Y1 := Lib.hid y1
  have Y2 := Lib.hid y2
  have HSL := Lib.hid hsl
  clear hw1 h1 y0 y1 y2 hsl
  go_enter Try.func43, Try.ntmps43
  go_wp2
  rw [HW1.out]
  have y0 := Y0.out
  have y1 := Y1.out
  have y2 := Y2.out
  simp only [List.getElem?_toArray, List.getElem?_cons_zero, List.getElem?_cons_succ] at y0 y1 y2
  refine bodyPost_ret (v := .agg #[.slice (some ⟨w.heap.size + 1, 0, none⟩) 6 6, .int .i64 1, .int .i64 2]) (by simp [results, Try.results43, go_sem, y0, y1, y2]) rfl ⟨_, rfl, hb, HSL.out⟩

/-- Are rules valid, with no more than 85 beds? -/
def soundB (bs : List Int) (g d : Int) : Bool := decide (bs.length ≤ 85) && rulesOk bs g d
theorem rulesOk_len {bs : List Int} {g d : Int} (h : rulesOk bs g d = true) : bs.length ≤ 82 := (bedsOk_spec (rulesOk_spec h).1).2.2.2
theorem soundB_eq (bs : List Int) (g d : Int) : soundB bs g d = rulesOk bs g d := by
  unfold soundB
  cases h : rulesOk bs g d
  · simp
  · have := rulesOk_len h
    simp; omega
set_option maxRecDepth 100000 in
set_option maxHeartbeats 1000000 in
theorem sound_any {S : Nat → Prop} (bs : List Int) (g d : Int) (v : Value) (w : World) (hs : Sl S w v (ints bs)) (hi : ∀ b ∈ bs, I64 b) :
    Calls Try.prog 38 #[.agg #[v, .int .i64 g, .int .i64 d]] w fun e w' => e = .returned (.bool (rulesOk bs g d)) ∧ Below w.heap.size w w' := by
  obtain ⟨a, cap, rfl, _, h3⟩ := hs.form
  simp only [ints_length] at *
  obtain ⟨w0, hw0⟩ : ∃ w0, w0 = w.alloc (.cells #[.slice a bs.length cap, .int .i64 g, .int .i64 d] 25) := ⟨_, rfl⟩
  have hb0 : Below w.heap.size w w0 := by rw [hw0]; exact aB _ _
  have h2 : w0.heap[w.heap.size]? = some (.cells #[.slice a bs.length cap, .int .i64 g, .int .i64 d] 25 (0, 0)) := by rw [hw0]; exact World.alloc_heap_new _ _
  have hz0 : w.heap.size < w0.heap.size := (Array.getElem?_eq_some_iff.1 h2).1
  have HS := Lib.hid (hs.below hb0)
  have HI := Lib.hid hi
  have HW := Lib.hid hw0
  have H2 := Lib.hid h2
  clear hs hi hw0 h2
  obtain ⟨r, hr⟩ : ∃ r, rulesOk bs g d = r := ⟨_, rfl⟩
  have HR := Lib.hid hr
  have HLN : Hid (r = true → bs.length ≤ 82) := Lib.hid fun h => rulesOk_len (hr.trans h)
  clear hr
  obtain ⟨lg, hlg⟩ : ∃ lg, decide (85 < bs.length) = lg := ⟨_, rfl⟩
  have HLG := Lib.hid hlg
  clear hlg
  cases lg
  · have hle : bs.length ≤ 85 := by have := HLG.out; simp at this; omega
    go_enter Try.func38, Try.ntmps38
    go_wp2_with fail
    rw [← HW.out]
    refine (large_any bs g d _ _ HS.out).mono ?_
    rintro e w1 ⟨rfl, hb1⟩
    rw [HLG.out]
    have hz1 := hb1.size
    have hX := (hb1.block _ hz0).trans H2.out
    have x0 : w1.cell? ⟨w.heap.size, 0, none⟩ = some (.slice a bs.length cap) := by rw [cell_of_heap hX]; rfl
    have x1 : w1.cell? ⟨w.heap.size, 1, none⟩ = some (.int .i64 g) := by rw [cell_of_heap hX]; rfl
    have x2 : w1.cell? ⟨w.heap.size, 2, none⟩ = some (.int .i64 d) := by rw [cell_of_heap hX]; rfl
    clear hX
    go_wp2_with fail
    refine (rules_any bs g d _ _ (HS.out.below hb1) hle).mono ?_
    rintro e w2 ⟨v', rfl, hb2, hs2⟩
    have hz2 := hb2.size
    have HS2 := Lib.hid hs2
    clear hs2 x0 x1 x2
    go_wp2_with fail
    refine (check_r bs g d r HR _ _ HS2.out HI.out).mono ?_
    rintro e w3 ⟨rfl, hb3⟩
    have hbw := ((hb0.trans (hb1.mono hb0.size)).trans (hb2.mono (by omega))).trans (hb3.mono (by omega))
    cases r
    all_goals
      simp only [chkN]
      go_wp2
      go_ret
      exact ⟨ret_bool (by rw [HR.out]; try rfl), hbw⟩
  · have HF : Hid (r = false) := Lib.hid (by
      cases r
      · rfl
      · have h1 := HLN.out rfl
        have h2 := HLG.out
        simp at h2; omega)
    go_enter Try.func38, Try.ntmps38
    go_wp2_with fail
    rw [← HW.out]
    refine (large_any bs g d _ _ HS.out).mono ?_
    rintro e w1 ⟨rfl, hb1⟩
    rw [HLG.out]
    go_wp2
    go_ret
    exact ⟨ret_bool (by rw [HR.out, HF.out]), hb0.trans (hb1.mono hb0.size)⟩

set_option maxRecDepth 100000 in
set_option maxHeartbeats 1000000 in
theorem hit_any (s g b : Int) (w : World) (hb : bedOk b = true) (h1 : 0 ≤ s) (h2 : s ≤ 2000) (hg : gateOk g = true) :
    Calls Try.prog 39 #[.int .i64 s, .int .i64 b, .int .i64 g] w fun e w' => e = .returned (.int .i64 (aftR s b g)) ∧ w = w' := by
  have hwb := worth_bd hb
  have hi := Lib.hid (bedOk_i64 hb)
  have HG := Lib.hid hg
  obtain ⟨q, hq⟩ : ∃ q, q = worth b := ⟨_, rfl⟩
  rw [← hq] at hwb
  have HQ := Lib.hid hq
  have HB := Lib.hid hb
  obtain ⟨o, ho⟩ : ∃ o, opensG g b = o := ⟨_, rfl⟩
  have HO := Lib.hid ho
  have HR : Hid (aftR s b g = if (s - q = 0 ∧ o = true) ∨ 2 ≤ s - q ∨ (s - q = 1 ∧ g = 0) then s - q else -1) := by
    unfold Hid aftR aftOk
    rw [← HQ.out, HO.out]
    by_cases e0 : s - q = 0
    · rw [if_pos e0]; cases o <;> simp [e0]
    · rw [if_neg e0]
      by_cases e1 : s - q = 1
      · rw [if_pos e1, e1]; simp
      · rw [if_neg e1]; simp [e0, e1]; by_cases e2 : 1 < s - q <;> simp [e2] <;> omega
  clear hq hb hg ho
  cases o
  all_goals
    by_cases c0 : s - q = 0
    · have d0 : (s - q == 0) = true := by simp [c0]
      have d1 : (s - q == 1) = false := by simp [c0]
      have d2 : ¬ s - q < 0 := by omega
      have C0 := Lib.hid c0
      clear c0
      go_enter Try.func39, Try.ntmps39
      go_wp2_with (first | (go_at_call 41; refine (lworth_any b _ hi.out (wrap_worth' HB.out)).mono ?_; rintro e w' ⟨rfl, rfl⟩; rw [← HQ.out]) | (go_at_call 40; refine (lopens_any g b _ hi.out HG.out).mono ?_; rintro e w' ⟨rfl, rfl⟩; rw [HO.out]))
      go_ret
      refine ⟨ret_int ?_, rfl⟩
      rw [HR.out, C0.out]; simp
    · have d0 : (s - q == 0) = false := by simp [c0]
      by_cases c1 : s - q = 1
      · have d1 : (s - q == 1) = true := by simp [c1]
        have d2 : ¬ s - q < 0 := by omega
        have C1 := Lib.hid c1
        by_cases cg : g = 0
        · subst cg
          clear c0 c1
          go_enter Try.func39, Try.ntmps39
          go_wp2_with (first | (go_at_call 41; refine (lworth_any b _ hi.out (wrap_worth' HB.out)).mono ?_; rintro e w' ⟨rfl, rfl⟩; rw [← HQ.out]) | (go_at_call 40; refine (lopens_any _ b _ hi.out HG.out).mono ?_; rintro e w' ⟨rfl, rfl⟩; rw [HO.out]))
          all_goals
            go_ret
            refine ⟨ret_int ?_, rfl⟩
            rw [HR.out, C1.out]; try simp
        · have dg : (g != 0) = true := by simp [cg]
          have CG := Lib.hid cg
          clear c0 c1 cg
          go_enter Try.func39, Try.ntmps39
          go_wp2_with (first | (go_at_call 41; refine (lworth_any b _ hi.out (wrap_worth' HB.out)).mono ?_; rintro e w' ⟨rfl, rfl⟩; rw [← HQ.out]) | (go_at_call 40; refine (lopens_any g b _ hi.out HG.out).mono ?_; rintro e w' ⟨rfl, rfl⟩; rw [HO.out]))
          go_ret
          refine ⟨ret_int ?_, rfl⟩
          rw [HR.out, C1.out, if_neg (fun h => by rcases h with h | h | h; omega; omega; exact CG.out h.2)]
      · have d1 : (s - q == 1) = false := by simp [c1]
        by_cases c2 : s - q < 0
        · go_enter Try.func39, Try.ntmps39
          go_wp2_with (first | (go_at_call 41; refine (lworth_any b _ hi.out (wrap_worth' HB.out)).mono ?_; rintro e w' ⟨rfl, rfl⟩; rw [← HQ.out]) | (go_at_call 40; refine (lopens_any g b _ hi.out HG.out).mono ?_; rintro e w' ⟨rfl, rfl⟩; rw [HO.out]))
          go_ret
          refine ⟨ret_int ?_, rfl⟩
          rw [HR.out, if_neg (by omega)]
        · go_enter Try.func39, Try.ntmps39
          go_wp2_with (first | (go_at_call 41; refine (lworth_any b _ hi.out (wrap_worth' HB.out)).mono ?_; rintro e w' ⟨rfl, rfl⟩; rw [← HQ.out]) | (go_at_call 40; refine (lopens_any g b _ hi.out HG.out).mono ?_; rintro e w' ⟨rfl, rfl⟩; rw [HO.out]))
          go_ret
          refine ⟨ret_int ?_, rfl⟩
          rw [HR.out, if_pos (by omega)]
end Go.Proofs.Ytcnofoopdghjiaa

/- Chapter 2: what is known of the document's six beds. -/
namespace Go.Proofs.Ytcnofoopdghjiaa
open Go.RowKit Go.Oche Go.Proofs
/-- The six beds of the document's examples. -/
def sx : List Int := [120, 125, 205, 220, 225, 320]
def nv6 : List Bool := [false, false, false, false, false, true, false, false, false, false, false, false, false, false, false, true, false, false, false, false, false, false, false, false, false, true]
theorem sx_i64 : ∀ b ∈ sx, I64 b := by
  have h : sx.all (fun b => decide (-9223372036854775808 ≤ b) && decide (b ≤ 9223372036854775807)) = true := by decide +kernel
  intro b hb
  have := List.all_eq_true.1 h b hb
  simp at this; exact this
theorem sx_ways : waysErr sx 1 2 60 = 0 ∧ waysRes sx 1 2 60 = [[120, 220], [205, 225], [225, 205]] := by decide +kernel
theorem sx_number : numOf sx 1 2 40 = 1 ∧ scoreErr sx 1 2 40 = 0 := by decide +kernel
theorem sx_forced : forcedErr sx 1 2 110 = 0 ∧ forcedL sx 1 2 110 = [225, 320] := by decide +kernel
theorem sx_fewest : mostErr sx 1 2 40 = 0 ∧ fewL sx 1 2 40 = [0, -1, -1, -1, -1, -1, -1, -1, -1, -1, 1, -1, -1, -1, -1, -1, -1, -1, -1, -1, 2, -1, -1, -1, -1, -1, -1, -1, -1, -1, 2, -1, -1, -1, -1, 2, -1, -1, -1, -1, 1] := by decide +kernel
theorem sx_bogeys : mostErr sx 1 2 15 = 0 ∧ bogL sx 1 2 15 = [1, 2, 3, 4, 5, 6, 7, 8, 9, 11, 12, 13, 14, 15] := by decide +kernel
theorem sx_legs : psumIf (cntRow 1 sx 100 1) 0 (throwsL 1 ((100 : Nat) : Int) sx) = 2 := by decide +kernel
theorem sx_first : firstErr sx 1 2 60 = 0 ∧ firstRes sx 1 2 60 = [120, 220] := by decide +kernel
theorem sx_closed : closedRes sx 1 2 nv6 = true ∧ closedErr sx 1 2 nv6.length = 0 := by decide +kernel
theorem sx_beds : bedsOk sx = true ∧ gateOk 1 = true ∧ gateOk 0 = true := by decide +kernel
end Go.Proofs.Ytcnofoopdghjiaa

/- Chapter 2: the document's examples hold. -/
namespace Go.Oche
open Go Go.RowKit
theorem Sl.opened {S : Nat → Prop} {w : World} {v : Value} {xs : List Value} (h : Sl S w v xs) (hl : 0 < xs.length) : ∃ b o cap, v = .slice (some ⟨b, o, none⟩) xs.length cap ∧ xs.length ≤ cap ∧ cap ≤ maxLen ∧ ∀ i x, xs[i]? = some x → w.cell? ⟨b, o + i, none⟩ = some x := by
  obtain ⟨a, cap, h1, h2, h3, h4⟩ := h
  obtain ⟨b, o, rfl, _, _⟩ := h4 0 xs[0] (List.getElem?_eq_getElem hl)
  refine ⟨b, o, cap, h1, h2, h3, fun i x hx => ?_⟩
  obtain ⟨b', o', e, _, c⟩ := h4 i x hx
  cases e; exact c
end Go.Oche
namespace Go.Proofs.Ytcnofoopdghjiaa
open Go.RowKit Go.Oche Go.Proofs

theorem bThen {w w1 w2 : World} (h : Below w.heap.size w w1) (h' : Below w1.heap.size w1 w2) : Below w.heap.size w w2 := h.trans (h'.mono h.size)

/-- What is known of a result that holds integers. -/
theorem got_ints {S : Nat → Prop} {w : World} {v : Value} {xs : List Int} (h : Sl S w v (ints xs)) (hl : 0 < xs.length) : ∃ b o cap, v = .slice (some ⟨b, o, none⟩) xs.length cap ∧ xs.length ≤ cap ∧ cap ≤ maxLen ∧ ∀ w', Below w.heap.size w w' → ∀ i (hi : i < xs.length), w'.cell? ⟨b, o + i, none⟩ = some (.int .i64 xs[i]) := by
  obtain ⟨b, o, cap, h1, h2, h3, h4⟩ := h.opened (by simpa using hl)
  refine ⟨b, o, cap, by simpa using h1, by simpa using h2, h3, fun w' hb i hi => bAt hb (h4 i _ (intsAt hi))⟩

theorem fld25 (v : Value) (w : World) : (Instr.field 25 (.agg #[v, .int .i64 1, .int .i64 2]) 0).run Try.prog w = .ok v w := by kernel_rfl

set_option maxRecDepth 100000 in
set_option maxHeartbeats 4000000 in
theorem known_any (w : World) : Calls Try.prog 14 #[] w fun e w' => e = .returned (.bool true) ∧ Below w.heap.size w w' := by
  go_enter Try.func14, Try.ntmps14
  go_wp2_with fail
  refine (six_any _).mono ?_
  rintro e w1 ⟨v1, rfl, hb1, hs1⟩
  have HS1 := Lib.hid hs1
  have HB1 := Lib.hid hb1
  clear hs1 hb1
  go_wp2_with fail
  refine (waysF_any sx 1 2 60 _ _ HS1.out sx_i64).mono ?_
  rintro e w2 ⟨l, rfl, hb2, hl⟩
  rw [sx_ways.1]
  rw [sx_ways.2] at hl
  obtain ⟨vs, hl1, hl2, hl3⟩ := hl
  obtain ⟨u, hu, hul⟩ := hl3 2 (by simp)
  obtain ⟨bu, ou, cu, rfl, hcu1, hcu2, hcu⟩ := got_ints hul (by simp)
  obtain ⟨bl, ol, cl, rfl, hcl1, hcl2, hcl⟩ := hl1.opened (by rw [hl2]; simp)
  have hcl3 := hcl 2 _ hu
  simp only [hl2, List.length_cons, List.length_nil, Nat.zero_add, Nat.reduceAdd, List.getElem_cons_succ, List.getElem_cons_zero] at *
  have HCU := Lib.hid hcu
  have HCL := Lib.hid hcl3
  have HB2 := Lib.hid hb2
  clear hcu hcl hcl3 hb2 hu hul hl1 hl2 hl3
  go_wp2_with fail
  refine (six_any _).mono ?_
  rintro e w3 ⟨v3, rfl, hb3, hs3⟩
  have HS3 := Lib.hid hs3
  have HB3 := Lib.hid hb3
  clear hs3 hb3
  go_wp2_with fail
  refine (number_any sx 1 2 40 _ _ HS3.out sx_i64).mono ?_
  rintro e w4 ⟨rfl, hb4⟩
  rw [sx_number.1, sx_number.2]
  have HB4 := Lib.hid hb4
  clear hb4
  go_wp2_with fail
  refine (six_any _).mono ?_
  rintro e w5 ⟨v5, rfl, hb5, hs5⟩
  have HS5 := Lib.hid hs5
  have HB5 := Lib.hid hb5
  clear hs5 hb5
  go_wp2_with fail
  refine (forced_any sx 1 2 110 _ _ HS5.out sx_i64).mono ?_
  rintro e w6 ⟨lv, rfl, hb6, hl⟩
  rw [sx_forced.1]
  rw [sx_forced.2] at hl
  obtain ⟨bf, of, cf, rfl, hf1, hf2, hf3⟩ := got_ints hl (by simp)
  simp only [List.length_cons, List.length_nil, Nat.zero_add, Nat.reduceAdd] at hf1
  have Hf := Lib.hid hf3
  simp only [List.length_cons, List.length_nil, Nat.zero_add, Nat.reduceAdd]
  clear hf3 hl
  have HB6 := Lib.hid hb6
  clear hb6
  go_wp2_with fail
  refine (six_any _).mono ?_
  rintro e w7 ⟨v7, rfl, hb7, hs7⟩
  have HS7 := Lib.hid hs7
  have HB7 := Lib.hid hb7
  clear hs7 hb7
  go_wp2_with fail
  refine (fewest_any sx 1 2 40 _ _ HS7.out sx_i64).mono ?_
  rintro e w8 ⟨lv, rfl, hb8, hl⟩
  rw [sx_fewest.1]
  rw [sx_fewest.2] at hl
  obtain ⟨be, oe, ce, rfl, he1, he2, he3⟩ := got_ints hl (by simp)
  simp only [List.length_cons, List.length_nil, Nat.zero_add, Nat.reduceAdd] at he1
  have He := Lib.hid he3
  simp only [List.length_cons, List.length_nil, Nat.zero_add, Nat.reduceAdd]
  clear he3 hl
  have HB8 := Lib.hid hb8
  clear hb8
  go_wp2_with fail
  refine (six_any _).mono ?_
  rintro e w9 ⟨v9, rfl, hb9, hs9⟩
  have HS9 := Lib.hid hs9
  have HB9 := Lib.hid hb9
  clear hs9 hb9
  go_wp2_with fail
  refine (bogeys_any sx 1 2 15 _ _ HS9.out sx_i64).mono ?_
  rintro e w10 ⟨lv, rfl, hb10, hl⟩
  rw [sx_bogeys.1]
  rw [sx_bogeys.2] at hl
  obtain ⟨bg, og, cg, rfl, hg1, hg2, hg3⟩ := got_ints hl (by simp)
  simp only [List.length_cons, List.length_nil, Nat.zero_add, Nat.reduceAdd] at hg1
  have Hg := Lib.hid hg3
  simp only [List.length_cons, List.length_nil, Nat.zero_add, Nat.reduceAdd]
  clear hg3 hl
  have HB10 := Lib.hid hb10
  clear hb10
  go_wp2_with fail
  refine (six_any _).mono ?_
  rintro e w11 ⟨v11, rfl, hb11, hs11⟩
  have HS11 := Lib.hid hs11
  have HB11 := Lib.hid hb11
  clear hs11 hb11
  go_wp2_with fail
  rw [fld25]
  go_wp2_with fail
  refine (legs_ok sx 100 1 0 1 _ _ HS11.out sx_i64 (by omega) (by omega) sx_beds.2.2 sx_beds.2.1 sx_beds.1 (by omega)).mono ?_
  rintro e w12 ⟨rfl, hb12⟩
  rw [sx_legs]
  have HB12 := Lib.hid hb12
  clear hb12
  go_wp2_with fail
  refine (six_any _).mono ?_
  rintro e w13 ⟨v13, rfl, hb13, hs13⟩
  have HS13 := Lib.hid hs13
  have HB13 := Lib.hid hb13
  clear hs13 hb13
  go_wp2_with fail
  have hsn : Sl (fun _ => True) (w13.alloc (.cells (nv6.map Value.bool).toArray 4)) (.slice (some ⟨w13.heap.size, 0, none⟩) 26 26) (bools nv6) := Sl.new _ _ trivial 4 (bools nv6) (by simp [nv6, maxLen])
  refine (closed_any sx 1 2 nv6 _ _ _ (HS13.out.below (aB _ _)) hsn sx_i64).mono ?_
  rintro e w14 ⟨rfl, hb14⟩
  rw [sx_closed.1, sx_closed.2]
  have HB14 := Lib.hid hb14
  clear hb14
  go_wp2_with fail
  refine (six_any _).mono ?_
  rintro e w15 ⟨v15, rfl, hb15, hs15⟩
  have HS15 := Lib.hid hs15
  have HB15 := Lib.hid hb15
  clear hs15 hb15
  go_wp2_with fail
  refine (firstF_any sx 1 2 60 _ _ HS15.out sx_i64).mono ?_
  rintro e w16 ⟨lv, rfl, hb16, hl⟩
  rw [sx_first.1]
  rw [sx_first.2] at hl
  obtain ⟨bi, oi, ci, rfl, hi1, hi2, hi3⟩ := got_ints hl (by simp)
  simp only [List.length_cons, List.length_nil, Nat.zero_add, Nat.reduceAdd] at hi1
  have Hi := Lib.hid hi3
  simp only [List.length_cons, List.length_nil, Nat.zero_add, Nat.reduceAdd]
  clear hi3 hl
  have HB16 := Lib.hid hb16
  clear hb16
  have c15 := bThen HB15.out HB16.out
  have c13 := bThen (bThen (aB w13 (.cells (nv6.map Value.bool).toArray 4)) HB14.out) c15
  have c12 := bThen HB13.out c13
  have c11 := bThen HB12.out c12
  have c10 := bThen HB11.out c11
  have c9 := bThen HB10.out c10
  have c8 := bThen HB9.out c9
  have c7 := bThen HB8.out c8
  have c6 := bThen HB7.out c7
  have c5 := bThen HB6.out c6
  have c4 := bThen HB5.out c5
  have c3 := bThen HB4.out c4
  have c2 := bThen HB3.out c3
  have c1 := bThen HB2.out c2
  have CW := Lib.hid (bThen HB1.out c1)
  have x1 := bAt c2 HCL.out
  have x2 := HCU.out w16 c2 0 (by simp)
  have x3 := HCU.out w16 c2 1 (by simp)
  have x4 := Hf.out w16 c6 0 (by simp)
  have x5 := Hf.out w16 c6 1 (by simp)
  have x6 := He.out w16 c8 35 (by simp)
  have x7 := He.out w16 c8 25 (by simp)
  have x8 := He.out w16 c8 40 (by simp)
  have x9 := Hg.out w16 c10 9 (by simp)
  have x10 := Hi.out w16 (Below.refl _ _) 1 (by simp)
  simp only [List.getElem_cons_succ, List.getElem_cons_zero, Nat.add_zero] at x1 x2 x3 x4 x5 x6 x7 x8 x9 x10
  clear c1 c2 c3 c4 c5 c6 c7 c8 c9 c10 c11 c12 c13 c15 HCL HCU Hf He Hg Hi hsn
  go_wp2
  go_ret
  exact ⟨rfl, CW.out⟩
end Go.Proofs.Ytcnofoopdghjiaa

/- Chapter 2, law OutLegs: the walk. -/
namespace Go.Proofs.Ytcnofoopdghjiaa
open Go.RowKit Go.Oche Go.Proofs

/-- The list that an append to an empty one makes. -/
def kSl (xs : List Value) : Kn := ⟨fun v => ∃ b c, v = .slice (some ⟨b, 0, none⟩) xs.length c, fun v w => Sl (fun _ => True) w v xs, fun _v _w _w' hb h => h.below hb⟩
def kNew : Kn := ⟨fun v => ∃ b, v = .slice (some ⟨b, 0, none⟩) 0 0, fun _ _ => True, fun _ _ _ _ h => h⟩

theorem legsErr_zero {bs : List Int} {st gi go d : Int} (h : legsErr bs st gi go d = 0) : 2 ≤ st ∧ st ≤ 1001 ∧ gateOk gi = true ∧ gateOk go = true ∧ bedsOk bs = true ∧ 1 ≤ d ∧ d ≤ 9 := by
  unfold legsErr at h
  split at h
  · rename_i hc
    simp only [Bool.and_eq_true, isIn, decide_eq_true_eq] at hc
    split at h
    · rename_i hd
      simp only [Bool.and_eq_true, isIn, decide_eq_true_eq] at hd
      exact ⟨hc.1.1.1.1, hc.1.1.1.2, hc.1.1.2, hc.1.2, hc.2, hd.1, hd.2⟩
    · simp at h
  · simp at h

theorem legs_any {S : Nat → Prop} (bs : List Int) (st gi go d : Int) (v : Value) (w : World) (hs : Sl S w v (ints bs)) (hi : ∀ b ∈ bs, I64 b) :
    Calls Try.prog 35 #[.agg #[.int .i64 st, .int .i64 gi, .int .i64 go], v, .int .i64 d] w fun e w' => e = .returned (.tuple #[.int .i64 (legsNum bs st gi go d), .int .i64 (legsErr bs st gi go d)]) ∧ Below w.heap.size w w' := by
  by_cases h : legsErr bs st gi go d = 0
  · obtain ⟨h1, h2, h3, h4, h5, h6, h7⟩ := legsErr_zero h
    obtain ⟨st', rfl⟩ : ∃ n : Nat, st = n := ⟨st.toNat, by omega⟩
    obtain ⟨dd, rfl⟩ : ∃ n : Nat, d = (n : Int) + 1 := ⟨(d - 1).toNat, by omega⟩
    refine (legs_ok bs st' dd gi go v w hs hi (by omega) (by omega) h3 h4 h5 (by omega)).mono ?_
    rintro e w' ⟨rfl, hb⟩
    refine ⟨?_, hb⟩
    have e1 : ((dd : Int) + 1).toNat - 1 = dd := by omega
    rw [legsNum, if_pos h, h, e1]; rfl
  · refine (legs_bad bs st gi go d v w hs hi h).mono ?_
    rintro e w' ⟨rfl, hb⟩
    refine ⟨?_, hb⟩
    rw [legsNum, if_neg h]

theorem known_b (w : World) : Calls Try.prog 14 #[] w fun e w' => e = .returned (.bool true) ∧ Below w.heap.size w w' := known_any w

set_option maxRecDepth 100000 in
set_option maxHeartbeats 1000000 in
theorem OutLegs_any {S : Nat → Prop} (bs : List Int) (st gi go d : Int) (v : Value) (w : World) (hs : Sl S w v (ints bs)) (hi : ∀ b ∈ bs, I64 b) :
    Calls Try.prog 6 #[.agg #[.int .i64 st, .int .i64 gi, .int .i64 go], v, .int .i64 d] w fun e w' => e = .returned (.bool true) ∧ Below w.heap.size w w' := by
  obtain ⟨a, cap, rfl, _, h3⟩ := hs.form
  simp only [ints_length] at *
  obtain ⟨w0, hw0⟩ : ∃ w0, w0 = w.alloc (.cells #[.int .i64 st, .int .i64 gi, .int .i64 go] 55) := ⟨_, rfl⟩
  have hb0 : Below w.heap.size w w0 := by rw [hw0]; exact aB _ _
  have h2 : w0.heap[w.heap.size]? = some (.cells #[.int .i64 st, .int .i64 gi, .int .i64 go] 55 (0, 0)) := by rw [hw0]; exact World.alloc_heap_new _ _
  have hz0 : w.heap.size < w0.heap.size := (Array.getElem?_eq_some_iff.1 h2).1
  have x0 : w0.cell? ⟨w.heap.size, 0, none⟩ = some (.int .i64 st) := by rw [cell_of_heap h2]; rfl
  have x1 : w0.cell? ⟨w.heap.size, 1, none⟩ = some (.int .i64 gi) := by rw [cell_of_heap h2]; rfl
  have x2 : w0.cell? ⟨w.heap.size, 2, none⟩ = some (.int .i64 go) := by rw [cell_of_heap h2]; rfl
  have HS := Lib.hid (hs.below hb0)
  have HI := Lib.hid hi
  have HW := Lib.hid hw0
  have HB0 := Lib.hid hb0
  clear hs hi hw0 h2
  obtain ⟨b1, h1⟩ : ∃ b, isIn st 2 1001 = b := ⟨_, rfl⟩
  obtain ⟨b2, h2⟩ : ∃ b, isIn gi 0 2 = b := ⟨_, rfl⟩
  obtain ⟨b3, h3⟩ : ∃ b, isIn go 0 2 = b := ⟨_, rfl⟩
  obtain ⟨b4, h4⟩ : ∃ b, bedsOk bs = b := ⟨_, rfl⟩
  obtain ⟨b5, h5⟩ : ∃ b, isIn d 1 9 = b := ⟨_, rfl⟩
  obtain ⟨le, hle⟩ : ∃ x, legsErr bs st gi go d = x := ⟨_, rfl⟩
  obtain ⟨ln, hln⟩ : ∃ x, legsNum bs st gi go d = x := ⟨_, rfl⟩
  have LE : Hid (le = if (b1 && b2 && b3 && b4) = true then (if b5 = true then 0 else 3) else 2) := Lib.hid (by rw [← hle, ← h1, ← h2, ← h3, ← h4, ← h5]; rfl)
  have LN : Hid (ln = if le = 0 then psumIf (cntRow go bs st.toNat (d.toNat - 1)) gi (throwsL go st bs) else 0) := Lib.hid (by rw [← hln, ← hle]; rfl)
  have H1 := Lib.hid h1
  have H2 := Lib.hid h2
  have H3 := Lib.hid h3
  have H4 := Lib.hid h4
  have H5 := Lib.hid h5
  have HLE := Lib.hid hle
  have HLN := Lib.hid hln
  clear h1 h2 h3 h4 h5 hle hln
  obtain ⟨lg, hlg⟩ : ∃ lg, decide (85 < (bs.length : Int)) = lg := ⟨_, rfl⟩
  cases lg
  · have hle : bs.length ≤ 85 := by simp at hlg; omega
    have mix : Try.prog.follows .mixedOrders = true := by kernel_rfl
    go_enter Try.func6, Try.ntmps6
    go_wp2_with fail
    rw [← HW.out]
    refine wp_region_seq 11 [.is ?_, kNew, .is ?_, kSl (ints bs), .is ?_, .is (.tuple #[.int .i64 ln, .int .i64 le]), .is ?_, .is ?_, .is ?_, .is ?_, .is ?_] rfl mix (by kernel_rfl) (by kernel_rfl) ?seqm
    case seqm =>
      simp only [List.take_succ_cons, List.take_zero]
      refine seq_is rfl (fun w1 hb _ => ?_) ?_
      · have z0 := bAt hb x0
        have z1 := bAt hb x1
        have z2 := bAt hb x2
        simp [opOK, go_sem, z0, z1, z2, Below.refl]
        try exact rfl
      simp only [Act.put, List.setIfInBounds_toArray, List.set_cons_succ, List.set_cons_zero]
      refine seq_new ⟨_, 0, rfl⟩ (by rfl) (fun w1 hb _ => ?_) ?_
      · simp [opOK, go_sem]
        exact ⟨aB _ _, ⟨_, rfl⟩, trivial⟩
      rintro v15 ⟨b15, rfl⟩
      simp only [Act.put, List.setIfInBounds_toArray, List.set_cons_succ, List.set_cons_zero]
      refine seq_is rfl (fun w1 hb _ => ?_) ?_
      · simp [opOK, go_sem, Below.refl]
        try exact rfl
      simp only [Act.put, List.setIfInBounds_toArray, List.set_cons_succ, List.set_cons_zero]
      refine seq_new ⟨_, 0, 0, rfl⟩ (by rfl) (fun w1 hb1 _ => ?_) ?_
      · obtain ⟨v', W', hrun, ha1, hb⟩ := copy_run (HS.out.below hb1) (by omega) b15
        refine opOK_append_run (v1 := .slice (some ⟨b15, 0, none⟩) 0 0) (v2 := .slice a bs.length cap) (.tmp 15) (.tmp 16) 22 rfl rfl rfl hrun ⟨hb, ?_, ha1.sl.mono fun _ _ => trivial⟩
        obtain ⟨b', c', e⟩ := ha1.form
        exact ⟨b', c', e⟩
      rintro v17 ⟨b17, c17, rfl⟩
      simp only [Act.put, List.setIfInBounds_toArray, List.set_cons_succ, List.set_cons_zero, ints_length]
      refine seq_is rfl (fun w1 hb _ => ?_) ?_
      · simp [opOK, go_sem, Below.refl]
        try exact rfl
      simp only [Act.put, List.setIfInBounds_toArray, List.set_cons_succ, List.set_cons_zero]
      refine seq_is rfl (fun w1 hb1 hH => ?_) ?_
      · have hsv : Sl (fun _ => True) w1 (.slice (some ⟨b17, 0, none⟩) bs.length c17) (ints bs) := by
          have := hH ⟨3, .data⟩ (by simp) rfl
          simpa [addH, kSl] using this
        simp [opOK, go_sem]
        exact (legs_any bs st gi go d _ _ hsv HI.out).mono fun e w' h => ⟨_, h.1, by rw [HLN.out, HLE.out], h.2⟩
      simp only [Act.put, List.setIfInBounds_toArray, List.set_cons_succ, List.set_cons_zero]
      iterate 5
        refine seq_is rfl (fun w1 hb _ => ?_) ?_
        · simp [opOK, go_sem, Below.refl]
          try exact rfl
        simp only [Act.put, List.setIfInBounds_toArray, List.set_cons_succ, List.set_cons_zero]
      refine seq_end fun w5 hb5 _ => ?_
      simp only [List.drop_succ_cons, List.drop_zero]
      replace x0 := bAt hb5 x0
      replace x1 := bAt hb5 x1
      replace x2 := bAt hb5 x2
      have HS5 := Lib.hid (HS.out.below hb5)
      have HB5 := Lib.hid (HB0.out.trans (hb5.mono HB0.out.size))
      clear hb5 HS
      cases b1
      · have le2 : le = 2 := by simpa using LE.out
        subst le2
        have ln0 : ln = 0 := by simpa using LN.out
        subst ln0
        go_wp2_with fail
        refine (in_r _ _ _ _ H1 _).mono ?_
        rintro e w' ⟨rfl, rfl⟩
        go_wp2_with fail
        refine (known_any _).mono ?_
        rintro e w7 ⟨rfl, hb7⟩
        have HB7 := Lib.hid (bThen HB5.out hb7)
        clear hb7
        go_wp2
        go_ret
        exact ⟨rfl, HB7.out⟩
      · go_wp2_with fail
        refine (in_r _ _ _ _ H1 _).mono ?_
        rintro e w' ⟨rfl, rfl⟩
        cases b2
        · have le2 : le = 2 := by simpa using LE.out
          subst le2
          have ln0 : ln = 0 := by simpa using LN.out
          subst ln0
          go_wp2_with fail
          refine (in_r _ _ _ _ H2 _).mono ?_
          rintro e w' ⟨rfl, rfl⟩
          go_wp2_with fail
          refine (known_any _).mono ?_
          rintro e w7 ⟨rfl, hb7⟩
          have HB7 := Lib.hid (bThen HB5.out hb7)
          clear hb7
          go_wp2
          go_ret
          exact ⟨rfl, HB7.out⟩
        · go_wp2_with fail
          refine (in_r _ _ _ _ H2 _).mono ?_
          rintro e w' ⟨rfl, rfl⟩
          cases b3
          · have le2 : le = 2 := by simpa using LE.out
            subst le2
            have ln0 : ln = 0 := by simpa using LN.out
            subst ln0
            go_wp2_with fail
            refine (in_r _ _ _ _ H3 _).mono ?_
            rintro e w' ⟨rfl, rfl⟩
            go_wp2_with fail
            refine (known_any _).mono ?_
            rintro e w7 ⟨rfl, hb7⟩
            have HB7 := Lib.hid (bThen HB5.out hb7)
            clear hb7
            go_wp2
            go_ret
            exact ⟨rfl, HB7.out⟩
          · go_wp2_with fail
            refine (in_r _ _ _ _ H3 _).mono ?_
            rintro e w' ⟨rfl, rfl⟩
            cases b4
            · have le2 : le = 2 := by simpa using LE.out
              subst le2
              have ln0 : ln = 0 := by simpa using LN.out
              subst ln0
              go_wp2_with fail
              refine (rBeds_r _ _ H4 _ _ HS5.out HI.out).mono ?_
              rintro e w6 ⟨rfl, hb6⟩
              replace x0 := bAt hb6 x0
              replace x1 := bAt hb6 x1
              replace x2 := bAt hb6 x2
              have HB6 := Lib.hid (bThen HB5.out hb6)
              have HS6 := Lib.hid (HS5.out.below hb6)
              clear hb6
              go_wp2_with fail
              refine (known_any _).mono ?_
              rintro e w7 ⟨rfl, hb7⟩
              have HB7 := Lib.hid (bThen HB6.out hb7)
              clear hb7
              go_wp2
              go_ret
              exact ⟨rfl, HB7.out⟩
            · go_wp2_with fail
              refine (rBeds_r _ _ H4 _ _ HS5.out HI.out).mono ?_
              rintro e w6 ⟨rfl, hb6⟩
              replace x0 := bAt hb6 x0
              replace x1 := bAt hb6 x1
              replace x2 := bAt hb6 x2
              have HB6 := Lib.hid (bThen HB5.out hb6)
              have HS6 := Lib.hid (HS5.out.below hb6)
              clear hb6
              cases b5
              · have le2 : le = 3 := by simpa using LE.out
                subst le2
                have ln0 : ln = 0 := by simpa using LN.out
                subst ln0
                go_wp2_with fail
                refine (in_r _ _ _ _ H5 _).mono ?_
                rintro e w' ⟨rfl, rfl⟩
                go_wp2_with fail
                refine (known_any _).mono ?_
                rintro e w7 ⟨rfl, hb7⟩
                have HB7 := Lib.hid (bThen HB6.out hb7)
                clear hb7
                go_wp2
                go_ret
                exact ⟨rfl, HB7.out⟩
              · go_wp2_with fail
                refine (in_r _ _ _ _ H5 _).mono ?_
                rintro e w' ⟨rfl, rfl⟩
                have le2 : le = 0 := by simpa using LE.out
                subst le2
                have ln0 : ln = psumIf (cntRow go bs st.toNat (d.toNat - 1)) gi (throwsL go st bs) := by simpa using LN.out
                obtain ⟨h1, h2⟩ : 2 ≤ st ∧ st ≤ 1001 := by simpa [isIn] using H1.out
                obtain ⟨h3, h4⟩ : 1 ≤ d ∧ d ≤ 9 := by simpa [isIn] using H5.out
                obtain ⟨st, rfl⟩ : ∃ n : Nat, st = n := ⟨st.toNat, by omega⟩
                obtain ⟨d, rfl⟩ : ∃ n : Nat, d = n := ⟨d.toNat, by omega⟩
                have G := Lib.hid (show 2 ≤ st ∧ st ≤ 1001 ∧ 1 ≤ d ∧ d ≤ 9 by omega)
                have LN0 := Lib.hid ln0
                clear h1 h2 h3 h4 ln0
                go_wp2_with fail
                refine (rLegs_any bs gi go st d _ _ HS6.out (bedsOk_spec H4.out).1 (bedsOk_spec H4.out).2.2.2 H2.out H3.out G.out.2.2.1 G.out.2.2.2 G.out.1 G.out.2.1).mono ?_
                rintro e w8 ⟨rfl, hb8⟩
                have HB8 := Lib.hid (bThen HB6.out hb8)
                have e8 := LN0.out
                simp only [Int.toNat_natCast] at e8
                rw [← e8]
                clear hb8 e8
                go_wp2_with fail
                refine (known_any _).mono ?_
                rintro e w7 ⟨rfl, hb7⟩
                have HB7 := Lib.hid (bThen HB8.out hb7)
                clear hb7
                go_wp2
                go_ret
                exact ⟨rfl, HB7.out⟩
  · go_enter Try.func6, Try.ntmps6
    go_wp2_with fail
    rw [← HW.out]
    refine (known_any _).mono ?_
    rintro e w1 ⟨rfl, hb1⟩
    go_wp2
    go_ret
    exact ⟨rfl, bThen HB0.out hb1⟩
end Go.Proofs.Ytcnofoopdghjiaa
