/- The texts LC, LG, LH, LI, in build order. -/
import Derived.Test.YtcnofoopdghjiaaZan
import Derived.Test.YtcnofoopdghjiaaRows
import Derived.Lib.SmallJoins
import Derived.ChangeSlices
import Derived.ChangeSame
import Derived.JoinedOf
import Derived.JoinedAt

/- Chapter 2: what a law's arguments read as. -/
namespace Go.Proofs.Ytcnofoopdghjiaa
open Go.RowKit Go.Oche Go.Proofs Go.ChangeShapes Go.WideShapes Go.ChangeAt

theorem own : ownKnob Try.prog.godebug = none := by kernel_rfl
theorem sized : sizedB Try.prog = true := by kernel_rfl
theorem cells61 : Try.prog.cellsOf 61 = 1 := by kernel_rfl
theorem cells4 : Try.prog.cellsOf 4 = 1 := by kernel_rfl

theorem i64_of_wf {n : Int} (h : (Lit.int .i64 n).wf = true) : I64 n := by
  have := h
  simp [Lit.wf, IntKind.min, IntKind.max, IntKind.signed, IntKind.bits] at this
  exact this

theorem sl_of_cells {W : World} {a : Addr} {len cap : Nat} {zs : List Int} (hl : len ≤ cap) (hm : cap ≤ maxLen) (hz : len ≤ zs.length) (hc : ∀ i, i < zs.length → W.cell? (a.add i) = some (.int .i64 (zs.getD i 0))) :
    Sl (fun _ => True) W (.slice (some a) len cap) (ints (zs.take len)) := by
  have hlen : (ints (zs.take len)).length = len := by simp; omega
  refine ⟨some a, cap, by rw [hlen], by omega, hm, fun i x hx => ?_⟩
  have hi : i < len := by rw [← hlen]; exact (List.getElem?_eq_some_iff.1 hx).1
  have ha : a.spot = none := by
    have h0 := hc 0 (by omega)
    unfold World.cell? Addr.add at h0
    simp only [if_true] at h0
    cases hs : a.spot with
    | none => rfl
    | some s =>
      rw [hs] at h0
      split at h0 <;> simp at h0
  obtain ⟨b, o, sp⟩ := a
  simp only at ha
  subst ha
  refine ⟨b, o, rfl, trivial, ?_⟩
  have h1 := hc i (by omega)
  rw [addr_add] at h1
  rw [h1]
  have hi' : i < (zs.take len).length := by simp; omega
  have he := intsAt hi'
  rw [he] at hx
  rw [← Option.some.inj hx]
  simp [List.getD_eq_getElem?_getD, List.getElem?_eq_getElem (show i < zs.length by omega)]

section
variable {H : Type} {enc : TypeId × Value → H} {W : World} {base : Nat} {spare : Nat → Bool} {held : Bool}
theorem open_beds {n : Nat} {v : Value} {y : DataW H × List MemPlace} (h : DataW.trod enc Try.prog W base spare held n 22 [v] = some y) :
    ∃ xs : List Int, Sl (fun _ => True) W v (ints xs) ∧ (∀ b ∈ xs, I64 b) := by
  rcases open_ints Try.underlying22 Try.underlying61 cells61 h with ⟨hcs, _⟩ | ⟨a, len, cap, zs, hcs, _, hl, hm, hz, _, hcell, hwz⟩
  · simp only [List.cons.injEq, and_true] at hcs
    subst hcs
    exact ⟨[], Sl.nil _ _, by simp⟩
  · simp only [List.cons.injEq, and_true] at hcs
    subst hcs
    refine ⟨zs.take len, sl_of_cells hl hm (by split at hz <;> omega) hcell, fun b hb => i64_of_wf (hwz b (List.mem_of_mem_take hb))⟩
theorem open_cellsTrod {t : TypeId} {v : Value} {d : DataW H} {p : List MemPlace} (h : DataW.Trod enc Try.prog W base spare held t v d p) (hv : v.cells = #[v]) : ∃ n y, DataW.trod enc Try.prog W base spare held n t [v] = some y := by
  obtain ⟨n, h⟩ := h
  rw [hv] at h
  exact ⟨n, _, h⟩
theorem open_i64 {n : Nat} {v : Value} {y : DataW H × List MemPlace} (h : DataW.trod enc Try.prog W base spare held n 3 [v] = some y) : ∃ z, v = .int .i64 z ∧ I64 z := by
  obtain ⟨z, hz, _, hw⟩ := DataW.trod_int Try.underlying3 h
  simp only [List.cons.injEq, and_true] at hz
  exact ⟨z, hz, i64_of_wf hw⟩
theorem open_gate {n : Nat} {v : Value} {y : DataW H × List MemPlace} (h : DataW.trod enc Try.prog W base spare held n 23 [v] = some y) : ∃ z, v = .int .i64 z ∧ I64 z := by
  obtain ⟨z, hz, _, hw⟩ := DataW.trod_int Try.underlying23 h
  simp only [List.cons.injEq, and_true] at hz
  exact ⟨z, hz, i64_of_wf hw⟩
end
end Go.Proofs.Ytcnofoopdghjiaa

/- Chapter 2: the lists of ways, as the laws see them, in plain Lean. -/
namespace Go.Proofs.Ytcnofoopdghjiaa
open Go.RowKit Go.Oche Go.Proofs

theorem outL_len {g : Int} {bs : List Int} : ∀ {n : Nat} {s : Int} {l : List Int}, l ∈ outL g bs n s → l.length = n
  | 0, s, l, h => by
    rw [outL] at h
    split at h <;> simp at h
    rw [h]; rfl
  | n + 1, s, l, h => by
    rw [outL] at h
    obtain ⟨t, _, h⟩ := List.mem_flatMap.1 h
    obtain ⟨l', h', rfl⟩ := List.mem_map.1 h
    rw [List.length_cons, outL_len h']
theorem outAll_len {g : Int} {bs : List Int} {s : Int} {d : Nat} {l : List Int} (h : l ∈ outAll g bs s d) : 1 ≤ l.length ∧ l.length ≤ d := by
  unfold outAll at h
  obtain ⟨k, hk, h⟩ := List.mem_flatMap.1 h
  have h1 := outL_len h
  have h2 := List.mem_range.1 hk
  omega
theorem rWaysE_take (L : List (List Int)) : rWaysE (L.take 3001) = rWaysE L := by
  unfold rWaysE
  rw [List.length_take]
  by_cases h : L.length = 0
  · rw [h]; rfl
  · rw [if_neg h, if_neg (by omega)]
    by_cases h2 : 3000 < L.length
    · rw [if_pos h2, if_pos (by omega)]
    · rw [if_neg h2, if_neg (by omega)]
theorem rWaysR_take (L : List (List Int)) : rWaysR (L.take 3001) = rWaysR L := by
  unfold rWaysR
  rw [List.length_take]
  by_cases h : L.length = 0
  · rw [h]; rfl
  · rw [if_neg h, if_neg (by omega)]
    by_cases h2 : 3000 < L.length
    · rw [if_pos h2, if_pos (by omega)]
    · rw [if_neg h2, if_neg (by omega), List.take_of_length_le (by omega)]
theorem ways_facts {bs : List Int} {g : Int} {d s : Nat} (hr : rulesOk bs g d = true) (h1 : 1 ≤ s) (h2 : s ≤ 1001) :
    waysErr bs g d s = rWaysE (outAll g bs s d) ∧ waysRes bs g d s = rWaysR (outAll g bs s d) ∧ firstErr bs g d s = firstE (outAll g bs s d) ∧ firstRes bs g d s = (outAll g bs s d).headD [] ∧
    rWaysE (rWays g bs s d) = rWaysE (outAll g bs s d) ∧ rWaysR (rWays g bs s d) = rWaysR (outAll g bs s d) ∧ numOf bs g d s = (outAll g bs s d).length ∧ scoreErr bs g d s = 0 := by
  obtain ⟨q1, q2, q3, q4⟩ := rulesOk_spec hr
  have hbs := (bedsOk_spec q1).1
  have he : scoreErr bs g d s = 0 := by
    unfold scoreErr isIn
    rw [hr]
    have e1 : decide ((1 : Int) ≤ (s : Int)) = true := by simp; omega
    have e2 : decide ((s : Int) ≤ 1001) = true := by simp; omega
    rw [e1, e2]; rfl
  have hn : numOf bs g d s = (outAll g bs s d).length := by
    rw [numOf, if_pos he, outAll_length hbs s (m := s) (D := d) (Nat.le_refl _) d (Nat.le_refl _)]; simp
  have hwe : waysErr bs g d s = rWaysE (outAll g bs s d) := by
    rw [waysErr, if_pos he, hn, rWaysE]
    by_cases h : (outAll g bs s d).length = 0
    · rw [if_pos h, if_pos (by omega)]
    · rw [if_neg h, if_neg (by omega)]
      by_cases h3 : 3000 < (outAll g bs s d).length
      · rw [if_pos h3, if_pos (by omega)]
      · rw [if_neg h3, if_neg (by omega)]
  refine ⟨hwe, ?_, by rw [firstErr, if_pos he, Int.toNat_natCast], by rw [firstRes, if_pos he, Int.toNat_natCast], by rw [rWays_take hbs (by omega), rWaysE_take], by rw [rWays_take hbs (by omega), rWaysR_take], hn, he⟩
  rw [waysRes, hwe, Int.toNat_natCast, rWaysE, rWaysR]
  by_cases h : (outAll g bs s d).length = 0
  · rw [if_pos h, if_pos h]; rfl
  · rw [if_neg h, if_neg h]
    by_cases h3 : 3000 < (outAll g bs s d).length
    · rw [if_pos h3, if_pos h3]; rfl
    · rw [if_neg h3, if_neg h3]; rfl
end Go.Proofs.Ytcnofoopdghjiaa

/- Chapter 2, law OutWays: the walk. (Printed by gen_LH.py.) -/
namespace Go.Proofs.Ytcnofoopdghjiaa
open Go.RowKit Go.Oche Go.Proofs

theorem much_r {S : Nat → Prop} (bs : List Int) (g d : Int) (r : Bool) (hr : Hid (muchB bs g d = r)) (v : Value) (w : World) (hs : Sl S w v (ints bs)) (hi : ∀ b ∈ bs, I64 b) :
    Calls Try.prog 13 #[.agg #[v, .int .i64 g, .int .i64 d]] w fun e w' => e = .returned (.bool r) ∧ Below w.heap.size w w' := by rw [← hr.out]; exact much_any bs g d v w hs hi

/-- Rules that are put into a new block. -/
theorem put_rules (W : World) (v g d : Value) : ∃ W', W' = W.alloc (.cells #[v, g, d] 25) ∧ Below W.heap.size W W' ∧
    W'.cell? ⟨W.heap.size, 0, none⟩ = some v ∧ W'.cell? ⟨W.heap.size, 1, none⟩ = some g ∧ W'.cell? ⟨W.heap.size, 2, none⟩ = some d := by
  have e3 := World.alloc_heap_new W (.cells #[v, g, d] 25)
  exact ⟨_, rfl, aB _ _, (cell_of_heap e3).trans rfl, (cell_of_heap e3).trans rfl, (cell_of_heap e3).trans rfl⟩

set_option maxRecDepth 100000 in
set_option maxHeartbeats 8000000 in
theorem OutWays_any {S : Nat → Prop} (bs : List Int) (g d s : Int) (v : Value) (w : World) (hs : Sl S w v (ints bs)) (hi : ∀ b ∈ bs, I64 b) :
    Calls Try.prog 3 #[.agg #[v, .int .i64 g, .int .i64 d], .int .i64 s] w fun e w' => e = .returned (.bool true) ∧ Below w.heap.size w w' := by
  obtain ⟨a, cap, rfl, _, h3⟩ := hs.form
  simp only [ints_length] at *
  obtain ⟨w0, hw0⟩ : ∃ w0, w0 = w.alloc (.cells #[.slice a bs.length cap, .int .i64 g, .int .i64 d] 25) := ⟨_, rfl⟩
  have hb0 : Below w.heap.size w w0 := by rw [hw0]; exact aB _ _
  have h2 : w0.heap[w.heap.size]? = some (.cells #[.slice a bs.length cap, .int .i64 g, .int .i64 d] 25 (0, 0)) := by rw [hw0]; exact World.alloc_heap_new _ _
  have x0 : w0.cell? ⟨w.heap.size, 0, none⟩ = some (.slice a bs.length cap) := by rw [cell_of_heap h2]; rfl
  have x1 : w0.cell? ⟨w.heap.size, 1, none⟩ = some (.int .i64 g) := by rw [cell_of_heap h2]; rfl
  have x2 : w0.cell? ⟨w.heap.size, 2, none⟩ = some (.int .i64 d) := by rw [cell_of_heap h2]; rfl
  have HS := Lib.hid (hs.below hb0)
  have HI := Lib.hid hi
  have HW := Lib.hid hw0
  have HB0 := Lib.hid hb0
  clear hs hi hw0 h2 hb0
  obtain ⟨lg, hlg⟩ : ∃ lg, decide (85 < bs.length) = lg := ⟨_, rfl⟩
  obtain ⟨mu, hmu⟩ : ∃ b, muchB bs g d = b := ⟨_, rfl⟩
  obtain ⟨r, hr⟩ : ∃ b, rulesOk bs g d = b := ⟨_, rfl⟩
  obtain ⟨i, hi1⟩ : ∃ b, isIn s 1 1001 = b := ⟨_, rfl⟩
  obtain ⟨se, hse⟩ : ∃ x, scoreErr bs g d s = x := ⟨_, rfl⟩
  obtain ⟨we, hwe⟩ : ∃ x, waysErr bs g d s = x := ⟨_, rfl⟩
  obtain ⟨wr, hwr⟩ : ∃ x, waysRes bs g d s = x := ⟨_, rfl⟩
  obtain ⟨fe, hfe⟩ : ∃ x, firstErr bs g d s = x := ⟨_, rfl⟩
  obtain ⟨fr, hfr⟩ : ∃ x, firstRes bs g d s = x := ⟨_, rfl⟩
  have SE : Hid (se = if r = true then (if i = true then 0 else 3) else 2) := Lib.hid (by rw [← hse, scoreErr, hr, hi1])
  have WE : Hid (se ≠ 0 → we = se) := Lib.hid (fun h => by rw [← hwe, waysErr, hse, if_neg h])
  have WR : Hid (we ≠ 0 → wr = []) := Lib.hid (fun h => by rw [← hwr, waysRes, hwe, if_neg h])
  have FE : Hid (se ≠ 0 → fe = se) := Lib.hid (fun h => by rw [← hfe, firstErr, hse, if_neg h])
  have FR : Hid (se ≠ 0 → fr = []) := Lib.hid (fun h => by rw [← hfr, firstRes, hse, if_neg h])
  have HLG := Lib.hid hlg
  have HMU := Lib.hid hmu
  have HR := Lib.hid hr
  have HIN := Lib.hid hi1
  have HWE := Lib.hid hwe
  have HWR := Lib.hid hwr
  have HFE := Lib.hid hfe
  have HFR := Lib.hid hfr
  clear hlg hmu hr hi1 hse hwe hwr hfe hfr
  go_enter Try.func3, Try.ntmps3
  go_wp2_with fail
  rw [← HW.out]
  refine (large_any bs g d _ _ HS.out).mono ?_
  rintro e w1 ⟨rfl, hb1⟩
  rw [HLG.out]
  replace x0 := bAt hb1 x0
  replace x1 := bAt hb1 x1
  replace x2 := bAt hb1 x2
  replace HS := Lib.hid (HS.out.below hb1)
  have HB1 := Lib.hid (bThen HB0.out hb1)
  clear hb1
  cases lg
  · have HLE : Hid (bs.length ≤ 85) := Lib.hid (by have := HLG.out; simp at this; omega)
    go_wp2_with fail
    refine (much_r bs g d _ HMU _ _ HS.out HI.out).mono ?_
    rintro e w2 ⟨rfl, hb2⟩
    replace x0 := bAt hb2 x0
    replace x1 := bAt hb2 x1
    replace x2 := bAt hb2 x2
    replace HS := Lib.hid (HS.out.below hb2)
    have HB2 := Lib.hid (bThen HB1.out hb2)
    clear hb2
    cases mu
    · go_wp2_with fail
      refine (rules_any bs g d _ _ HS.out HLE.out).mono ?_
      rintro e w3 ⟨v3, rfl, hb3, hv3⟩
      obtain ⟨a3, c3, rfl, _, hc3⟩ := hv3.form
      simp only [ints_length] at *
      have HV := Lib.hid hv3
      clear hv3
      replace x0 := bAt hb3 x0
      replace x1 := bAt hb3 x1
      replace x2 := bAt hb3 x2
      replace HS := Lib.hid (HS.out.below hb3)
      have HB3 := Lib.hid (bThen HB2.out hb3)
      clear hb3
      obtain ⟨w4, hw4, hb4, y0, y1, y2⟩ := put_rules w3 (.slice a3 bs.length c3) (.int .i64 g) (.int .i64 d)
      have HW4 := Lib.hid hw4
      clear hw4
      replace x0 := bAt hb4 x0
      replace x1 := bAt hb4 x1
      replace x2 := bAt hb4 x2
      replace HS := Lib.hid (HS.out.below hb4)
      replace HV := Lib.hid (HV.out.below hb4)
      have HB4 := Lib.hid (bThen HB3.out hb4)
      clear hb4
      go_wp2_with fail
      rw [← HW4.out]
      refine (waysF_any bs g d s _ _ HV.out HI.out).mono ?_
      rintro e w5 ⟨l5, rfl, hb5, hl5⟩
      rw [HWE.out]
      rw [HWR.out] at hl5
      obtain ⟨a5, c5, rfl, _, hc5⟩ := Rows2.form hl5
      have HL := Lib.hid hl5
      clear hl5
      replace x0 := bAt hb5 x0
      replace x1 := bAt hb5 x1
      replace x2 := bAt hb5 x2
      replace y0 := bAt hb5 y0
      replace y1 := bAt hb5 y1
      replace y2 := bAt hb5 y2
      replace HS := Lib.hid (HS.out.below hb5)
      replace HV := Lib.hid (HV.out.below hb5)
      have HB5 := Lib.hid (bThen HB4.out hb5)
      clear hb5
      go_wp2_with fail
      refine (firstF_any bs g d s _ _ HV.out HI.out).mono ?_
      rintro e w6 ⟨l6, rfl, hb6, hl6⟩
      rw [HFE.out]
      rw [HFR.out] at hl6
      obtain ⟨a6, c6, rfl, _, hc6⟩ := hl6.form
      simp only [ints_length] at *
      have HF := Lib.hid hl6
      clear hl6
      replace x0 := bAt hb6 x0
      replace x1 := bAt hb6 x1
      replace x2 := bAt hb6 x2
      replace y0 := bAt hb6 y0
      replace y1 := bAt hb6 y1
      replace y2 := bAt hb6 y2
      replace HS := Lib.hid (HS.out.below hb6)
      replace HV := Lib.hid (HV.out.below hb6)
      replace HL := Lib.hid (HL.out.below hb6)
      have HB6 := Lib.hid (bThen HB5.out hb6)
      clear hb6
      go_wp2_with fail
      refine (check_r bs g d _ HR _ _ HV.out HI.out).mono ?_
      rintro e w7 ⟨rfl, hb7⟩
      replace x0 := bAt hb7 x0
      replace x1 := bAt hb7 x1
      replace x2 := bAt hb7 x2
      replace y0 := bAt hb7 y0
      replace y1 := bAt hb7 y1
      replace y2 := bAt hb7 y2
      replace HS := Lib.hid (HS.out.below hb7)
      replace HV := Lib.hid (HV.out.below hb7)
      replace HL := Lib.hid (HL.out.below hb7)
      replace HF := Lib.hid (HF.out.below hb7)
      have HB7 := Lib.hid (bThen HB6.out hb7)
      clear hb7
      cases r
      · obtain rfl : se = 2 := by simpa using SE.out
        obtain rfl : we = 2 := WE.out (by decide)
        obtain rfl : wr = [] := WR.out (by decide)
        obtain rfl : fe = 2 := FE.out (by decide)
        obtain rfl : fr = [] := FR.out (by decide)
        simp only [List.length_nil] at *
        simp only [chkN]
        go_wp2_with fail
        refine (same_any bs bs _ _ _ HV.out HS.out).mono ?_
        rintro e w8 ⟨rfl, hb8⟩
        rw [decide_eq_true rfl]
        replace x0 := bAt hb8 x0
        replace x1 := bAt hb8 x1
        replace x2 := bAt hb8 x2
        replace y0 := bAt hb8 y0
        replace y1 := bAt hb8 y1
        replace y2 := bAt hb8 y2
        replace HS := Lib.hid (HS.out.below hb8)
        replace HV := Lib.hid (HV.out.below hb8)
        replace HL := Lib.hid (HL.out.below hb8)
        replace HF := Lib.hid (HF.out.below hb8)
        have HB8 := Lib.hid (bThen HB7.out hb8)
        clear hb8
        go_wp2_with fail
        refine (rRules_r bs g d _ HR _ _ HS.out HI.out).mono ?_
        rintro e w9 ⟨rfl, hb9⟩
        replace x0 := bAt hb9 x0
        replace x1 := bAt hb9 x1
        replace x2 := bAt hb9 x2
        replace y0 := bAt hb9 y0
        replace y1 := bAt hb9 y1
        replace y2 := bAt hb9 y2
        replace HS := Lib.hid (HS.out.below hb9)
        replace HV := Lib.hid (HV.out.below hb9)
        replace HL := Lib.hid (HL.out.below hb9)
        replace HF := Lib.hid (HF.out.below hb9)
        have HB9 := Lib.hid (bThen HB8.out hb9)
        clear hb9
        go_wp2_with fail
        refine (known_any _).mono ?_
        rintro e w10 ⟨rfl, hb10⟩
        have HB10 := Lib.hid (bThen HB9.out hb10)
        clear hb10
        go_wp2
        go_ret
        exact ⟨rfl, HB10.out⟩
      · simp only [chkN]
        go_wp2_with fail
        refine (same_any bs bs _ _ _ HV.out HS.out).mono ?_
        rintro e w8 ⟨rfl, hb8⟩
        rw [decide_eq_true rfl]
        replace x0 := bAt hb8 x0
        replace x1 := bAt hb8 x1
        replace x2 := bAt hb8 x2
        replace y0 := bAt hb8 y0
        replace y1 := bAt hb8 y1
        replace y2 := bAt hb8 y2
        replace HS := Lib.hid (HS.out.below hb8)
        replace HV := Lib.hid (HV.out.below hb8)
        replace HL := Lib.hid (HL.out.below hb8)
        replace HF := Lib.hid (HF.out.below hb8)
        have HB8 := Lib.hid (bThen HB7.out hb8)
        clear hb8
        go_wp2_with fail
        refine (rRules_r bs g d _ HR _ _ HS.out HI.out).mono ?_
        rintro e w9 ⟨rfl, hb9⟩
        replace x0 := bAt hb9 x0
        replace x1 := bAt hb9 x1
        replace x2 := bAt hb9 x2
        replace y0 := bAt hb9 y0
        replace y1 := bAt hb9 y1
        replace y2 := bAt hb9 y2
        replace HS := Lib.hid (HS.out.below hb9)
        replace HV := Lib.hid (HV.out.below hb9)
        replace HL := Lib.hid (HL.out.below hb9)
        replace HF := Lib.hid (HF.out.below hb9)
        have HB9 := Lib.hid (bThen HB8.out hb9)
        clear hb9
        go_wp2_with fail
        refine (in_r _ _ _ _ HIN _).mono ?_
        rintro e w' ⟨rfl, rfl⟩
        cases i
        · obtain rfl : se = 3 := by simpa using SE.out
          obtain rfl : we = 3 := WE.out (by decide)
          obtain rfl : wr = [] := WR.out (by decide)
          obtain rfl : fe = 3 := FE.out (by decide)
          obtain rfl : fr = [] := FR.out (by decide)
          simp only [List.length_nil] at *
          go_wp2_with fail
          refine (known_any _).mono ?_
          rintro e w10 ⟨rfl, hb10⟩
          have HB10 := Lib.hid (bThen HB9.out hb10)
          clear hb10
          go_wp2
          go_ret
          exact ⟨rfl, HB10.out⟩
        · obtain ⟨p1, p2⟩ : 1 ≤ s ∧ s ≤ 1001 := by simpa [isIn] using HIN.out
          obtain ⟨q1, q2, q3, q4⟩ := rulesOk_spec HR.out
          obtain ⟨s, rfl⟩ : ∃ n : Nat, s = n := ⟨s.toNat, by omega⟩
          obtain ⟨d, rfl⟩ : ∃ n : Nat, d = n := ⟨d.toNat, by omega⟩
          have G := Lib.hid (show s ≤ 1001 ∧ d ≤ 9 ∧ 0 < s by omega)
          have GG := Lib.hid q2
          have BO := Lib.hid (bedsOk_spec q1)
          have FA := ways_facts HR.out (by omega) (by omega : s ≤ 1001)
          obtain ⟨L, hL⟩ : ∃ L, outAll g bs s d = L := ⟨_, rfl⟩
          have LL : Hid (∀ l ∈ L, 1 ≤ l.length ∧ l.length ≤ d) := Lib.hid (fun l hl => outAll_len (hL ▸ hl))
          rw [hL, HWE.out, HWR.out, HFE.out, HFR.out] at FA
          obtain ⟨f1, f2, f3, f4, f5, f6, _, _⟩ := FA
          have F1 := Lib.hid f1
          have F2 := Lib.hid f2
          have F3 := Lib.hid f3
          have F4 := Lib.hid f4
          clear f1 f2 f3 f4
          have F5 := Lib.hid f5
          have F6 := Lib.hid f6
          clear p1 p2 q1 q2 q3 q4 hL f5 f6 HWE HWR HFE HFR WE WR FE FR SE
          go_wp2_with fail
          refine (rWays_any bs g d s _ _ HS.out BO.out.1 BO.out.2.2.2 GG.out G.out.2.1 G.out.1 G.out.2.2).mono ?_
          rintro e w10 ⟨l10, rfl, hb10, hl10⟩
          rw [F5.out, ← F1.out]
          rw [F6.out, ← F2.out] at hl10
          obtain ⟨aq, cq, rfl, _, _⟩ := Rows2.form hl10
          have HQ := Lib.hid hl10
          clear hl10
          replace x0 := bAt hb10 x0
          replace x1 := bAt hb10 x1
          replace x2 := bAt hb10 x2
          replace y0 := bAt hb10 y0
          replace y1 := bAt hb10 y1
          replace y2 := bAt hb10 y2
          replace HS := Lib.hid (HS.out.below hb10)
          replace HV := Lib.hid (HV.out.below hb10)
          replace HL := Lib.hid (HL.out.below hb10)
          replace HF := Lib.hid (HF.out.below hb10)
          have HB10 := Lib.hid (bThen HB9.out hb10)
          clear hb10
          by_cases hz : L.length = 0
          · obtain rfl : L = [] := List.eq_nil_of_length_eq_zero hz
            have ef1 : we = 7 := F1.out
            clear F1
            subst ef1
            have ef2 : wr = [] := F2.out
            clear F2
            subst ef2
            have ef3 : fe = 7 := F3.out
            clear F3
            subst ef3
            have ef4 : fr = [] := F4.out
            clear F4
            subst ef4
            simp only [List.length_nil] at *
            go_wp2_with fail
            refine (equal_any [] [] _ _ _ HL.out HQ.out).mono ?_
            rintro e w11 ⟨rfl, hb11⟩
            rw [decide_eq_true rfl]
            replace x0 := bAt hb11 x0
            replace x1 := bAt hb11 x1
            replace x2 := bAt hb11 x2
            replace y0 := bAt hb11 y0
            replace y1 := bAt hb11 y1
            replace y2 := bAt hb11 y2
            replace HS := Lib.hid (HS.out.below hb11)
            replace HV := Lib.hid (HV.out.below hb11)
            replace HL := Lib.hid (HL.out.below hb11)
            replace HF := Lib.hid (HF.out.below hb11)
            replace HQ := Lib.hid (HQ.out.below hb11)
            have HB11 := Lib.hid (bThen HB10.out hb11)
            clear hb11
            go_wp2_with fail
            refine (known_any _).mono ?_
            rintro e w12 ⟨rfl, hb12⟩
            have HB12 := Lib.hid (bThen HB11.out hb12)
            clear hb12
            go_wp2
            go_ret
            exact ⟨rfl, HB12.out⟩
          · by_cases hz2 : 3000 < L.length
            · have ef1 : we = 5 := by rw [F1.out, rWaysE, if_neg hz, if_pos hz2]
              clear F1
              subst ef1
              have ef2 : wr = [] := by rw [F2.out, rWaysR, if_neg hz, if_pos hz2]
              clear F2
              subst ef2
              obtain ⟨l0, rest, rfl⟩ : ∃ l0 rest, L = l0 :: rest := by
                cases L with
                | nil => exact absurd rfl hz
                | cons l0 rest => exact ⟨l0, rest, rfl⟩
              have ef3 : fe = 0 := F3.out
              clear F3
              subst ef3
              have ef4 : fr = l0 := F4.out
              clear F4
              subst ef4
              simp only [List.length_nil] at *
              have hin : isIn (fr.length : Int) 1 d = true := by have := LL.out fr (by simp); simp [isIn]; omega
              have HQI := Lib.hid hin
              clear hin hz hz2
              go_wp2_with fail
              refine (equal_any [] [] _ _ _ HL.out HQ.out).mono ?_
              rintro e w11 ⟨rfl, hb11⟩
              rw [decide_eq_true rfl]
              replace x0 := bAt hb11 x0
              replace x1 := bAt hb11 x1
              replace x2 := bAt hb11 x2
              replace y0 := bAt hb11 y0
              replace y1 := bAt hb11 y1
              replace y2 := bAt hb11 y2
              replace HS := Lib.hid (HS.out.below hb11)
              replace HV := Lib.hid (HV.out.below hb11)
              replace HL := Lib.hid (HL.out.below hb11)
              replace HF := Lib.hid (HF.out.below hb11)
              replace HQ := Lib.hid (HQ.out.below hb11)
              have HB11 := Lib.hid (bThen HB10.out hb11)
              clear hb11
              go_wp2_with fail
              refine (in_r _ _ _ _ HQI _).mono ?_
              rintro e w' ⟨rfl, rfl⟩
              go_wp2_with fail
              refine (known_any _).mono ?_
              rintro e w12 ⟨rfl, hb12⟩
              have HB12 := Lib.hid (bThen HB11.out hb12)
              clear hb12
              go_wp2
              go_ret
              exact ⟨rfl, HB12.out⟩
            · obtain ⟨l0, rest, rfl⟩ : ∃ l0 rest, L = l0 :: rest := by
                cases L with
                | nil => exact absurd rfl hz
                | cons l0 rest => exact ⟨l0, rest, rfl⟩
              have ef1 : we = 0 := by rw [F1.out, rWaysE, if_neg hz, if_neg hz2]
              clear F1
              subst ef1
              have ef2 : wr = l0 :: rest := by rw [F2.out, rWaysR, if_neg hz, if_neg hz2]
              clear F2
              subst ef2
              have ef3 : fe = 0 := F3.out
              clear F3
              subst ef3
              have ef4 : fr = l0 := F4.out
              clear F4
              subst ef4
              clear hz hz2
              go_wp2_with fail
              refine (equal_any (fr :: rest) (fr :: rest) _ _ _ HL.out HQ.out).mono ?_
              rintro e w11 ⟨rfl, hb11⟩
              rw [decide_eq_true rfl]
              replace x0 := bAt hb11 x0
              replace x1 := bAt hb11 x1
              replace x2 := bAt hb11 x2
              replace y0 := bAt hb11 y0
              replace y1 := bAt hb11 y1
              replace y2 := bAt hb11 y2
              replace HS := Lib.hid (HS.out.below hb11)
              replace HV := Lib.hid (HV.out.below hb11)
              replace HL := Lib.hid (HL.out.below hb11)
              replace HF := Lib.hid (HF.out.below hb11)
              replace HQ := Lib.hid (HQ.out.below hb11)
              have HB11 := Lib.hid (bThen HB10.out hb11)
              clear hb11
              obtain ⟨vs, hq1, hq2, hq3⟩ := HQ.out
              obtain ⟨u, hu, hul⟩ := hq3 0 (by simp)
              obtain ⟨au, cu, rfl, _, _⟩ := hul.form
              obtain ⟨bq, oq, cq, eq, _, _, hcq⟩ := hq1.opened (by rw [hq2]; simp)
              simp only [Value.slice.injEq] at eq
              obtain ⟨rfl, _, rfl⟩ := eq
              have z0 := hcq 0 _ hu
              simp only [ints_length, List.getElem_cons_zero, Nat.add_zero] at z0 hul
              have HUL := Lib.hid hul
              clear hq1 hq2 hq3 hu hul hcq
              simp only [List.length_cons] at *
              go_wp2_with fail
              refine (same_any fr fr _ _ _ HF.out HUL.out).mono ?_
              rintro e w12 ⟨rfl, hb12⟩
              rw [decide_eq_true rfl]
              replace x0 := bAt hb12 x0
              replace x1 := bAt hb12 x1
              replace x2 := bAt hb12 x2
              replace y0 := bAt hb12 y0
              replace y1 := bAt hb12 y1
              replace y2 := bAt hb12 y2
              replace HS := Lib.hid (HS.out.below hb12)
              replace HV := Lib.hid (HV.out.below hb12)
              replace HL := Lib.hid (HL.out.below hb12)
              replace HF := Lib.hid (HF.out.below hb12)
              replace HQ := Lib.hid (HQ.out.below hb12)
              have HB12 := Lib.hid (bThen HB11.out hb12)
              clear hb12
              go_wp2_with fail
              refine (known_any _).mono ?_
              rintro e w13 ⟨rfl, hb13⟩
              have HB13 := Lib.hid (bThen HB12.out hb13)
              clear hb13
              go_wp2
              go_ret
              exact ⟨rfl, HB13.out⟩
    · go_wp2_with fail
      refine (known_any _).mono ?_
      rintro e w3 ⟨rfl, hb3⟩
      have HB3 := Lib.hid (bThen HB2.out hb3)
      clear hb3
      go_wp2
      go_ret
      exact ⟨rfl, HB3.out⟩
  · go_wp2_with fail
    refine (known_any _).mono ?_
    rintro e w2 ⟨rfl, hb2⟩
    have HB2 := Lib.hid (bThen HB1.out hb2)
    clear hb2
    go_wp2
    go_ret
    exact ⟨rfl, HB2.out⟩
end Go.Proofs.Ytcnofoopdghjiaa

/- Chapter 2: what a law's arguments read as: slices of one-cell values, rules. -/
namespace Go.Proofs.Ytcnofoopdghjiaa
open Go.RowKit Go.Oche Go.Proofs Go.ChangeShapes Go.WideShapes Go.ChangeAt

theorem u16_of_wf {n : Int} (h : (Lit.int .u16 n).wf = true) : 0 ≤ n ∧ n ≤ 65535 := by
  have := h
  simp [Lit.wf, IntKind.min, IntKind.max, IntKind.signed, IntKind.bits] at this
  exact this
theorem u8_of_wf {n : Int} (h : (Lit.int .u8 n).wf = true) : 0 ≤ n ∧ n ≤ 255 := by
  have := h
  simp [Lit.wf, IntKind.min, IntKind.max, IntKind.signed, IntKind.bits] at this
  exact this
theorem cells5 : Try.prog.cellsOf 5 = 1 := by kernel_rfl
theorem sl_of_vals {W : World} {a : Addr} {cap : Nat} {vals : List Value} (hl : vals.length ≤ cap) (hm : cap ≤ maxLen) (hc : ∀ i x, vals[i]? = some x → W.cell? (a.add i) = some x) :
    Sl (fun _ => True) W (.slice (some a) vals.length cap) vals := by
  refine ⟨some a, cap, rfl, hl, hm, fun i x hx => ?_⟩
  have hi : i < vals.length := (List.getElem?_eq_some_iff.1 hx).1
  have ha : a.spot = none := by
    have h0 := hc 0 vals[0] (List.getElem?_eq_getElem (by omega))
    unfold World.cell? Addr.add at h0
    simp only [if_true] at h0
    cases hs : a.spot with
    | none => rfl
    | some s =>
      rw [hs] at h0
      split at h0 <;> simp at h0
  obtain ⟨b, o, sp⟩ := a
  simp only at ha
  subst ha
  refine ⟨b, o, rfl, trivial, ?_⟩
  have h1 := hc i x hx
  rw [addr_add] at h1
  exact h1
theorem choose_list {β : Type} {R : Nat → β → Prop} : ∀ n, (∀ i, i < n → ∃ b, R i b) → ∃ xs : List β, xs.length = n ∧ ∀ i b, xs[i]? = some b → R i b
  | 0, _ => ⟨[], rfl, fun i b h => by simp at h⟩
  | n + 1, h => by
    obtain ⟨xs, h1, h2⟩ := choose_list n fun i hi => h i (by omega)
    obtain ⟨b, hb⟩ := h n (by omega)
    refine ⟨xs ++ [b], by simp [h1], fun i b' hi => ?_⟩
    by_cases hin : i < xs.length
    · rw [List.getElem?_append_left hin] at hi
      exact h2 i b' hi
    · have hlt := (List.getElem?_eq_some_iff.1 hi).1
      simp at hlt
      obtain rfl : i = xs.length := by omega
      simp at hi
      subst hi
      rw [h1]; exact hb

section
variable {H : Type} {enc : TypeId × Value → H} {W : World} {base : Nat} {spare : Nat → Bool} {held : Bool}
theorem open_slice {β : Type} (mk : β → Value) (Q : β → Prop) {t e : TypeId} (ht : Try.prog.underlying t = some (.slice e)) (hce : Try.prog.cellsOf e = 1)
    (hone : ∀ n cs (y : DataW H × List MemPlace), DataW.trod enc Try.prog W base spare held n e cs = some y → ∃ b, cs = [mk b] ∧ Q b) {n : Nat} {v : Value} {x : DataW H × List MemPlace} (h : DataW.trod enc Try.prog W base spare held n t [v] = some x) :
    ∃ xs : List β, Sl (fun _ => True) W v (xs.map mk) ∧ ∀ b ∈ xs, Q b := by
  rcases DataW.trod_slice ht h with ⟨hcs, _⟩ | ⟨a, len, cap, elems, rest, m, _, hcs, _, _, hl, hm, hlen, hel, _, _⟩
  · simp only [List.cons.injEq, and_true] at hcs
    subst hcs
    exact ⟨[], Sl.nil _ _, by simp⟩
  · simp only [List.cons.injEq, and_true] at hcs
    subst hcs
    have hall : ∀ i, i < len → ∃ b, W.cell? (a.add i) = some (mk b) ∧ Q b := fun i hi => by
      have hy := hel i hi
      rw [List.getElem?_eq_getElem (by omega), hce, Nat.mul_one, Option.bind_eq_some_iff] at hy
      obtain ⟨cs, hcs, hy⟩ := hy
      obtain ⟨b, rfl, hb⟩ := hone _ _ _ hy
      exact ⟨b, cell_of_cells?_one hcs, hb⟩
    obtain ⟨xs, h1, h2⟩ := choose_list len hall
    refine ⟨xs, ?_, fun b hb => ?_⟩
    · have := sl_of_vals (W := W) (a := a) (cap := cap) (vals := xs.map mk) (by simp; omega) hm (fun i x hx => by
        rw [List.getElem?_map] at hx
        obtain ⟨b, hb, rfl⟩ := Option.map_eq_some_iff.1 hx
        exact (h2 i b hb).1)
      rw [List.length_map, h1] at this
      exact this
    · obtain ⟨i, hi⟩ := List.getElem?_of_mem hb
      exact (h2 i b hi).2
theorem open_bools {n : Nat} {v : Value} {x : DataW H × List MemPlace} (h : DataW.trod enc Try.prog W base spare held n 44 [v] = some x) : ∃ xs : List Bool, Sl (fun _ => True) W v (bools xs) := by
  obtain ⟨xs, h, _⟩ := open_slice Value.bool (fun _ => True) Try.underlying44 cells4 (fun n cs y hy => by
    obtain ⟨b, rfl, _⟩ := DataW.trod_bool Try.underlying4 hy
    exact ⟨b, rfl, trivial⟩) h
  exact ⟨xs, h⟩
theorem open_bytes {n : Nat} {v : Value} {x : DataW H × List MemPlace} (h : DataW.trod enc Try.prog W base spare held n 64 [v] = some x) : ∃ xs : List Int, Sl (fun _ => True) W v (xs.map (Value.int .u8)) ∧ ∀ b ∈ xs, 0 ≤ b ∧ b ≤ 255 :=
  open_slice (Value.int .u8) (fun b => 0 ≤ b ∧ b ≤ 255) Try.underlying64 cells5 (fun n cs y hy => by
    obtain ⟨b, rfl, _, hw⟩ := DataW.trod_int Try.underlying5 hy
    exact ⟨b, rfl, u8_of_wf hw⟩) h
set_option maxRecDepth 100000 in
theorem open_rules {r : Reach} {b0 : Nat} {v : Value} {d : DataW H} {p : List MemPlace} (hv : Value.okWide Try.prog W r b0 25 v) (h : DataW.Trod enc Try.prog W base spare held 25 v d p) :
    ∃ (u : Value) (bs : List Int) (g d : Int), v = .agg #[u, .int .i64 g, .int .i64 d] ∧ Sl (fun _ => True) W u (ints bs) ∧ (∀ b ∈ bs, I64 b) := by
  obtain ⟨c0, c1, c2, y0, y1, y2, n, rfl, _, _, k0, k1, k2⟩ := Joins.open_agg3 Try.underlying25 (by kernel_rfl) (by kernel_rfl) hv h
  obtain ⟨bs, hs, hi⟩ := open_beds k0
  obtain ⟨g, rfl, _⟩ := open_gate k1
  obtain ⟨d, rfl, _⟩ := open_i64 k2
  exact ⟨c0, bs, g, d, rfl, hs, hi⟩
end
end Go.Proofs.Ytcnofoopdghjiaa
