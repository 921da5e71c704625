/- The texts LC, LD, LI, in build order. -/
import Derived.Test.YtcnofoopdghjiaaZan
import Derived.Test.YtcnofoopdghjiaaRows
import Derived.Lib.SmallJoins
import Derived.ChangeSlices
import Derived.ChangeSame
import Derived.JoinedOf
import Derived.JoinedAt

/- Chapter 2: what a law's arguments read as. -/
namespace Go.Proofs.Ytcnofoopdghjiaa
open Go.RowKit Go.Oche Go.Proofs Go.ChangeShapes Go.WideShapes Go.ChangeAt

theorem own : ownKnob Try.prog.godebug = none := by kernel_rfl
theorem sized : sizedB Try.prog = true := by kernel_rfl
theorem cells61 : Try.prog.cellsOf 61 = 1 := by kernel_rfl
theorem cells4 : Try.prog.cellsOf 4 = 1 := by kernel_rfl

theorem i64_of_wf {n : Int} (h : (Lit.int .i64 n).wf = true) : I64 n := by
  have := h
  simp [Lit.wf, IntKind.min, IntKind.max, IntKind.signed, IntKind.bits] at this
  exact this

theorem sl_of_cells {W : World} {a : Addr} {len cap : Nat} {zs : List Int} (hl : len ≤ cap) (hm : cap ≤ maxLen) (hz : len ≤ zs.length) (hc : ∀ i, i < zs.length → W.cell? (a.add i) = some (.int .i64 (zs.getD i 0))) :
    Sl (fun _ => True) W (.slice (some a) len cap) (ints (zs.take len)) := by
  have hlen : (ints (zs.take len)).length = len := by simp; omega
  refine ⟨some a, cap, by rw [hlen], by omega, hm, fun i x hx => ?_⟩
  have hi : i < len := by rw [← hlen]; exact (List.getElem?_eq_some_iff.1 hx).1
  have ha : a.spot = none := by
    have h0 := hc 0 (by omega)
    unfold World.cell? Addr.add at h0
    simp only [if_true] at h0
    cases hs : a.spot with
    | none => rfl
    | some s =>
      rw [hs] at h0
      split at h0 <;> simp at h0
  obtain ⟨b, o, sp⟩ := a
  simp only at ha
  subst ha
  refine ⟨b, o, rfl, trivial, ?_⟩
  have h1 := hc i (by omega)
  rw [addr_add] at h1
  rw [h1]
  have hi' : i < (zs.take len).length := by simp; omega
  have he := intsAt hi'
  rw [he] at hx
  rw [← Option.some.inj hx]
  simp [List.getD_eq_getElem?_getD, List.getElem?_eq_getElem (show i < zs.length by omega)]

section
variable {H : Type} {enc : TypeId × Value → H} {W : World} {base : Nat} {spare : Nat → Bool} {held : Bool}
theorem open_beds {n : Nat} {v : Value} {y : DataW H × List MemPlace} (h : DataW.trod enc Try.prog W base spare held n 22 [v] = some y) :
    ∃ xs : List Int, Sl (fun _ => True) W v (ints xs) ∧ (∀ b ∈ xs, I64 b) := by
  rcases open_ints Try.underlying22 Try.underlying61 cells61 h with ⟨hcs, _⟩ | ⟨a, len, cap, zs, hcs, _, hl, hm, hz, _, hcell, hwz⟩
  · simp only [List.cons.injEq, and_true] at hcs
    subst hcs
    exact ⟨[], Sl.nil _ _, by simp⟩
  · simp only [List.cons.injEq, and_true] at hcs
    subst hcs
    refine ⟨zs.take len, sl_of_cells hl hm (by split at hz <;> omega) hcell, fun b hb => i64_of_wf (hwz b (List.mem_of_mem_take hb))⟩
theorem open_cellsTrod {t : TypeId} {v : Value} {d : DataW H} {p : List MemPlace} (h : DataW.Trod enc Try.prog W base spare held t v d p) (hv : v.cells = #[v]) : ∃ n y, DataW.trod enc Try.prog W base spare held n t [v] = some y := by
  obtain ⟨n, h⟩ := h
  rw [hv] at h
  exact ⟨n, _, h⟩
theorem open_i64 {n : Nat} {v : Value} {y : DataW H × List MemPlace} (h : DataW.trod enc Try.prog W base spare held n 3 [v] = some y) : ∃ z, v = .int .i64 z ∧ I64 z := by
  obtain ⟨z, hz, _, hw⟩ := DataW.trod_int Try.underlying3 h
  simp only [List.cons.injEq, and_true] at hz
  exact ⟨z, hz, i64_of_wf hw⟩
theorem open_gate {n : Nat} {v : Value} {y : DataW H × List MemPlace} (h : DataW.trod enc Try.prog W base spare held n 23 [v] = some y) : ∃ z, v = .int .i64 z ∧ I64 z := by
  obtain ⟨z, hz, _, hw⟩ := DataW.trod_int Try.underlying23 h
  simp only [List.cons.injEq, and_true] at hz
  exact ⟨z, hz, i64_of_wf hw⟩
end
end Go.Proofs.Ytcnofoopdghjiaa

/- Chapter 2, law OutNumbers: the walk. (Printed by gen_LD.py.) -/
namespace Go.Proofs.Ytcnofoopdghjiaa
open Go.RowKit Go.Oche Go.Proofs

theorem scoreErr_cases (bs : List Int) (g d s : Int) {r i : Bool} (hr : rulesOk bs g d = r) (hi : isIn s 1 1001 = i) : scoreErr bs g d s = if r = true then (if i = true then 0 else 3) else 2 := by
  rw [scoreErr, hr, hi]
theorem forcedL_len (bs : List Int) (g d s : Int) : (forcedL bs g d s).length ≤ bs.length := by
  unfold forcedL
  split
  · unfold forcedTo
    rw [List.length_map]
    exact Nat.le_trans (List.length_filter_le _ _) (by simp)
  · simp

set_option maxRecDepth 100000 in
set_option maxHeartbeats 1000000 in
theorem OutNumbers_any {S : Nat → Prop} (bs : List Int) (g d s : Int) (v : Value) (w : World) (hs : Sl S w v (ints bs)) (hi : ∀ b ∈ bs, I64 b) :
    Calls Try.prog 4 #[.agg #[v, .int .i64 g, .int .i64 d], .int .i64 s] w fun e w' => e = .returned (.bool true) ∧ Below w.heap.size w w' := by
  obtain ⟨a, cap, rfl, _, h3⟩ := hs.form
  simp only [ints_length] at *
  obtain ⟨w0, hw0⟩ : ∃ w0, w0 = w.alloc (.cells #[.slice a bs.length cap, .int .i64 g, .int .i64 d] 25) := ⟨_, rfl⟩
  have hb0 : Below w.heap.size w w0 := by rw [hw0]; exact aB _ _
  have h2 : w0.heap[w.heap.size]? = some (.cells #[.slice a bs.length cap, .int .i64 g, .int .i64 d] 25 (0, 0)) := by rw [hw0]; exact World.alloc_heap_new _ _
  have x0 : w0.cell? ⟨w.heap.size, 0, none⟩ = some (.slice a bs.length cap) := by rw [cell_of_heap h2]; rfl
  have x1 : w0.cell? ⟨w.heap.size, 1, none⟩ = some (.int .i64 g) := by rw [cell_of_heap h2]; rfl
  have x2 : w0.cell? ⟨w.heap.size, 2, none⟩ = some (.int .i64 d) := by rw [cell_of_heap h2]; rfl
  have HS := Lib.hid (hs.below hb0)
  have HI := Lib.hid hi
  have HW := Lib.hid hw0
  have HB0 := Lib.hid hb0
  clear hs hi hw0 h2 hb0
  obtain ⟨lg, hlg⟩ : ∃ lg, decide (85 < bs.length) = lg := ⟨_, rfl⟩
  obtain ⟨r, hr⟩ : ∃ b, rulesOk bs g d = b := ⟨_, rfl⟩
  obtain ⟨i, hi1⟩ : ∃ b, isIn s 1 1001 = b := ⟨_, rfl⟩
  obtain ⟨se, hse⟩ : ∃ x, scoreErr bs g d s = x := ⟨_, rfl⟩
  obtain ⟨nn, hnn⟩ : ∃ x, numOf bs g d s = x := ⟨_, rfl⟩
  obtain ⟨fe, hfe⟩ : ∃ x, forcedErr bs g d s = x := ⟨_, rfl⟩
  obtain ⟨fl, hfl⟩ : ∃ x, forcedL bs g d s = x := ⟨_, rfl⟩
  have SE : Hid (se = if r = true then (if i = true then 0 else 3) else 2) := Lib.hid (hse.symm.trans (scoreErr_cases bs g d s hr hi1))
  have FE : Hid (fe = if se = 0 then (if nn = 0 then 7 else 0) else se) := Lib.hid (by rw [← hfe, ← hse, ← hnn]; rfl)
  have FL : Hid (fl = if fe = 0 then forcedTo g bs d.toNat s.toNat bs.length else []) := Lib.hid (by rw [← hfl, ← hfe]; rfl)
  have NN : Hid (nn = if se = 0 then colSum (cnts g bs d.toNat s.toNat) s.toNat d.toNat else 0) := Lib.hid (by rw [← hnn, ← hse]; rfl)
  have FLL : Hid (fl.length ≤ bs.length) := Lib.hid (by rw [← hfl]; exact forcedL_len _ _ _ _)
  have HLG := Lib.hid hlg
  have HR := Lib.hid hr
  have HIN := Lib.hid hi1
  have HSE := Lib.hid hse
  have HNN := Lib.hid hnn
  have HFE := Lib.hid hfe
  have HFL := Lib.hid hfl
  clear hlg hr hi1 hse hnn hfe hfl
  go_enter Try.func4, Try.ntmps4
  go_wp2_with fail
  rw [← HW.out]
  refine (large_any bs g d _ _ HS.out).mono ?_
  rintro e w1 ⟨rfl, hb1⟩
  rw [HLG.out]
  replace x0 := bAt hb1 x0
  replace x1 := bAt hb1 x1
  replace x2 := bAt hb1 x2
  replace HS := Lib.hid (HS.out.below hb1)
  have HB1 := Lib.hid (bThen HB0.out hb1)
  clear hb1
  cases lg
  · have HLE : Hid (bs.length ≤ 85) := Lib.hid (by have := HLG.out; simp at this; omega)
    go_wp2_with fail
    refine (rules_any bs g d _ _ HS.out HLE.out).mono ?_
    rintro e w2 ⟨v2, rfl, hb2, hv2⟩
    have HV1 := Lib.hid hv2
    clear hv2
    replace x0 := bAt hb2 x0
    replace x1 := bAt hb2 x1
    replace x2 := bAt hb2 x2
    replace HS := Lib.hid (HS.out.below hb2)
    have HB2 := Lib.hid (bThen HB1.out hb2)
    clear hb2
    go_wp2_with fail
    refine (number_any bs g d s _ _ HV1.out HI.out).mono ?_
    rintro e w3 ⟨rfl, hb3⟩
    rw [HNN.out, HSE.out]
    replace x0 := bAt hb3 x0
    replace x1 := bAt hb3 x1
    replace x2 := bAt hb3 x2
    replace HS := Lib.hid (HS.out.below hb3)
    replace HV1 := Lib.hid (HV1.out.below hb3)
    have HB3 := Lib.hid (bThen HB2.out hb3)
    clear hb3
    go_wp2_with fail
    refine (rules_any bs g d _ _ HS.out HLE.out).mono ?_
    rintro e w4 ⟨v4, rfl, hb4, hv4⟩
    have HV2 := Lib.hid hv4
    clear hv4
    replace x0 := bAt hb4 x0
    replace x1 := bAt hb4 x1
    replace x2 := bAt hb4 x2
    replace HS := Lib.hid (HS.out.below hb4)
    replace HV1 := Lib.hid (HV1.out.below hb4)
    have HB4 := Lib.hid (bThen HB3.out hb4)
    clear hb4
    go_wp2_with fail
    refine (forced_any bs g d s _ _ HV2.out HI.out).mono ?_
    rintro e w5 ⟨l, rfl, hb5, hl5⟩
    rw [HFE.out]
    rw [HFL.out] at hl5
    obtain ⟨al, cl, rfl, _, hcl⟩ := hl5.form
    simp only [ints_length] at *
    have HL := Lib.hid hl5
    clear hl5
    replace x0 := bAt hb5 x0
    replace x1 := bAt hb5 x1
    replace x2 := bAt hb5 x2
    replace HS := Lib.hid (HS.out.below hb5)
    replace HV1 := Lib.hid (HV1.out.below hb5)
    replace HV2 := Lib.hid (HV2.out.below hb5)
    have HB5 := Lib.hid (bThen HB4.out hb5)
    clear hb5
    go_wp2_with fail
    refine (rRules_r bs g d _ HR _ _ HS.out HI.out).mono ?_
    rintro e w6 ⟨rfl, hb6⟩
    replace x0 := bAt hb6 x0
    replace x1 := bAt hb6 x1
    replace x2 := bAt hb6 x2
    replace HS := Lib.hid (HS.out.below hb6)
    replace HV1 := Lib.hid (HV1.out.below hb6)
    replace HV2 := Lib.hid (HV2.out.below hb6)
    replace HL := Lib.hid (HL.out.below hb6)
    have HB6 := Lib.hid (bThen HB5.out hb6)
    clear hb6
    cases r
    · obtain rfl : se = 2 := by simpa using SE.out
      obtain rfl : fe = 2 := by simpa using FE.out
      obtain rfl : nn = 0 := by simpa using NN.out
      obtain rfl : fl = [] := by simpa using FL.out
      simp only [List.length_nil] at *
      go_wp2_with fail
      refine (known_any _).mono ?_
      rintro e w7 ⟨rfl, hb7⟩
      have HB7 := Lib.hid (bThen HB6.out hb7)
      clear hb7
      go_wp2
      go_ret
      exact ⟨rfl, HB7.out⟩
    · go_wp2_with fail
      refine (in_r _ _ _ _ HIN _).mono ?_
      rintro e w' ⟨rfl, rfl⟩
      cases i
      · obtain rfl : se = 3 := by simpa using SE.out
        obtain rfl : fe = 3 := by simpa using FE.out
        obtain rfl : nn = 0 := by simpa using NN.out
        obtain rfl : fl = [] := by simpa using FL.out
        simp only [List.length_nil] at *
        go_wp2_with fail
        refine (known_any _).mono ?_
        rintro e w7 ⟨rfl, hb7⟩
        have HB7 := Lib.hid (bThen HB6.out hb7)
        clear hb7
        go_wp2
        go_ret
        exact ⟨rfl, HB7.out⟩
      · obtain rfl : se = 0 := by simpa using SE.out
        obtain ⟨p1, p2⟩ : 1 ≤ s ∧ s ≤ 1001 := by simpa [isIn] using HIN.out
        obtain ⟨q1, q2, q3, q4⟩ := rulesOk_spec HR.out
        obtain ⟨s, rfl⟩ : ∃ n : Nat, s = n := ⟨s.toNat, by omega⟩
        obtain ⟨d, rfl⟩ : ∃ n : Nat, d = n := ⟨d.toNat, by omega⟩
        have G := Lib.hid (show s ≤ 1001 ∧ d ≤ 9 by omega)
        have NN0 : Hid (nn = colSum (cnts g bs d s) s d) := Lib.hid (by simpa using NN.out)
        have GG := Lib.hid q2
        have BO := Lib.hid (bedsOk_spec q1)
        clear p1 p2 q1 q2 q3 q4
        go_wp2_with fail
        refine (rNumber_any bs g d s _ _ HS.out BO.out.1 BO.out.2.2.2 GG.out G.out.2 G.out.1).mono ?_
        rintro e w7 ⟨rfl, hb7⟩
        rw [← NN0.out]
        replace x0 := bAt hb7 x0
        replace x1 := bAt hb7 x1
        replace x2 := bAt hb7 x2
        replace HS := Lib.hid (HS.out.below hb7)
        replace HV1 := Lib.hid (HV1.out.below hb7)
        replace HV2 := Lib.hid (HV2.out.below hb7)
        replace HL := Lib.hid (HL.out.below hb7)
        have HB7 := Lib.hid (bThen HB6.out hb7)
        clear hb7
        by_cases hz : nn = 0
        · subst hz
          obtain rfl : fe = 7 := by simpa using FE.out
          obtain rfl : fl = [] := by simpa using FL.out
          simp only [List.length_nil] at *
          go_wp2_with fail
          refine (known_any _).mono ?_
          rintro e w8 ⟨rfl, hb8⟩
          have HB8 := Lib.hid (bThen HB7.out hb8)
          clear hb8
          go_wp2
          go_ret
          exact ⟨rfl, HB8.out⟩
        · have hzb : (nn == 0) = false := by simpa using hz
          obtain rfl : fe = 0 := by simpa [hz] using FE.out
          have FL0 : Hid (fl = forcedTo g bs d s bs.length) := Lib.hid (by simpa using FL.out)
          have hle : (fl.length : Int) ≤ bs.length := by have := FLL.out; omega
          clear hz
          obtain ⟨c1, hc1⟩ : ∃ c, decide (20 < (bs.length : Int)) = c := ⟨_, rfl⟩
          obtain ⟨c2, hc2⟩ : ∃ c, decide (200 < (s : Int)) = c := ⟨_, rfl⟩
          cases c1
          · go_wp2_with fail
            refine (rForced_any bs g d s _ _ HS.out BO.out.1 BO.out.2.2.2 GG.out G.out.2 G.out.1).mono ?_
            rintro e w8 ⟨lv, rfl, hb8, hl8⟩
            rw [← FL0.out] at hl8
            have HLR := Lib.hid hl8
            clear hl8
            replace x0 := bAt hb8 x0
            replace x1 := bAt hb8 x1
            replace x2 := bAt hb8 x2
            replace HS := Lib.hid (HS.out.below hb8)
            replace HV1 := Lib.hid (HV1.out.below hb8)
            replace HV2 := Lib.hid (HV2.out.below hb8)
            replace HL := Lib.hid (HL.out.below hb8)
            have HB8 := Lib.hid (bThen HB7.out hb8)
            clear hb8
            go_wp2_with fail
            refine (same_any fl fl _ _ _ HL.out HLR.out).mono ?_
            rintro e w9 ⟨rfl, hb9⟩
            rw [decide_eq_true rfl]
            replace x0 := bAt hb9 x0
            replace x1 := bAt hb9 x1
            replace x2 := bAt hb9 x2
            replace HS := Lib.hid (HS.out.below hb9)
            replace HV1 := Lib.hid (HV1.out.below hb9)
            replace HV2 := Lib.hid (HV2.out.below hb9)
            replace HL := Lib.hid (HL.out.below hb9)
            have HB9 := Lib.hid (bThen HB8.out hb9)
            clear hb9
            go_wp2_with fail
            refine (known_any _).mono ?_
            rintro e w10 ⟨rfl, hb10⟩
            have HB10 := Lib.hid (bThen HB9.out hb10)
            clear hb10
            go_wp2
            go_ret
            exact ⟨rfl, HB10.out⟩
          · cases c2
            · go_wp2_with fail
              refine (rForced_any bs g d s _ _ HS.out BO.out.1 BO.out.2.2.2 GG.out G.out.2 G.out.1).mono ?_
              rintro e w8 ⟨lv, rfl, hb8, hl8⟩
              rw [← FL0.out] at hl8
              have HLR := Lib.hid hl8
              clear hl8
              replace x0 := bAt hb8 x0
              replace x1 := bAt hb8 x1
              replace x2 := bAt hb8 x2
              replace HS := Lib.hid (HS.out.below hb8)
              replace HV1 := Lib.hid (HV1.out.below hb8)
              replace HV2 := Lib.hid (HV2.out.below hb8)
              replace HL := Lib.hid (HL.out.below hb8)
              have HB8 := Lib.hid (bThen HB7.out hb8)
              clear hb8
              go_wp2_with fail
              refine (same_any fl fl _ _ _ HL.out HLR.out).mono ?_
              rintro e w9 ⟨rfl, hb9⟩
              rw [decide_eq_true rfl]
              replace x0 := bAt hb9 x0
              replace x1 := bAt hb9 x1
              replace x2 := bAt hb9 x2
              replace HS := Lib.hid (HS.out.below hb9)
              replace HV1 := Lib.hid (HV1.out.below hb9)
              replace HV2 := Lib.hid (HV2.out.below hb9)
              replace HL := Lib.hid (HL.out.below hb9)
              have HB9 := Lib.hid (bThen HB8.out hb9)
              clear hb9
              go_wp2_with fail
              refine (known_any _).mono ?_
              rintro e w10 ⟨rfl, hb10⟩
              have HB10 := Lib.hid (bThen HB9.out hb10)
              clear hb10
              go_wp2
              go_ret
              exact ⟨rfl, HB10.out⟩
            · go_wp2_with fail
              refine (known_any _).mono ?_
              rintro e w8 ⟨rfl, hb8⟩
              have HB8 := Lib.hid (bThen HB7.out hb8)
              clear hb8
              go_wp2
              go_ret
              exact ⟨rfl, HB8.out⟩
  · go_wp2_with fail
    refine (known_any _).mono ?_
    rintro e w2 ⟨rfl, hb2⟩
    have HB2 := Lib.hid (bThen HB1.out hb2)
    clear hb2
    go_wp2
    go_ret
    exact ⟨rfl, HB2.out⟩
end Go.Proofs.Ytcnofoopdghjiaa

/- Chapter 2: what a law's arguments read as: slices of one-cell values, rules. -/
namespace Go.Proofs.Ytcnofoopdghjiaa
open Go.RowKit Go.Oche Go.Proofs Go.ChangeShapes Go.WideShapes Go.ChangeAt

theorem sl_of_vals {W : World} {a : Addr} {cap : Nat} {vals : List Value} (hl : vals.length ≤ cap) (hm : cap ≤ maxLen) (hc : ∀ i x, vals[i]? = some x → W.cell? (a.add i) = some x) :
    Sl (fun _ => True) W (.slice (some a) vals.length cap) vals := by
  refine ⟨some a, cap, rfl, hl, hm, fun i x hx => ?_⟩
  have hi : i < vals.length := (List.getElem?_eq_some_iff.1 hx).1
  have ha : a.spot = none := by
    have h0 := hc 0 vals[0] (List.getElem?_eq_getElem (by omega))
    unfold World.cell? Addr.add at h0
    simp only [if_true] at h0
    cases hs : a.spot with
    | none => rfl
    | some s =>
      rw [hs] at h0
      split at h0 <;> simp at h0
  obtain ⟨b, o, sp⟩ := a
  simp only at ha
  subst ha
  refine ⟨b, o, rfl, trivial, ?_⟩
  have h1 := hc i x hx
  rw [addr_add] at h1
  exact h1
theorem choose_list {β : Type} {R : Nat → β → Prop} : ∀ n, (∀ i, i < n → ∃ b, R i b) → ∃ xs : List β, xs.length = n ∧ ∀ i b, xs[i]? = some b → R i b
  | 0, _ => ⟨[], rfl, fun i b h => by simp at h⟩
  | n + 1, h => by
    obtain ⟨xs, h1, h2⟩ := choose_list n fun i hi => h i (by omega)
    obtain ⟨b, hb⟩ := h n (by omega)
    refine ⟨xs ++ [b], by simp [h1], fun i b' hi => ?_⟩
    by_cases hin : i < xs.length
    · rw [List.getElem?_append_left hin] at hi
      exact h2 i b' hi
    · have hlt := (List.getElem?_eq_some_iff.1 hi).1
      simp at hlt
      obtain rfl : i = xs.length := by omega
      simp at hi
      subst hi
      rw [h1]; exact hb

section
variable {H : Type} {enc : TypeId × Value → H} {W : World} {base : Nat} {spare : Nat → Bool} {held : Bool}
theorem open_slice {β : Type} (mk : β → Value) (Q : β → Prop) {t e : TypeId} (ht : Try.prog.underlying t = some (.slice e)) (hce : Try.prog.cellsOf e = 1)
    (hone : ∀ n cs (y : DataW H × List MemPlace), DataW.trod enc Try.prog W base spare held n e cs = some y → ∃ b, cs = [mk b] ∧ Q b) {n : Nat} {v : Value} {x : DataW H × List MemPlace} (h : DataW.trod enc Try.prog W base spare held n t [v] = some x) :
    ∃ xs : List β, Sl (fun _ => True) W v (xs.map mk) ∧ ∀ b ∈ xs, Q b := by
  rcases DataW.trod_slice ht h with ⟨hcs, _⟩ | ⟨a, len, cap, elems, rest, m, _, hcs, _, _, hl, hm, hlen, hel, _, _⟩
  · simp only [List.cons.injEq, and_true] at hcs
    subst hcs
    exact ⟨[], Sl.nil _ _, by simp⟩
  · simp only [List.cons.injEq, and_true] at hcs
    subst hcs
    have hall : ∀ i, i < len → ∃ b, W.cell? (a.add i) = some (mk b) ∧ Q b := fun i hi => by
      have hy := hel i hi
      rw [List.getElem?_eq_getElem (by omega), hce, Nat.mul_one, Option.bind_eq_some_iff] at hy
      obtain ⟨cs, hcs, hy⟩ := hy
      obtain ⟨b, rfl, hb⟩ := hone _ _ _ hy
      exact ⟨b, cell_of_cells?_one hcs, hb⟩
    obtain ⟨xs, h1, h2⟩ := choose_list len hall
    refine ⟨xs, ?_, fun b hb => ?_⟩
    · have := sl_of_vals (W := W) (a := a) (cap := cap) (vals := xs.map mk) (by simp; omega) hm (fun i x hx => by
        rw [List.getElem?_map] at hx
        obtain ⟨b, hb, rfl⟩ := Option.map_eq_some_iff.1 hx
        exact (h2 i b hb).1)
      rw [List.length_map, h1] at this
      exact this
    · obtain ⟨i, hi⟩ := List.getElem?_of_mem hb
      exact (h2 i b hi).2
theorem open_bools {n : Nat} {v : Value} {x : DataW H × List MemPlace} (h : DataW.trod enc Try.prog W base spare held n 44 [v] = some x) : ∃ xs : List Bool, Sl (fun _ => True) W v (bools xs) := by
  obtain ⟨xs, h, _⟩ := open_slice Value.bool (fun _ => True) Try.underlying44 cells4 (fun n cs y hy => by
    obtain ⟨b, rfl, _⟩ := DataW.trod_bool Try.underlying4 hy
    exact ⟨b, rfl, trivial⟩) h
  exact ⟨xs, h⟩
set_option maxRecDepth 100000 in
theorem open_rules {r : Reach} {b0 : Nat} {v : Value} {d : DataW H} {p : List MemPlace} (hv : Value.okWide Try.prog W r b0 25 v) (h : DataW.Trod enc Try.prog W base spare held 25 v d p) :
    ∃ (u : Value) (bs : List Int) (g d : Int), v = .agg #[u, .int .i64 g, .int .i64 d] ∧ Sl (fun _ => True) W u (ints bs) ∧ (∀ b ∈ bs, I64 b) := by
  obtain ⟨c0, c1, c2, y0, y1, y2, n, rfl, _, _, k0, k1, k2⟩ := Joins.open_agg3 Try.underlying25 (by kernel_rfl) (by kernel_rfl) hv h
  obtain ⟨bs, hs, hi⟩ := open_beds k0
  obtain ⟨g, rfl, _⟩ := open_gate k1
  obtain ⟨d, rfl, _⟩ := open_i64 k2
  exact ⟨c0, bs, g, d, rfl, hs, hi⟩
end
end Go.Proofs.Ytcnofoopdghjiaa
