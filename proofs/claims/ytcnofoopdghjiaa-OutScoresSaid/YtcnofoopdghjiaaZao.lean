/- The texts LC, LE, LF, LI, in build order. -/
import Derived.Test.YtcnofoopdghjiaaZan
import Derived.Test.YtcnofoopdghjiaaRows
import Derived.Lib.SmallJoins
import Derived.ChangeSlices
import Derived.ChangeSame
import Derived.JoinedOf
import Derived.JoinedAt
import Derived.ArgAppend

/- Chapter 2: what a law's arguments read as. -/
namespace Go.Proofs.Ytcnofoopdghjiaa
open Go.RowKit Go.Oche Go.Proofs Go.ChangeShapes Go.WideShapes Go.ChangeAt

theorem own : ownKnob Try.prog.godebug = none := by kernel_rfl
theorem sized : sizedB Try.prog = true := by kernel_rfl
theorem cells61 : Try.prog.cellsOf 61 = 1 := by kernel_rfl
theorem cells4 : Try.prog.cellsOf 4 = 1 := by kernel_rfl

theorem i64_of_wf {n : Int} (h : (Lit.int .i64 n).wf = true) : I64 n := by
  have := h
  simp [Lit.wf, IntKind.min, IntKind.max, IntKind.signed, IntKind.bits] at this
  exact this

theorem sl_of_cells {W : World} {a : Addr} {len cap : Nat} {zs : List Int} (hl : len ≤ cap) (hm : cap ≤ maxLen) (hz : len ≤ zs.length) (hc : ∀ i, i < zs.length → W.cell? (a.add i) = some (.int .i64 (zs.getD i 0))) :
    Sl (fun _ => True) W (.slice (some a) len cap) (ints (zs.take len)) := by
  have hlen : (ints (zs.take len)).length = len := by simp; omega
  refine ⟨some a, cap, by rw [hlen], by omega, hm, fun i x hx => ?_⟩
  have hi : i < len := by rw [← hlen]; exact (List.getElem?_eq_some_iff.1 hx).1
  have ha : a.spot = none := by
    have h0 := hc 0 (by omega)
    unfold World.cell? Addr.add at h0
    simp only [if_true] at h0
    cases hs : a.spot with
    | none => rfl
    | some s =>
      rw [hs] at h0
      split at h0 <;> simp at h0
  obtain ⟨b, o, sp⟩ := a
  simp only at ha
  subst ha
  refine ⟨b, o, rfl, trivial, ?_⟩
  have h1 := hc i (by omega)
  rw [addr_add] at h1
  rw [h1]
  have hi' : i < (zs.take len).length := by simp; omega
  have he := intsAt hi'
  rw [he] at hx
  rw [← Option.some.inj hx]
  simp [List.getD_eq_getElem?_getD, List.getElem?_eq_getElem (show i < zs.length by omega)]

section
variable {H : Type} {enc : TypeId × Value → H} {W : World} {base : Nat} {spare : Nat → Bool} {held : Bool}
theorem open_beds {n : Nat} {v : Value} {y : DataW H × List MemPlace} (h : DataW.trod enc Try.prog W base spare held n 22 [v] = some y) :
    ∃ xs : List Int, Sl (fun _ => True) W v (ints xs) ∧ (∀ b ∈ xs, I64 b) := by
  rcases open_ints Try.underlying22 Try.underlying61 cells61 h with ⟨hcs, _⟩ | ⟨a, len, cap, zs, hcs, _, hl, hm, hz, _, hcell, hwz⟩
  · simp only [List.cons.injEq, and_true] at hcs
    subst hcs
    exact ⟨[], Sl.nil _ _, by simp⟩
  · simp only [List.cons.injEq, and_true] at hcs
    subst hcs
    refine ⟨zs.take len, sl_of_cells hl hm (by split at hz <;> omega) hcell, fun b hb => i64_of_wf (hwz b (List.mem_of_mem_take hb))⟩
theorem open_cellsTrod {t : TypeId} {v : Value} {d : DataW H} {p : List MemPlace} (h : DataW.Trod enc Try.prog W base spare held t v d p) (hv : v.cells = #[v]) : ∃ n y, DataW.trod enc Try.prog W base spare held n t [v] = some y := by
  obtain ⟨n, h⟩ := h
  rw [hv] at h
  exact ⟨n, _, h⟩
theorem open_i64 {n : Nat} {v : Value} {y : DataW H × List MemPlace} (h : DataW.trod enc Try.prog W base spare held n 3 [v] = some y) : ∃ z, v = .int .i64 z ∧ I64 z := by
  obtain ⟨z, hz, _, hw⟩ := DataW.trod_int Try.underlying3 h
  simp only [List.cons.injEq, and_true] at hz
  exact ⟨z, hz, i64_of_wf hw⟩
theorem open_gate {n : Nat} {v : Value} {y : DataW H × List MemPlace} (h : DataW.trod enc Try.prog W base spare held n 23 [v] = some y) : ∃ z, v = .int .i64 z ∧ I64 z := by
  obtain ⟨z, hz, _, hw⟩ := DataW.trod_int Try.underlying23 h
  simp only [List.cons.injEq, and_true] at hz
  exact ⟨z, hz, i64_of_wf hw⟩
end
end Go.Proofs.Ytcnofoopdghjiaa

/- Chapter 2: a copy of a list of bools. -/
namespace Go.Proofs.Ytcnofoopdghjiaa
open Go.RowKit Go.Oche Go.Proofs
theorem info4 : (Try.prog.info? 4).map (fun i => (i.zero, i.size, i.bytes)) = some (some (.bool false), 1, 1) := by kernel_rfl
theorem bools_one {l : List Bool} : ∀ u ∈ bools l, u.oneCell' = true := fun u hu => by
  obtain ⟨x, _, rfl⟩ := List.mem_map.1 hu; rfl
theorem noSpot {S : Nat → Prop} {W : World} {a : Addr} {n c : Nat} {xs : List Value} (h : Sl S W (.slice (some a) n c) xs) : ∀ j u, xs[j]? = some u → W.cell? (a.add j) = some u := fun j u hj => by
  obtain ⟨a', c', e, _, _, h4⟩ := h
  cases e
  obtain ⟨b, o, e, _, hc⟩ := h4 j u hj
  cases e
  rw [addr_add]; exact hc
theorem run_append_noneB (W : World) (b c2 : Nat) (ad : Option Addr) : (Builtin.append_ #[44, 44] 44 #[.slice (some ⟨b, 0, none⟩) 0 0, .slice ad 0 c2]).run Try.prog W = .ok (.slice (some ⟨b, 0, none⟩) 0 0) W := by
  obtain ⟨i0, hi, hz0', hz1, hz2⟩ := info_parts info4
  cases ad <;> simp [Builtin.append_, run_underlying Try.underlying44, sizeOf, typeInfo, hi, Builtin.lenOf, Builtin.firstCells, loadCells, loadCellsFrom, storeCells]
/-- A copy of a list of bools. -/
theorem copyB_run {S : Nat → Prop} {W : World} {v : Value} {xs : List Bool} (h : Sl S W v (bools xs)) (hl : xs.length ≤ 1100) (b : Nat) :
    ∃ v' W', (Builtin.append_ #[44, 44] 44 #[.slice (some ⟨b, 0, none⟩) 0 0, v]).run Try.prog W = .ok v' W' ∧ (∃ b' c', v' = .slice (some ⟨b', 0, none⟩) xs.length c') ∧ Sl (fun k => W.heap.size ≤ k) W' v' (bools xs) ∧ Below W.heap.size W W' := by
  obtain ⟨a', c', rfl, _, _⟩ := h.form
  rw [bools_length] at *
  by_cases h0 : xs.length = 0
  · have : xs = [] := List.eq_nil_of_length_eq_zero h0
    subst this
    exact ⟨_, W, run_append_noneB W b c' a', ⟨b, 0, rfl⟩, ⟨some ⟨b, 0, none⟩, 0, rfl, Nat.le_refl _, Nat.zero_le _, fun i x hx => by simp [bools] at hx⟩, Below.refl _ _⟩
  · cases a' with
    | none =>
      obtain ⟨_, _, e, _, _, h4⟩ := h
      rw [bools_length] at e
      cases e
      obtain ⟨_, _, e, _⟩ := h4 0 _ (bools_at (by omega))
      cases e
    | some ad =>
      obtain ⟨i0, hi, hz0', hz1, hz2⟩ := info_parts info4
      obtain ⟨v', W', hr, ho, hg⟩ := run_append_arg_grows (P := Try.prog) W 44 44 4 i0 (.bool false) 1 1 Try.underlying44 hi hz0' hz1 hz2 rfl (by decide) ⟨b, 0, none⟩ 0 0 [] rfl (fun j u hj => by simp at hj) ad xs.length c' (bools xs) (by simp) (noSpot h) (by simp; omega) (by unfold maxLen; simp; omega) (by simp; omega)
      have hb : Below W.heap.size W W' := below_grownBy hg (Nat.le_refl _) (fun k hk => by cases hk)
      simp only [Nat.zero_add, List.nil_append] at ho
      obtain ⟨g, cap, rfl⟩ := owns_pos ho (by omega)
      exact ⟨_, W', hr, ⟨g, cap, rfl⟩, Sl.of_owns ho, hb⟩
end Go.Proofs.Ytcnofoopdghjiaa

/- Chapter 2, law OutScores: the walk. (Printed by gen_LF.py.) -/
namespace Go.Proofs.Ytcnofoopdghjiaa
open Go.RowKit Go.Oche Go.Proofs

set_option maxRecDepth 100000 in
set_option maxHeartbeats 1000000 in
theorem OutScores_any {S S' : Nat → Prop} (bs : List Int) (g d m : Int) (nv : List Bool) (v vn : Value) (w : World) (hs : Sl S w v (ints bs)) (hn : Sl S' w vn (bools nv)) (hi : ∀ b ∈ bs, I64 b) :
    Calls Try.prog 5 #[.agg #[v, .int .i64 g, .int .i64 d], .int .i64 m, vn] w fun e w' => e = .returned (.bool true) ∧ Below w.heap.size w w' := by
  obtain ⟨a, cap, rfl, _, h3⟩ := hs.form
  obtain ⟨an, capn, rfl, _, h3n⟩ := hn.form
  simp only [ints_length, bools_length] at *
  obtain ⟨w0, hw0⟩ : ∃ w0, w0 = w.alloc (.cells #[.slice a bs.length cap, .int .i64 g, .int .i64 d] 25) := ⟨_, rfl⟩
  have hb0 : Below w.heap.size w w0 := by rw [hw0]; exact aB _ _
  have h2 : w0.heap[w.heap.size]? = some (.cells #[.slice a bs.length cap, .int .i64 g, .int .i64 d] 25 (0, 0)) := by rw [hw0]; exact World.alloc_heap_new _ _
  have x0 : w0.cell? ⟨w.heap.size, 0, none⟩ = some (.slice a bs.length cap) := by rw [cell_of_heap h2]; rfl
  have x1 : w0.cell? ⟨w.heap.size, 1, none⟩ = some (.int .i64 g) := by rw [cell_of_heap h2]; rfl
  have x2 : w0.cell? ⟨w.heap.size, 2, none⟩ = some (.int .i64 d) := by rw [cell_of_heap h2]; rfl
  have HS := Lib.hid (hs.below hb0)
  have HN := Lib.hid (hn.below hb0)
  have HI := Lib.hid hi
  have HW := Lib.hid hw0
  have HB0 := Lib.hid hb0
  clear hs hn hi hw0 h2 hb0
  obtain ⟨lg, hlg⟩ : ∃ lg, decide (85 < bs.length) = lg := ⟨_, rfl⟩
  obtain ⟨l2, hl2⟩ : ∃ lg, decide (1100 < (nv.length : Int)) = lg := ⟨_, rfl⟩
  obtain ⟨l3, hl3⟩ : ∃ lg, decide (1002 < (nv.length : Int)) = lg := ⟨_, rfl⟩
  obtain ⟨r, hr⟩ : ∃ b, rulesOk bs g d = b := ⟨_, rfl⟩
  obtain ⟨i, hi1⟩ : ∃ b, isIn m 0 1001 = b := ⟨_, rfl⟩
  obtain ⟨me, hme⟩ : ∃ x, mostErr bs g d m = x := ⟨_, rfl⟩
  obtain ⟨ce, hce⟩ : ∃ x, closedErr bs g d nv.length = x := ⟨_, rfl⟩
  obtain ⟨cr, hcr⟩ : ∃ x, closedRes bs g d nv = x := ⟨_, rfl⟩
  obtain ⟨fw, hfw⟩ : ∃ x, fewL bs g d m = x := ⟨_, rfl⟩
  obtain ⟨bg, hbg⟩ : ∃ x, bogL bs g d m = x := ⟨_, rfl⟩
  have ME : Hid (me = if r = true then (if i = true then 0 else 3) else 2) := Lib.hid (by rw [← hme, ← hr, ← hi1]; rfl)
  have CE : Hid (ce = if r = true then (if nv.length ≤ 1002 then 0 else 5) else 2) := Lib.hid (by rw [← hce, ← hr]; rfl)
  have CR : Hid (cr = (ce == 0 && closedB g bs nv)) := Lib.hid (by rw [← hcr, ← hce]; rfl)
  have FW : Hid (fw = if me = 0 then fewTo g bs m.toNat else []) := Lib.hid (by rw [← hfw, ← hme]; rfl)
  have BG : Hid (bg = if me = 0 then bogTo (cnts g bs d.toNat m.toNat) d.toNat m.toNat else []) := Lib.hid (by rw [← hbg, ← hme]; rfl)
  have HLG := Lib.hid hlg
  have HL2 := Lib.hid hl2
  have HL3 := Lib.hid hl3
  have HR := Lib.hid hr
  have HIN := Lib.hid hi1
  have HME := Lib.hid hme
  have HCE := Lib.hid hce
  have HCR := Lib.hid hcr
  have HFW := Lib.hid hfw
  have HBG := Lib.hid hbg
  clear hlg hr hi1 hme hce hcr hfw hbg
  go_enter Try.func5, Try.ntmps5
  go_wp2_with fail
  rw [← HW.out]
  refine (large_any bs g d _ _ HS.out).mono ?_
  rintro e w1 ⟨rfl, hb1⟩
  rw [HLG.out]
  replace x0 := bAt hb1 x0
  replace x1 := bAt hb1 x1
  replace x2 := bAt hb1 x2
  replace HS := Lib.hid (HS.out.below hb1)
  replace HN := Lib.hid (HN.out.below hb1)
  have HB1 := Lib.hid (bThen HB0.out hb1)
  clear hb1
  cases lg
  · cases l2
    · have HLE : Hid (bs.length ≤ 85) := Lib.hid (by have := HLG.out; simp at this; omega)
      have HLN : Hid (nv.length ≤ 1100) := Lib.hid (by have := HL2.out; simp at this; omega)
      go_wp2_with fail
      refine (rules_any bs g d _ _ HS.out HLE.out).mono ?_
      rintro e w2 ⟨v2, rfl, hb2, hv2⟩
      have HV1 := Lib.hid hv2
      clear hv2
      replace x0 := bAt hb2 x0
      replace x1 := bAt hb2 x1
      replace x2 := bAt hb2 x2
      replace HS := Lib.hid (HS.out.below hb2)
      replace HN := Lib.hid (HN.out.below hb2)
      have HB2 := Lib.hid (bThen HB1.out hb2)
      clear hb2
      go_wp2_with fail
      refine (fewest_any bs g d m _ _ HV1.out HI.out).mono ?_
      rintro e w3 ⟨l3, rfl, hb3, hl3⟩
      rw [HME.out]
      rw [HFW.out] at hl3
      obtain ⟨a3, c3, rfl, _, hc3⟩ := hl3.form
      simp only [ints_length] at *
      have HLF := Lib.hid hl3
      clear hl3
      replace x0 := bAt hb3 x0
      replace x1 := bAt hb3 x1
      replace x2 := bAt hb3 x2
      replace HS := Lib.hid (HS.out.below hb3)
      replace HN := Lib.hid (HN.out.below hb3)
      replace HV1 := Lib.hid (HV1.out.below hb3)
      have HB3 := Lib.hid (bThen HB2.out hb3)
      clear hb3
      go_wp2_with fail
      refine (rules_any bs g d _ _ HS.out HLE.out).mono ?_
      rintro e w4 ⟨v4, rfl, hb4, hv4⟩
      have HV2 := Lib.hid hv4
      clear hv4
      replace x0 := bAt hb4 x0
      replace x1 := bAt hb4 x1
      replace x2 := bAt hb4 x2
      replace HS := Lib.hid (HS.out.below hb4)
      replace HN := Lib.hid (HN.out.below hb4)
      replace HV1 := Lib.hid (HV1.out.below hb4)
      replace HLF := Lib.hid (HLF.out.below hb4)
      have HB4 := Lib.hid (bThen HB3.out hb4)
      clear hb4
      go_wp2_with fail
      refine (bogeys_any bs g d m _ _ HV2.out HI.out).mono ?_
      rintro e w5 ⟨l5, rfl, hb5, hl5⟩
      rw [HME.out]
      rw [HBG.out] at hl5
      obtain ⟨a5, c5, rfl, _, hc5⟩ := hl5.form
      simp only [ints_length] at *
      have HLB := Lib.hid hl5
      clear hl5
      replace x0 := bAt hb5 x0
      replace x1 := bAt hb5 x1
      replace x2 := bAt hb5 x2
      replace HS := Lib.hid (HS.out.below hb5)
      replace HN := Lib.hid (HN.out.below hb5)
      replace HV1 := Lib.hid (HV1.out.below hb5)
      replace HLF := Lib.hid (HLF.out.below hb5)
      replace HV2 := Lib.hid (HV2.out.below hb5)
      have HB5 := Lib.hid (bThen HB4.out hb5)
      clear hb5
      go_wp2_with fail
      refine (rules_any bs g d _ _ HS.out HLE.out).mono ?_
      rintro e w6 ⟨v6, rfl, hb6, hv6⟩
      have HV3 := Lib.hid hv6
      clear hv6
      replace x0 := bAt hb6 x0
      replace x1 := bAt hb6 x1
      replace x2 := bAt hb6 x2
      replace HS := Lib.hid (HS.out.below hb6)
      replace HN := Lib.hid (HN.out.below hb6)
      replace HV1 := Lib.hid (HV1.out.below hb6)
      replace HLF := Lib.hid (HLF.out.below hb6)
      replace HV2 := Lib.hid (HV2.out.below hb6)
      replace HLB := Lib.hid (HLB.out.below hb6)
      have HB6 := Lib.hid (bThen HB5.out hb6)
      clear hb6
      obtain ⟨vb, wb, hrb, ⟨bb, cb, rfl⟩, hslb, hbb⟩ := copyB_run (HN.out.below (aB w6 (.cells #[] 4))) HLN.out w6.heap.size
      have HRB := Lib.hid hrb
      have HSB := Lib.hid hslb
      have hb7 := bThen (aB w6 (.cells #[] 4)) hbb
      clear hrb hslb hbb
      go_wp2_with (refine wpList_opOK rfl (opOK_append_run (v1 := .slice (some ⟨w6.heap.size, 0, none⟩) 0 0) (v2 := .slice an nv.length capn) (R := fun v'' W'' => v'' = .slice (some ⟨bb, 0, none⟩) nv.length cb ∧ wb = W'') (.tmp 38) (.tmp 39) 44 rfl rfl rfl HRB.out ⟨rfl, rfl⟩) ?_; rintro _ _ ⟨rfl, rfl⟩)
      replace x0 := bAt hb7 x0
      replace x1 := bAt hb7 x1
      replace x2 := bAt hb7 x2
      replace HS := Lib.hid (HS.out.below hb7)
      replace HN := Lib.hid (HN.out.below hb7)
      replace HV1 := Lib.hid (HV1.out.below hb7)
      replace HLF := Lib.hid (HLF.out.below hb7)
      replace HV2 := Lib.hid (HV2.out.below hb7)
      replace HLB := Lib.hid (HLB.out.below hb7)
      replace HV3 := Lib.hid (HV3.out.below hb7)
      have HB7 := Lib.hid (bThen HB6.out hb7)
      clear hb7
      refine (closed_any bs g d nv _ _ _ HV3.out HSB.out HI.out).mono ?_
      rintro e w8 ⟨rfl, hb8⟩
      rw [HCR.out, HCE.out]
      replace x0 := bAt hb8 x0
      replace x1 := bAt hb8 x1
      replace x2 := bAt hb8 x2
      replace HS := Lib.hid (HS.out.below hb8)
      replace HN := Lib.hid (HN.out.below hb8)
      replace HV1 := Lib.hid (HV1.out.below hb8)
      replace HLF := Lib.hid (HLF.out.below hb8)
      replace HV2 := Lib.hid (HV2.out.below hb8)
      replace HLB := Lib.hid (HLB.out.below hb8)
      replace HV3 := Lib.hid (HV3.out.below hb8)
      replace HSB := Lib.hid (HSB.out.below hb8)
      have HB8 := Lib.hid (bThen HB7.out hb8)
      clear hb8
      go_wp2_with fail
      refine (rRules_r bs g d _ HR _ _ HS.out HI.out).mono ?_
      rintro e w9 ⟨rfl, hb9⟩
      replace x0 := bAt hb9 x0
      replace x1 := bAt hb9 x1
      replace x2 := bAt hb9 x2
      replace HS := Lib.hid (HS.out.below hb9)
      replace HN := Lib.hid (HN.out.below hb9)
      replace HV1 := Lib.hid (HV1.out.below hb9)
      replace HLF := Lib.hid (HLF.out.below hb9)
      replace HV2 := Lib.hid (HV2.out.below hb9)
      replace HLB := Lib.hid (HLB.out.below hb9)
      replace HV3 := Lib.hid (HV3.out.below hb9)
      replace HSB := Lib.hid (HSB.out.below hb9)
      have HB9 := Lib.hid (bThen HB8.out hb9)
      clear hb9
      cases r
      · obtain rfl : me = 2 := by simpa using ME.out
        obtain rfl : fw = [] := by simpa using FW.out
        obtain rfl : bg = [] := by simpa using BG.out
        simp only [List.length_nil] at *
        obtain rfl : ce = 2 := by simpa using CE.out
        obtain rfl : cr = false := by simpa using CR.out
        go_wp2_with fail
        refine (known_any _).mono ?_
        rintro e w10 ⟨rfl, hb10⟩
        have HB10 := Lib.hid (bThen HB9.out hb10)
        clear hb10
        go_wp2
        go_ret
        exact ⟨rfl, HB10.out⟩
      · obtain ⟨q1, q2, q3, q4⟩ := rulesOk_spec HR.out
        have GG := Lib.hid q2
        have BO := Lib.hid (bedsOk_spec q1)
        have GD := Lib.hid (And.intro q3 q4)
        clear q1 q2 q3 q4
        cases l3
        · have hnl : nv.length ≤ 1002 := by have := HL3.out; simp at this; omega
          obtain rfl : ce = 0 := by simpa [hnl] using CE.out
          have CR0 : Hid (closedB g bs nv = cr) := Lib.hid (by simpa using CR.out.symm)
          have HNL := Lib.hid hnl
          clear hnl
          go_wp2_with fail
          refine (rClosed_any bs g d nv _ _ _ HS.out HN.out BO.out.1 BO.out.2.2.2 GG.out HNL.out).mono ?_
          rintro e w10 ⟨rfl, hb10⟩
          rw [CR0.out]
          replace x0 := bAt hb10 x0
          replace x1 := bAt hb10 x1
          replace x2 := bAt hb10 x2
          replace HS := Lib.hid (HS.out.below hb10)
          replace HN := Lib.hid (HN.out.below hb10)
          replace HV1 := Lib.hid (HV1.out.below hb10)
          replace HLF := Lib.hid (HLF.out.below hb10)
          replace HV2 := Lib.hid (HV2.out.below hb10)
          replace HLB := Lib.hid (HLB.out.below hb10)
          replace HV3 := Lib.hid (HV3.out.below hb10)
          replace HSB := Lib.hid (HSB.out.below hb10)
          have HB10 := Lib.hid (bThen HB9.out hb10)
          clear hb10
          go_wp2_with fail
          refine (in_r _ _ _ _ HIN _).mono ?_
          rintro e w' ⟨rfl, rfl⟩
          cases i
          · obtain rfl : me = 3 := by simpa using ME.out
            obtain rfl : fw = [] := by simpa using FW.out
            obtain rfl : bg = [] := by simpa using BG.out
            simp only [List.length_nil] at *
            go_wp2_with fail
            refine (known_any _).mono ?_
            rintro e w11 ⟨rfl, hb11⟩
            have HB11 := Lib.hid (bThen HB10.out hb11)
            clear hb11
            go_wp2
            go_ret
            exact ⟨rfl, HB11.out⟩
          · obtain rfl : me = 0 := by simpa using ME.out
            obtain ⟨p1, p2⟩ : 0 ≤ m ∧ m ≤ 1001 := by simpa [isIn] using HIN.out
            obtain ⟨m, rfl⟩ : ∃ n : Nat, m = n := ⟨m.toNat, by omega⟩
            obtain ⟨d, rfl⟩ : ∃ n : Nat, d = n := ⟨d.toNat, by have := GD.out; omega⟩
            have G := Lib.hid (show m ≤ 1001 ∧ d ≤ 9 by have := GD.out; omega)
            have FW0 : Hid (fw = fewTo g bs m) := Lib.hid (by simpa using FW.out)
            have BG0 : Hid (bg = bogTo (cnts g bs d m) d m) := Lib.hid (by simpa using BG.out)
            clear p1 p2
            go_wp2_with fail
            refine (rFewest_any bs g d m _ _ HS.out BO.out.1 BO.out.2.2.2 GG.out G.out.1).mono ?_
            rintro e w11 ⟨lv, rfl, hb11, hl11⟩
            rw [← FW0.out] at hl11
            have HL1 := Lib.hid hl11
            clear hl11
            replace x0 := bAt hb11 x0
            replace x1 := bAt hb11 x1
            replace x2 := bAt hb11 x2
            replace HS := Lib.hid (HS.out.below hb11)
            replace HN := Lib.hid (HN.out.below hb11)
            replace HV1 := Lib.hid (HV1.out.below hb11)
            replace HLF := Lib.hid (HLF.out.below hb11)
            replace HV2 := Lib.hid (HV2.out.below hb11)
            replace HLB := Lib.hid (HLB.out.below hb11)
            replace HV3 := Lib.hid (HV3.out.below hb11)
            replace HSB := Lib.hid (HSB.out.below hb11)
            have HB11 := Lib.hid (bThen HB10.out hb11)
            clear hb11
            go_wp2_with fail
            refine (ints_any fw fw _ _ _ HLF.out HL1.out).mono ?_
            rintro e w12 ⟨rfl, hb12⟩
            rw [decide_eq_true rfl]
            replace x0 := bAt hb12 x0
            replace x1 := bAt hb12 x1
            replace x2 := bAt hb12 x2
            replace HS := Lib.hid (HS.out.below hb12)
            replace HN := Lib.hid (HN.out.below hb12)
            replace HV1 := Lib.hid (HV1.out.below hb12)
            replace HLF := Lib.hid (HLF.out.below hb12)
            replace HV2 := Lib.hid (HV2.out.below hb12)
            replace HLB := Lib.hid (HLB.out.below hb12)
            replace HV3 := Lib.hid (HV3.out.below hb12)
            replace HSB := Lib.hid (HSB.out.below hb12)
            have HB12 := Lib.hid (bThen HB11.out hb12)
            clear hb12
            go_wp2_with fail
            refine (rBogeys_any bs g d m _ _ HS.out BO.out.1 BO.out.2.2.2 GG.out G.out.2 G.out.1).mono ?_
            rintro e w13 ⟨lv, rfl, hb13, hl13⟩
            rw [← BG0.out] at hl13
            have HL4 := Lib.hid hl13
            clear hl13
            replace x0 := bAt hb13 x0
            replace x1 := bAt hb13 x1
            replace x2 := bAt hb13 x2
            replace HS := Lib.hid (HS.out.below hb13)
            replace HN := Lib.hid (HN.out.below hb13)
            replace HV1 := Lib.hid (HV1.out.below hb13)
            replace HLF := Lib.hid (HLF.out.below hb13)
            replace HV2 := Lib.hid (HV2.out.below hb13)
            replace HLB := Lib.hid (HLB.out.below hb13)
            replace HV3 := Lib.hid (HV3.out.below hb13)
            replace HSB := Lib.hid (HSB.out.below hb13)
            have HB13 := Lib.hid (bThen HB12.out hb13)
            clear hb13
            go_wp2_with fail
            refine (ints_any bg bg _ _ _ HLB.out HL4.out).mono ?_
            rintro e w14 ⟨rfl, hb14⟩
            rw [decide_eq_true rfl]
            replace x0 := bAt hb14 x0
            replace x1 := bAt hb14 x1
            replace x2 := bAt hb14 x2
            replace HS := Lib.hid (HS.out.below hb14)
            replace HN := Lib.hid (HN.out.below hb14)
            replace HV1 := Lib.hid (HV1.out.below hb14)
            replace HLF := Lib.hid (HLF.out.below hb14)
            replace HV2 := Lib.hid (HV2.out.below hb14)
            replace HLB := Lib.hid (HLB.out.below hb14)
            replace HV3 := Lib.hid (HV3.out.below hb14)
            replace HSB := Lib.hid (HSB.out.below hb14)
            have HB14 := Lib.hid (bThen HB13.out hb14)
            clear hb14
            go_wp2_with fail
            refine (known_any _).mono ?_
            rintro e w15 ⟨rfl, hb15⟩
            have HB15 := Lib.hid (bThen HB14.out hb15)
            clear hb15
            go_wp2
            go_ret
            exact ⟨rfl, HB15.out⟩
        · have hnl : ¬ nv.length ≤ 1002 := by have := HL3.out; simp at this; omega
          obtain rfl : ce = 5 := by simpa [hnl] using CE.out
          obtain rfl : cr = false := by simpa using CR.out
          clear hnl
          go_wp2_with fail
          refine (in_r _ _ _ _ HIN _).mono ?_
          rintro e w' ⟨rfl, rfl⟩
          cases i
          · obtain rfl : me = 3 := by simpa using ME.out
            obtain rfl : fw = [] := by simpa using FW.out
            obtain rfl : bg = [] := by simpa using BG.out
            simp only [List.length_nil] at *
            go_wp2_with fail
            refine (known_any _).mono ?_
            rintro e w10 ⟨rfl, hb10⟩
            have HB10 := Lib.hid (bThen HB9.out hb10)
            clear hb10
            go_wp2
            go_ret
            exact ⟨rfl, HB10.out⟩
          · obtain rfl : me = 0 := by simpa using ME.out
            obtain ⟨p1, p2⟩ : 0 ≤ m ∧ m ≤ 1001 := by simpa [isIn] using HIN.out
            obtain ⟨m, rfl⟩ : ∃ n : Nat, m = n := ⟨m.toNat, by omega⟩
            obtain ⟨d, rfl⟩ : ∃ n : Nat, d = n := ⟨d.toNat, by have := GD.out; omega⟩
            have G := Lib.hid (show m ≤ 1001 ∧ d ≤ 9 by have := GD.out; omega)
            have FW0 : Hid (fw = fewTo g bs m) := Lib.hid (by simpa using FW.out)
            have BG0 : Hid (bg = bogTo (cnts g bs d m) d m) := Lib.hid (by simpa using BG.out)
            clear p1 p2
            go_wp2_with fail
            refine (rFewest_any bs g d m _ _ HS.out BO.out.1 BO.out.2.2.2 GG.out G.out.1).mono ?_
            rintro e w10 ⟨lv, rfl, hb10, hl10⟩
            rw [← FW0.out] at hl10
            have HL1 := Lib.hid hl10
            clear hl10
            replace x0 := bAt hb10 x0
            replace x1 := bAt hb10 x1
            replace x2 := bAt hb10 x2
            replace HS := Lib.hid (HS.out.below hb10)
            replace HN := Lib.hid (HN.out.below hb10)
            replace HV1 := Lib.hid (HV1.out.below hb10)
            replace HLF := Lib.hid (HLF.out.below hb10)
            replace HV2 := Lib.hid (HV2.out.below hb10)
            replace HLB := Lib.hid (HLB.out.below hb10)
            replace HV3 := Lib.hid (HV3.out.below hb10)
            replace HSB := Lib.hid (HSB.out.below hb10)
            have HB10 := Lib.hid (bThen HB9.out hb10)
            clear hb10
            go_wp2_with fail
            refine (ints_any fw fw _ _ _ HLF.out HL1.out).mono ?_
            rintro e w11 ⟨rfl, hb11⟩
            rw [decide_eq_true rfl]
            replace x0 := bAt hb11 x0
            replace x1 := bAt hb11 x1
            replace x2 := bAt hb11 x2
            replace HS := Lib.hid (HS.out.below hb11)
            replace HN := Lib.hid (HN.out.below hb11)
            replace HV1 := Lib.hid (HV1.out.below hb11)
            replace HLF := Lib.hid (HLF.out.below hb11)
            replace HV2 := Lib.hid (HV2.out.below hb11)
            replace HLB := Lib.hid (HLB.out.below hb11)
            replace HV3 := Lib.hid (HV3.out.below hb11)
            replace HSB := Lib.hid (HSB.out.below hb11)
            have HB11 := Lib.hid (bThen HB10.out hb11)
            clear hb11
            go_wp2_with fail
            refine (rBogeys_any bs g d m _ _ HS.out BO.out.1 BO.out.2.2.2 GG.out G.out.2 G.out.1).mono ?_
            rintro e w12 ⟨lv, rfl, hb12, hl12⟩
            rw [← BG0.out] at hl12
            have HL4 := Lib.hid hl12
            clear hl12
            replace x0 := bAt hb12 x0
            replace x1 := bAt hb12 x1
            replace x2 := bAt hb12 x2
            replace HS := Lib.hid (HS.out.below hb12)
            replace HN := Lib.hid (HN.out.below hb12)
            replace HV1 := Lib.hid (HV1.out.below hb12)
            replace HLF := Lib.hid (HLF.out.below hb12)
            replace HV2 := Lib.hid (HV2.out.below hb12)
            replace HLB := Lib.hid (HLB.out.below hb12)
            replace HV3 := Lib.hid (HV3.out.below hb12)
            replace HSB := Lib.hid (HSB.out.below hb12)
            have HB12 := Lib.hid (bThen HB11.out hb12)
            clear hb12
            go_wp2_with fail
            refine (ints_any bg bg _ _ _ HLB.out HL4.out).mono ?_
            rintro e w13 ⟨rfl, hb13⟩
            rw [decide_eq_true rfl]
            replace x0 := bAt hb13 x0
            replace x1 := bAt hb13 x1
            replace x2 := bAt hb13 x2
            replace HS := Lib.hid (HS.out.below hb13)
            replace HN := Lib.hid (HN.out.below hb13)
            replace HV1 := Lib.hid (HV1.out.below hb13)
            replace HLF := Lib.hid (HLF.out.below hb13)
            replace HV2 := Lib.hid (HV2.out.below hb13)
            replace HLB := Lib.hid (HLB.out.below hb13)
            replace HV3 := Lib.hid (HV3.out.below hb13)
            replace HSB := Lib.hid (HSB.out.below hb13)
            have HB13 := Lib.hid (bThen HB12.out hb13)
            clear hb13
            go_wp2_with fail
            refine (known_any _).mono ?_
            rintro e w14 ⟨rfl, hb14⟩
            have HB14 := Lib.hid (bThen HB13.out hb14)
            clear hb14
            go_wp2
            go_ret
            exact ⟨rfl, HB14.out⟩
    · go_wp2_with fail
      refine (known_any _).mono ?_
      rintro e w2 ⟨rfl, hb2⟩
      have HB2 := Lib.hid (bThen HB1.out hb2)
      clear hb2
      go_wp2
      go_ret
      exact ⟨rfl, HB2.out⟩
  · go_wp2_with fail
    refine (known_any _).mono ?_
    rintro e w2 ⟨rfl, hb2⟩
    have HB2 := Lib.hid (bThen HB1.out hb2)
    clear hb2
    go_wp2
    go_ret
    exact ⟨rfl, HB2.out⟩
end Go.Proofs.Ytcnofoopdghjiaa

/- Chapter 2: what a law's arguments read as: slices of one-cell values, rules. -/
namespace Go.Proofs.Ytcnofoopdghjiaa
open Go.RowKit Go.Oche Go.Proofs Go.ChangeShapes Go.WideShapes Go.ChangeAt

theorem sl_of_vals {W : World} {a : Addr} {cap : Nat} {vals : List Value} (hl : vals.length ≤ cap) (hm : cap ≤ maxLen) (hc : ∀ i x, vals[i]? = some x → W.cell? (a.add i) = some x) :
    Sl (fun _ => True) W (.slice (some a) vals.length cap) vals := by
  refine ⟨some a, cap, rfl, hl, hm, fun i x hx => ?_⟩
  have hi : i < vals.length := (List.getElem?_eq_some_iff.1 hx).1
  have ha : a.spot = none := by
    have h0 := hc 0 vals[0] (List.getElem?_eq_getElem (by omega))
    unfold World.cell? Addr.add at h0
    simp only [if_true] at h0
    cases hs : a.spot with
    | none => rfl
    | some s =>
      rw [hs] at h0
      split at h0 <;> simp at h0
  obtain ⟨b, o, sp⟩ := a
  simp only at ha
  subst ha
  refine ⟨b, o, rfl, trivial, ?_⟩
  have h1 := hc i x hx
  rw [addr_add] at h1
  exact h1
theorem choose_list {β : Type} {R : Nat → β → Prop} : ∀ n, (∀ i, i < n → ∃ b, R i b) → ∃ xs : List β, xs.length = n ∧ ∀ i b, xs[i]? = some b → R i b
  | 0, _ => ⟨[], rfl, fun i b h => by simp at h⟩
  | n + 1, h => by
    obtain ⟨xs, h1, h2⟩ := choose_list n fun i hi => h i (by omega)
    obtain ⟨b, hb⟩ := h n (by omega)
    refine ⟨xs ++ [b], by simp [h1], fun i b' hi => ?_⟩
    by_cases hin : i < xs.length
    · rw [List.getElem?_append_left hin] at hi
      exact h2 i b' hi
    · have hlt := (List.getElem?_eq_some_iff.1 hi).1
      simp at hlt
      obtain rfl : i = xs.length := by omega
      simp at hi
      subst hi
      rw [h1]; exact hb

section
variable {H : Type} {enc : TypeId × Value → H} {W : World} {base : Nat} {spare : Nat → Bool} {held : Bool}
theorem open_slice {β : Type} (mk : β → Value) (Q : β → Prop) {t e : TypeId} (ht : Try.prog.underlying t = some (.slice e)) (hce : Try.prog.cellsOf e = 1)
    (hone : ∀ n cs (y : DataW H × List MemPlace), DataW.trod enc Try.prog W base spare held n e cs = some y → ∃ b, cs = [mk b] ∧ Q b) {n : Nat} {v : Value} {x : DataW H × List MemPlace} (h : DataW.trod enc Try.prog W base spare held n t [v] = some x) :
    ∃ xs : List β, Sl (fun _ => True) W v (xs.map mk) ∧ ∀ b ∈ xs, Q b := by
  rcases DataW.trod_slice ht h with ⟨hcs, _⟩ | ⟨a, len, cap, elems, rest, m, _, hcs, _, _, hl, hm, hlen, hel, _, _⟩
  · simp only [List.cons.injEq, and_true] at hcs
    subst hcs
    exact ⟨[], Sl.nil _ _, by simp⟩
  · simp only [List.cons.injEq, and_true] at hcs
    subst hcs
    have hall : ∀ i, i < len → ∃ b, W.cell? (a.add i) = some (mk b) ∧ Q b := fun i hi => by
      have hy := hel i hi
      rw [List.getElem?_eq_getElem (by omega), hce, Nat.mul_one, Option.bind_eq_some_iff] at hy
      obtain ⟨cs, hcs, hy⟩ := hy
      obtain ⟨b, rfl, hb⟩ := hone _ _ _ hy
      exact ⟨b, cell_of_cells?_one hcs, hb⟩
    obtain ⟨xs, h1, h2⟩ := choose_list len hall
    refine ⟨xs, ?_, fun b hb => ?_⟩
    · have := sl_of_vals (W := W) (a := a) (cap := cap) (vals := xs.map mk) (by simp; omega) hm (fun i x hx => by
        rw [List.getElem?_map] at hx
        obtain ⟨b, hb, rfl⟩ := Option.map_eq_some_iff.1 hx
        exact (h2 i b hb).1)
      rw [List.length_map, h1] at this
      exact this
    · obtain ⟨i, hi⟩ := List.getElem?_of_mem hb
      exact (h2 i b hi).2
theorem open_bools {n : Nat} {v : Value} {x : DataW H × List MemPlace} (h : DataW.trod enc Try.prog W base spare held n 44 [v] = some x) : ∃ xs : List Bool, Sl (fun _ => True) W v (bools xs) := by
  obtain ⟨xs, h, _⟩ := open_slice Value.bool (fun _ => True) Try.underlying44 cells4 (fun n cs y hy => by
    obtain ⟨b, rfl, _⟩ := DataW.trod_bool Try.underlying4 hy
    exact ⟨b, rfl, trivial⟩) h
  exact ⟨xs, h⟩
set_option maxRecDepth 100000 in
theorem open_rules {r : Reach} {b0 : Nat} {v : Value} {d : DataW H} {p : List MemPlace} (hv : Value.okWide Try.prog W r b0 25 v) (h : DataW.Trod enc Try.prog W base spare held 25 v d p) :
    ∃ (u : Value) (bs : List Int) (g d : Int), v = .agg #[u, .int .i64 g, .int .i64 d] ∧ Sl (fun _ => True) W u (ints bs) ∧ (∀ b ∈ bs, I64 b) := by
  obtain ⟨c0, c1, c2, y0, y1, y2, n, rfl, _, _, k0, k1, k2⟩ := Joins.open_agg3 Try.underlying25 (by kernel_rfl) (by kernel_rfl) hv h
  obtain ⟨bs, hs, hi⟩ := open_beds k0
  obtain ⟨g, rfl, _⟩ := open_gate k1
  obtain ⟨d, rfl, _⟩ := open_i64 k2
  exact ⟨c0, bs, g, d, rfl, hs, hi⟩
end
end Go.Proofs.Ytcnofoopdghjiaa
