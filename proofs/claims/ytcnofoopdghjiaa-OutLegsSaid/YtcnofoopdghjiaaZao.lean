/- The texts LC, in build order. -/
import Derived.Test.YtcnofoopdghjiaaZan
import Derived.Test.YtcnofoopdghjiaaRows
import Derived.Lib.SmallJoins
import Derived.ChangeSlices
import Derived.ChangeSame
import Derived.JoinedOf
import Derived.JoinedAt

/- Chapter 2: what a law's arguments read as. -/
namespace Go.Proofs.Ytcnofoopdghjiaa
open Go.RowKit Go.Oche Go.Proofs Go.ChangeShapes Go.WideShapes Go.ChangeAt

theorem own : ownKnob Try.prog.godebug = none := by kernel_rfl
theorem sized : sizedB Try.prog = true := by kernel_rfl
theorem cells61 : Try.prog.cellsOf 61 = 1 := by kernel_rfl
theorem cells4 : Try.prog.cellsOf 4 = 1 := by kernel_rfl

theorem i64_of_wf {n : Int} (h : (Lit.int .i64 n).wf = true) : I64 n := by
  have := h
  simp [Lit.wf, IntKind.min, IntKind.max, IntKind.signed, IntKind.bits] at this
  exact this

theorem sl_of_cells {W : World} {a : Addr} {len cap : Nat} {zs : List Int} (hl : len ≤ cap) (hm : cap ≤ maxLen) (hz : len ≤ zs.length) (hc : ∀ i, i < zs.length → W.cell? (a.add i) = some (.int .i64 (zs.getD i 0))) :
    Sl (fun _ => True) W (.slice (some a) len cap) (ints (zs.take len)) := by
  have hlen : (ints (zs.take len)).length = len := by simp; omega
  refine ⟨some a, cap, by rw [hlen], by omega, hm, fun i x hx => ?_⟩
  have hi : i < len := by rw [← hlen]; exact (List.getElem?_eq_some_iff.1 hx).1
  have ha : a.spot = none := by
    have h0 := hc 0 (by omega)
    unfold World.cell? Addr.add at h0
    simp only [if_true] at h0
    cases hs : a.spot with
    | none => rfl
    | some s =>
      rw [hs] at h0
      split at h0 <;> simp at h0
  obtain ⟨b, o, sp⟩ := a
  simp only at ha
  subst ha
  refine ⟨b, o, rfl, trivial, ?_⟩
  have h1 := hc i (by omega)
  rw [addr_add] at h1
  rw [h1]
  have hi' : i < (zs.take len).length := by simp; omega
  have he := intsAt hi'
  rw [he] at hx
  rw [← Option.some.inj hx]
  simp [List.getD_eq_getElem?_getD, List.getElem?_eq_getElem (show i < zs.length by omega)]

section
variable {H : Type} {enc : TypeId × Value → H} {W : World} {base : Nat} {spare : Nat → Bool} {held : Bool}
theorem open_beds {n : Nat} {v : Value} {y : DataW H × List MemPlace} (h : DataW.trod enc Try.prog W base spare held n 22 [v] = some y) :
    ∃ xs : List Int, Sl (fun _ => True) W v (ints xs) ∧ (∀ b ∈ xs, I64 b) := by
  rcases open_ints Try.underlying22 Try.underlying61 cells61 h with ⟨hcs, _⟩ | ⟨a, len, cap, zs, hcs, _, hl, hm, hz, _, hcell, hwz⟩
  · simp only [List.cons.injEq, and_true] at hcs
    subst hcs
    exact ⟨[], Sl.nil _ _, by simp⟩
  · simp only [List.cons.injEq, and_true] at hcs
    subst hcs
    refine ⟨zs.take len, sl_of_cells hl hm (by split at hz <;> omega) hcell, fun b hb => i64_of_wf (hwz b (List.mem_of_mem_take hb))⟩
theorem open_cellsTrod {t : TypeId} {v : Value} {d : DataW H} {p : List MemPlace} (h : DataW.Trod enc Try.prog W base spare held t v d p) (hv : v.cells = #[v]) : ∃ n y, DataW.trod enc Try.prog W base spare held n t [v] = some y := by
  obtain ⟨n, h⟩ := h
  rw [hv] at h
  exact ⟨n, _, h⟩
theorem open_i64 {n : Nat} {v : Value} {y : DataW H × List MemPlace} (h : DataW.trod enc Try.prog W base spare held n 3 [v] = some y) : ∃ z, v = .int .i64 z ∧ I64 z := by
  obtain ⟨z, hz, _, hw⟩ := DataW.trod_int Try.underlying3 h
  simp only [List.cons.injEq, and_true] at hz
  exact ⟨z, hz, i64_of_wf hw⟩
theorem open_gate {n : Nat} {v : Value} {y : DataW H × List MemPlace} (h : DataW.trod enc Try.prog W base spare held n 23 [v] = some y) : ∃ z, v = .int .i64 z ∧ I64 z := by
  obtain ⟨z, hz, _, hw⟩ := DataW.trod_int Try.underlying23 h
  simp only [List.cons.injEq, and_true] at hz
  exact ⟨z, hz, i64_of_wf hw⟩
end
end Go.Proofs.Ytcnofoopdghjiaa
