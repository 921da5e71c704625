/- The texts OT, in build order. -/
import Derived.Test.YtagfcodpgochjaaZav

/- Chapter 12: an argument that is a till. -/
namespace Go.Proofs.Ytagfcodpgochjaa
open Go.RowKit Go.Oche Go.Proofs Go.ChangeShapes Go.WideShapes Go.ChangeAt
section
variable {H : Type} {enc : TypeId × Value → H} {W : World} {base : Nat} {spare : Nat → Bool} {held : Bool} {n : Nat} {v : Value} {x : DataW H × List MemPlace}
theorem open_u16t (h : DataW.trod enc Try.prog W base spare held n 47 [v] = some x) : ∃ xs : List Int, Sl (fun _ => True) W v (xs.map (Value.int .u16)) ∧ ∀ b ∈ xs, 0 ≤ b ∧ b ≤ 65535 := by
  obtain ⟨xs, h1, h2⟩ := open_nums Try.underlying47 Try.underlying49 (by kernel_rfl) h
  exact ⟨xs, h1, fun b hb => wf_u16 (h2 b hb)⟩
theorem open_u8t (h : DataW.trod enc Try.prog W base spare held n 48 [v] = some x) : ∃ xs : List Int, Sl (fun _ => True) W v (xs.map (Value.int .u8)) ∧ ∀ b ∈ xs, 0 ≤ b ∧ b ≤ 255 := by
  obtain ⟨xs, h1, h2⟩ := open_nums Try.underlying48 Try.underlying5 (by kernel_rfl) h
  exact ⟨xs, h1, fun b hb => wf_u8 (h2 b hb)⟩
set_option maxRecDepth 100000 in
theorem open_a4u16s (h : DataW.trod enc Try.prog W base spare held n 51 [v] = some x) : ∃ xs : List Q4, SlN 4 (fun _ => True) W v (xs.map (row4 .u16)) ∧ ∀ t ∈ xs, U16x4 t :=
  open_rowsN (row4 .u16) 4 U16x4 Try.underlying51 (by kernel_rfl) (by decide) (fun n cs y hy => by
    obtain ⟨b, e, w1, w2, w3, w4⟩ := open_arr4 Try.underlying99 Try.underlying49 (by kernel_rfl) (by kernel_rfl) hy
    exact ⟨b, e, wf_u16 w1, wf_u16 w2, wf_u16 w3, wf_u16 w4⟩) (fun b => rfl) h
set_option maxRecDepth 100000 in
theorem open_till {r : Reach} {b0 : Nat} {d : DataW H} {p : List MemPlace} (hv : Value.okWide Try.prog W r b0 53 v) (h : DataW.Trod enc Try.prog W base spare held 53 v d p) :
    ∃ (vo vc vm : Value) (OP CR : List Int) (MV : List Q4), v = .agg #[vo, vc, vm] ∧ Sl (fun _ => True) W vo (OP.map (Value.int .u16)) ∧ Sl (fun _ => True) W vc (CR.map (Value.int .u16)) ∧ SlN 4 (fun _ => True) W vm (MV.map (row4 .u16)) ∧ (∀ x ∈ OP, 0 ≤ x ∧ x ≤ 65535) ∧ (∀ x ∈ CR, 0 ≤ x ∧ x ≤ 65535) ∧ ∀ x ∈ MV, U16x4 x := by
  obtain ⟨c0, c1, c2, y0, y1, y2, n, rfl, _, _, k0, k1, k2⟩ := Joins.open_agg3 Try.underlying53 (by kernel_rfl) (by kernel_rfl) hv h
  obtain ⟨OP, h0, b0⟩ := open_u16t k0
  obtain ⟨CR, h1, b1⟩ := open_u16t k1
  obtain ⟨MV, h2, b2⟩ := open_a4u16s k2
  exact ⟨c0, c1, c2, OP, CR, MV, rfl, h0, h1, h2, b0, b1, b2⟩
end
end Go.Proofs.Ytagfcodpgochjaa
