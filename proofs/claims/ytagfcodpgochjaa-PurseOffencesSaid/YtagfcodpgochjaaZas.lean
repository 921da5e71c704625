/- The texts OpA, OC, in build order. -/
import Derived.Test.YtagfcodpgochjaaZar

/- What a law's arguments read as: arrays of numbers, slices of them. -/
namespace Go.Proofs.Ytagfcodpgochjaa
open Go.RowKit Go.Oche Go.Proofs Go.ChangeShapes Go.WideShapes Go.ChangeAt
def row2 (kd : IntKind) (x : Int × Int) : List Value := [.int kd x.1, .int kd x.2]
def row3 (kd : IntKind) (x : Int × Int × Int) : List Value := [.int kd x.1, .int kd x.2.1, .int kd x.2.2]
def row4 (kd : IntKind) (x : Int × Int × Int × Int) : List Value := [.int kd x.1, .int kd x.2.1, .int kd x.2.2.1, .int kd x.2.2.2]
section
variable {H : Type} {enc : TypeId × Value → H} {W : World} {base : Nat} {spare : Nat → Bool} {held : Bool}
theorem open_arr {kd : IntKind} {k : Nat} {t e : TypeId} (ht : Try.prog.underlying t = some (.array k e)) (he : Try.prog.underlying e = some (.int kd)) (hc : Try.prog.cellsOf t = k) (hce : Try.prog.cellsOf e = 1)
    {n : Nat} {cs : List Value} {y : DataW H × List MemPlace} (h : DataW.trod enc Try.prog W base spare held n t cs = some y) : ∃ zs : List Int, zs.length = k ∧ cs = zs.map (Value.int kd) ∧ ∀ z ∈ zs, (Lit.int kd z).wf = true := by
  obtain ⟨xs, m, _, _, hl, hx, hi⟩ := DataW.trod_array ht h
  rw [hc] at hl
  have hall : ∀ i, i < k → ∃ z, cs[i]? = some (.int kd z) ∧ (Lit.int kd z).wf = true := fun i hik => by
    have := hi i hik
    rw [hce, Nat.mul_one, List.getElem?_eq_getElem (by omega)] at this
    have e1 : (cs.drop i).take 1 = [cs[i]] := by
      rw [List.drop_eq_getElem_cons (by omega)]; rfl
    rw [e1] at this
    obtain ⟨z, hz, _, hw⟩ := DataW.trod_int he this
    simp only [List.cons.injEq, and_true] at hz
    exact ⟨z, by rw [List.getElem?_eq_getElem (by omega), hz], hw⟩
  obtain ⟨zs, h1, h2⟩ := choose_rows k hall
  refine ⟨zs, h1, List.ext_getElem? fun i => ?_, fun z hz => ?_⟩
  · by_cases hik : i < k
    · rw [List.getElem?_map, List.getElem?_eq_getElem (by omega : i < zs.length)]
      exact (h2 i zs[i] (List.getElem?_eq_getElem (by omega))).1
    · rw [List.getElem?_eq_none (by omega), List.getElem?_eq_none (by simp; omega)]
  · obtain ⟨i, hiz⟩ := List.getElem?_of_mem hz
    exact (h2 i z hiz).2
theorem open_arr2 {kd : IntKind} {t e : TypeId} (ht : Try.prog.underlying t = some (.array 2 e)) (he : Try.prog.underlying e = some (.int kd)) (hc : Try.prog.cellsOf t = 2) (hce : Try.prog.cellsOf e = 1)
    {n : Nat} {cs : List Value} {y : DataW H × List MemPlace} (h : DataW.trod enc Try.prog W base spare held n t cs = some y) : ∃ b : Int × Int, cs = row2 kd b ∧ (Lit.int kd b.1).wf = true ∧ (Lit.int kd b.2).wf = true := by
  obtain ⟨zs, h1, rfl, h2⟩ := open_arr ht he hc hce h
  obtain ⟨a, b, rfl⟩ := list_two h1
  exact ⟨(a, b), rfl, h2 a (by simp), h2 b (by simp)⟩
theorem open_arr3 {kd : IntKind} {t e : TypeId} (ht : Try.prog.underlying t = some (.array 3 e)) (he : Try.prog.underlying e = some (.int kd)) (hc : Try.prog.cellsOf t = 3) (hce : Try.prog.cellsOf e = 1)
    {n : Nat} {cs : List Value} {y : DataW H × List MemPlace} (h : DataW.trod enc Try.prog W base spare held n t cs = some y) : ∃ b : Int × Int × Int, cs = row3 kd b ∧ (Lit.int kd b.1).wf = true ∧ (Lit.int kd b.2.1).wf = true ∧ (Lit.int kd b.2.2).wf = true := by
  obtain ⟨zs, h1, rfl, h2⟩ := open_arr ht he hc hce h
  obtain ⟨a, b, c, rfl⟩ := list_three h1
  exact ⟨(a, b, c), rfl, h2 a (by simp), h2 b (by simp), h2 c (by simp)⟩
set_option maxRecDepth 100000 in
theorem open_arr4 {kd : IntKind} {t e : TypeId} (ht : Try.prog.underlying t = some (.array 4 e)) (he : Try.prog.underlying e = some (.int kd)) (hc : Try.prog.cellsOf t = 4) (hce : Try.prog.cellsOf e = 1)
    {n : Nat} {cs : List Value} {y : DataW H × List MemPlace} (h : DataW.trod enc Try.prog W base spare held n t cs = some y) : ∃ b : Int × Int × Int × Int, cs = row4 kd b ∧ (Lit.int kd b.1).wf = true ∧ (Lit.int kd b.2.1).wf = true ∧ (Lit.int kd b.2.2.1).wf = true ∧ (Lit.int kd b.2.2.2).wf = true := by
  obtain ⟨zs, h1, rfl, h2⟩ := open_arr ht he hc hce h
  obtain ⟨a, l, rfl⟩ : ∃ a l, zs = a :: l := by cases zs with
    | nil => simp at h1
    | cons a l => exact ⟨a, l, rfl⟩
  obtain ⟨b, c, d, rfl⟩ := list_three (cs := l) (by simpa using h1)
  exact ⟨(a, b, c, d), rfl, h2 a (by simp), h2 b (by simp), h2 c (by simp), h2 d (by simp)⟩
set_option maxRecDepth 100000 in
/-- Numbers of one kind. -/
theorem open_nums {kd : IntKind} {t e : TypeId} (ht : Try.prog.underlying t = some (.slice e)) (he : Try.prog.underlying e = some (.int kd)) (hce : Try.prog.cellsOf e = 1) {n : Nat} {v : Value} {x : DataW H × List MemPlace} (h : DataW.trod enc Try.prog W base spare held n t [v] = some x) :
    ∃ xs : List Int, Sl (fun _ => True) W v (xs.map (Value.int kd)) ∧ ∀ b ∈ xs, (Lit.int kd b).wf = true := by
  obtain ⟨xs, h1, h2⟩ := open_rowsN (fun z : Int => [.int kd z]) 1 (fun b => (Lit.int kd b).wf = true) ht hce (by decide) (fun n cs y hy => by
    obtain ⟨z, hz, _, hw⟩ := DataW.trod_int he hy
    exact ⟨z, hz, hw⟩) (fun b => rfl) h
  refine ⟨xs, SlN.to1 ?_, h2⟩
  have e : (xs.map (Value.int kd)).map (fun x => [x]) = xs.map (fun z => [.int kd z]) := by simp
  rw [e]; exact h1
set_option maxRecDepth 100000 in
/-- An array of numbers, by value. -/
theorem okWide_arr {k : Nat} {t e : TypeId} (ht : Try.prog.underlying t = some (.array k e)) (hc : Try.prog.cellsOf t = k) {r : Reach} {b0 : Nat} {v : Value} (h : Value.okWide Try.prog W r b0 t v) : ∃ xs : Array Value, v = .agg xs ∧ xs.size = k := by
  simp only [Value.okWide, ht] at h
  obtain ⟨cs, h1, h2, _⟩ := h
  exact ⟨cs, h1, by rw [h2, hc]⟩
end
end Go.Proofs.Ytagfcodpgochjaa

/- Chapter 12: arguments with arrays: offences. -/
namespace Go.Proofs.Ytagfcodpgochjaa
open Go.RowKit Go.Oche Go.Proofs Go.ChangeShapes Go.WideShapes Go.ChangeAt
section
variable {H : Type} {enc : TypeId × Value → H} {W : World} {base : Nat} {spare : Nat → Bool} {held : Bool} {n : Nat} {v : Value} {x : DataW H × List MemPlace}
set_option maxRecDepth 100000 in
theorem open_a3u16s (h : DataW.trod enc Try.prog W base spare held n 69 [v] = some x) : ∃ xs : List (Int × Int × Int), SlN 3 (fun _ => True) W v (xs.map w16x3) ∧ ∀ t ∈ xs, U16 t.1 ∧ U16 t.2.1 ∧ U16 t.2.2 :=
  open_rowsN w16x3 3 (fun t => U16 t.1 ∧ U16 t.2.1 ∧ U16 t.2.2) Try.underlying69 (by kernel_rfl) (by decide) (fun n cs y hy => by
    obtain ⟨b, e, w1, w2, w3⟩ := open_arr3 Try.underlying74 Try.underlying49 (by kernel_rfl) (by kernel_rfl) hy
    exact ⟨b, e, wf_u16 w1, wf_u16 w2, wf_u16 w3⟩) (fun b => rfl) h
set_option maxRecDepth 100000 in
theorem open_a2u8s (h : DataW.trod enc Try.prog W base spare held n 70 [v] = some x) : ∃ xs : List (Int × Int), SlN 2 (fun _ => True) W v (xs.map w8x2) ∧ ∀ t ∈ xs, U8 t.1 ∧ U8 t.2 :=
  open_rowsN w8x2 2 (fun t => U8 t.1 ∧ U8 t.2) Try.underlying70 (by kernel_rfl) (by decide) (fun n cs y hy => by
    obtain ⟨b, e, w1, w2⟩ := open_arr2 Try.underlying71 Try.underlying5 (by kernel_rfl) (by kernel_rfl) hy
    exact ⟨b, e, wf_u8 w1, wf_u8 w2⟩) (fun b => rfl) h
set_option maxRecDepth 100000 in
/-- Two small numbers, by value. -/
theorem open_a2u8 {r : Reach} {b0 : Nat} {d : DataW H} {p : List MemPlace} (hv : Value.okWide Try.prog W r b0 71 v) (h : DataW.Trod enc Try.prog W base spare held 71 v d p) :
    ∃ a b : Int, v = .agg #[.int .u8 a, .int .u8 b] ∧ U8 a ∧ U8 b := by
  obtain ⟨xs, rfl, _⟩ := okWide_arr Try.underlying71 (by kernel_rfl) hv
  obtain ⟨m, hm⟩ := h
  obtain ⟨b, e, w1, w2⟩ := open_arr2 Try.underlying71 Try.underlying5 (by kernel_rfl) (by kernel_rfl) hm
  refine ⟨b.1, b.2, ?_, wf_u8 w1, wf_u8 w2⟩
  have : xs.toList = [.int .u8 b.1, .int .u8 b.2] := e
  rw [show xs = #[.int .u8 b.1, .int .u8 b.2] from Array.toList_inj.1 this]
end
end Go.Proofs.Ytagfcodpgochjaa
