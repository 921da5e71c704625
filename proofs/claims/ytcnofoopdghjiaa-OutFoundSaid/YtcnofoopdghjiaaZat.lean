/- The texts LI, in build order. -/
import Derived.Test.YtcnofoopdghjiaaZas

/- Chapter 2: what a law's arguments read as: slices of one-cell values, rules. -/
namespace Go.Proofs.Ytcnofoopdghjiaa
open Go.RowKit Go.Oche Go.Proofs Go.ChangeShapes Go.WideShapes Go.ChangeAt

theorem u16_of_wf {n : Int} (h : (Lit.int .u16 n).wf = true) : 0 ≤ n ∧ n ≤ 65535 := by
  have := h
  simp [Lit.wf, IntKind.min, IntKind.max, IntKind.signed, IntKind.bits] at this
  exact this
theorem u8_of_wf {n : Int} (h : (Lit.int .u8 n).wf = true) : 0 ≤ n ∧ n ≤ 255 := by
  have := h
  simp [Lit.wf, IntKind.min, IntKind.max, IntKind.signed, IntKind.bits] at this
  exact this
theorem cells5 : Try.prog.cellsOf 5 = 1 := by kernel_rfl
theorem sl_of_vals {W : World} {a : Addr} {cap : Nat} {vals : List Value} (hl : vals.length ≤ cap) (hm : cap ≤ maxLen) (hc : ∀ i x, vals[i]? = some x → W.cell? (a.add i) = some x) :
    Sl (fun _ => True) W (.slice (some a) vals.length cap) vals := by
  refine ⟨some a, cap, rfl, hl, hm, fun i x hx => ?_⟩
  have hi : i < vals.length := (List.getElem?_eq_some_iff.1 hx).1
  have ha : a.spot = none := by
    have h0 := hc 0 vals[0] (List.getElem?_eq_getElem (by omega))
    unfold World.cell? Addr.add at h0
    simp only [if_true] at h0
    cases hs : a.spot with
    | none => rfl
    | some s =>
      rw [hs] at h0
      split at h0 <;> simp at h0
  obtain ⟨b, o, sp⟩ := a
  simp only at ha
  subst ha
  refine ⟨b, o, rfl, trivial, ?_⟩
  have h1 := hc i x hx
  rw [addr_add] at h1
  exact h1
theorem choose_list {β : Type} {R : Nat → β → Prop} : ∀ n, (∀ i, i < n → ∃ b, R i b) → ∃ xs : List β, xs.length = n ∧ ∀ i b, xs[i]? = some b → R i b
  | 0, _ => ⟨[], rfl, fun i b h => by simp at h⟩
  | n + 1, h => by
    obtain ⟨xs, h1, h2⟩ := choose_list n fun i hi => h i (by omega)
    obtain ⟨b, hb⟩ := h n (by omega)
    refine ⟨xs ++ [b], by simp [h1], fun i b' hi => ?_⟩
    by_cases hin : i < xs.length
    · rw [List.getElem?_append_left hin] at hi
      exact h2 i b' hi
    · have hlt := (List.getElem?_eq_some_iff.1 hi).1
      simp at hlt
      obtain rfl : i = xs.length := by omega
      simp at hi
      subst hi
      rw [h1]; exact hb

section
variable {H : Type} {enc : TypeId × Value → H} {W : World} {base : Nat} {spare : Nat → Bool} {held : Bool}
theorem open_slice {β : Type} (mk : β → Value) (Q : β → Prop) {t e : TypeId} (ht : Try.prog.underlying t = some (.slice e)) (hce : Try.prog.cellsOf e = 1)
    (hone : ∀ n cs (y : DataW H × List MemPlace), DataW.trod enc Try.prog W base spare held n e cs = some y → ∃ b, cs = [mk b] ∧ Q b) {n : Nat} {v : Value} {x : DataW H × List MemPlace} (h : DataW.trod enc Try.prog W base spare held n t [v] = some x) :
    ∃ xs : List β, Sl (fun _ => True) W v (xs.map mk) ∧ ∀ b ∈ xs, Q b := by
  rcases DataW.trod_slice ht h with ⟨hcs, _⟩ | ⟨a, len, cap, elems, rest, m, _, hcs, _, _, hl, hm, hlen, hel, _, _⟩
  · simp only [List.cons.injEq, and_true] at hcs
    subst hcs
    exact ⟨[], Sl.nil _ _, by simp⟩
  · simp only [List.cons.injEq, and_true] at hcs
    subst hcs
    have hall : ∀ i, i < len → ∃ b, W.cell? (a.add i) = some (mk b) ∧ Q b := fun i hi => by
      have hy := hel i hi
      rw [List.getElem?_eq_getElem (by omega), hce, Nat.mul_one, Option.bind_eq_some_iff] at hy
      obtain ⟨cs, hcs, hy⟩ := hy
      obtain ⟨b, rfl, hb⟩ := hone _ _ _ hy
      exact ⟨b, cell_of_cells?_one hcs, hb⟩
    obtain ⟨xs, h1, h2⟩ := choose_list len hall
    refine ⟨xs, ?_, fun b hb => ?_⟩
    · have := sl_of_vals (W := W) (a := a) (cap := cap) (vals := xs.map mk) (by simp; omega) hm (fun i x hx => by
        rw [List.getElem?_map] at hx
        obtain ⟨b, hb, rfl⟩ := Option.map_eq_some_iff.1 hx
        exact (h2 i b hb).1)
      rw [List.length_map, h1] at this
      exact this
    · obtain ⟨i, hi⟩ := List.getElem?_of_mem hb
      exact (h2 i b hi).2
theorem open_bools {n : Nat} {v : Value} {x : DataW H × List MemPlace} (h : DataW.trod enc Try.prog W base spare held n 44 [v] = some x) : ∃ xs : List Bool, Sl (fun _ => True) W v (bools xs) := by
  obtain ⟨xs, h, _⟩ := open_slice Value.bool (fun _ => True) Try.underlying44 cells4 (fun n cs y hy => by
    obtain ⟨b, rfl, _⟩ := DataW.trod_bool Try.underlying4 hy
    exact ⟨b, rfl, trivial⟩) h
  exact ⟨xs, h⟩
theorem open_bytes {n : Nat} {v : Value} {x : DataW H × List MemPlace} (h : DataW.trod enc Try.prog W base spare held n 64 [v] = some x) : ∃ xs : List Int, Sl (fun _ => True) W v (xs.map (Value.int .u8)) ∧ ∀ b ∈ xs, 0 ≤ b ∧ b ≤ 255 :=
  open_slice (Value.int .u8) (fun b => 0 ≤ b ∧ b ≤ 255) Try.underlying64 cells5 (fun n cs y hy => by
    obtain ⟨b, rfl, _, hw⟩ := DataW.trod_int Try.underlying5 hy
    exact ⟨b, rfl, u8_of_wf hw⟩) h
set_option maxRecDepth 100000 in
theorem open_rules {r : Reach} {b0 : Nat} {v : Value} {d : DataW H} {p : List MemPlace} (hv : Value.okWide Try.prog W r b0 25 v) (h : DataW.Trod enc Try.prog W base spare held 25 v d p) :
    ∃ (u : Value) (bs : List Int) (g d : Int), v = .agg #[u, .int .i64 g, .int .i64 d] ∧ Sl (fun _ => True) W u (ints bs) ∧ (∀ b ∈ bs, I64 b) := by
  obtain ⟨c0, c1, c2, y0, y1, y2, n, rfl, _, _, k0, k1, k2⟩ := Joins.open_agg3 Try.underlying25 (by kernel_rfl) (by kernel_rfl) hv h
  obtain ⟨bs, hs, hi⟩ := open_beds k0
  obtain ⟨g, rfl, _⟩ := open_gate k1
  obtain ⟨d, rfl, _⟩ := open_i64 k2
  exact ⟨c0, bs, g, d, rfl, hs, hi⟩
end
end Go.Proofs.Ytcnofoopdghjiaa
