/- The texts LC, LG, NA, NB, NC, OMP, NS, in build order. -/
import Derived.Test.YtcnofoopdghjiaaZan
import Derived.Test.YtcnofoopdghjiaaRows
import Derived.Lib.SmallJoins
import Derived.ChangeSlices
import Derived.ChangeSame
import Derived.JoinedOf
import Derived.JoinedAt

/- Chapter 2: what a law's arguments read as. -/
namespace Go.Proofs.Ytcnofoopdghjiaa
open Go.RowKit Go.Oche Go.Proofs Go.ChangeShapes Go.WideShapes Go.ChangeAt

theorem own : ownKnob Try.prog.godebug = none := by kernel_rfl
theorem sized : sizedB Try.prog = true := by kernel_rfl
theorem cells61 : Try.prog.cellsOf 61 = 1 := by kernel_rfl
theorem cells4 : Try.prog.cellsOf 4 = 1 := by kernel_rfl

theorem i64_of_wf {n : Int} (h : (Lit.int .i64 n).wf = true) : I64 n := by
  have := h
  simp [Lit.wf, IntKind.min, IntKind.max, IntKind.signed, IntKind.bits] at this
  exact this

theorem sl_of_cells {W : World} {a : Addr} {len cap : Nat} {zs : List Int} (hl : len ≤ cap) (hm : cap ≤ maxLen) (hz : len ≤ zs.length) (hc : ∀ i, i < zs.length → W.cell? (a.add i) = some (.int .i64 (zs.getD i 0))) :
    Sl (fun _ => True) W (.slice (some a) len cap) (ints (zs.take len)) := by
  have hlen : (ints (zs.take len)).length = len := by simp; omega
  refine ⟨some a, cap, by rw [hlen], by omega, hm, fun i x hx => ?_⟩
  have hi : i < len := by rw [← hlen]; exact (List.getElem?_eq_some_iff.1 hx).1
  have ha : a.spot = none := by
    have h0 := hc 0 (by omega)
    unfold World.cell? Addr.add at h0
    simp only [if_true] at h0
    cases hs : a.spot with
    | none => rfl
    | some s =>
      rw [hs] at h0
      split at h0 <;> simp at h0
  obtain ⟨b, o, sp⟩ := a
  simp only at ha
  subst ha
  refine ⟨b, o, rfl, trivial, ?_⟩
  have h1 := hc i (by omega)
  rw [addr_add] at h1
  rw [h1]
  have hi' : i < (zs.take len).length := by simp; omega
  have he := intsAt hi'
  rw [he] at hx
  rw [← Option.some.inj hx]
  simp [List.getD_eq_getElem?_getD, List.getElem?_eq_getElem (show i < zs.length by omega)]

section
variable {H : Type} {enc : TypeId × Value → H} {W : World} {base : Nat} {spare : Nat → Bool} {held : Bool}
theorem open_beds {n : Nat} {v : Value} {y : DataW H × List MemPlace} (h : DataW.trod enc Try.prog W base spare held n 22 [v] = some y) :
    ∃ xs : List Int, Sl (fun _ => True) W v (ints xs) ∧ (∀ b ∈ xs, I64 b) := by
  rcases open_ints Try.underlying22 Try.underlying61 cells61 h with ⟨hcs, _⟩ | ⟨a, len, cap, zs, hcs, _, hl, hm, hz, _, hcell, hwz⟩
  · simp only [List.cons.injEq, and_true] at hcs
    subst hcs
    exact ⟨[], Sl.nil _ _, by simp⟩
  · simp only [List.cons.injEq, and_true] at hcs
    subst hcs
    refine ⟨zs.take len, sl_of_cells hl hm (by split at hz <;> omega) hcell, fun b hb => i64_of_wf (hwz b (List.mem_of_mem_take hb))⟩
theorem open_cellsTrod {t : TypeId} {v : Value} {d : DataW H} {p : List MemPlace} (h : DataW.Trod enc Try.prog W base spare held t v d p) (hv : v.cells = #[v]) : ∃ n y, DataW.trod enc Try.prog W base spare held n t [v] = some y := by
  obtain ⟨n, h⟩ := h
  rw [hv] at h
  exact ⟨n, _, h⟩
theorem open_i64 {n : Nat} {v : Value} {y : DataW H × List MemPlace} (h : DataW.trod enc Try.prog W base spare held n 3 [v] = some y) : ∃ z, v = .int .i64 z ∧ I64 z := by
  obtain ⟨z, hz, _, hw⟩ := DataW.trod_int Try.underlying3 h
  simp only [List.cons.injEq, and_true] at hz
  exact ⟨z, hz, i64_of_wf hw⟩
theorem open_gate {n : Nat} {v : Value} {y : DataW H × List MemPlace} (h : DataW.trod enc Try.prog W base spare held n 23 [v] = some y) : ∃ z, v = .int .i64 z ∧ I64 z := by
  obtain ⟨z, hz, _, hw⟩ := DataW.trod_int Try.underlying23 h
  simp only [List.cons.injEq, and_true] at hz
  exact ⟨z, hz, i64_of_wf hw⟩
end
end Go.Proofs.Ytcnofoopdghjiaa

/- Chapter 2: the lists of ways, as the laws see them, in plain Lean. -/
namespace Go.Proofs.Ytcnofoopdghjiaa
open Go.RowKit Go.Oche Go.Proofs

theorem outL_len {g : Int} {bs : List Int} : ∀ {n : Nat} {s : Int} {l : List Int}, l ∈ outL g bs n s → l.length = n
  | 0, s, l, h => by
    rw [outL] at h
    split at h <;> simp at h
    rw [h]; rfl
  | n + 1, s, l, h => by
    rw [outL] at h
    obtain ⟨t, _, h⟩ := List.mem_flatMap.1 h
    obtain ⟨l', h', rfl⟩ := List.mem_map.1 h
    rw [List.length_cons, outL_len h']
theorem outAll_len {g : Int} {bs : List Int} {s : Int} {d : Nat} {l : List Int} (h : l ∈ outAll g bs s d) : 1 ≤ l.length ∧ l.length ≤ d := by
  unfold outAll at h
  obtain ⟨k, hk, h⟩ := List.mem_flatMap.1 h
  have h1 := outL_len h
  have h2 := List.mem_range.1 hk
  omega
theorem rWaysE_take (L : List (List Int)) : rWaysE (L.take 3001) = rWaysE L := by
  unfold rWaysE
  rw [List.length_take]
  by_cases h : L.length = 0
  · rw [h]; rfl
  · rw [if_neg h, if_neg (by omega)]
    by_cases h2 : 3000 < L.length
    · rw [if_pos h2, if_pos (by omega)]
    · rw [if_neg h2, if_neg (by omega)]
theorem rWaysR_take (L : List (List Int)) : rWaysR (L.take 3001) = rWaysR L := by
  unfold rWaysR
  rw [List.length_take]
  by_cases h : L.length = 0
  · rw [h]; rfl
  · rw [if_neg h, if_neg (by omega)]
    by_cases h2 : 3000 < L.length
    · rw [if_pos h2, if_pos (by omega)]
    · rw [if_neg h2, if_neg (by omega), List.take_of_length_le (by omega)]
theorem ways_facts {bs : List Int} {g : Int} {d s : Nat} (hr : rulesOk bs g d = true) (h1 : 1 ≤ s) (h2 : s ≤ 1001) :
    waysErr bs g d s = rWaysE (outAll g bs s d) ∧ waysRes bs g d s = rWaysR (outAll g bs s d) ∧ firstErr bs g d s = firstE (outAll g bs s d) ∧ firstRes bs g d s = (outAll g bs s d).headD [] ∧
    rWaysE (rWays g bs s d) = rWaysE (outAll g bs s d) ∧ rWaysR (rWays g bs s d) = rWaysR (outAll g bs s d) ∧ numOf bs g d s = (outAll g bs s d).length ∧ scoreErr bs g d s = 0 := by
  obtain ⟨q1, q2, q3, q4⟩ := rulesOk_spec hr
  have hbs := (bedsOk_spec q1).1
  have he : scoreErr bs g d s = 0 := by
    unfold scoreErr isIn
    rw [hr]
    have e1 : decide ((1 : Int) ≤ (s : Int)) = true := by simp; omega
    have e2 : decide ((s : Int) ≤ 1001) = true := by simp; omega
    rw [e1, e2]; rfl
  have hn : numOf bs g d s = (outAll g bs s d).length := by
    rw [numOf, if_pos he, outAll_length hbs s (m := s) (D := d) (Nat.le_refl _) d (Nat.le_refl _)]; simp
  have hwe : waysErr bs g d s = rWaysE (outAll g bs s d) := by
    rw [waysErr, if_pos he, hn, rWaysE]
    by_cases h : (outAll g bs s d).length = 0
    · rw [if_pos h, if_pos (by omega)]
    · rw [if_neg h, if_neg (by omega)]
      by_cases h3 : 3000 < (outAll g bs s d).length
      · rw [if_pos h3, if_pos (by omega)]
      · rw [if_neg h3, if_neg (by omega)]
  refine ⟨hwe, ?_, by rw [firstErr, if_pos he, Int.toNat_natCast], by rw [firstRes, if_pos he, Int.toNat_natCast], by rw [rWays_take hbs (by omega), rWaysE_take], by rw [rWays_take hbs (by omega), rWaysR_take], hn, he⟩
  rw [waysRes, hwe, Int.toNat_natCast, rWaysE, rWaysR]
  by_cases h : (outAll g bs s d).length = 0
  · rw [if_pos h, if_pos h]; rfl
  · rw [if_neg h, if_neg h]
    by_cases h3 : 3000 < (outAll g bs s d).length
    · rw [if_pos h3, if_pos h3]; rfl
    · rw [if_neg h3, if_neg h3]; rfl
end Go.Proofs.Ytcnofoopdghjiaa

/- Chapter 2: what the laws say of the lists of ways, in plain Lean. -/
namespace Go.Proofs.Ytcnofoopdghjiaa
open Go.RowKit Go.Oche Go.Proofs

theorem mem_throwsL {g s : Int} {bs : List Int} {x l : Int} : (x, l) ∈ throwsL g s bs ↔ 0 < s ∧ x ∈ bs ∧ aftOk g s x = true ∧ l = s - worth x := by
  constructor
  · intro h
    obtain ⟨h1, h2, h3, h4⟩ := throwsL_mem h
    exact ⟨h4, h1, h2, h3⟩
  · rintro ⟨h1, h2, h3, rfl⟩
    rw [throwsL, if_pos h1]
    exact List.mem_map.2 ⟨x, List.mem_filter.2 ⟨h2, h3⟩, rfl⟩

/-- A way is hit bed by bed. -/
def runs (g : Int) : Int → List Int → Prop
  | s, [] => s = 0
  | s, b :: l => 0 < s ∧ aftOk g s b = true ∧ runs g (s - worth b) l

theorem mem_outL {g : Int} {bs : List Int} : ∀ {n : Nat} {s : Int} {l : List Int}, l ∈ outL g bs n s ↔ l.length = n ∧ (∀ b ∈ l, b ∈ bs) ∧ runs g s l
  | 0, s, l => by
    rw [outL]
    by_cases h : s = 0
    · rw [if_pos h]
      constructor
      · intro h'
        have : l = [] := by simpa using h'
        subst this
        exact ⟨rfl, by simp, h⟩
      · rintro ⟨h1, _, _⟩
        simp [List.eq_nil_of_length_eq_zero h1]
    · rw [if_neg h]
      constructor
      · intro h'
        simp at h'
      · rintro ⟨h1, _, h3⟩
        rw [List.eq_nil_of_length_eq_zero h1] at h3
        exact absurd h3 h
  | n + 1, s, l => by
    rw [outL]
    constructor
    · intro h
      obtain ⟨⟨x, y⟩, ht, h⟩ := List.mem_flatMap.1 h
      obtain ⟨l', h', rfl⟩ := List.mem_map.1 h
      obtain ⟨h1, h2, h3, h4⟩ := throwsL_mem ht
      obtain ⟨k1, k2, k3⟩ := mem_outL.1 h'
      simp only at h3 k3
      refine ⟨by simp [k1], ?_, h4, h2, h3 ▸ k3⟩
      intro b hb
      rcases List.mem_cons.1 hb with rfl | hb
      · exact h1
      · exact k2 b hb
    · rintro ⟨h1, h2, h3⟩
      cases l with
      | nil => simp at h1
      | cons b l =>
        obtain ⟨k1, k2, k3⟩ := h3
        exact List.mem_flatMap.2 ⟨(b, s - worth b), mem_throwsL.2 ⟨k1, h2 b (by simp), k2, rfl⟩, List.mem_map.2 ⟨l, mem_outL.2 ⟨by simpa using h1, fun b' hb' => h2 b' (by simp [hb']), k3⟩, rfl⟩⟩
theorem mem_outAll {g : Int} {bs : List Int} {s : Int} {d : Nat} {l : List Int} : l ∈ outAll g bs s d ↔ 1 ≤ l.length ∧ l.length ≤ d ∧ (∀ b ∈ l, b ∈ bs) ∧ runs g s l := by
  unfold outAll
  constructor
  · intro h
    obtain ⟨k, hk, h⟩ := List.mem_flatMap.1 h
    obtain ⟨h1, h2, h3⟩ := mem_outL.1 h
    have := List.mem_range.1 hk
    exact ⟨by omega, by omega, h2, h3⟩
  · rintro ⟨h1, h2, h3, h4⟩
    refine List.mem_flatMap.2 ⟨l.length - 1, List.mem_range.2 (by omega), mem_outL.2 ⟨by omega, h3, h4⟩⟩

/-- The order of lists of as many beds. -/
def lexB : List Int → List Int → Prop
  | x :: a, y :: b => x < y ∨ (x = y ∧ lexB a b)
  | _, _ => False
def wLt (a b : List Int) : Prop := a.length < b.length ∨ (a.length = b.length ∧ lexB a b)
theorem throwsL_pairwise {g s : Int} {bs : List Int} (h : bs.Pairwise (· < ·)) : (throwsL g s bs).Pairwise (fun t t' => t.1 < t'.1) := by
  unfold throwsL
  split
  · rw [List.pairwise_map]
    exact h.filter _
  · exact List.Pairwise.nil
theorem outL_pairwise {g : Int} {bs : List Int} (h : bs.Pairwise (· < ·)) : ∀ (n : Nat) (s : Int), (outL g bs n s).Pairwise lexB
  | 0, s => by rw [outL]; split <;> simp
  | n + 1, s => by
    rw [outL, List.pairwise_flatMap]
    refine ⟨fun t _ => ?_, (throwsL_pairwise h).imp ?_⟩
    · rw [List.pairwise_map]
      exact (outL_pairwise h n t.2).imp fun {a b} hab => .inr ⟨rfl, hab⟩
    · intro t t' htt x hx y hy
      obtain ⟨x', _, rfl⟩ := List.mem_map.1 hx
      obtain ⟨y', _, rfl⟩ := List.mem_map.1 hy
      exact .inl htt
theorem outAll_pairwise {g : Int} {bs : List Int} (h : bs.Pairwise (· < ·)) (s : Int) (d : Nat) : (outAll g bs s d).Pairwise wLt := by
  unfold outAll
  rw [List.pairwise_flatMap]
  refine ⟨fun k _ => ?_, ?_⟩
  · refine (outL_pairwise h (k + 1) s).imp_of_mem ?_
    intro a b ha hb hab
    exact .inr ⟨by rw [outL_len ha, outL_len hb], hab⟩
  · have : (List.range d).Pairwise (· < ·) := List.pairwise_lt_range
    refine this.imp ?_
    intro k k' hk x hx y hy
    exact .inl (by rw [outL_len hx, outL_len hy]; omega)
theorem beds_pairwise {bs : List Int} (h : ∀ i j, ∀ h : i < j, ∀ hj : j < bs.length, bs[i]'(Nat.lt_trans h hj) < bs[j]) : bs.Pairwise (· < ·) := by
  rw [List.pairwise_iff_getElem]
  intro i j hi hj hij
  exact h i j hij hj
theorem lexB_irrefl : ∀ a : List Int, ¬ lexB a a
  | [], h => h
  | x :: a, h => by
    rcases h with h | ⟨_, h⟩
    · omega
    · exact lexB_irrefl a h
theorem wLt_ne {a b : List Int} (h : wLt a b) : a ≠ b := by
  rintro rfl
  rcases h with h | ⟨_, h⟩
  · omega
  · exact lexB_irrefl a h

/-- Each bed without which there is no way lies in each way. -/
theorem forced_mem {g : Int} {bs : List Int} (hbs : ∀ b ∈ bs, bedOk b = true) {d s : Nat} {b : Int} (hb : b ∈ forcedTo g bs d s bs.length) {l : List Int} (hl : l ∈ outAll g bs s d) : b ∈ l := by
  unfold forcedTo at hb
  obtain ⟨i, hi, rfl⟩ := List.mem_map.1 hb
  obtain ⟨hi1, hi2⟩ := List.mem_filter.1 hi
  have hlt := List.mem_range.1 hi1
  have h0 : colSum (cnts g (bs.eraseIdx i) d s) s d = 0 := by simpa using hi2
  have hsub : ∀ x ∈ bs.eraseIdx i, x ∈ bs := fun x hx => List.mem_of_mem_eraseIdx hx
  have hlen := outAll_length (g := g) (bs := bs.eraseIdx i) (fun x hx => hbs x (hsub x hx)) (m := s) (D := d) s (Nat.le_refl _) d (Nat.le_refl _)
  rw [h0] at hlen
  have hnil : outAll g (bs.eraseIdx i) s d = [] := List.eq_nil_of_length_eq_zero (by omega)
  have hgd : bs.getD i 0 = bs[i] := by simp [List.getD_eq_getElem?_getD, hlt]
  rw [hgd]
  by_cases hm : bs[i] ∈ l
  · exact hm
  · exfalso
    obtain ⟨h1, h2, h3, h4⟩ := mem_outAll.1 hl
    have : l ∈ outAll g (bs.eraseIdx i) s d := mem_outAll.2 ⟨h1, h2, fun x hx => by
      obtain ⟨j, hj, rfl⟩ := List.mem_iff_getElem.1 (h3 x hx)
      refine List.mem_eraseIdx_iff_getElem.2 ⟨j, hj, ?_, rfl⟩
      rintro rfl
      exact hm hx, h4⟩
    rw [hnil] at this
    simp at this

/-- Fewer beds, a narrower gate: fewer ways. -/
theorem flatMap_sub {α β : Type} {f f' : α → List β} : ∀ {l' l : List α}, l'.Sublist l → (∀ t, (f' t).Sublist (f t)) → (l'.flatMap f').Sublist (l.flatMap f) := by
  intro l' l h hf
  induction h with
  | slnil => simp
  | cons a _ ih =>
    rw [List.flatMap_cons]
    exact ih.trans (List.sublist_append_right _ _)
  | cons_cons a _ ih =>
    rw [List.flatMap_cons, List.flatMap_cons]
    exact List.Sublist.append (hf a) ih
theorem throwsL_sub {g g' : Int} (hg : ∀ s b, aftOk g' s b = true → aftOk g s b = true) {bs bs' : List Int} (hb : bs'.Sublist bs) (s : Int) : (throwsL g' s bs').Sublist (throwsL g s bs) := by
  unfold throwsL
  split
  · refine List.Sublist.map _ ?_
    have e : bs'.filter (aftOk g' s) = (bs'.filter (aftOk g s)).filter (aftOk g' s) := by
      rw [List.filter_filter]
      refine List.filter_congr fun x _ => ?_
      cases h : aftOk g' s x
      · rfl
      · rw [hg s x h]; rfl
    rw [e]
    exact List.filter_sublist.trans (hb.filter _)
  · exact List.Sublist.refl _
theorem outL_sub {g g' : Int} (hg : ∀ s b, aftOk g' s b = true → aftOk g s b = true) {bs bs' : List Int} (hb : bs'.Sublist bs) : ∀ (n : Nat) (s : Int), (outL g' bs' n s).Sublist (outL g bs n s)
  | 0, s => List.Sublist.refl _
  | n + 1, s => by
    rw [outL, outL]
    exact flatMap_sub (throwsL_sub hg hb s) fun t => (outL_sub hg hb n t.2).map _
theorem outAll_sub {g g' : Int} (hg : ∀ s b, aftOk g' s b = true → aftOk g s b = true) {bs bs' : List Int} (hb : bs'.Sublist bs) (s : Int) {d d' : Nat} (hd : d' ≤ d) : (outAll g' bs' s d').Sublist (outAll g bs s d) := by
  unfold outAll
  refine flatMap_sub ?_ fun k => outL_sub hg hb (k + 1) s
  have : List.range d' = (List.range d).take d' := by rw [List.take_range, Nat.min_eq_left hd]
  rw [this]
  exact List.take_sublist _ _
theorem aftOk_gate {g g' : Int} (h : ∀ b, opensG g' b = true → opensG g b = true) (h0 : g' = 0 → g = 0) : ∀ s b, aftOk g' s b = true → aftOk g s b = true := by
  intro s b
  unfold aftOk
  split
  · exact h b
  · split
    · intro h1
      have : g' = 0 := by simpa using h1
      simp [h0 this]
    · exact id
end Go.Proofs.Ytcnofoopdghjiaa

/- Chapter 2: the fewest beds, in plain Lean. -/
namespace Go.Proofs.Ytcnofoopdghjiaa
open Go.RowKit Go.Oche Go.Proofs

theorem bestOf_spec {f : List Int} : ∀ (pre : List (Int × Int)), (∀ i, -1 ≤ f.getD i 0) →
    (bestOf f pre = -1 ∧ ∀ t ∈ pre, f.getD t.2.toNat 0 = -1) ∨ (∃ t ∈ pre, f.getD t.2.toNat 0 ≠ -1 ∧ bestOf f pre = f.getD t.2.toNat 0 + 1 ∧ ∀ t' ∈ pre, f.getD t'.2.toNat 0 ≠ -1 → bestOf f pre ≤ f.getD t'.2.toNat 0 + 1) := by
  intro pre hf
  rcases List.eq_nil_or_concat pre with rfl | ⟨pre', t, rfl⟩
  · exact .inl ⟨rfl, by simp⟩
  · have ih := bestOf_spec pre' hf
    rw [List.concat_eq_append, bestOf_snoc]
    have ht := hf t.2.toNat
    unfold bestStep
    by_cases h1 : f.getD t.2.toNat 0 = -1
    · rw [if_neg (fun h => h.1 h1)]
      rcases ih with ⟨h2, h3⟩ | ⟨u, hu, h2, h3, h4⟩
      · refine .inl ⟨h2, fun t' ht' => ?_⟩
        rcases List.mem_append.1 ht' with h | h
        · exact h3 t' h
        · rw [List.mem_singleton.1 h]; exact h1
      · refine .inr ⟨u, by simp [hu], h2, h3, fun t' ht' hn => ?_⟩
        rcases List.mem_append.1 ht' with h | h
        · exact h4 t' h hn
        · rw [List.mem_singleton.1 h] at hn; exact absurd h1 hn
    · rcases ih with ⟨h2, h3⟩ | ⟨u, hu, h2, h3, h4⟩
      · rw [h2, if_pos ⟨h1, .inl rfl⟩]
        refine .inr ⟨t, by simp, h1, rfl, fun t' ht' hn => ?_⟩
        rcases List.mem_append.1 ht' with h | h
        · exact absurd (h3 t' h) hn
        · rw [List.mem_singleton.1 h]; exact Int.le_refl _
      · have hu' := hf u.2.toNat
        by_cases h5 : f.getD t.2.toNat 0 + 1 < bestOf f pre'
        · rw [if_pos ⟨h1, .inr h5⟩]
          refine .inr ⟨t, by simp, h1, rfl, fun t' ht' hn => ?_⟩
          rcases List.mem_append.1 ht' with h | h
          · have := h4 t' h hn; omega
          · rw [List.mem_singleton.1 h]; exact Int.le_refl _
        · rw [if_neg (fun h => by rcases h.2 with h | h <;> omega)]
          refine .inr ⟨u, by simp [hu], h2, h3, fun t' ht' hn => ?_⟩
          rcases List.mem_append.1 ht' with h | h
          · exact h4 t' h hn
          · rw [List.mem_singleton.1 h]; omega
termination_by pre => pre.length
decreasing_by simp_all

/-- With how few beds a score is ended. -/
def fewAt (g : Int) (bs : List Int) (s : Nat) : Int := (fewTo g bs s).getD s 0
theorem fewTo_at {g : Int} {bs : List Int} {s : Nat} : ∀ {m : Nat}, s ≤ m → (fewTo g bs m).getD s 0 = fewAt g bs s := by
  intro m
  induction m with
  | zero => intro h; obtain rfl : s = 0 := by omega
            rfl
  | succ m ih =>
    intro h
    by_cases e : s = m + 1
    · subst e; rfl
    · rw [fewTo, List.getD_eq_getElem?_getD, List.getElem?_append_left (by rw [fewTo_length]; omega), ← List.getD_eq_getElem?_getD]
      exact ih (by omega)
theorem fewAt_succ (g : Int) (bs : List Int) (s : Nat) : fewAt g bs (s + 1) = bestOf (fewTo g bs s) (throwsL g ((s : Int) + 1) bs) := by
  rw [fewAt, fewTo, List.getD_eq_getElem?_getD, List.getElem?_append_right (by rw [fewTo_length]; omega), fewTo_length]
  simp
theorem fewTo_ge (g : Int) (bs : List Int) (m i : Nat) : -1 ≤ (fewTo g bs m).getD i 0 := (getD_range (n := m) (by omega) (fewTo_bd g bs m) i).1
theorem outL_zero_nil {g : Int} {bs : List Int} {s : Int} (h : s ≠ 0) : outL g bs 0 s = [] := by rw [outL, if_neg h]
theorem outL_succ_nil {g : Int} {bs : List Int} {n : Nat} {s : Int} : outL g bs (n + 1) s = [] ↔ ∀ t ∈ throwsL g s bs, outL g bs n t.2 = [] := by
  rw [outL, List.flatMap_eq_nil_iff]
  constructor
  · intro h t ht; simpa using h t ht
  · intro h t ht; rw [h t ht]; rfl

theorem fewAt_spec {g : Int} {bs : List Int} (hbs : ∀ b ∈ bs, bedOk b = true) : ∀ s : Nat, (fewAt g bs s = -1 ∧ ∀ n, outL g bs n s = []) ∨ ∃ k : Nat, fewAt g bs s = k ∧ outL g bs k s ≠ [] ∧ ∀ n, n < k → outL g bs n s = [] := by
  intro s
  induction s using Nat.strongRecOn with
  | ind s ih =>
    cases s with
    | zero => exact .inr ⟨0, rfl, by simp [outL], fun n h => by omega⟩
    | succ s =>
      rw [fewAt_succ]
      have hth : ∀ t ∈ throwsL g ((s : Int) + 1) bs, ∃ q : Nat, t.2 = q ∧ q ≤ s := by
        rintro ⟨x, y⟩ ht
        obtain ⟨h1, h2, h3, h4⟩ := throwsL_mem ht
        have h5 := aftOk_bd h2
        have h6 := worth_bd (hbs x h1)
        exact ⟨y.toNat, by simp only; omega, by omega⟩
      have hget : ∀ t ∈ throwsL g ((s : Int) + 1) bs, ∀ q : Nat, t.2 = q → (fewTo g bs s).getD t.2.toNat 0 = fewAt g bs q := by
        intro t ht q hq
        obtain ⟨q', e, hq'⟩ := hth t ht
        have : q' = q := by omega
        subst this
        rw [hq, Int.toNat_natCast]
        exact fewTo_at hq'
      rcases bestOf_spec (throwsL g ((s : Int) + 1) bs) (fun i => fewTo_ge g bs s i) with ⟨h1, h2⟩ | ⟨t, ht, h1, h2, h3⟩
      · refine .inl ⟨h1, fun n => ?_⟩
        cases n with
        | zero => exact outL_zero_nil (by omega)
        | succ n =>
          rw [outL_succ_nil]
          intro t ht
          obtain ⟨q, hq, hqs⟩ := hth t (by simpa using ht)
          have := h2 t (by simpa using ht)
          rw [hget t (by simpa using ht) q hq] at this
          rcases ih q (by omega) with ⟨_, h⟩ | ⟨k, hk, _⟩
          · rw [hq]; exact h n
          · omega
      · obtain ⟨q, hq, hqs⟩ := hth t ht
        have hgt := hget t ht q hq
        rw [hgt] at h1 h2
        rcases ih q (by omega) with ⟨h, _⟩ | ⟨k, hk, hk1, hk2⟩
        · exact absurd h h1
        · refine .inr ⟨k + 1, by rw [h2, hk]; rfl, fun hn => ?_, fun n hn => ?_⟩
          · have := outL_succ_nil.1 hn t (by simpa using ht)
            rw [hq] at this
            exact hk1 this
          · cases n with
            | zero => exact outL_zero_nil (by omega)
            | succ n =>
              rw [outL_succ_nil]
              intro t' ht'
              obtain ⟨q', hq', hqs'⟩ := hth t' (by simpa using ht')
              have hg' := hget t' (by simpa using ht') q' hq'
              have h4 := h3 t' (by simpa using ht')
              rw [hg'] at h4
              rw [hq']
              rcases ih q' (by omega) with ⟨_, h⟩ | ⟨k', hk', _, hk2'⟩
              · exact h n
              · exact hk2' n (by have := h4 (by omega); omega)

/-- A way of k beds: so many are enough. -/
theorem fewAt_le {g : Int} {bs : List Int} (hbs : ∀ b ∈ bs, bedOk b = true) {s k : Nat} (h : outL g bs k s ≠ []) : 0 ≤ fewAt g bs s ∧ fewAt g bs s ≤ k := by
  rcases fewAt_spec hbs s (g := g) with ⟨_, h1⟩ | ⟨k', h1, _, h3⟩
  · exact absurd (h1 k) h
  · rw [h1]
    refine ⟨by omega, ?_⟩
    rcases Nat.lt_or_ge k k' with hlt | hge
    · exact absurd (h3 k hlt) h
    · omega
theorem fewAt_pos {g : Int} {bs : List Int} (hbs : ∀ b ∈ bs, bedOk b = true) {s : Nat} (hs : 0 < s) (h : 0 ≤ fewAt g bs s) : 1 ≤ fewAt g bs s := by
  rcases fewAt_spec hbs s (g := g) with ⟨h1, _⟩ | ⟨k', h1, h2, _⟩
  · omega
  · rw [h1]
    rcases Nat.eq_zero_or_pos k' with rfl | h
    · exact absurd (outL_zero_nil (by omega)) h2
    · omega
theorem fewAt_mono {g g' : Int} {bs bs' : List Int} (hbs : ∀ b ∈ bs, bedOk b = true) (hg : ∀ s b, aftOk g' s b = true → aftOk g s b = true) (hb : bs'.Sublist bs) {s : Nat} (h : 0 ≤ fewAt g' bs' s) : 0 ≤ fewAt g bs s ∧ fewAt g bs s ≤ fewAt g' bs' s := by
  rcases fewAt_spec (g := g') (bs := bs') (fun b hb' => hbs b (hb.subset hb')) s with ⟨h1, _⟩ | ⟨k', h1, h2, _⟩
  · omega
  · rw [h1]
    refine fewAt_le hbs fun hn => h2 ?_
    have := outL_sub hg hb k' s
    rw [hn] at this
    exact List.sublist_nil.1 this

/-- The scores that are never ended are a proof; in a proof all are among them. -/
theorem closed_never {g : Int} {bs : List Int} (hbs : ∀ b ∈ bs, bedOk b = true) {nv : List Bool} (h : closedB g bs nv = true) : ∀ s : Nat, nv.getD s false = true → fewAt g bs s = -1 := by
  intro s
  induction s using Nat.strongRecOn with
  | ind s ih =>
    intro hs
    have hlt : s < nv.length := by
      rw [List.getD_eq_getElem?_getD] at hs
      rcases Nat.lt_or_ge s nv.length with h | h
      · exact h
      · rw [List.getElem?_eq_none h] at hs; simp at hs
    have hc := List.all_eq_true.1 h s (List.mem_range.2 hlt)
    unfold closedAt at hc
    rw [hs] at hc
    simp only [Bool.not_true, Bool.false_or, Bool.and_eq_true, bne_iff_ne, ne_eq, List.all_eq_true] at hc
    obtain ⟨h0, hall⟩ := hc
    obtain ⟨s', rfl⟩ : ∃ s', s = s' + 1 := ⟨s - 1, by omega⟩
    rw [fewAt_succ]
    rcases bestOf_spec (throwsL g ((s' : Int) + 1) bs) (fun i => fewTo_ge g bs s' i) with ⟨h1, _⟩ | ⟨t, ht, h1, _, _⟩
    · exact h1
    · exfalso
      apply h1
      obtain ⟨x, y⟩ := t
      obtain ⟨k1, k2, k3, k4⟩ := throwsL_mem ht
      have h5 := aftOk_bd k2
      have h6 := worth_bd (hbs x k1)
      have h7 : y.toNat ≤ s' := by omega
      rw [fewTo_at h7]
      exact ih y.toNat (by omega) (hall (x, y) (by simpa using ht))
theorem never_closed {g : Int} {bs : List Int} (hbs : ∀ b ∈ bs, bedOk b = true) {nv : List Bool} (h : ∀ s, s < nv.length → nv.getD s false = decide (fewAt g bs s = -1)) : closedB g bs nv = true := by
  refine closedB_all fun s hs => ?_
  unfold closedAt
  rw [h s hs]
  by_cases hf : fewAt g bs s = -1
  · simp only [hf, decide_true, Bool.not_true, Bool.false_or, Bool.and_eq_true, bne_iff_ne, ne_eq, List.all_eq_true]
    have h0 : s ≠ 0 := by rintro rfl; simp [fewAt, fewTo] at hf
    refine ⟨h0, ?_⟩
    rintro ⟨x, y⟩ ht
    obtain ⟨k1, k2, k3, k4⟩ := throwsL_mem ht
    have h5 := aftOk_bd k2
    have h6 := worth_bd (hbs x k1)
    obtain ⟨s', rfl⟩ : ∃ s', s = s' + 1 := ⟨s - 1, by omega⟩
    have h7 : y.toNat ≤ s' := by omega
    simp only
    rw [h y.toNat (by omega)]
    rw [fewAt_succ] at hf
    rcases bestOf_spec (throwsL g ((s' : Int) + 1) bs) (fun i => fewTo_ge g bs s' i) with ⟨_, h1⟩ | ⟨t, _, h1, h2, _⟩
    · have := h1 (x, y) (by simpa using ht)
      rw [fewTo_at h7] at this
      simp [this]
    · have := fewTo_ge g bs s' t.2.toNat
      omega
  · simp [hf]
end Go.Proofs.Ytcnofoopdghjiaa

/- Chapter 2: ways bed by bed, in plain Lean. -/
namespace Go.Proofs.Ytcnofoopdghjiaa
open Go.RowKit Go.Oche Go.Proofs

theorem outL_none {g : Int} {bs : List Int} {n : Nat} {s : Int} (h : ¬ 0 < s) : outL g bs (n + 1) s = [] := by rw [outL, throwsL_none h]; rfl
theorem outAll_none {g : Int} {bs : List Int} {d : Nat} {s : Int} (h : ¬ 0 < s) : outAll g bs s d = [] := by
  rw [outAll, List.flatMap_eq_nil_iff]
  intro k _
  exact outL_none h
/-- What a bed adds to the number of ways. -/
def splitF (g : Int) (bs : List Int) (d : Nat) (l : Int) : Nat := (outL g bs 0 l).length + (outAll g bs l d).length
theorem sum_map_add' (f h : Int × Int → Nat) : ∀ l : List (Int × Int), (l.map fun t => f t + h t).sum = (l.map f).sum + (l.map h).sum
  | [] => rfl
  | t :: l => by simp only [List.map_cons, List.sum_cons, sum_map_add' f h l]; omega
theorem outAll_split (g : Int) (bs : List Int) (s : Int) : ∀ d : Nat, (outAll g bs s (d + 1)).length = ((throwsL g s bs).map fun t => splitF g bs d t.2).sum
  | 0 => by
    have h1 : outAll g bs s 1 = outL g bs 1 s := by simp [outAll]
    rw [h1, outL, List.length_flatMap]
    refine congrArg List.sum (List.map_congr_left fun t _ => ?_)
    simp [splitF, outAll]
  | d + 1 => by
    rw [outAll_succ, List.length_append, outAll_split g bs s d, outL, List.length_flatMap]
    have : ∀ t : Int × Int, splitF g bs (d + 1) t.2 = splitF g bs d t.2 + ((outL g bs (d + 1) t.2).map (t.1 :: ·)).length := fun t => by
      unfold splitF
      rw [outAll_succ, List.length_append, List.length_map]; omega
    rw [List.map_congr_left (fun t _ => this t), sum_map_add']
/-- .. as the law counts it. -/
def splitAt' (g : Int) (bs : List Int) (s : Int) (d : Nat) (b : Int) : Int := (if aftR s b g = 0 then 1 else 0) + (if 0 < aftR s b g ∧ 0 < d then numOf bs g d (aftR s b g) else 0)
def splitTo (g : Int) (bs : List Int) (s : Int) (d k : Nat) : Int := ((bs.take k).map (splitAt' g bs s d)).sum
theorem splitTo_succ {g : Int} {bs : List Int} {s : Int} {d k : Nat} (hk : k < bs.length) : splitTo g bs s d (k + 1) = splitTo g bs s d k + splitAt' g bs s d bs[k] := by
  unfold splitTo
  rw [List.take_succ_eq_append_getElem hk, List.map_append, List.sum_append]
  simp
theorem rulesOk_less {bs : List Int} {g : Int} {d : Nat} (h : rulesOk bs g ((d : Int) + 1) = true) (hd : 0 < d) : rulesOk bs g d = true := by
  obtain ⟨q1, q2, q3, q4⟩ := rulesOk_spec h
  unfold rulesOk isIn
  rw [q1, q2]
  simp; omega
theorem numOf_out {bs : List Int} {g : Int} {d s : Nat} (hr : rulesOk bs g d = true) (h1 : 1 ≤ s) (h2 : s ≤ 1001) : numOf bs g d s = (outAll g bs s d).length ∧ scoreErr bs g d s = 0 := by
  obtain ⟨_, _, _, _, _, _, h, h'⟩ := ways_facts hr h1 h2
  exact ⟨h, h'⟩
theorem split_one {bs : List Int} {g : Int} {d s : Nat} (hr : rulesOk bs g ((d : Int) + 1) = true) (h2 : s ≤ 1001) {b : Int} (hb : b ∈ bs) : splitAt' g bs s d b = if aftOk g s b = true then ((splitF g bs d ((s : Int) - worth b) : Nat) : Int) else 0 := by
  obtain ⟨q1, q2, q3, q4⟩ := rulesOk_spec hr
  have hw := worth_bd ((bedsOk_spec q1).1 b hb)
  unfold splitAt' aftR
  by_cases hok : aftOk g s b = true
  · have h0 := aftOk_bd hok
    rw [if_pos hok, if_pos hok]
    unfold splitF
    by_cases hz : (s : Int) - worth b = 0
    · rw [hz, if_pos rfl, if_neg (by omega), outAll_none (by omega), outL]; simp
    · rw [if_neg hz, outL_zero_nil' hz]
      obtain ⟨q, hq⟩ : ∃ q : Nat, (s : Int) - worth b = q := ⟨((s : Int) - worth b).toNat, by omega⟩
      rw [hq]
      by_cases hd : 0 < d
      · rw [if_pos ⟨by omega, hd⟩, (numOf_out (rulesOk_less hr hd) (by omega) (by omega)).1]; simp
      · obtain rfl : d = 0 := by omega
        rw [if_neg (by omega)]; simp [outAll]
  · rw [if_neg hok, if_neg hok, if_neg (by omega), if_neg (by omega)]; rfl
where
  outL_zero_nil' {g : Int} {bs : List Int} {s : Int} (h : s ≠ 0) : outL g bs 0 s = [] := by rw [outL, if_neg h]
theorem sum_filter_map {p : Int → Bool} {F : Int → Nat} : ∀ l : List Int, (((l.filter p).map F).sum : Int) = (l.map fun b => if p b = true then ((F b : Nat) : Int) else 0).sum
  | [] => rfl
  | b :: l => by
    have ih := sum_filter_map (p := p) (F := F) l
    rw [List.map_cons, List.sum_cons, ← ih]
    by_cases h : p b = true
    · rw [List.filter_cons_of_pos h, if_pos h, List.map_cons, List.sum_cons]; push_cast; rfl
    · rw [List.filter_cons_of_neg h, if_neg h]; omega
/-- The ways out are those that begin with each bed. -/
theorem split_all {bs : List Int} {g : Int} {d s : Nat} (hr : rulesOk bs g ((d : Int) + 1) = true) (h1 : 1 ≤ s) (h2 : s ≤ 1001) : splitTo g bs s d bs.length = numOf bs g ((d : Int) + 1) s := by
  have hr' : rulesOk bs g ((d + 1 : Nat) : Int) = true := by simpa using hr
  have := (numOf_out hr' h1 h2).1
  rw [show ((d : Int) + 1) = ((d + 1 : Nat) : Int) by simp, this, outAll_split, splitTo, List.take_length, throwsL, if_pos (by omega), List.map_map]
  have e : ((fun t : Int × Int => splitF g bs d t.2) ∘ fun b => (b, (s : Int) - worth b)) = fun b => splitF g bs d ((s : Int) - worth b) := rfl
  rw [e, sum_filter_map]
  exact congrArg List.sum (List.map_congr_left fun b hb => split_one hr h2 hb)
theorem numOf_nonneg {bs : List Int} {g : Int} {d : Nat} (hr : rulesOk bs g d = true) (s : Int) : 0 ≤ numOf bs g d s := by
  unfold numOf
  split
  · obtain ⟨q1, q2, q3, q4⟩ := rulesOk_spec hr
    have hse : scoreErr bs g d s = 0 := by assumption
    rw [← outAll_length (bedsOk_spec q1).1 s.toNat (m := s.toNat) (D := (d : Int).toNat) (Nat.le_refl _) _ (Nat.le_refl _)]
    omega
  · exact Int.le_refl _
theorem split_nonneg {bs : List Int} {g : Int} {d s : Nat} (hr : rulesOk bs g ((d : Int) + 1) = true) (h2 : s ≤ 1001) {b : Int} (hb : b ∈ bs) : 0 ≤ splitAt' g bs s d b := by
  rw [split_one hr h2 hb]
  split <;> omega
theorem splitTo_mono {bs : List Int} {g : Int} {d s : Nat} (hr : rulesOk bs g ((d : Int) + 1) = true) (h2 : s ≤ 1001) : ∀ k j, k ≤ j → j ≤ bs.length → splitTo g bs s d k ≤ splitTo g bs s d j := by
  intro k j hkj hj
  induction j with
  | zero => obtain rfl : k = 0 := by omega
            exact Int.le_refl _
  | succ j ih =>
    by_cases h : k = j + 1
    · subst h; exact Int.le_refl _
    · rw [splitTo_succ (by omega)]
      have := split_nonneg hr h2 (List.getElem_mem (show j < bs.length by omega))
      have := ih (by omega) (by omega)
      omega
theorem splitTo_bd {bs : List Int} {g : Int} {d s : Nat} (hr : rulesOk bs g ((d : Int) + 1) = true) (h1 : 1 ≤ s) (h2 : s ≤ 1001) {k : Nat} (hk : k ≤ bs.length) : 0 ≤ splitTo g bs s d k ∧ splitTo g bs s d k ≤ numOf bs g ((d : Int) + 1) s := by
  constructor
  · have := splitTo_mono hr h2 0 k (by omega) hk
    simpa [splitTo] using this
  · rw [← split_all hr h1 h2]
    exact splitTo_mono hr h2 k _ hk (Nat.le_refl _)
/-- The legs of just so many darts. -/
theorem legs_split {bs : List Int} {g : Int} {d s : Nat} (hr : rulesOk bs g ((d : Int) + 1) = true) (h1 : 2 ≤ s) (h2 : s ≤ 1001) :
    legsErr bs s 0 g ((d : Int) + 1) = 0 ∧ legsNum bs s 0 g ((d : Int) + 1) = numOf bs g ((d : Int) + 1) s - (if 0 < d then numOf bs g d s else 0) := by
  obtain ⟨q1, q2, q3, q4⟩ := rulesOk_spec hr
  have hbs := (bedsOk_spec q1).1
  have he : legsErr bs s 0 g ((d : Int) + 1) = 0 := by
    unfold legsErr isIn
    rw [q1, q2]
    have e1 : decide ((2 : Int) ≤ (s : Int)) = true := by simp; omega
    have e2 : decide ((s : Int) ≤ 1001) = true := by simp; omega
    have e3 : decide ((1 : Int) ≤ (d : Int) + 1) = true := by simp; omega
    have e4 : decide ((d : Int) + 1 ≤ 9) = true := by simp; omega
    rw [e1, e2, e3, e4]; rfl
  refine ⟨he, ?_⟩
  have hr' : rulesOk bs g ((d + 1 : Nat) : Int) = true := by simpa using hr
  rw [legsNum, if_pos he, show ((d : Int) + 1) = ((d + 1 : Nat) : Int) by simp, (numOf_out hr' (by omega) h2).1, Int.toNat_natCast, Int.toNat_natCast, Nat.add_sub_cancel]
  have hps : psumIf (cntRow g bs s d) 0 (throwsL g s bs) = rowSum g bs (cntRow g bs s d) s := by
    unfold psumIf rowSum psum
    refine congrArg List.sum (List.map_congr_left fun t _ => ?_)
    rw [if_pos (by simp [opensG])]
  rw [hps, ← cntRow_succ g bs s d s (by omega), ← outL_length hbs (d + 1) s (Nat.le_refl _), outAll_succ, List.length_append]
  by_cases hd : 0 < d
  · rw [if_pos hd, (numOf_out (rulesOk_less hr hd) (by omega) h2).1]; push_cast; omega
  · obtain rfl : d = 0 := by omega
    rw [if_neg hd]; simp [outAll]
theorem rulesOk_le {bs : List Int} {g : Int} {d x : Nat} (h : rulesOk bs g d = true) (hx : x ≤ d) (h0 : 0 < x) : rulesOk bs g x = true := by
  obtain ⟨q1, q2, q3, q4⟩ := rulesOk_spec h
  unfold rulesOk isIn
  rw [q1, q2]
  simp; omega
theorem numOf_bd {bs : List Int} {g : Int} {d : Nat} (hr : rulesOk bs g d = true) (s : Int) : 0 ≤ numOf bs g d s ∧ numOf bs g d s ≤ 1508575953687372288 := by
  refine ⟨numOf_nonneg hr s, ?_⟩
  unfold numOf
  split
  · obtain ⟨q1, q2, q3, q4⟩ := rulesOk_spec hr
    exact (cnts_colBd (bedsOk_spec q1).2.2.2 (by omega) _ _ (by omega)).2
  · decide
end Go.Proofs.Ytcnofoopdghjiaa

/- Chapter 2, law OutMore: more beds, more darts, a wider gate, in plain Lean. -/
namespace Go.Proofs.Ytcnofoopdghjiaa
open Go.RowKit Go.Oche Go.Proofs

theorem mem_bogTo {Cs : List (List Int)} {d k : Nat} {x : Int} : x ∈ bogTo Cs d k ↔ ∃ s, s < k ∧ colSum Cs (s + 1) d = 0 ∧ x = (s : Int) + 1 := by
  unfold bogTo
  constructor
  · intro h
    obtain ⟨s, hs, rfl⟩ := List.mem_map.1 h
    obtain ⟨h1, h2⟩ := List.mem_filter.1 hs
    exact ⟨s, List.mem_range.1 h1, by simpa using h2, rfl⟩
  · rintro ⟨s, h1, h2, rfl⟩
    exact List.mem_map.2 ⟨s, List.mem_filter.2 ⟨List.mem_range.2 h1, by simpa using h2⟩, rfl⟩
theorem bogTo_pairwise (Cs : List (List Int)) (d k : Nat) : (bogTo Cs d k).Pairwise (· < ·) := by
  unfold bogTo
  rw [List.pairwise_map]
  have : (List.range k).Pairwise (· < ·) := List.pairwise_lt_range
  exact (this.filter _).imp fun {a b} h => by omega
/-- The bogeys are the scores without a way. -/
theorem bogey_iff {g : Int} {bs : List Int} (hbs : ∀ b ∈ bs, bedOk b = true) {d m : Nat} {x : Int} : x ∈ bogTo (cnts g bs d m) d m ↔ ∃ s : Nat, s < m ∧ outAll g bs ((s + 1 : Nat) : Int) d = [] ∧ x = (s : Int) + 1 := by
  rw [mem_bogTo]
  constructor
  · rintro ⟨s, h1, h2, h3⟩
    have := outAll_length (g := g) hbs (m := m) (D := d) (s + 1) (by omega) d (Nat.le_refl _)
    rw [h2] at this
    exact ⟨s, h1, List.eq_nil_of_length_eq_zero (by omega), h3⟩
  · rintro ⟨s, h1, h2, h3⟩
    have := outAll_length (g := g) hbs (m := m) (D := d) (s + 1) (by omega) d (Nat.le_refl _)
    rw [h2] at this
    exact ⟨s, h1, by simpa using this.symm, h3⟩
/-- What fewer beds, fewer darts, a narrower gate leave. -/
theorem more_facts {bs bs' : List Int} {g g' : Int} {d d' s : Nat} (hr : rulesOk bs g d = true) (hr' : rulesOk bs' g' d' = true) (hg : ∀ s b, aftOk g' s b = true → aftOk g s b = true) (hb : bs'.Sublist bs) (hd : d' ≤ d) (h1 : 1 ≤ s) (h2 : s ≤ 1001) :
    (0 ≤ numOf bs' g' d' s ∧ numOf bs' g' d' s ≤ numOf bs g d s) ∧ (∀ k : Nat, 0 ≤ fewAt g' bs' k → 0 ≤ fewAt g bs k ∧ fewAt g bs k ≤ fewAt g' bs' k) ∧ ∀ x ∈ bogTo (cnts g bs d s) d s, x ∈ bogTo (cnts g' bs' d' s) d' s := by
  have hbs := (bedsOk_spec (rulesOk_spec hr).1).1
  have hbs' := (bedsOk_spec (rulesOk_spec hr').1).1
  refine ⟨⟨numOf_nonneg hr' _, ?_⟩, fun k h => fewAt_mono hbs hg hb h, fun x hx => ?_⟩
  · rw [(numOf_out hr h1 h2).1, (numOf_out hr' h1 h2).1]
    have := (outAll_sub hg hb (s : Int) hd).length_le
    omega
  · obtain ⟨q, k1, k2, k3⟩ := (bogey_iff hbs).1 hx
    refine (bogey_iff hbs').2 ⟨q, k1, ?_, k3⟩
    have := outAll_sub hg hb ((q + 1 : Nat) : Int) hd
    rw [k2] at this
    exact List.sublist_nil.1 this
/-- Where the elements of an ascending list stand in another one. -/
theorem places {c d : List Int} (hc : c.Pairwise (· < ·)) (hd : d.Pairwise (· < ·)) (hs : ∀ x ∈ c, x ∈ d) :
    ∃ J : Nat → Nat, (∀ k (h : k < c.length), ∃ h' : J k < d.length, d[J k] = c[k]) ∧ (∀ k, k + 1 < c.length → J k < J (k + 1)) ∧ ∀ k (_ : k < c.length) t (_ : t < d.length), d[t] < c[k] ↔ t < J k := by
  classical
  have h0 : ∀ k, ∃ j, ∀ h : k < c.length, ∃ h' : j < d.length, d[j] = c[k] := fun k => by
    by_cases h : k < c.length
    · obtain ⟨j, hj, e⟩ := List.mem_iff_getElem.1 (hs c[k] (List.getElem_mem h))
      exact ⟨j, fun _ => ⟨hj, e⟩⟩
    · exact ⟨0, fun h' => absurd h' h⟩
  obtain ⟨J, hJ⟩ := Classical.axiomOfChoice h0
  have h3 : ∀ k (_ : k < c.length) t (_ : t < d.length), d[t] < c[k] ↔ t < J k := fun k hk t ht => by
    obtain ⟨hj, e⟩ := hJ k hk
    rw [← e]
    constructor
    · intro hlt
      rcases Nat.lt_trichotomy t (J k) with h | h | h
      · exact h
      · subst h; omega
      · have := List.pairwise_iff_getElem.1 hd (J k) t hj ht h; omega
    · intro h
      exact List.pairwise_iff_getElem.1 hd t (J k) ht hj h
  refine ⟨J, fun k h => hJ k h, fun k hk => ?_, h3⟩
  obtain ⟨hj, e⟩ := hJ k (by omega)
  have := List.pairwise_iff_getElem.1 hc k (k + 1) (by omega) hk (by omega)
  exact (h3 (k + 1) hk (J k) hj).1 (by rw [e]; exact this)
theorem gate_wide {g g' : Int} (h : (g = 0 ∧ g' = 2) ∨ (g = 2 ∧ g' = 1)) : ∀ s b, aftOk g' s b = true → aftOk g s b = true := by
  refine aftOk_gate (fun b hb => ?_) (fun h0 => by omega)
  rcases h with ⟨rfl, rfl⟩ | ⟨rfl, rfl⟩
  · simp [opensG]
  · simp [opensG] at *; omega
theorem eraseIdx_rules {bs : List Int} {g d : Int} {i : Nat} (h : rulesOk bs g d = true) (h0 : bs.eraseIdx i ≠ []) : rulesOk (bs.eraseIdx i) g d = true := by
  obtain ⟨q1, q2, q3, q4⟩ := rulesOk_spec h
  obtain ⟨k1, k2, k3, k4⟩ := bedsOk_spec q1
  have hsub := List.eraseIdx_sublist bs i
  have hp : (bs.eraseIdx i).Pairwise (· < ·) := (beds_pairwise k2).sublist hsub
  have hl := hsub.length_le
  have hpos := List.length_pos_iff.2 h0
  have hok : bedsOk (bs.eraseIdx i) = true := by
    rw [bedsOk_all (fun j hj => ?_)]
    · unfold isIn; simp; omega
    · unfold good
      rw [List.getD_eq_getElem?_getD, List.getElem?_eq_getElem hj, Option.getD_some, k1 _ (hsub.subset (List.getElem_mem hj))]
      by_cases hj0 : j = 0
      · simp [hj0]
      · have := List.pairwise_iff_getElem.1 hp (j - 1) j (by omega) hj (by omega)
        rw [List.getD_eq_getElem?_getD, List.getElem?_eq_getElem (show j - 1 < (bs.eraseIdx i).length by omega), Option.getD_some]
        simp [this]
  unfold rulesOk isIn
  rw [hok, q2]
  simp; omega
theorem rulesOk_nil (g d : Int) : rulesOk [] g d = false := by
  have : bedsOk [] = false := by decide
  rw [rulesOk, this]; rfl
theorem rulesOk_zero (bs : List Int) (g : Int) : rulesOk bs g 0 = false := by
  have : isIn 0 1 9 = false := by decide
  rw [rulesOk, this]; simp
theorem rulesOk_gate {bs : List Int} {g g' d : Int} (h : rulesOk bs g d = true) (hg : gateOk g' = true) : rulesOk bs g' d = true := by
  obtain ⟨q1, q2, q3, q4⟩ := rulesOk_spec h
  unfold rulesOk isIn
  rw [q1, hg]
  simp; omega
theorem mostErr_ok {bs : List Int} {g d : Int} {s : Nat} (hr : rulesOk bs g d = true) (hs : s ≤ 1001) : mostErr bs g d s = 0 := by
  have e1 : isIn (s : Int) 0 1001 = true := by simp [isIn]; omega
  rw [mostErr, if_pos hr, if_pos e1]
end Go.Proofs.Ytcnofoopdghjiaa

/- Chapter 2, law OutSplit: the walk. (Printed by gen_NS.py.) -/
namespace Go.Proofs.Ytcnofoopdghjiaa
open Go.RowKit Go.Oche Go.Proofs

theorem bDrew (w : World) (n : Nat) : Below w.heap.size w (w.drewN n) := ⟨rfl, rfl, rfl, Nat.le_refl _, fun _ _ => rfl⟩
theorem hit_q (s g b l : Int) (hl : Hid (aftR s b g = l)) (w : World) (hb : bedOk b = true) (h1 : 0 ≤ s) (h2 : s ≤ 2000) (hg : gateOk g = true) :
    Calls Try.prog 39 #[.int .i64 s, .int .i64 b, .int .i64 g] w fun e w' => e = .returned (.int .i64 l) ∧ w' = w := (hit_any s g b w hb h1 h2 hg).mono fun _ _ h => ⟨by rw [h.1, hl.out], h.2.symm⟩
theorem sound_r {S : Nat → Prop} (bs : List Int) (g d : Int) (r : Bool) (hr : Hid (rulesOk bs g d = r)) (v : Value) (w : World) (hs : Sl S w v (ints bs)) (hi : ∀ b ∈ bs, I64 b) :
    Calls Try.prog 38 #[.agg #[v, .int .i64 g, .int .i64 d]] w fun e w' => e = .returned (.bool r) ∧ Below w.heap.size w w' := by rw [← hr.out]; exact sound_any bs g d v w hs hi

/-- Rules that are put into a new block. -/
theorem put_rules2 (W : World) (v g d : Value) : ∃ W', W' = W.alloc (.cells #[v, g, d] 25) ∧ Below W.heap.size W W' ∧ W'.heap[W.heap.size]? = some (.cells #[v, g, d] 25 (0, 0)) :=
  ⟨_, rfl, aB _ _, World.alloc_heap_new W (.cells #[v, g, d] 25)⟩

set_option maxRecDepth 100000 in
set_option maxHeartbeats 2000000 in
theorem OutSplit_any {S : Nat → Prop} (bs : List Int) (g d sc : Int) (v : Value) (w : World) (hs : Sl S w v (ints bs)) (hi : ∀ b ∈ bs, I64 b) (hsc : 0 ≤ sc ∧ sc ≤ 65535) :
    Calls Try.prog 11 #[.agg #[v, .int .i64 g, .int .i64 d], .int .u16 sc] w fun e w' => e = .returned (.bool true) ∧ Below w.heap.size w w' := by
  obtain ⟨a, cap, rfl, _, h3⟩ := hs.form
  simp only [ints_length] at *
  unfold maxLen at h3
  obtain ⟨w0, hw0⟩ : ∃ w0, w0 = w.alloc (.cells #[.slice a bs.length cap, .int .i64 g, .int .i64 d] 25) := ⟨_, rfl⟩
  have hb0 : Below w.heap.size w w0 := by rw [hw0]; exact aB _ _
  have h2 : w0.heap[w.heap.size]? = some (.cells #[.slice a bs.length cap, .int .i64 g, .int .i64 d] 25 (0, 0)) := by rw [hw0]; exact World.alloc_heap_new _ _
  have x0 : w0.cell? ⟨w.heap.size, 0, none⟩ = some (.slice a bs.length cap) := by rw [cell_of_heap h2]; rfl
  have x1 : w0.cell? ⟨w.heap.size, 1, none⟩ = some (.int .i64 g) := by rw [cell_of_heap h2]; rfl
  have x2 : w0.cell? ⟨w.heap.size, 2, none⟩ = some (.int .i64 d) := by rw [cell_of_heap h2]; rfl
  have HS := Lib.hid (hs.below hb0)
  have HI := Lib.hid hi
  have HW := Lib.hid hw0
  have HB0 := Lib.hid hb0
  clear hs hi hw0 h2 hb0
  obtain ⟨m, hm, hm2⟩ : ∃ m : Nat, sc.tmod 1000 = m ∧ m < 1000 := ⟨(sc.tmod 1000).toNat, by have := Int.tmod_nonneg 1000 hsc.1; have := Int.tmod_lt_of_pos sc (show (0 : Int) < 1000 by decide); omega, by have := Int.tmod_nonneg 1000 hsc.1; have := Int.tmod_lt_of_pos sc (show (0 : Int) < 1000 by decide); omega⟩
  have hw1 : IntKind.i64.wrap sc = sc := wrap_small _ (by omega) (by omega)
  have hw2 : IntKind.i64.wrap (m : Int) = m := wrap_small _ (by omega) (by omega)
  obtain ⟨s, hs⟩ : ∃ s : Nat, s = m + 2 := ⟨_, rfl⟩
  have hw3 : IntKind.i64.wrap (2 + (m : Int)) = (s : Int) := by rw [wrap_small _ (by omega) (by omega)]; omega
  have hsb : 2 ≤ s ∧ s ≤ 1001 := by omega
  clear hsc hs
  obtain ⟨r, hr⟩ : ∃ b, rulesOk bs g d = b := ⟨_, rfl⟩
  have HR := Lib.hid hr
  clear hr
  go_enter Try.func11, Try.ntmps11
  go_wp2_with fail
  rw [← HW.out]
  refine (sound_r bs g d _ HR _ _ HS.out HI.out).mono ?_
  rintro e w1 ⟨rfl, hb1⟩
  replace x0 := bAt hb1 x0
  replace x1 := bAt hb1 x1
  replace x2 := bAt hb1 x2
  replace HS := Lib.hid (HS.out.below hb1)
  have HB1 := Lib.hid (bThen HB0.out hb1)
  clear hb1
  cases r
  · go_wp2_with fail
    refine (known_any _).mono ?_
    rintro e w2 ⟨rfl, hb2⟩
    have HB2 := Lib.hid (bThen HB1.out hb2)
    clear hb2
    go_wp2
    go_ret
    exact ⟨rfl, HB2.out⟩
  · obtain ⟨q1, q2, q3, q4⟩ := rulesOk_spec HR.out
    obtain ⟨d, rfl⟩ : ∃ n : Nat, d = (n : Int) + 1 := ⟨(d - 1).toNat, by omega⟩
    have hd8 : d ≤ 8 := by omega
    have hwd : IntKind.i64.wrap ((d : Int) + 1 - 1) = d := by rw [wrap_small _ (by omega) (by omega)]; omega
    have HG := Lib.hid q2
    have BO := Lib.hid (bedsOk_spec q1)
    have HLE : Hid (bs.length ≤ 85) := Lib.hid (by have := (bedsOk_spec q1).2.2.2; omega)
    clear q1 q2 q3 q4
    obtain ⟨nn, hnn⟩ : ∃ x, numOf bs g ((d : Int) + 1) s = x := ⟨_, rfl⟩
    have HNN := Lib.hid hnn
    have HSE : Hid (scoreErr bs g ((d : Int) + 1) s = 0) := Lib.hid (by have := (numOf_out (d := d + 1) (by simpa using HR.out) (by omega) hsb.2).2; simpa using this)
    clear hnn
    go_wp2_with fail
    refine (rules_any bs g _ _ _ HS.out HLE.out).mono ?_
    rintro e w2 ⟨v2, rfl, hb2, hv2⟩
    have HV1 := Lib.hid hv2
    clear hv2
    replace x0 := bAt hb2 x0
    replace x1 := bAt hb2 x1
    replace x2 := bAt hb2 x2
    replace HS := Lib.hid (HS.out.below hb2)
    have HB2 := Lib.hid (bThen HB1.out hb2)
    clear hb2
    go_wp2_with fail
    refine (number_any bs g _ s _ _ HV1.out HI.out).mono ?_
    rintro e w3 ⟨rfl, hb3⟩
    rw [HNN.out, HSE.out]
    replace x0 := bAt hb3 x0
    replace x1 := bAt hb3 x1
    replace x2 := bAt hb3 x2
    replace HS := Lib.hid (HS.out.below hb3)
    replace HV1 := Lib.hid (HV1.out.below hb3)
    have HB3 := Lib.hid (bThen HB2.out hb3)
    clear hb3
    go_wp2_with fail
    refine (rules_any bs g _ _ _ HS.out HLE.out).mono ?_
    rintro e w4 ⟨v4, rfl, hb4, hv4⟩
    obtain ⟨al, cl, rfl, _, hcl⟩ := hv4.form
    simp only [ints_length] at *
    have HV := Lib.hid hv4
    clear hv4
    replace x0 := bAt hb4 x0
    replace x1 := bAt hb4 x1
    replace x2 := bAt hb4 x2
    replace HS := Lib.hid (HS.out.below hb4)
    replace HV1 := Lib.hid (HV1.out.below hb4)
    have HB4 := Lib.hid (bThen HB3.out hb4)
    clear hb4
    obtain ⟨w5, hw5, hb5, hX5⟩ := put_rules2 w4 (.slice al bs.length cl) (.int .i64 g) (.int .i64 (d : Int))
    have y0 : w5.cell? ⟨w4.heap.size, 0, none⟩ = some (.slice al bs.length cl) := by rw [cell_of_heap hX5]; rfl
    have y1 : w5.cell? ⟨w4.heap.size, 1, none⟩ = some (.int .i64 g) := by rw [cell_of_heap hX5]; rfl
    have y2 : w5.cell? ⟨w4.heap.size, 2, none⟩ = some (.int .i64 (d : Int)) := by rw [cell_of_heap hX5]; rfl
    have HW5 := Lib.hid hw5
    clear hw5 hX5
    replace x0 := bAt hb5 x0
    replace x1 := bAt hb5 x1
    replace x2 := bAt hb5 x2
    replace HS := Lib.hid (HS.out.below hb5)
    replace HV1 := Lib.hid (HV1.out.below hb5)
    replace HV := Lib.hid (HV.out.below hb5)
    have HB5 := Lib.hid (bThen HB4.out hb5)
    clear hb5
    obtain ⟨Y, hY⟩ : ∃ Y, Y = w4.heap.size := ⟨_, rfl⟩
    rw [← hY] at y0 y1 y2
    have HY := Lib.hid hY
    clear hY
    obtain ⟨X, hX⟩ : ∃ X, X = w.heap.size := ⟨_, rfl⟩
    rw [← hX] at x0 x1 x2
    have HX := Lib.hid hX
    clear hX
    have NB : Hid (∀ x : Nat, x ≤ d + 1 → 0 < x → ∀ y : Int, 0 ≤ numOf bs g x y ∧ numOf bs g x y ≤ 1508575953687372288) := Lib.hid (fun x hx h0 y => numOf_bd (rulesOk_le (d := d + 1) (by simpa using HR.out) hx h0) y)
    obtain ⟨lgn, hlgn⟩ : ∃ x, legsNum bs s 0 g ((d : Int) + 1) = x := ⟨_, rfl⟩
    have LGE : Hid (legsErr bs s 0 g ((d : Int) + 1) = 0 ∧ lgn = numOf bs g ((d : Int) + 1) s - (if 0 < d then numOf bs g d s else 0)) := Lib.hid (by have := legs_split HR.out hsb.1 hsb.2; rw [hlgn] at this; exact this)
    have HLG := Lib.hid hlgn
    clear hlgn
    go_wp2_with fail
    rw [← HY.out, ← HX.out, ← HW5.out]
    go_loopw [6, 10] (fun c i wr => ∃ (q : Nat) (sp : Int), q ≤ bs.length ∧ i = .int .i64 q ∧ c = .int .i64 sp ∧ Hid (sp = splitTo g bs s d q) ∧ Below w5.heap.size w5 wr) (fun _ i _ => bs.length - (intOf i).toNat)
    case atStart => exact ⟨0, 0, by omega, rfl, rfl, Lib.hid (by simp [splitTo]), Below.refl _ _⟩
    case round =>
      obtain ⟨q, sp, hq, rfl, rfl, SP, hb⟩ := hrel
      replace x0 := bAt hb x0
      replace x1 := bAt hb x1
      replace x2 := bAt hb x2
      replace y0 := bAt hb y0
      replace y1 := bAt hb y1
      replace y2 := bAt hb y2
      replace HS := Lib.hid (HS.out.below hb)
      replace HV := Lib.hid (HV.out.below hb)
      have HB := Lib.hid hb
      clear hb
      by_cases hlt : q < bs.length
      · have hdec : decide ((q : Int) < (bs.length : Int)) = true := by simp; omega
        obtain ⟨b, off, hae, _, hcb⟩ := HS.out.cell hlt
        cases hae
        obtain ⟨x, hx⟩ : ∃ x, bs[q] = x := ⟨_, rfl⟩
        rw [hx] at hcb
        have hxo : bedOk x = true := by rw [← hx]; exact BO.out.1 _ (List.getElem_mem hlt)
        obtain ⟨lf, hlf⟩ : ∃ l, aftR s x g = l := ⟨_, rfl⟩
        have LF := Lib.hid hlf
        have HXO := Lib.hid hxo
        have SX : Hid (splitTo g bs s d (q + 1) = sp + ((if lf = 0 then 1 else 0) + (if 0 < lf ∧ 0 < d then numOf bs g d lf else 0))) := Lib.hid (by rw [splitTo_succ hlt, hx, splitAt', hlf, SP.out])
        have SB := splitTo_bd HR.out (show 1 ≤ s by omega) hsb.2 hq
        rw [← SP.out] at SB
        have SB2 := NB.out (d + 1) (by omega) (by omega) s
        rw [show ((d + 1 : Nat) : Int) = (d : Int) + 1 by simp] at SB2
        have sb0 : 0 ≤ sp := SB.1
        have sb1 : sp ≤ 1508575953687372288 := by omega
        have LFB : lf = -1 ∨ (0 ≤ lf ∧ lf ≤ s) := by
          have := worth_bd hxo
          rcases aftR_cases s x g with ⟨_, h, h'⟩ | ⟨_, h⟩
          · right; rw [← hlf, h]; omega
          · left; rw [← hlf, h]
        clear hx hlf hxo SB SB2
        by_cases hl0 : lf = 0
        · obtain rfl := hl0
          clear LFB
          go_wp2_with fail
          go_quiet ((go_at_call 39; exact Calls.quiet_of_same (hit_q _ _ _ _ LF _ HXO.out (by omega) (by omega) HG.out)))
          go_wp2_with fail
          go_roundw
          case rel => exact ⟨q + 1, sp + 1, by omega, by go_num, rfl, Lib.hid (by rw [SX.out]; simp), ⟨HB.out.os, HB.out.tape, HB.out.output, HB.out.size, HB.out.block⟩⟩
          case measure => simp [intOf]; omega
        · have f0 : (lf == 0) = false := by simp [hl0]
          by_cases hl1 : 0 < lf
          · have f1 : decide (0 < lf) = true := by simp [hl1]
            by_cases hd0 : 0 < d
            · have f2 : decide (0 < (d : Int)) = true := by simp; omega
              obtain ⟨l, rfl⟩ : ∃ n : Nat, lf = n := ⟨lf.toNat, by omega⟩
              have LE0 : Hid (scoreErr bs g d l = 0) := Lib.hid (numOf_out (rulesOk_less HR.out hd0) (by omega) (by omega)).2
              have NB1 := NB.out d (by omega) hd0 l
              obtain ⟨m1, hm1⟩ : ∃ x, numOf bs g d l = x := ⟨_, rfl⟩
              rw [hm1] at NB1
              have HM1 := Lib.hid hm1
              have HL0 := Lib.hid hl0
              clear hm1 hl0 LFB
              go_wp2_with fail
              go_quiet ((go_at_call 39; exact Calls.quiet_of_same (hit_q _ _ _ _ LF _ HXO.out (by omega) (by omega) HG.out)))
              go_wp2_with fail
              refine (rules_any bs g _ _ _ (HV.out.below (bDrew _ _)) HLE.out).mono ?_
              rintro e w6 ⟨v6, rfl, hb6, hv6⟩
              replace hb6 := bThen (bDrew _ _) hb6
              have HV6 := Lib.hid hv6
              clear hv6
              replace x0 := bAt hb6 x0
              replace x1 := bAt hb6 x1
              replace x2 := bAt hb6 x2
              replace y0 := bAt hb6 y0
              replace y1 := bAt hb6 y1
              replace y2 := bAt hb6 y2
              have HB6 := Lib.hid (bThen HB.out hb6)
              clear hb6
              go_wp2_with fail
              refine (number_any bs g d l _ _ HV6.out HI.out).mono ?_
              rintro e w7 ⟨rfl, hb7⟩
              rw [HM1.out, LE0.out]
              replace x0 := bAt hb7 x0
              replace x1 := bAt hb7 x1
              replace x2 := bAt hb7 x2
              replace y0 := bAt hb7 y0
              replace y1 := bAt hb7 y1
              replace y2 := bAt hb7 y2
              have HB7 := Lib.hid (bThen HB6.out hb7)
              clear hb7
              go_wp2_with fail
              go_roundw
              case rel => exact ⟨q + 1, sp + m1, by omega, by go_num, rfl, Lib.hid (by rw [SX.out, if_neg HL0.out, if_pos ⟨hl1, hd0⟩, HM1.out]; omega), HB7.out⟩
              case measure => simp [intOf]; omega
            · have f2 : decide (0 < (d : Int)) = false := by simp; omega
              have HL0 := Lib.hid hl0
              clear hl0 LFB
              go_wp2_with fail
              go_quiet ((go_at_call 39; exact Calls.quiet_of_same (hit_q _ _ _ _ LF _ HXO.out (by omega) (by omega) HG.out)))
              go_wp2_with fail
              go_roundw
              case rel => exact ⟨q + 1, sp, by omega, by go_num, rfl, Lib.hid (by rw [SX.out, if_neg HL0.out, if_neg (fun h => hd0 h.2)]; omega), ⟨HB.out.os, HB.out.tape, HB.out.output, HB.out.size, HB.out.block⟩⟩
              case measure => simp [intOf]; omega
          · have f1 : decide (0 < lf) = false := by simp [hl1]
            have HL0 := Lib.hid hl0
            clear hl0 LFB
            go_wp2_with fail
            go_quiet ((go_at_call 39; exact Calls.quiet_of_same (hit_q _ _ _ _ LF _ HXO.out (by omega) (by omega) HG.out)))
            go_wp2_with fail
            go_roundw
            case rel => exact ⟨q + 1, sp, by omega, by go_num, rfl, Lib.hid (by rw [SX.out, if_neg HL0.out, if_neg (by omega)]; omega), ⟨HB.out.os, HB.out.tape, HB.out.output, HB.out.size, HB.out.block⟩⟩
            case measure => simp [intOf]; omega
      · obtain rfl : q = bs.length := by omega
        have hdec : decide ((bs.length : Int) < (bs.length : Int)) = false := by simp
        obtain rfl : sp = nn := by rw [SP.out, split_all HR.out (by omega) hsb.2, HNN.out]
        go_wp2_with fail
        refine wp_region_seq 16 [.is ?_, .is ?_, .is ?_, .is ?_, kNew, .is ?_, .is ?_, kSl (ints bs), .is ?_, .is ?_, .is (.tuple #[.int .i64 lgn, .int .i64 0]), .is ?_, .is ?_, .is ?_, .is ?_, .is ?_] rfl mix (by kernel_rfl) (by kernel_rfl) ?seqm
        case seqm =>
          simp only [List.take_succ_cons, List.take_zero]
          iterate 4
            refine seq_is rfl (fun w1 hb1 _ => ?_) ?_
            · have z0 := bAt hb1 x0
              have z1 := bAt hb1 x1
              have z2 := bAt hb1 x2
              simp [opOK, go_sem, z1, Below.refl]
              try exact rfl
            simp only [Act.put, List.setIfInBounds_toArray, List.set_cons_succ, List.set_cons_zero]
          refine seq_new ⟨_, 0, rfl⟩ (by rfl) (fun w1 hb1 _ => ?_) ?_
          · simp [opOK, go_sem]
            exact ⟨aB _ _, ⟨_, rfl⟩, trivial⟩
          rintro v86 ⟨b86, rfl⟩
          simp only [Act.put, List.setIfInBounds_toArray, List.set_cons_succ, List.set_cons_zero]
          iterate 2
            refine seq_is rfl (fun w1 hb1 _ => ?_) ?_
            · have z0 := bAt hb1 x0
              have z1 := bAt hb1 x1
              have z2 := bAt hb1 x2
              simp [opOK, go_sem, z0, Below.refl]
              try exact rfl
            simp only [Act.put, List.setIfInBounds_toArray, List.set_cons_succ, List.set_cons_zero]
          refine seq_new ⟨_, 0, 0, rfl⟩ (by rfl) (fun w1 hb1 _ => ?_) ?_
          · obtain ⟨v', W', hrun, ha1, hb⟩ := copy_run (HS.out.below hb1) (by have := HLE.out; omega) b86
            refine opOK_append_run (v1 := .slice (some ⟨b86, 0, none⟩) 0 0) (v2 := .slice a bs.length cap) (.tmp 86) (.tmp 88) 22 rfl rfl rfl hrun ⟨hb, ?_, ha1.sl.mono fun _ _ => trivial⟩
            obtain ⟨b', c', e⟩ := ha1.form
            exact ⟨b', c', e⟩
          rintro v89 ⟨b89, c89, rfl⟩
          simp only [Act.put, List.setIfInBounds_toArray, List.set_cons_succ, List.set_cons_zero, ints_length]
          iterate 2
            refine seq_is rfl (fun w1 hb1 _ => ?_) ?_
            · have z0 := bAt hb1 x0
              have z1 := bAt hb1 x1
              have z2 := bAt hb1 x2
              simp [opOK, go_sem, z2, Below.refl]
              try exact rfl
            simp only [Act.put, List.setIfInBounds_toArray, List.set_cons_succ, List.set_cons_zero]
          refine seq_is rfl (fun w1 hb1 hH => ?_) ?_
          · have hsv : Sl (fun _ => True) w1 (.slice (some ⟨b89, 0, none⟩) bs.length c89) (ints bs) := by
              have := hH ⟨7, .data⟩ (by simp) rfl
              simpa [addH, kSl] using this
            simp [opOK, go_sem]
            exact (legs_any bs s 0 g ((d : Int) + 1) _ _ hsv HI.out).mono fun e w' h => ⟨_, h.1, by rw [HLG.out, LGE.out.1], h.2⟩
          simp only [Act.put, List.setIfInBounds_toArray, List.set_cons_succ, List.set_cons_zero]
          iterate 5
            refine seq_is rfl (fun w1 hb1 _ => ?_) ?_
            · simp [opOK, go_sem, Below.refl]
              try exact rfl
            simp only [Act.put, List.setIfInBounds_toArray, List.set_cons_succ, List.set_cons_zero]
          refine seq_end fun w8 hb8 _ => ?_
          simp only [List.drop_succ_cons, List.drop_zero]
          replace x0 := bAt hb8 x0
          replace y0 := bAt hb8 y0
          replace y1 := bAt hb8 y1
          replace y2 := bAt hb8 y2
          replace HV := Lib.hid (HV.out.below hb8)
          have HB8 := Lib.hid (bThen HB5.out (bThen HB.out hb8))
          clear hb8 x1 x2 HS
          by_cases hd0 : 0 < d
          · have f2 : decide (0 < (d : Int)) = true := by simp; omega
            have LE0 : Hid (scoreErr bs g d s = 0) := Lib.hid (numOf_out (rulesOk_less HR.out hd0) (by omega) hsb.2).2
            obtain ⟨m1, hm1⟩ : ∃ x, numOf bs g d s = x := ⟨_, rfl⟩
            have NB1 := NB.out d (by omega) hd0 s
            rw [hm1] at NB1
            have NB2 := NB.out (d + 1) (by omega) (by omega) s
            rw [show ((d + 1 : Nat) : Int) = (d : Int) + 1 by simp, HNN.out] at NB2
            obtain rfl : lgn = sp - m1 := by rw [LGE.out.2, if_pos hd0, HNN.out, hm1]
            have HM1 := Lib.hid hm1
            clear hm1
            go_wp2_with fail
            refine (number_any bs g d s _ _ HV.out HI.out).mono ?_
            rintro e w9 ⟨rfl, hb9⟩
            rw [HM1.out, LE0.out]
            have HB9 := Lib.hid (bThen HB8.out hb9)
            clear hb9 x0 y0 y1 y2
            trace_state
            go_wp2_with fail
            refine (known_any _).mono ?_
            rintro e w10 ⟨rfl, hb10⟩
            have HB10 := Lib.hid (bThen HB9.out hb10)
            clear hb10
            go_wp2
            go_ret
            exact ⟨rfl, HB10.out⟩
          · have f2 : decide (0 < (d : Int)) = false := by simp; omega
            obtain rfl : lgn = sp := by rw [LGE.out.2, if_neg hd0, HNN.out]; omega
            have NB2 := NB.out (d + 1) (by omega) (by omega) s
            rw [show ((d + 1 : Nat) : Int) = (d : Int) + 1 by simp, HNN.out] at NB2
            clear hwd
            go_wp2_with fail
            refine (known_any _).mono ?_
            rintro e w10 ⟨rfl, hb10⟩
            have HB10 := Lib.hid (bThen HB8.out hb10)
            clear hb10
            go_wp2
            go_ret
            exact ⟨rfl, HB10.out⟩
end Go.Proofs.Ytcnofoopdghjiaa
