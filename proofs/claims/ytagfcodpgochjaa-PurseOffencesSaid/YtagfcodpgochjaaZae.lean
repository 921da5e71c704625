/- The texts Mp, PR, PO, Ent, JSt, JBox, MpN, in build order. -/
import Derived.Test.YtagfcodpgochjaaZad
import Derived.MapKept
import Derived.RangeFuncOwn
import Derived.Laws.AppendOwn
import Derived.Handy
import Derived.Laws.Tables
import Derived.Laws.CopyOwn

/- A map as a list of entries, in the order in which they came; keys of one type that are compared as Lean compares them. -/
namespace Go.Oche
open Go Go.RowKit

/-- Where a key stands among entries. -/
def findL {κ : Type} [DecidableEq κ] (k : κ) : List κ → List MapEntry → Nat → Option (Nat × Value)
  | k' :: ks, e :: es, i => if k' = k then some (i, e.val) else findL k ks es (i + 1)
  | _, _, _ => none
structure KeyEq {κ : Type} [DecidableEq κ] (P : Program) (K : TypeId) (enc : κ → Value) : Prop where
  chk : ∀ (c : Bool) (k : κ) (w : World), (Instr.checkKey c 10000 K (enc k)).run P w = .ok () w
  fnd : ∀ (k : κ) (ks : List κ) (es : List MapEntry) (w : World), es.map (·.key) = ks.map enc → (Instr.findKey K (enc k) es).run P w = .ok (findL k ks es 0) w
  bits : ∀ k : κ, Instr.sameBits 10000 (enc k) (enc k) = true

section
variable {κ : Type} [DecidableEq κ] {P : Program} {K : TypeId} {enc : κ → Value}
theorem KeyEq.of_now {d : TypeDesc} (hd : P.underlying K = some d) (hs : ∀ k k', Instr.sameNow d (enc k) (enc k') = some (decide (k' = k)))
    (chk : ∀ (c : Bool) (k : κ) (w : World), (Instr.checkKey c 10000 K (enc k)).run P w = .ok () w) (bits : ∀ k : κ, Instr.sameBits 10000 (enc k) (enc k) = true) : KeyEq P K enc where
  chk := chk
  bits := bits
  fnd := fun k ks es w h => by
    have key : ∀ (ks : List κ) (es : List MapEntry) (i : Nat), es.map (·.key) = ks.map enc → Instr.findNow d (enc k) es i = some (findL k ks es i) := by
      intro ks
      induction ks with
      | nil =>
        intro es i h
        cases es with
        | nil => rfl
        | cons e es => simp at h
      | cons k' ks ih =>
        intro es i h
        cases es with
        | nil => simp at h
        | cons e es =>
          simp only [List.map_cons, List.cons.injEq] at h
          unfold Instr.findNow findL
          rw [h.1, hs]
          by_cases e' : k' = k
          · simp [e']
          · simp only [e', decide_false, if_false]
            exact ih es (i + 1) h.2
    exact MapKept.run_findKey hd (key ks es 0 h)
theorem KeyEq.of_ask {d : TypeDesc} (hd : P.underlying K = some d) (hs : ∀ a b, Instr.sameNow d a b = none) (he : ∀ k k' w, (Op.equal K (enc k) (enc k')).run P w = .ok (decide (k' = k)) w)
    (chk : ∀ (c : Bool) (k : κ) (w : World), (Instr.checkKey c 10000 K (enc k)).run P w = .ok () w) (bits : ∀ k : κ, Instr.sameBits 10000 (enc k) (enc k) = true) : KeyEq P K enc where
  chk := chk
  bits := bits
  fnd := fun k ks es w h => by
    have key : ∀ (ks : List κ) (es : List MapEntry) (i : Nat), es.map (·.key) = ks.map enc → (Instr.findAsking K (enc k) es i).run P w = .ok (findL k ks es i) w := by
      intro ks
      induction ks with
      | nil =>
        intro es i h
        cases es with
        | nil => rfl
        | cons e es => simp at h
      | cons k' ks ih =>
        intro es i h
        cases es with
        | nil => simp at h
        | cons e es =>
          simp only [List.map_cons, List.cons.injEq] at h
          unfold Instr.findAsking findL
          rw [h.1]
          simp only [Sem.run_bind, he, Result.andThen]
          by_cases e' : k' = k
          · simp [e', Sem.run_pure]
          · simp only [e', decide_false, Bool.false_eq_true, if_false]
            exact ih es (i + 1) h.2
    unfold Instr.findKey
    simp only [Sem.run_bind, run_underlying hd, Result.andThen]
    cases es with
    | nil =>
      cases ks with
      | nil => simp [Instr.findNow, findL]
      | cons k' ks => simp at h
    | cons e es =>
      simp only [Instr.findNow, hs]
      exact key ks (e :: es) 0 h
theorem sameBits_int (q : IntKind) (k : Int) (n : Nat) : Instr.sameBits n (.int q k) (.int q k) = true := by cases n <;> simp [Instr.sameBits]
theorem check_int {q : IntKind} (hk : P.underlying K = some (.int q)) (k : Int) (c : Bool) (w : World) : (Instr.checkKey c 10000 K (.int q k)).run P w = .ok () w := by
  have h : MapKept.IsKey (.int q) (.int q k) := rfl
  exact MapKept.run_checkKey hk h c 9999
theorem KeyEq.int {q : IntKind} (hk : P.underlying K = some (.int q)) : KeyEq P K (Value.int q) :=
  KeyEq.of_now hk (fun k k' => by
    have : (k == k') = decide (k' = k) := by rw [Bool.eq_iff_iff]; simp only [beq_iff_eq, decide_eq_true_eq]; exact eq_comm
    simp [Instr.sameNow, this]) (fun c k w => check_int hk k c w) (fun k => sameBits_int q k 10000)

/-- The entries came one after another. -/
def Born (es : Array MapEntry) (clock : Nat) : Prop := (es.toList.map (·.born)).Pairwise (· < ·) ∧ ∀ e ∈ es.toList, e.born < clock
theorem Born.push {es : Array MapEntry} {clock : Nat} (h : Born es clock) (k v : Value) : Born (es.push { key := k, val := v, born := clock }) (clock + 1) := by
  refine ⟨?_, fun e he => ?_⟩
  · rw [Array.toList_push, List.map_append, List.pairwise_append]
    refine ⟨h.1, by simp, fun x hx y hy => ?_⟩
    obtain ⟨e, he, rfl⟩ := List.mem_map.1 hx
    have := h.2 e he
    simp at hy; omega
  · rw [Array.toList_push] at he
    rcases List.mem_append.1 he with he | he
    · have := h.2 e he; omega
    · simp at he; subst he; simp
theorem born_modify (es : Array MapEntry) (i : Nat) (f : MapEntry → MapEntry) (hf : ∀ e, (f e).born = e.born) : (es.modify i f).toList.map (·.born) = es.toList.map (·.born) := by
  apply List.ext_getElem?
  intro j
  simp only [List.getElem?_map, Array.getElem?_toList, Array.getElem?_modify]
  by_cases hj : i = j
  · subst hj
    cases es[i]? <;> simp [hf]
  · simp [hj]
theorem Born.modify {es : Array MapEntry} {clock : Nat} (h : Born es clock) (i : Nat) (f : MapEntry → MapEntry) (hf : ∀ e, (f e).born = e.born) : Born (es.modify i f) clock := by
  refine ⟨by rw [born_modify es i f hf]; exact h.1, fun e he => ?_⟩
  have hb : e.born ∈ (es.modify i f).toList.map (·.born) := List.mem_map.2 ⟨e, he, rfl⟩
  rw [born_modify es i f hf] at hb
  obtain ⟨e', he', e2⟩ := List.mem_map.1 hb
  rw [← e2]; exact h.2 e' he'
/-- What a map holds. -/
def MapAt {κ : Type} (enc : κ → Value) (W : World) (b : Nat) (L : List (κ × Value)) : Prop :=
  ∃ es clock, W.heap[b]? = some (.map es clock) ∧ es.toList.map (·.key) = L.map (fun p => enc p.1) ∧ es.toList.map (·.val) = L.map (·.2) ∧ Born es clock
def lookM (L : List (κ × Value)) (k : κ) : Option Value := (L.find? fun p => decide (p.1 = k)).map (·.2)
def upd : List (κ × Value) → κ → Value → List (κ × Value)
  | [], k, v => [(k, v)]
  | p :: l, k, v => if p.1 = k then (k, v) :: l else p :: upd l k v
theorem lookM_upd (L : List (κ × Value)) (k k' : κ) (v : Value) : lookM (upd L k v) k' = if k = k' then some v else lookM L k' := by
  induction L with
  | nil =>
    by_cases h : k = k'
    · simp [upd, lookM, h]
    · simp [upd, lookM, h]
  | cons p l ih =>
    unfold upd
    by_cases hp : p.1 = k
    · rw [if_pos hp]
      by_cases h : k = k'
      · simp [lookM, h]
      · simp [lookM, h, hp]
    · rw [if_neg hp]
      by_cases h : p.1 = k'
      · have hk : ¬ k = k' := fun e => hp (h.trans e.symm)
        simp [lookM, h, hk]
      · have e1 : lookM (p :: upd l k v) k' = lookM (upd l k v) k' := by simp [lookM, h]
        have e2 : lookM (p :: l) k' = lookM l k' := by simp [lookM, h]
        rw [e1, ih, e2]
omit [DecidableEq κ] in
theorem MapAt.made (enc : κ → Value) (w : World) : MapAt enc (w.alloc (.map #[] 0)) w.heap.size [] := ⟨#[], 0, World.alloc_heap_new _ _, rfl, rfl, by simp, by simp⟩
omit [DecidableEq κ] in
theorem MapAt.keep {W W' : World} {b : Nat} {L : List (κ × Value)} (h : MapAt enc W b L) (hk : W'.heap[b]? = W.heap[b]?) : MapAt enc W' b L := by
  obtain ⟨es, c, h1, h2⟩ := h; exact ⟨es, c, hk.trans h1, h2⟩
omit [DecidableEq κ] in
theorem MapAt.lt {W : World} {b : Nat} {L : List (κ × Value)} (h : MapAt enc W b L) : b < W.heap.size := by
  obtain ⟨es, c, h1, _⟩ := h; exact (Array.getElem?_eq_some_iff.1 h1).1
omit [DecidableEq κ] in
theorem MapAt.below {W W' : World} {b : Nat} {L : List (κ × Value)} (h : MapAt enc W b L) (hb : Below W.heap.size W W') : MapAt enc W' b L := h.keep (hb.block b h.lt)

theorem findL_lookM (k : κ) : ∀ (L : List (κ × Value)) (es : List MapEntry) (i : Nat), es.map (·.val) = L.map (·.2) → (findL k (L.map (·.1)) es i).map (·.2) = lookM L k
  | [], es, i, h => by cases es <;> rfl
  | p :: L, [], i, h => by simp at h
  | p :: L, e :: es, i, h => by
    simp only [List.map_cons, List.cons.injEq] at h
    rw [List.map_cons, findL]
    by_cases hp : p.1 = k
    · simp [hp, lookM, h.1]
    · have e2 : lookM (p :: L) k = lookM L k := by simp [lookM, hp]
      rw [if_neg hp, e2]
      exact findL_lookM k L es (i + 1) h.2
theorem findL_some {k : κ} : ∀ {ks : List κ} {es : List MapEntry} {i : Nat} {j : Nat} {v : Value}, findL k ks es i = some (j, v) → ∃ q, j = i + q ∧ ks[q]? = some k ∧ q < es.length ∧ ∀ q', q' < q → ks[q']? ≠ some k
  | [], es, i, j, v, h => by cases es <;> simp [findL] at h
  | k' :: ks, [], i, j, v, h => by simp [findL] at h
  | k' :: ks, e :: es, i, j, v, h => by
    unfold findL at h
    by_cases hk : k' = k
    · rw [if_pos hk] at h
      simp only [Option.some.injEq, Prod.mk.injEq] at h
      exact ⟨0, by omega, by simp [hk], by simp, fun q' hq => by omega⟩
    · rw [if_neg hk] at h
      obtain ⟨q, h1, h2, h3, h4⟩ := findL_some h
      refine ⟨q + 1, by omega, by simpa using h2, by simpa using h3, fun q' hq => ?_⟩
      cases q' with
      | zero => simpa using hk
      | succ q' => simpa using h4 q' (by omega)
theorem findL_none {k : κ} : ∀ {ks : List κ} {es : List MapEntry} {i : Nat}, es.length = ks.length → findL k ks es i = none → k ∉ ks
  | [], es, i, _, h => by simp
  | k' :: ks, [], i, hl, h => by simp at hl
  | k' :: ks, e :: es, i, hl, h => by
    unfold findL at h
    by_cases hk : k' = k
    · rw [if_pos hk] at h; cases h
    · rw [if_neg hk] at h
      simp only [List.length_cons, Nat.add_right_cancel_iff] at hl
      have := findL_none hl h
      simp only [List.mem_cons, not_or]
      exact ⟨fun e => hk e.symm, this⟩
theorem upd_at {k : κ} {v : Value} : ∀ {L : List (κ × Value)} {q : Nat}, (L.map (·.1))[q]? = some k → (∀ q', q' < q → (L.map (·.1))[q']? ≠ some k) → upd L k v = L.set q (k, v)
  | [], q, h, _ => by simp at h
  | p :: L, 0, h, _ => by
    simp only [List.map_cons, List.getElem?_cons_zero, Option.some.injEq] at h
    simp [upd, h]
  | p :: L, q + 1, h, hn => by
    have h0 : ¬ p.1 = k := by simpa using hn 0 (by omega)
    rw [upd, if_neg h0, List.set_cons_succ, upd_at (by simpa using h) (fun q' hq => by simpa using hn (q' + 1) (by omega))]
theorem upd_none {k : κ} {v : Value} : ∀ {L : List (κ × Value)}, k ∉ L.map (·.1) → upd L k v = L ++ [(k, v)]
  | [], _ => rfl
  | p :: L, h => by
    simp only [List.map_cons, List.mem_cons, not_or] at h
    unfold upd
    rw [if_neg (fun e => h.1 e.symm), upd_none h.2]; rfl

theorem MapAt.lookup (KE : KeyEq P K enc) {T E : TypeId} (ht : P.underlying T = some (.map K E)) {z : Value} {W : World} (hz : (zeroValue E).run P W = .ok z W) {b : Nat} {L : List (κ × Value)} (h : MapAt enc W b L) (k : κ) (c : Bool) :
    (Instr.lookup T (.map (some b)) (enc k) c).run P W = .ok (if c then .tuple #[(lookM L k).getD z, .bool (lookM L k).isSome] else (lookM L k).getD z) W := by
  obtain ⟨es, clock, h1, h2, h3, h4⟩ := h
  have hf := KE.fnd k (L.map (·.1)) es.toList W (by rw [h2, List.map_map]; rfl)
  have hl := findL_lookM k L es.toList 0 h3
  unfold Instr.lookup
  simp only [Sem.run_bind, run_underlying ht, Result.andThen, MapKept.run_getObj_map h1, KE.chk, Sem.run_pure, hf]
  cases hfl : findL k (L.map (·.1)) es.toList 0 with
  | none =>
    rw [hfl] at hl
    rw [← hl]
    simp only [Option.map_none, Sem.run_bind, hz, Result.andThen, Sem.run_pure, Option.getD_none, Option.isSome_none]
    all_goals (cases c <;> rfl)
  | some r =>
    obtain ⟨i, v⟩ := r
    rw [hfl] at hl
    rw [← hl]
    simp only [Option.map_some, Option.getD_some, Option.isSome_some]
    all_goals (cases c <;> rfl)

theorem MapAt.update (KE : KeyEq P K enc) {T E : TypeId} (ht : P.underlying T = some (.map K E)) {W : World} {b : Nat} {L : List (κ × Value)} (h : MapAt enc W b L) (k : κ) (v : Value) :
    ∃ W', (Instr.mapUpdate T (.map (some b)) (enc k) v).run P W = .ok () W' ∧ MapAt enc W' b (upd L k v) ∧ W.grownBy W' (some b) := by
  obtain ⟨es, clock, h1, h2, h3, h4⟩ := h
  have hlen : es.toList.length = (L.map (·.1)).length := by have := congrArg List.length h3; simpa using this
  have hf := KE.fnd k (L.map (·.1)) es.toList W (by rw [h2, List.map_map]; rfl)
  have hset : ∀ o : Obj, W.grownBy { W with heap := W.heap.setIfInBounds b o } (some b) := fun o => ⟨rfl, rfl, rfl, by simp, fun q _ hq => (MapKept.heap_set (o' := o) h1).2 q (fun e => hq (by rw [e]))⟩
  unfold Instr.mapUpdate
  simp only [Sem.run_bind, run_underlying ht, Result.andThen, MapKept.run_getObj_map h1, KE.chk, hf]
  cases hfl : findL k (L.map (·.1)) es.toList 0 with
  | none =>
    have hn := findL_none hlen hfl
    simp only [MapKept.run_setObj_map _ h1]
    refine ⟨_, rfl, ⟨_, _, (MapKept.heap_set h1).1, ?_, ?_, h4.push _ _⟩, hset _⟩
    · rw [upd_none hn]; simp [h2]
    · rw [upd_none hn]; simp [h3]
  | some r =>
    obtain ⟨i, v0⟩ := r
    obtain ⟨q, rfl, hq, hql, hmin⟩ := findL_some hfl
    rw [Nat.zero_add]
    have hqs : q < es.size := by simpa using hql
    have hke : es[q].key = enc k := by
      have h6 : (es.toList.map (·.key))[q]? = (L.map (fun p => enc p.1))[q]? := by rw [h2]
      have h5 : (L.map (fun p => enc p.1))[q]? = ((L.map (·.1))[q]?).map enc := by simp [Function.comp_def]
      rw [h5, hq] at h6
      simpa [hqs] using h6
    have hst : (Instr.keyThatStays (((es[q]?).map (·.key)).getD (enc k)) (enc k)).run P W = .ok (enc k) W := by
      unfold Instr.keyThatStays
      simp [hqs, hke, KE.bits, Sem.run_pure]
    simp only [Sem.run_bind, hst, Result.andThen, MapKept.run_setObj_map _ h1]
    refine ⟨_, rfl, ⟨_, _, (MapKept.heap_set h1).1, ?_, ?_, h4.modify q _ (fun _ => rfl)⟩, hset _⟩
    · rw [upd_at hq hmin]
      apply List.ext_getElem?
      intro j
      have hj : (es.toList.map (·.key))[j]? = (L.map (fun p => enc p.1))[j]? := by rw [h2]
      simp only [List.getElem?_map, Array.getElem?_toList, Array.getElem?_modify, List.getElem?_set] at hj ⊢
      by_cases hqj : q = j
      · subst hqj
        have hqL : q < L.length := by simpa using (List.getElem?_eq_some_iff.1 hq).1
        simp [hqs, hqL]
      · simp only [if_neg hqj]; exact hj
    · rw [upd_at hq hmin]
      apply List.ext_getElem?
      intro j
      have hj : (es.toList.map (·.val))[j]? = (L.map (·.2))[j]? := by rw [h3]
      simp only [List.getElem?_map, Array.getElem?_toList, Array.getElem?_modify, List.getElem?_set] at hj ⊢
      by_cases hqj : q = j
      · subst hqj
        have hqL : q < L.length := by simpa using (List.getElem?_eq_some_iff.1 hq).1
        simp [hqs, hqL]
      · simp only [if_neg hqj]; exact hj
/-- A map with the stamp of one of its entries. -/
def EntAt {κ : Type} (enc : κ → Value) (W : World) (b : Nat) (L : List (κ × Value)) (k : κ) (st : Nat) : Prop :=
  ∃ (es : Array MapEntry) (clock q : Nat), W.heap[b]? = some (.map es clock) ∧ es.toList.map (·.key) = L.map (fun p => enc p.1) ∧ es.toList.map (·.val) = L.map (·.2) ∧ Born es clock ∧
    (es[q]?).map MapEntry.born = some st ∧ (L.map (·.1))[q]? = some k ∧ ∀ q', q' < q → (L.map (·.1))[q']? ≠ some k
omit [DecidableEq κ] in
theorem EntAt.keep {W W' : World} {b : Nat} {L : List (κ × Value)} {k : κ} {st : Nat} (h : EntAt enc W b L k st) (hk : W'.heap[b]? = W.heap[b]?) : EntAt enc W' b L k st := by
  obtain ⟨es, c, q, h1, h2⟩ := h; exact ⟨es, c, q, hk.trans h1, h2⟩
omit [DecidableEq κ] in
theorem EntAt.map {W : World} {b : Nat} {L : List (κ × Value)} {k : κ} {st : Nat} (h : EntAt enc W b L k st) : MapAt enc W b L := by
  obtain ⟨es, c, q, h1, h2, h3, h4, _⟩ := h; exact ⟨es, c, h1, h2, h3, h4⟩
/-- The entry of a key, made if there is none. -/
def entL (L : List (κ × Value)) (k : κ) (z : Value) : List (κ × Value) := if (lookM L k).isSome then L else L ++ [(k, z)]
theorem lookM_none {L : List (κ × Value)} {k : κ} (h : k ∉ L.map (·.1)) : lookM L k = none := by
  unfold lookM
  rw [Option.map_eq_none_iff, List.find?_eq_none]
  intro p hp e
  exact h (List.mem_map.2 ⟨p, hp, by simpa using e⟩)
theorem upd_entL (L : List (κ × Value)) (k : κ) (z v : Value) : upd (entL L k z) k v = upd L k v := by
  unfold entL
  by_cases h : k ∈ L.map (·.1)
  · have : (lookM L k).isSome = true := by
      obtain ⟨p, hp, e⟩ := List.mem_map.1 h
      unfold lookM
      rw [Option.isSome_map, List.find?_isSome]
      exact ⟨p, hp, by simpa using e⟩
    rw [if_pos this]
  · rw [lookM_none h, if_neg (by simp), upd_none h]
    have key : ∀ L : List (κ × Value), k ∉ L.map (·.1) → upd (L ++ [(k, z)]) k v = L ++ [(k, v)] := by
      intro L
      induction L with
      | nil => intro _; simp [upd]
      | cons p L ih =>
        intro h
        simp only [List.map_cons, List.mem_cons, not_or] at h
        rw [List.cons_append, upd, if_neg (fun e => h.1 e.symm), ih h.2]; rfl
    exact key L h
theorem MapAt.entry (KE : KeyEq P K enc) {T E : TypeId} (ht : P.underlying T = some (.map K E)) {z : Value} {W : World} (hz : (zeroValue E).run P W = .ok z W) {b : Nat} {L : List (κ × Value)} (h : MapAt enc W b L) (k : κ) :
    ∃ W' st, (Instr.mapEntry T (.map (some b)) (enc k)).run P W = .ok (.tuple #[(lookM L k).getD z, .int .i64 (st : Nat)]) W' ∧ EntAt enc W' b (entL L k z) k st ∧ W.grownBy W' (some b) := by
  obtain ⟨es, clock, h1, h2, h3, h4⟩ := h
  have hlen : es.toList.length = (L.map (·.1)).length := by have := congrArg List.length h3; simpa using this
  have hf := KE.fnd k (L.map (·.1)) es.toList W (by rw [h2, List.map_map]; rfl)
  have hl := findL_lookM k L es.toList 0 h3
  have hset : ∀ o : Obj, W.grownBy { W with heap := W.heap.setIfInBounds b o } (some b) := fun o => ⟨rfl, rfl, rfl, by simp, fun q _ hq => (MapKept.heap_set (o' := o) h1).2 q (fun e => hq (by rw [e]))⟩
  unfold Instr.mapEntry
  simp only [Sem.run_bind, run_underlying ht, Result.andThen, MapKept.run_getObj_map h1, KE.chk, hf]
  cases hfl : findL k (L.map (·.1)) es.toList 0 with
  | none =>
    have hn := findL_none hlen hfl
    have hlk := lookM_none hn
    simp only [Sem.run_bind, hz, Result.andThen, MapKept.run_setObj_map _ h1, Sem.run_pure]
    refine ⟨{ W with heap := W.heap.setIfInBounds b (.map (es.push { key := enc k, val := z, born := clock }) (clock + 1)) }, clock, by rw [hlk]; rfl, ⟨_, _, es.size, (MapKept.heap_set h1).1, ?_, ?_, h4.push _ _, by simp, ?_, fun q' hq' => ?_⟩, hset _⟩
    · rw [entL, hlk, if_neg (by simp)]; simp [h2]
    · rw [entL, hlk, if_neg (by simp)]; simp [h3]
    · rw [entL, hlk, if_neg (by simp), List.map_append, List.getElem?_append_right (by rw [← hlen]; simp)]
      rw [← hlen]; simp
    · rw [entL, hlk, if_neg (by simp), List.map_append, List.getElem?_append_left (by rw [← hlen]; simpa using hq')]
      intro e
      exact hn (List.mem_of_getElem? e)
  | some r =>
    obtain ⟨i, v0⟩ := r
    obtain ⟨q, rfl, hq, hql, hmin⟩ := findL_some hfl
    rw [Nat.zero_add]
    have hqs : q < es.size := by simpa using hql
    have hke : es[q].key = enc k := by
      have h6 : (es.toList.map (·.key))[q]? = (L.map (fun p => enc p.1))[q]? := by rw [h2]
      have h5 : (L.map (fun p => enc p.1))[q]? = ((L.map (·.1))[q]?).map enc := by simp [Function.comp_def]
      rw [h5, hq] at h6
      simpa [hqs] using h6
    have hst : (Instr.keyThatStays (((es[q]?).map (·.key)).getD (enc k)) (enc k)).run P W = .ok (enc k) W := by
      unfold Instr.keyThatStays
      simp [hqs, hke, KE.bits, Sem.run_pure]
    rw [hfl] at hl
    have hlk : lookM L k = some v0 := by rw [← hl]; rfl
    have hent : entL L k z = L := by rw [entL, hlk]; rfl
    simp only [Sem.run_bind, hst, Result.andThen, MapKept.run_setObj_map _ h1, Sem.run_pure]
    refine ⟨{ W with heap := W.heap.setIfInBounds b (.map (es.modify q fun e => { e with key := enc k }) clock) }, es[q].born, by rw [hlk]; simp [hqs, goInt], ⟨_, _, q, (MapKept.heap_set h1).1, ?_, ?_, h4.modify q _ (fun _ => rfl), by simp [hqs, Array.getElem_modify], by rw [hent]; exact hq, by rw [hent]; exact hmin⟩, hset _⟩
    · rw [hent, ← h2]
      apply List.ext_getElem?
      intro j
      simp only [List.getElem?_map, Array.getElem?_toList, Array.getElem?_modify]
      by_cases hqj : q = j
      · subst hqj
        simp [hqs, hke]
      · simp [hqj]
    · rw [hent, ← h3]
      apply List.ext_getElem?
      intro j
      simp only [List.getElem?_map, Array.getElem?_toList, Array.getElem?_modify]
      by_cases hqj : q = j
      · subst hqj
        simp [hqs]
      · simp [hqj]
theorem EntAt.store {W : World} {T b : Nat} {L : List (κ × Value)} {k : κ} {st : Nat} (h : EntAt enc W b L k st) (v : Value) :
    ∃ W', (Instr.entryStore T (.map (some b)) (.int .i64 (st : Nat)) v).run P W = .ok () W' ∧ MapAt enc W' b (upd L k v) ∧ W.grownBy W' (some b) := by
  obtain ⟨es, clock, q, h1, h2, h3, h4, h5, hq, hmin⟩ := h
  have hset : ∀ o : Obj, W.grownBy { W with heap := W.heap.setIfInBounds b o } (some b) := fun o => ⟨rfl, rfl, rfl, by simp, fun q _ hq => (MapKept.heap_set (o' := o) h1).2 q (fun e => hq (by rw [e]))⟩
  obtain ⟨e, he, heb⟩ := Option.map_eq_some_iff.1 h5
  have hqs : q < es.size := (Array.getElem?_eq_some_iff.1 he).1
  have hfi : es.findIdx? (fun e => (e.born : Int) == (st : Int)) = some q := by
    rw [Array.findIdx?_eq_some_iff_getElem]
    refine ⟨hqs, ?_, fun j hj => ?_⟩
    · have : es[q] = e := by simpa [hqs] using he
      simp [this, heb]
    · have hp := List.pairwise_iff_getElem.1 h4.1 j q (by simp; omega) (by simpa using hqs) hj
      have e1 : es[q] = e := by simpa [hqs] using he
      simp only [List.getElem_map, Array.getElem_toList, e1, heb] at hp
      simp; omega
  unfold Instr.entryStore
  simp only [Sem.run_bind, MapKept.run_getObj_map h1, Result.andThen, asInt, asIntOf, Sem.run_pure, hfi, MapKept.run_setObj_map _ h1]
  refine ⟨{ W with heap := W.heap.setIfInBounds b (.map (es.modify q fun e => { e with val := v }) clock) }, rfl, ⟨_, _, (MapKept.heap_set h1).1, ?_, ?_, h4.modify q _ (fun _ => rfl)⟩, hset _⟩
  · rw [upd_at hq hmin]
    apply List.ext_getElem?
    intro j
    have hj : (es.toList.map (·.key))[j]? = (L.map (fun p => enc p.1))[j]? := by rw [h2]
    simp only [List.getElem?_map, Array.getElem?_toList, Array.getElem?_modify, List.getElem?_set] at hj ⊢
    by_cases hqj : q = j
    · subst hqj
      have hqL : q < L.length := by simpa using (List.getElem?_eq_some_iff.1 hq).1
      have hk2 : (L[q]?).map (·.1) = some k := by simpa using hq
      simp only [List.getElem?_eq_getElem hqL, Option.map_some, Option.some.injEq] at hk2 hj
      rw [hk2] at hj
      simpa [hqs, hqL] using hj
    · simp only [if_neg hqj]; exact hj
  · rw [upd_at hq hmin]
    apply List.ext_getElem?
    intro j
    have hj : (es.toList.map (·.val))[j]? = (L.map (·.2))[j]? := by rw [h3]
    simp only [List.getElem?_map, Array.getElem?_toList, Array.getElem?_modify, List.getElem?_set] at hj ⊢
    by_cases hqj : q = j
    · subst hqj
      have hqL : q < L.length := by simpa using (List.getElem?_eq_some_iff.1 hq).1
      simp [hqs, hqL]
    · simp only [if_neg hqj]; exact hj
end
end Go.Oche

/- Chapter 12: prizes: a group is checked. -/
namespace Go.Proofs.Ytagfcodpgochjaa
open Go.RowKit Go.Oche Go.Proofs

theorem int_key : KeyEq Try.prog 3 (Value.int .i64) := KeyEq.int (q := .i64) Try.underlying3
theorem zero_bool (w : World) : (zeroValue 4).run Try.prog w = .ok (.bool false) w := by kernel_rfl
theorem zero_i (w : World) : (zeroValue 3).run Try.prog w = .ok (.int .i64 0) w := by kernel_rfl
structure FundAt (W : World) (P : Nat) (money : Int) (sv : Value) (M pl : Nat) : Prop where
  blk : W.heap[P]? = some (.cells #[.int .i64 money, sv, .map (some M), .int .i64 pl] 86 (0, 0))
theorem FundAt.lt {W : World} {P M pl : Nat} {money : Int} {sv : Value} (h : FundAt W P money sv M pl) : P < W.heap.size := (Array.getElem?_eq_some_iff.1 h.blk).1
theorem FundAt.keep {W W' : World} {P M pl : Nat} {money : Int} {sv : Value} (h : FundAt W P money sv M pl) (hk : W'.heap[P]? = W.heap[P]?) : FundAt W' P money sv M pl := ⟨hk.trans h.blk⟩
theorem FundAt.below {W W' : World} {P M pl : Nat} {money : Int} {sv : Value} (h : FundAt W P money sv M pl) (hb : Below W.heap.size W W') : FundAt W' P money sv M pl := h.keep (hb.block P h.lt)
/-- Which players have a prize. -/
def Keys (L : List (Int × Value)) (tk : List Int) : Prop := ∀ p, (lookM L p).isSome = decide (p ∈ tk)
def chkErr (players : Int) (tk g : List Int) : Int := if g = [] then 4 else grpErr players tk g
theorem in_take {g : List Int} {k : Nat} (h : k < g.length) (x : Int) : x ∈ g.take (k + 1) ↔ x = g[k] ∨ x ∈ g.take k := by
  rw [List.take_succ_eq_append_getElem h, List.mem_append, List.mem_singleton]; exact or_comm

set_option maxRecDepth 100000 in
set_option maxHeartbeats 4000000 in
theorem check_any {S : Nat → Prop} (players money : Int) (sv : Value) (P M pl : Nat) (tk g : List Int) (L : List (Int × Value)) (v : Value) (w : World) (hF : FundAt w P money sv M pl) (hM : MapAt (Value.int .i64) w M L) (hK : Keys L tk)
    (hs : Sl S w v (ints g)) (hp : 1 ≤ players ∧ players ≤ 60) :
    Calls Try.prog 32 #[.pointer (some ⟨P, 0, none⟩), .int .i64 players, v] w fun e w' => e = .returned (.int .i64 (chkErr players tk g)) ∧ Below w.heap.size w w' := by
  obtain ⟨a, cap, rfl, h2, h3⟩ := hs.form
  simp only [ints_length] at *
  unfold maxLen at h3
  obtain ⟨er, her⟩ : ∃ x, chkErr players tk g = x := ⟨_, rfl⟩
  rw [her]
  have HER := Lib.hid her
  have HS := Lib.hid hs
  clear her hs
  by_cases h0 : g.length = 0
  · have e1 : ((g.length : Int) == 0) = true := by simp [h0]
    have e1n : (g.length == 0) = true := by simp [h0]
    have e4 : er = 4 := by rw [← HER.out, chkErr, if_pos (List.eq_nil_of_length_eq_zero h0)]
    clear h0 HER
    subst e4
    go_enter Try.func32, Try.ntmps32
    go_wp2
    go_ret
    exact ⟨rfl, Below.refl _ _⟩
  · have e1 : ((g.length : Int) == 0) = false := beq_eq_false_iff_ne.2 (by omega)
    have e1n : (g.length == 0) = false := beq_eq_false_iff_ne.2 (by omega)
    have e4 : er = grpErr players tk g := by rw [← HER.out, chkErr, if_neg (fun e => h0 (by rw [e]; rfl))]
    have E4 := Lib.hid e4
    clear h0 HER e4
    have hmm := @run_makeMap Try.prog
    have HFF := Lib.hid hF
    have HMM := Lib.hid hM
    have HKK := Lib.hid hK
    clear hF hM hK
    obtain ⟨w1, hw1⟩ : ∃ w1, w.alloc (.map #[] 0) = w1 := ⟨_, rfl⟩
    have hb1 : Below w.heap.size w w1 := by rw [← hw1]; exact aB _ _
    have hN1 : MapAt (Value.int .i64) w1 w.heap.size [] := by rw [← hw1]; exact MapAt.made _ _
    have HN1 := Lib.hid hN1
    have HW1 := Lib.hid hw1
    clear hN1 hw1
    go_enter Try.func32, Try.ntmps32
    go_wp2_with fail
    rw [HW1.out]
    clear e1 e1n hmm
    go_loopw [18] (fun i wr => ∃ (k : Nat), k ≤ g.length ∧ i = .int .i64 k ∧ Hid (er = grpErr players (tk ++ g.take k) (g.drop k)) ∧ Hid (∃ L', MapAt (Value.int .i64) wr w.heap.size L' ∧ ∀ p, (lookM L' p).getD (.bool false) = .bool (decide (p ∈ g.take k))) ∧ Below w.heap.size w wr) (fun i _ => g.length - (intOf i).toNat)
    case atStart => exact ⟨0, by omega, rfl, Lib.hid (by rw [E4.out]; simp), Lib.hid ⟨[], HN1.out, fun p => by simp [lookM]⟩, hb1⟩
    case round =>
      obtain ⟨k, hk, rfl, HE, HN, hb⟩ := hrel
      obtain ⟨wo, rfl⟩ : ∃ wo : World, wo = wr := ⟨_, rfl⟩
      clear hb1
      by_cases hlt : k < g.length
      · obtain ⟨b, off, hal, _, hc⟩ := (HS.out.below hb).cell hlt
        cases hal
        obtain ⟨x, hx⟩ : ∃ x, g[k] = x := ⟨_, rfl⟩
        rw [hx] at hc
        obtain ⟨c1, hc1⟩ : ∃ c, isIn x 0 (players - 1) = c := ⟨_, rfl⟩
        obtain ⟨t1, ht1⟩ : ∃ t, decide (x ∈ tk) = t := ⟨_, rfl⟩
        obtain ⟨t2, ht2⟩ : ∃ t, decide (x ∈ g.take k) = t := ⟨_, rfl⟩
        have HX := Lib.hid hx
        have HE2 : Hid (er = if c1 = false then 7 else if (t1 || t2) = true then 6 else grpErr players (tk ++ g.take (k + 1)) (g.drop (k + 1))) := Lib.hid (by
          rw [HE.out, List.drop_eq_getElem_cons hlt, grpErr, hx, hc1]
          have : (x ∈ tk ++ g.take k) ↔ (t1 || t2) = true := by rw [← ht1, ← ht2]; simp
          simp only [this]
          rw [List.take_succ_eq_append_getElem hlt, hx, List.append_assoc])
        have C1 := Lib.hid hc1
        have T2 := Lib.hid ht2
        have hF := HFF.out.below hb
        have f2 : wo.cell? ⟨P, 2, none⟩ = some (.map (some M)) := by rw [cell_of_heap hF.blk]; rfl
        have hlk := MapAt.lookup int_key (T := 84) (E := 3) (by rfl) (zero_i wo) (HMM.out.below hb) x true
        rw [HKK.out x, ht1] at hlk
        obtain ⟨y, hy⟩ : ∃ y, (lookM L x).getD (.int .i64 0) = y := ⟨_, rfl⟩
        rw [hy] at hlk
        simp only [if_true] at hlk
        have HB := Lib.hid hb
        clear hx hc1 ht1 ht2 hF hb hy HE
        go_wp2_with fail
        refine (within_one' 0 _ x c1 C1 _ _ (Sl.new1 (fun _ => True) wo trivial 3 (.int .i64 x))).mono ?_
        rintro e w2 ⟨rfl, hb2⟩
        replace hb2 := bThen (aB wo _) hb2
        have HB2 := Lib.hid (bThen HB.out hb2)
        have HN2 : Hid (∃ L', MapAt (Value.int .i64) w2 w.heap.size L' ∧ ∀ p, (lookM L' p).getD (.bool false) = .bool (decide (p ∈ g.take k))) := Lib.hid (let ⟨L', h1, h2⟩ := HN.out; ⟨L', h1.below hb2, h2⟩)
        clear hb2 hc f2 hlk HN
        cases c1
        · have e7 : er = 7 := HE2.out
          clear HE2 E4
          subst e7
          go_wp2
          go_ret
          exact ⟨rfl, HB2.out⟩
        · obtain ⟨L', hL', hlk⟩ := HN2.out
          have hlk2 := MapAt.lookup int_key (T := 125) (E := 4) (by rfl) (zero_bool w2) hL' x false
          rw [hlk x, T2.out] at hlk2
          simp only [Bool.false_eq_true, if_false] at hlk2
          obtain ⟨w3, hup, hL3, hg3⟩ := MapAt.update int_key (T := 125) (E := 4) (by rfl) hL' x (.bool true)
          have HLK := Lib.hid hlk
          have HL3 := Lib.hid hL3
          have HG3 := Lib.hid hg3
          have HE3 : Hid (er = if (t1 || t2) = true then 6 else grpErr players (tk ++ g.take (k + 1)) (g.drop (k + 1))) := Lib.hid (by have := HE2.out; simpa using this)
          clear hlk hL' hL3 hg3 HE2
          cases t1
          · cases t2
            · have e8 : er = grpErr players (tk ++ g.take (k + 1)) (g.drop (k + 1)) := HE3.out
              have HE8 := Lib.hid e8
              clear e8 HE3
              go_wp2_with fail
              go_roundw
              case rel => exact ⟨k + 1, by omega, by go_num, HE8, Lib.hid ⟨_, HL3.out, fun p => by
                rw [lookM_upd]
                by_cases e : x = p
                · subst e; rw [if_pos rfl, decide_eq_true ((in_take hlt _).2 (.inl HX.out.symm))]; rfl
                · rw [if_neg e, HLK.out p]
                  congr 1
                  rw [Bool.eq_iff_iff]
                  simp only [decide_eq_true_eq, in_take hlt, HX.out]
                  exact ⟨.inr, fun h => h.resolve_left fun h => e h.symm⟩⟩, HB2.out.trans (below_grownBy HG3.out HB2.out.size fun q hq => by cases hq; exact Nat.le_refl _)⟩
              case measure => simp [intOf]; omega
            · have e8 : er = 6 := HE3.out
              clear HE3 E4
              subst e8
              go_wp2_with fail
              go_ret
              exact ⟨rfl, HB2.out⟩
          · have e8 : er = 6 := HE3.out
            clear HE3 E4
            subst e8
            go_wp2_with fail
            go_ret
            exact ⟨rfl, HB2.out⟩
      · obtain rfl : k = g.length := by omega
        have e0 : er = 0 := by rw [HE.out]; simp [grpErr]
        clear HE
        subst e0
        go_wp2
        go_ret
        exact ⟨rfl, hb⟩
end Go.Proofs.Ytagfcodpgochjaa

/- Chapter 12, posting, in plain Lean. Moves are (Number, From, To, Amount); receipts in the order in which they came, each with the place of its first move. -/
namespace Go.Proofs.Ytagfcodpgochjaa
open Go.RowKit Go.Oche Go.Proofs

abbrev Mv := Int × Int × Int × Int
def mvV (m : Mv) : Value := .agg #[.int .i64 m.1, .int .i64 m.2.1, .int .i64 m.2.2.1, .int .i64 m.2.2.2]
def mvRow (m : Mv) : List Value := [.int .i64 m.1, .int .i64 m.2.1, .int .i64 m.2.2.1, .int .i64 m.2.2.2]
def moveErr (n : Int) (x : Mv) : Int :=
  if isIn x.1 0 1000000 = false then 2 else if (isIn x.2.1 0 (n - 1) && isIn x.2.2.1 0 (n - 1)) = false then 7 else if x.2.1 = x.2.2.1 then 6 else if isIn x.2.2.2 1 1000000000 = false then 3 else 0
abbrev Rec := List (Mv × Nat)
/-- The receipt of a number. -/
def numE (E : Rec) (k : Int) : Option (Mv × Nat) := E.find? fun e => decide (e.1.1 = k)
def recL (E : Rec) : List (Int × Value) := E.map fun e => (e.1.1, mvV e.1)
def firL (E : Rec) : List (Int × Value) := E.map fun e => (e.1.1, .int .i64 e.2)
theorem lookM_map {α : Type} (f : α → Int) (g : α → Value) (k : Int) : ∀ E : List α, lookM (E.map fun e => (f e, g e)) k = (E.find? fun e => decide (f e = k)).map g
  | [] => rfl
  | e :: E => by
    have ih := lookM_map f g k E
    unfold lookM at ih ⊢
    rw [List.map_cons, List.find?_cons, List.find?_cons]
    by_cases h : f e = k
    · simp [h]
    · simp only [h, decide_false]; exact ih
theorem look_rec (E : Rec) (k : Int) : lookM (recL E) k = (numE E k).map fun e => mvV e.1 := lookM_map _ _ k E
theorem look_fir (E : Rec) (k : Int) : lookM (firL E) k = (numE E k).map fun e => .int .i64 e.2 := lookM_map _ _ k E
theorem numE_none {E : Rec} {k : Int} (h : numE E k = none) : k ∉ E.map (·.1.1) := fun hm => by
  obtain ⟨e, he, rfl⟩ := List.mem_map.1 hm
  have := List.find?_eq_none.1 h e he
  simp at this
theorem numE_some {E : Rec} {k : Int} {y : Mv × Nat} (h : numE E k = some y) : y ∈ E ∧ y.1.1 = k := ⟨List.mem_of_find?_eq_some h, by simpa using List.find?_some h⟩
theorem upd_rec {E : Rec} {x : Mv} {k : Nat} (h : numE E x.1 = none) : upd (recL E) x.1 (mvV x) = recL (E ++ [(x, k)]) := by
  rw [upd_none (by have := numE_none h; simpa [recL, Function.comp_def] using this)]; simp [recL]
theorem upd_fir {E : Rec} {x : Mv} {k : Nat} (h : numE E x.1 = none) : upd (firL E) x.1 (.int .i64 k) = firL (E ++ [(x, k)]) := by
  rw [upd_none (by have := numE_none h; simpa [firL, Function.comp_def] using this)]; simp [firL]
def enterErr (n : Int) (E : Rec) (x : Mv) : Int :=
  if moveErr n x ≠ 0 then moveErr n x else match numE E x.1 with
    | none => 0
    | some y => if y.1 = x then 0 else 4
def enterE (E : Rec) (k : Nat) (x : Mv) : Rec := if (numE E x.1).isSome then E else E ++ [(x, k)]
/-- The moves are entered, from place k on: the first that is refused, and its error; or the receipts. -/
def scanMv (n : Int) : List Mv → Nat → Rec → Except (Nat × Int) Rec
  | [], _, E => .ok E
  | x :: l, k, E => if enterErr n E x = 0 then scanMv n l (k + 1) (enterE E k x) else .error (k, enterErr n E x)
/-- The receipts are of different numbers, and their moves valid by themselves. -/
structure RecOk (n : Int) (E : Rec) : Prop where
  nodup : (E.map (·.1.1)).Nodup
  valid : ∀ e ∈ E, moveErr n e.1 = 0
theorem RecOk.nil (n : Int) : RecOk n [] := ⟨by simp, by simp⟩
theorem RecOk.enter {n : Int} {E : Rec} {x : Mv} {k : Nat} (h : RecOk n E) (he : enterErr n E x = 0) : RecOk n (enterE E k x) := by
  have hm : moveErr n x = 0 := by
    unfold enterErr at he
    by_cases hx : moveErr n x ≠ 0
    · rw [if_pos hx] at he; exact absurd he hx
    · exact Decidable.not_not.1 hx
  unfold enterE
  cases hq : numE E x.1 with
  | some y => exact h
  | none =>
    refine ⟨?_, fun e h' => ?_⟩
    · simp only [Option.isSome_none, Bool.false_eq_true, if_false, List.map_append, List.map_cons, List.map_nil]
      refine List.nodup_append.2 ⟨h.nodup, by simp, fun a ha b hb => ?_⟩
      simp at hb
      subst hb
      exact fun e => numE_none hq (e ▸ ha)
    · simp only [Option.isSome_none, Bool.false_eq_true, if_false, List.mem_append, List.mem_singleton] at h'
      rcases h' with h' | rfl
      · exact h.valid e h'
      · exact hm
/-- A move's bounds. -/
theorem moveErr_zero {n : Int} {x : Mv} (h : moveErr n x = 0) : (0 ≤ x.1 ∧ x.1 ≤ 1000000) ∧ (0 ≤ x.2.1 ∧ x.2.1 < n) ∧ (0 ≤ x.2.2.1 ∧ x.2.2.1 < n) ∧ x.2.1 ≠ x.2.2.1 ∧ 1 ≤ x.2.2.2 ∧ x.2.2.2 ≤ 1000000000 := by
  unfold moveErr at h
  split at h
  · cases h
  · split at h
    · cases h
    · split at h
      · cases h
      · split at h
        · cases h
        · simp [isIn] at *
          omega
/-- The receipts in ascending order of their numbers. -/
def sortE (E : Rec) : Rec := ((E.map (·.1.1)).mergeSort fun a b => decide (a ≤ b)).map fun k => (numE E k).getD ((0, 0, 0, 0), 0)
/-- What accounts have after receipts, or the place of the move with an error. -/
def runMv (credit : List Int) : List Int → Rec → List Int × Int × Int
  | has, [] => (has, 0, 0)
  | has, (x, i) :: l =>
    let h := mvL has x.2.1.toNat x.2.2.1.toNat x.2.2.2
    if h.getD x.2.1.toNat 0 < -(credit.getD x.2.1.toNat 0) then ([], i, 9)
    else if 1000000000 < h.getD x.2.2.1.toNat 0 then ([], i, 8)
    else runMv credit h l
def postRes (op cr : List Int) (l : List Mv) : List Int × Int × Int :=
  if bookOk op cr = false then ([], 0, 2) else if 1000 < l.length then ([], 0, 5) else match scanMv op.length l 0 [] with
    | .error (k, e) => ([], k, e)
    | .ok E => runMv cr op (sortE E)
/-- The ledger: the book's two slices, the moves by number, their places by number. -/
structure LedAt (W : World) (l M1 M2 : Nat) (va vb : Value) (E : Rec) : Prop where
  box : W.heap[l]? = some (.cells #[va, vb, .map (some M1), .map (some M2)] 104 (0, 0))
  mv : MapAt (Value.int .i64) W M1 (recL E)
  at_ : MapAt (Value.int .i64) W M2 (firL E)
  ne : M1 ≠ M2
theorem LedAt.below {W W' : World} {l M1 M2 : Nat} {va vb : Value} {E : Rec} (h : LedAt W l M1 M2 va vb E) (hb : Below W.heap.size W W') : LedAt W' l M1 M2 va vb E :=
  ⟨(hb.block l (Array.getElem?_eq_some_iff.1 h.box).1).trans h.box, h.mv.below hb, h.at_.below hb, h.ne⟩
theorem LedAt.keep {W W' : World} {l M1 M2 : Nat} {va vb : Value} {E : Rec} (h : LedAt W l M1 M2 va vb E) (h1 : W'.heap[l]? = W.heap[l]?) (h2 : W'.heap[M1]? = W.heap[M1]?) (h3 : W'.heap[M2]? = W.heap[M2]?) : LedAt W' l M1 M2 va vb E :=
  ⟨h1.trans h.box, h.mv.keep h2, h.at_.keep h3, h.ne⟩
theorem LedAt.diff {W : World} {l M1 M2 : Nat} {va vb : Value} {E : Rec} (h : LedAt W l M1 M2 va vb E) : l ≠ M1 ∧ l ≠ M2 := by
  obtain ⟨es, c, h1, _⟩ := h.mv
  obtain ⟨es', c', h2, _⟩ := h.at_
  have hb := h.box
  refine ⟨fun e => ?_, fun e => ?_⟩
  · rw [e, h1] at hb; cases hb
  · rw [e, h2] at hb; cases hb
end Go.Proofs.Ytagfcodpgochjaa

/- m[k] += v in a region that draws its order: the entry may be made before the lookup. -/
namespace Go.Oche
open Go Go.RowKit

theorem opOK_skip {P : Program} {o : Oper} {a : Act} {w w' : World} {R : Value → World → Prop} (hr : (execOp a.eval o).run P w = .ok .skip w') (h : R undef w') : opOK P o a w R := by unfold opOK; rw [hr]; exact h
section
variable {κ : Type} [DecidableEq κ] {P : Program} {K : TypeId} {enc : κ → Value}
theorem lookM_append_new {L : List (κ × Value)} {k : κ} {z : Value} (h : lookM L k = none) : lookM (L ++ [(k, z)]) k = some z := by
  unfold lookM at h ⊢
  rw [Option.map_eq_none_iff] at h
  rw [List.find?_append, h]; simp
theorem lookM_entL (L : List (κ × Value)) (k : κ) (z : Value) : (lookM (entL L k z) k).getD z = (lookM L k).getD z := by
  unfold entL
  cases h : lookM L k with
  | none => rw [if_neg (by simp), lookM_append_new h]; rfl
  | some v => rw [if_pos (by rfl), h]
/-- While operations 0 .. 5 of m[k] += c are under way: number 4 makes the entry, number 5 is its stamp. -/
structure JE (enc : κ → Value) (w : World) (M : Nat) (L : List (κ × Value)) (k : κ) (z : Value) (e s : Nat) (S : Nat → Bool) (W : World) : Prop where
  grown : w.grownBy W (some M)
  off : S e = false → MapAt enc W M L ∧ S s = false
  on : S e = true → ∃ st, EntAt enc W M (entL L k z) k st
variable {w W : World} {M : Nat} {L : List (κ × Value)} {k : κ} {z : Value} {e s : Nat} {S : Nat → Bool}
theorem JE.start (h : MapAt enc w M L) : JE enc w M L k z e s (fun _ => false) w.drew :=
  ⟨⟨rfl, rfl, rfl, Nat.le_refl _, fun _ _ _ => rfl⟩, fun _ => ⟨h.keep rfl, rfl⟩, fun h => by cases h⟩
theorem JE.look (h : JE enc w M L k z e s S W) : ∃ L', MapAt enc W M L' ∧ (lookM L' k).getD z = (lookM L k).getD z := by
  cases he : S e with
  | false => exact ⟨L, (h.off he).1, rfl⟩
  | true => obtain ⟨st, h1⟩ := h.on he; exact ⟨_, h1.map, lookM_entL L k z⟩
/-- An operation that leaves the world as it was. -/
theorem JE.read (h : JE enc w M L k z e s S W) {i : Nat} (hi : i ≠ e) (hs : i = s → S e = true) : JE enc w M L k z e s (setB S i) W := by
  refine ⟨h.grown, fun h' => ?_, fun h' => ?_⟩
  · unfold setB at h' ⊢
    rw [if_neg (fun q => hi q.symm)] at h'
    have := h.off h'
    refine ⟨this.1, ?_⟩
    split
    · rename_i q
      have := hs q.symm
      rw [h'] at this; cases this
    · exact this.2
  · unfold setB at h'
    rw [if_neg (fun q => hi q.symm)] at h'
    exact h.on h'
theorem JE.made (h : JE enc w M L k z e s S W) {W' : World} {st : Nat} (hg : W.grownBy W' (some M)) (h2 : EntAt enc W' M (entL L k z) k st) : JE enc w M L k z e s (setB S e) W' :=
  ⟨grownBy_trans h.grown hg, fun h' => by simp [setB] at h', fun _ => ⟨st, h2⟩⟩
end
end Go.Oche

/- A region that draws its order, with one store among operations that only read. -/
namespace Go.Oche
open Go Go.RowKit
/-- Operation st is the store: A before it, B behind it; those of rd read ahead of it. -/
structure JSt (st : Nat) (rd : List Nat) (A B : World → Prop) (L : Nat → Bool) (W : World) : Prop where
  off : L st = false → A W
  on : L st = true → B W
  rds : L st = true → ∀ i ∈ rd, L i = true
section
variable {st : Nat} {rd : List Nat} {A B : World → Prop} {L : Nat → Bool} {W W' : World}
theorem JSt.start (h : A W) : JSt st rd A B (fun _ => false) W := ⟨fun _ => h, fun h => by (cases h), fun h => by (cases h)⟩
theorem JSt.read (h : JSt st rd A B L W) {i : Nat} (hi : i ≠ st) : JSt st rd A B (setB L i) W := by
  have e : setB L i st = L st := by unfold setB; rw [if_neg (fun e => hi e.symm)]
  refine ⟨fun h' => h.off (by rwa [e] at h'), fun h' => h.on (by rwa [e] at h'), fun h' j hj => ?_⟩
  rw [e] at h'
  unfold setB
  split
  · rfl
  · exact h.rds h' j hj
theorem JSt.look (h : JSt st rd A B L W) {i : Nat} (hi : i ∈ rd) (hL : L i = false) : A W := by
  refine h.off ?_
  cases hs : L st with
  | false => rfl
  | true => rw [h.rds hs i hi] at hL; cases hL
theorem JSt.write (h : ∀ i ∈ rd, L i = true) (hB : B W') : JSt st rd A B (setB L st) W' := by
  refine ⟨fun h' => by simp [setB] at h', fun _ => hB, fun _ j hj => ?_⟩
  unfold setB
  split
  · rfl
  · exact h j hj
end
end Go.Oche

/- A region that draws its order, with one new block and one store into it, among operations that only read: the block's place is known ahead. -/
namespace Go.Oche
open Go Go.RowKit
structure JBox (w0 : World) (ia ist : Nat) (t : TypeId) (z c : Array Value) (L : Nat → Bool) (W : World) : Prop where
  below : Below w0.heap.size w0 W
  off : L ia = false → W.heap.size = w0.heap.size ∧ L ist = false
  on : L ia = true → L ist = false → W.heap[w0.heap.size]? = some (.cells z t (0, 0))
  st : L ist = true → W.heap[w0.heap.size]? = some (.cells c t (0, 0))
section
variable {w0 W : World} {ia ist : Nat} {t : TypeId} {z c : Array Value} {L : Nat → Bool}
theorem setB_ne {i j : Nat} (h : j ≠ i) : setB L i j = L j := by unfold setB; rw [if_neg h]
theorem setB_eq {i : Nat} : setB L i i = true := by unfold setB; rw [if_pos rfl]
theorem JBox.start : JBox w0 ia ist t z c (fun _ => false) w0.drew := ⟨⟨rfl, rfl, rfl, Nat.le_refl _, fun _ _ => rfl⟩, fun _ => ⟨rfl, rfl⟩, fun h => (by cases h), fun h => (by cases h)⟩
theorem JBox.read (h : JBox w0 ia ist t z c L W) {i : Nat} (h1 : ia ≠ i) (h2 : ist ≠ i) : JBox w0 ia ist t z c (setB L i) W := by
  refine ⟨h.below, ?_, ?_, ?_⟩ <;> rw [setB_ne h2] <;> try rw [setB_ne h1]
  · exact h.off
  · exact h.on
  · exact h.st
theorem JBox.alloc (h : JBox w0 ia ist t z c L W) (hL : L ia = false) (hne : ist ≠ ia) : JBox w0 ia ist t z c (setB L ia) (W.alloc (.cells z t)) ∧ W.heap.size = w0.heap.size := by
  obtain ⟨hs, hst⟩ := h.off hL
  refine ⟨⟨h.below.trans ((aB _ _).mono h.below.size), fun h' => ?_, fun _ _ => ?_, fun h' => ?_⟩, hs⟩
  · rw [setB_eq] at h'; cases h'
  · rw [← hs]; exact World.alloc_heap_new _ _
  · rw [setB_ne hne, hst] at h'; cases h'
theorem JBox.store (h : JBox w0 ia ist t z c L W) (hL : L ia = true) (hS : L ist = false) (hne : ist ≠ ia) : JBox w0 ia ist t z c (setB L ist) (W.setRow w0.heap.size c) := by
  refine ⟨below_setRow h.below (Nat.le_refl _) _, fun h' => ?_, fun _ h' => ?_, fun _ => setRow_heap _ _ _ _ _ _ (h.on hL hS)⟩
  · rw [setB_ne hne.symm, hL] at h'; cases h'
  · rw [setB_eq] at h'; cases h'
end
section
variable {P : Program}
theorem opOK_store_row {o : Oper} {a : Act} {w : World} {R : Value → World → Prop} (ty : TypeId) (x y : Operand) (ho : o.op = .store ty x y)
    (g : Nat) (cells : Array Value) (hx : a.eval x = .pointer (some ⟨g, 0, none⟩)) (hy : a.eval y = .agg cells)
    (t : TypeId) (old : Array Value) (hg : w.heap[g]? = some (.cells old t (0, 0))) (hi : (P.info? ty).map (·.size) = some cells.size)
    (hold : old.size = cells.size) (h1 : cells.all (·.oneCell') = true) (h : R undef (w.setRow g cells)) : opOK P o a w R := by
  unfold opOK execOp
  simp only [ho, hx, hy, Instr.storeAt, Instr.sureAddr, Sem.run_bind, Sem.run_pure, Result.andThen_ok, run_storeVar_row w g t ty old cells hg hi hold h1]
  exact h
end
end Go.Oche

/- A region that draws its order, with a new entry in each of two maps: m1[k], m2[k] = v1, v2, the key in neither. -/
namespace Go.Oche
open Go Go.RowKit
def putAt (W : World) (b : Nat) (o : Obj) : World := { W with heap := W.heap.setIfInBounds b o }
theorem putAt_at {W : World} {b : Nat} {o o' : Obj} (h : W.heap[b]? = some o) : (putAt W b o').heap[b]? = some o' := by
  have := (Array.getElem?_eq_some_iff.1 h).1
  simp [putAt, this]
theorem putAt_ne {W : World} {b q : Nat} {o' : Obj} (h : b ≠ q) : (putAt W b o').heap[q]? = W.heap[q]? := by
  show (W.heap.setIfInBounds b o')[q]? = _
  rw [Array.getElem?_setIfInBounds_ne h]
theorem putAt_size (W : World) (b : Nat) (o' : Obj) : (putAt W b o').heap.size = W.heap.size := by
  show (W.heap.setIfInBounds b o').size = _
  rw [Array.size_setIfInBounds]
section
variable {κ : Type} [DecidableEq κ] {P : Program} {K : TypeId} {enc : κ → Value}
theorem run_entry_new (KE : KeyEq P K enc) {T E : TypeId} (ht : P.underlying T = some (.map K E)) {z : Value} {W : World} (hz : (zeroValue E).run P W = .ok z W) {b : Nat} {es : Array MapEntry} {clock : Nat} {ks : List κ} (k : κ)
    (h1 : W.heap[b]? = some (.map es clock)) (h2 : es.toList.map (·.key) = ks.map enc) (hn : k ∉ ks) :
    (Instr.mapEntry T (.map (some b)) (enc k)).run P W = .ok (.tuple #[z, .int .i64 (clock : Nat)]) (putAt W b (.map (es.push { key := enc k, val := z, born := clock }) (clock + 1))) := by
  have hf := KE.fnd k ks es.toList W h2
  have hlen : es.toList.length = ks.length := by have := congrArg List.length h2; simpa using this
  unfold Instr.mapEntry
  simp only [Sem.run_bind, run_underlying ht, Result.andThen, MapKept.run_getObj_map h1, KE.chk, hf]
  cases hfl : findL k ks es.toList 0 with
  | none => simp only [Sem.run_bind, hz, Result.andThen, MapKept.run_setObj_map _ h1, Sem.run_pure]; rfl
  | some r =>
    obtain ⟨i, v⟩ := r
    obtain ⟨q, _, hq, _⟩ := findL_some hfl
    exact absurd (List.mem_of_getElem? hq) hn
theorem run_store_new {W : World} {T b : Nat} {es : Array MapEntry} {e : MapEntry} {c : Nat} (h1 : W.heap[b]? = some (.map (es.push e) c)) (hb : ∀ e' ∈ es.toList, e'.born ≠ e.born) (v : Value) :
    (Instr.entryStore T (.map (some b)) (.int .i64 (e.born : Nat)) v).run P W = .ok () (putAt W b (.map (es.push { e with val := v }) c)) := by
  have hfi : (es.push e).findIdx? (fun e' => (e'.born : Int) == (e.born : Int)) = some es.size := by
    rw [Array.findIdx?_eq_some_iff_getElem]
    refine ⟨by simp, by simp, fun j hj => ?_⟩
    have hjs : j < es.size := by simpa using hj
    have h3 : (es.push e)[j]'(by simp; omega) = es[j] := by simp [Array.getElem_push, hjs]
    rw [h3]
    have := hb es[j] (by simp)
    simp; omega
  have hmod : (es.push e).modify es.size (fun e => { e with val := v }) = es.push { e with val := v } := by
    apply Array.ext_getElem?
    intro i
    rw [Array.getElem?_modify, Array.getElem?_push, Array.getElem?_push]
    by_cases hi : i = es.size
    · subst hi; simp
    · have : ¬ es.size = i := fun e => hi e.symm
      simp [hi, this]
  unfold Instr.entryStore
  simp only [Sem.run_bind, MapKept.run_getObj_map h1, Result.andThen, asInt, asIntOf, Sem.run_pure, hfi, MapKept.run_setObj_map _ h1, hmod]
  rfl
end
structure JTwoM (w0 : World) (M1 M2 e1 s1 e2 s2 : Nat) (A0 A1 A2 B0 B1 B2 : Obj) (L : Nat → Bool) (W : World) : Prop where
  os : W.os = w0.os
  tape : W.tape = w0.tape
  output : W.output = w0.output
  size : W.heap.size = w0.heap.size
  block : ∀ q, q ≠ M1 → q ≠ M2 → W.heap[q]? = w0.heap[q]?
  a0 : L e1 = false → L s1 = false ∧ W.heap[M1]? = some A0
  a1 : L e1 = true → L s1 = false → W.heap[M1]? = some A1
  a2 : L s1 = true → W.heap[M1]? = some A2
  b0 : L e2 = false → L s2 = false ∧ W.heap[M2]? = some B0
  b1 : L e2 = true → L s2 = false → W.heap[M2]? = some B1
  b2 : L s2 = true → W.heap[M2]? = some B2
section
variable {w0 W : World} {M1 M2 e1 s1 e2 s2 : Nat} {A0 A1 A2 B0 B1 B2 : Obj} {L : Nat → Bool}
theorem JTwoM.start (h1 : w0.heap[M1]? = some A0) (h2 : w0.heap[M2]? = some B0) : JTwoM w0 M1 M2 e1 s1 e2 s2 A0 A1 A2 B0 B1 B2 (fun _ => false) w0.drew :=
  ⟨rfl, rfl, rfl, rfl, fun _ _ _ => rfl, fun _ => ⟨rfl, h1⟩, fun h => (by cases h), fun h => (by cases h), fun _ => ⟨rfl, h2⟩, fun h => (by cases h), fun h => (by cases h)⟩
theorem JTwoM.cell (h : JTwoM w0 M1 M2 e1 s1 e2 s2 A0 A1 A2 B0 B1 B2 L W) {b o : Nat} {v : Value} (hv : w0.cell? ⟨b, o, none⟩ = some v) (hb1 : b ≠ M1) (hb2 : b ≠ M2) : W.cell? ⟨b, o, none⟩ = some v :=
  (World.cell?_of_block (w := w0) (h.block b hb1 hb2)).trans hv
theorem JTwoM.read (h : JTwoM w0 M1 M2 e1 s1 e2 s2 A0 A1 A2 B0 B1 B2 L W) {i : Nat} (h1 : e1 ≠ i) (h2 : s1 ≠ i) (h3 : e2 ≠ i) (h4 : s2 ≠ i) : JTwoM w0 M1 M2 e1 s1 e2 s2 A0 A1 A2 B0 B1 B2 (setB L i) W := by
  refine ⟨h.os, h.tape, h.output, h.size, h.block, ?_, ?_, ?_, ?_, ?_, ?_⟩
  · rw [setB_ne h1, setB_ne h2]; exact h.a0
  · rw [setB_ne h1, setB_ne h2]; exact h.a1
  · rw [setB_ne h2]; exact h.a2
  · rw [setB_ne h3, setB_ne h4]; exact h.b0
  · rw [setB_ne h3, setB_ne h4]; exact h.b1
  · rw [setB_ne h4]; exact h.b2
theorem JTwoM.swap (h : JTwoM w0 M1 M2 e1 s1 e2 s2 A0 A1 A2 B0 B1 B2 L W) : JTwoM w0 M2 M1 e2 s2 e1 s1 B0 B1 B2 A0 A1 A2 L W :=
  ⟨h.os, h.tape, h.output, h.size, fun q h1 h2 => h.block q h2 h1, h.b0, h.b1, h.b2, h.a0, h.a1, h.a2⟩
theorem JTwoM.put {o : Obj} (h : JTwoM w0 M1 M2 e1 s1 e2 s2 A0 A1 A2 B0 B1 B2 L W) (hne : M1 ≠ M2) {i : Nat} (h3 : e2 ≠ i) (h4 : s2 ≠ i)
    (ha0 : setB L i e1 = false → setB L i s1 = false ∧ o = A0) (ha1 : setB L i e1 = true → setB L i s1 = false → o = A1) (ha2 : setB L i s1 = true → o = A2) (hin : ∃ o', W.heap[M1]? = some o') :
    JTwoM w0 M1 M2 e1 s1 e2 s2 A0 A1 A2 B0 B1 B2 (setB L i) (putAt W M1 o) := by
  obtain ⟨o', ho⟩ := hin
  have hat : (putAt W M1 o).heap[M1]? = some o := putAt_at ho
  have hoth : (putAt W M1 o).heap[M2]? = W.heap[M2]? := putAt_ne hne
  refine ⟨h.os, h.tape, h.output, (putAt_size _ _ _).trans h.size, fun q h1 h2 => (putAt_ne (fun e => h1 e.symm)).trans (h.block q h1 h2), ?_, ?_, ?_, ?_, ?_, ?_⟩
  · intro h'; exact ⟨(ha0 h').1, by rw [hat, (ha0 h').2]⟩
  · intro h' h''; rw [hat, ha1 h' h'']
  · intro h'; rw [hat, ha2 h']
  · rw [setB_ne h3, setB_ne h4, hoth]; exact h.b0
  · rw [setB_ne h3, setB_ne h4, hoth]; exact h.b1
  · rw [setB_ne h4, hoth]; exact h.b2
theorem JTwoM.entry (h : JTwoM w0 M1 M2 e1 s1 e2 s2 A0 A1 A2 B0 B1 B2 L W) (hL : L e1 = false) (hne : M1 ≠ M2) (h1 : s1 ≠ e1) (h3 : e2 ≠ e1) (h4 : s2 ≠ e1) : JTwoM w0 M1 M2 e1 s1 e2 s2 A0 A1 A2 B0 B1 B2 (setB L e1) (putAt W M1 A1) := by
  refine h.put hne h3 h4 (fun h' => ?_) (fun _ _ => rfl) (fun h' => ?_) ⟨_, (h.a0 hL).2⟩
  · rw [setB_eq] at h'; cases h'
  · rw [setB_ne h1, (h.a0 hL).1] at h'; cases h'
theorem JTwoM.store (h : JTwoM w0 M1 M2 e1 s1 e2 s2 A0 A1 A2 B0 B1 B2 L W) (hL : L e1 = true) (hS : L s1 = false) (hne : M1 ≠ M2) (h1 : s1 ≠ e1) (h3 : e2 ≠ s1) (h4 : s2 ≠ s1) : JTwoM w0 M1 M2 e1 s1 e2 s2 A0 A1 A2 B0 B1 B2 (setB L s1) (putAt W M1 A2) := by
  refine h.put hne h3 h4 (fun h' => ?_) (fun _ h' => ?_) (fun _ => rfl) ⟨_, h.a1 hL hS⟩
  · rw [setB_ne h1.symm, hL] at h'; cases h'
  · rw [setB_eq] at h'; cases h'
end
end Go.Oche
