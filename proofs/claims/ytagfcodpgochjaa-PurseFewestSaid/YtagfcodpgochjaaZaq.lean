/- The texts Law, Opn, AL, QF, in build order. -/
import Derived.Test.YtagfcodpgochjaaZap
import Derived.WalkKit
import Derived.ProofKit
import Derived.OpenShut
import Derived.Below
import Derived.ChangeSame
import Derived.ChangeAgain
import Derived.JoinedCond
import Derived.Test.YtagfcodpgochjaaRows
import Derived.Lib.SmallJoins
import Derived.ChangeSlices
import Derived.JoinedOf
import Derived.JoinedAt
import Derived.Deep.Strs

/- A law that makes new memory alone: what was read before is read again. -/
namespace Go.Oche
open Go Go.RowKit Go.ChangeShapes

/-- The types that a type of the table is made of lie in the table too, and slices have elements of some size. -/
def kidsB (P : Program) (t : TypeId) : Bool := match P.underlying t with
  | some (.slice e) => P.cellsOf e != 0 && decide (e < P.types.size)
  | some (.pointer e) => decide (e < P.types.size)
  | some (.struct fs) => fs.toList.all fun f => decide (f.type < P.types.size)
  | some (.array _ e) => decide (e < P.types.size)
  | some (.map _ e) => decide (e < P.types.size)
  | _ => true
def sizedB (P : Program) : Bool := (List.range P.types.size).all (kidsB P)
theorem kids_of {P : Program} (h : sizedB P = true) {t : TypeId} (hl : t < P.types.size) : kidsB P t = true := List.all_eq_true.1 h t (List.mem_range.2 hl)

theorem mapM_keep {α β : Type} {f g : α → Option β} : ∀ {l : List α} {ys : List β}, l.mapM f = some ys → (∀ x ∈ l, ∀ y ∈ ys, f x = some y → g x = some y) → l.mapM g = some ys
  | [], ys, h, _ => by simpa using h
  | x :: l, ys, h, hk => by
    rw [List.mapM_cons] at h ⊢
    cases hx : f x with
    | none => rw [hx] at h; cases h
    | some y =>
      rw [hx] at h
      cases hl : l.mapM f with
      | none => rw [hl] at h; cases h
      | some zs =>
        rw [hl] at h
        cases h
        rw [hk x (by simp) y (by simp) hx, mapM_keep hl fun x' hx' y' hy' => hk x' (by simp [hx']) y' (by simp [hy'])]
        rfl
theorem mapM_len {α β : Type} {f : α → Option β} : ∀ {l : List α} {ys : List β}, l.mapM f = some ys → ys.length = l.length
  | [], ys, h => by
    have : ys = [] := by simpa using h.symm
    rw [this]; rfl
  | x :: l, ys, h => by
    rw [List.mapM_cons] at h
    cases hx : f x with
    | none => rw [hx] at h; cases h
    | some y =>
      rw [hx] at h
      cases hl : l.mapM f with
      | none => rw [hl] at h; cases h
      | some zs => rw [hl] at h; cases h; simp [mapM_len hl]

section
variable {H : Type} {enc : TypeId × Value → H} {P : Program} {W W' : World} {base : Nat}
theorem cells_keep (hc : ∀ p v, W.cell? p = some v → W'.cell? p = some v) {a : Addr} {n : Nat} {cs : List Value} (h : W.cells? base a n = some cs) : W'.cells? base a n = some cs := by
  unfold World.cells? at h ⊢
  split at h
  · rename_i hb
    rw [if_pos hb]
    exact mapM_keep h fun i _ y _ hy => hc _ _ hy
  · cases h
theorem bind_keep (hc : ∀ p v, W.cell? p = some v → W'.cell? p = some v) {a : Addr} {n : Nat} {f g : List Value → Option (DataW H × List MemPlace)} {x : DataW H × List MemPlace} (h : (W.cells? base a n).bind f = some x) (hk : ∀ cs, f cs = some x → g cs = some x) : (W'.cells? base a n).bind g = some x := by
  cases hcs : W.cells? base a n with
  | none => rw [hcs] at h; cases h
  | some cs => rw [hcs] at h; rw [cells_keep hc hcs]; exact hk cs h

/-- What was read before is read again: memory that there was is as it was. -/
theorem trod_keep (hsz : sizedB P = true) (hc : ∀ p v, W.cell? p = some v → W'.cell? p = some v) (hm : ∀ (b : Nat) es c, W.heap[b]? = some (Obj.map es c) → W'.heap[b]? = some (Obj.map es c)) :
    ∀ (fuel : Nat) (t : TypeId) (cs : List Value) (x : DataW H × List MemPlace), t < P.types.size → DataW.trod enc P W base (fun _ => true) true fuel t cs = some x → ∀ sp : Nat → Bool, (∀ p ∈ x.2, sp p.block = true) →
      DataW.trod enc P W' base sp true fuel t cs = some x := by
  intro fuel
  induction fuel with
  | zero => intro t cs x _ h; cases h
  | succ fuel ih =>
    intro t cs x htl h sp hsp
    have hkid := kids_of hsz htl
    unfold kidsB at hkid
    unfold DataW.trod at h ⊢
    split at h
    all_goals try exact h
    · rename_i e a hu
      rw [hu] at hkid
      have he : e < P.types.size := by simpa using hkid
      obtain ⟨y, hy, rfl⟩ := Option.map_eq_some_iff.1 h
      refine Option.map_eq_some_iff.2 ⟨y, bind_keep hc hy fun cs hcs => ih _ _ _ he hcs sp fun p hp => hsp p (by simp [hp]), rfl⟩
    · rename_i e a len cap hu
      rw [hu] at hkid
      obtain ⟨hz, he⟩ : P.cellsOf e ≠ 0 ∧ e < P.types.size := by simpa using hkid
      simp only at h ⊢
      split at h
      · rename_i hcond
        rw [if_pos hcond]
        obtain ⟨elems, hel, h⟩ := Option.bind_eq_some_iff.1 h
        obtain ⟨rest, hrest, rfl⟩ := Option.map_eq_some_iff.1 h
        simp only [if_true] at hrest
        have hl1 := mapM_len hel
        have hl2 := mapM_len hrest
        simp only [List.length_range] at hl1 hl2
        have hx : ∀ y ∈ elems ++ rest, ∀ p ∈ y.2, sp p.block = true := fun y hy p hp => hsp p (List.mem_append_right _ (List.mem_flatMap.2 ⟨y, hy, hp⟩))
        refine Option.bind_eq_some_iff.2 ⟨elems, mapM_keep hel fun i _ y hy hi => bind_keep hc hi fun cs hcs => ih _ _ _ he hcs sp (hx y (by simp [hy])), Option.map_eq_some_iff.2 ⟨rest, ?_, rfl⟩⟩
        by_cases hs : sp a.block = true
        · rw [if_pos hs]
          exact mapM_keep hrest fun i _ y hy hi => bind_keep hc hi fun cs hcs => ih _ _ _ he hcs sp (hx y (by simp [hy]))
        · rw [if_neg hs]
          have h0 : cap - len = 0 := by
            rcases Nat.eq_zero_or_pos (cap - len) with h | h
            · exact h
            · exfalso
              apply hs
              have hpos : 0 < (elems.length + rest.length) * P.cellsOf e := Nat.mul_pos (by omega) (by omega)
              refine hsp (.cell a.block (a.off + 0)) (List.mem_append_left _ ?_)
              unfold MemPlace.row
              exact List.mem_map.2 ⟨0, List.mem_range.2 hpos, rfl⟩
          have : rest = [] := List.eq_nil_of_length_eq_zero (by omega)
          rw [this]
      · cases h
    · rename_i fs hu
      rw [hu] at hkid
      have he : ∀ f ∈ fs.toList, f.type < P.types.size := fun f hf => by simpa using List.all_eq_true.1 hkid f hf
      split at h
      · rename_i hl
        rw [if_pos hl]
        obtain ⟨xs, hxs, rfl⟩ := Option.map_eq_some_iff.1 h
        exact Option.map_eq_some_iff.2 ⟨xs, mapM_keep hxs fun f hff y hy hf => ih _ _ _ (he f hff) hf sp fun p hp => hsp p (List.mem_flatMap.2 ⟨y, hy, hp⟩), rfl⟩
      · cases h
    · rename_i n e hu
      rw [hu] at hkid
      have he : e < P.types.size := by simpa using hkid
      split at h
      · rename_i hl
        rw [if_pos hl]
        obtain ⟨xs, hxs, rfl⟩ := Option.map_eq_some_iff.1 h
        exact Option.map_eq_some_iff.2 ⟨xs, mapM_keep hxs fun f _ y hy hf => ih _ _ _ he hf sp fun p hp => hsp p (List.mem_flatMap.2 ⟨y, hy, hp⟩), rfl⟩
      · cases h
    · rename_i k e b hu
      rw [hu] at hkid
      have he : e < P.types.size := by simpa using hkid
      split at h
      · rename_i es clock hb
        rw [hm _ _ _ hb]
        simp only
        split at h
        · rename_i hcond
          rw [if_pos hcond]
          obtain ⟨entries, hen, h⟩ := Option.bind_eq_some_iff.1 h
          have hplaces : ∀ y ∈ entries, ∀ p ∈ y.2, sp p.block = true := fun y hy p hp => hsp p (by
            dsimp only at h
            split at h
            · cases h; exact List.mem_cons_of_mem _ (List.mem_flatMap.2 ⟨y, hy, hp⟩)
            · cases h)
          refine Option.bind_eq_some_iff.2 ⟨entries, mapM_keep hen fun z _ y hy hz => ?_, h⟩
          obtain ⟨key, hk, hz⟩ := Option.bind_eq_some_iff.1 hz
          refine Option.bind_eq_some_iff.2 ⟨key, hk, ?_⟩
          split at hz
          · rename_i hfm
            rw [if_pos hfm]
            obtain ⟨y', hy', rfl⟩ := Option.map_eq_some_iff.1 hz
            exact Option.map_eq_some_iff.2 ⟨y', ih _ _ _ he hy' sp (hplaces _ hy), rfl⟩
          · cases hz
        · cases h
      · cases h
theorem trodAll_keep (hsz : sizedB P = true) (hc : ∀ p v, W.cell? p = some v → W'.cell? p = some v) (hm : ∀ (b : Nat) es c, W.heap[b]? = some (Obj.map es c) → W'.heap[b]? = some (Obj.map es c)) :
    ∀ (ts : List TypeId) (vs : List Value) (ds : List (DataW H)) (ps : List MemPlace), (∀ t ∈ ts, t < P.types.size) → DataW.TrodAll enc P W base (fun _ => true) true ts vs ds ps → ∀ sp : Nat → Bool, (∀ p ∈ ps, sp p.block = true) → DataW.TrodAll enc P W' base sp true ts vs ds ps
  | [], [], [], _, _, h, _, _ => h
  | t :: ts, v :: vs, d :: ds, ps, hts, ⟨p, q, ⟨fuel, h1⟩, h2, h3⟩, sp, hsp => by
    subst h3
    exact ⟨p, q, ⟨fuel, trod_keep hsz hc hm fuel t _ _ (hts t (by simp)) h1 sp fun x hx => hsp x (by simp [hx])⟩, trodAll_keep hsz hc hm ts vs ds q (fun t ht => hts t (by simp [ht])) h2 sp fun x hx => hsp x (by simp [hx]), rfl⟩
  | [], [], _ :: _, _, _, h, _, _ => h.elim
  | [], _ :: _, ds, _, _, h, _, _ => by cases ds <;> exact h.elim
  | _ :: _, [], ds, _, _, h, _, _ => by cases ds <;> exact h.elim
  | _ :: _, _ :: _, [], _, _, h, _, _ => h.elim

theorem below_keptBut (hb : Below W.heap.size W W') (may : MemPlace → Prop) : W.keptBut W' may := by
  refine ⟨hb.os, hb.output, fun i hi => ?_⟩
  have := hb.block i hi
  rw [this]
  cases h : W.heap[i]? with
  | none => rfl
  | some o => cases o <;> simp

/-- The post of a law that has answered true and made new memory alone. -/
theorem law_post {f : Func} {s : ChangeSpec} {apart fresh handsOn again : Bool} {args : Array Value} {ds gs : List (DataW H)} {before : List MemPlace}
    (hsz : sizedB P = true) (hts : f.params.toList.all (fun t => decide (t < P.types.size)) = true) (hW : DataW.Whole enc P f.params.toList s.vars apart W args.toList ds gs before) (hv : s.vars = []) (hb : Below W.heap.size W W')
    (hres : (s.fn H ds).results = [.lit (.bool true)]) (hargs : (s.fn H ds).args = ds) (hvars : (s.fn H ds).vars = []) {bt : TypeId} (hrt : f.resultTypes = #[bt]) (hbt : P.underlying bt = some .bool) :
    s.post enc P f apart fresh handsOn again W args (.bool true) W' := by
  have hW0 := hW
  obtain ⟨p, q, hA, hV, hps, hfz, hnd⟩ := hW
  rw [hv] at hV
  have hg : gs = [] ∧ q = [] := by
    cases gs with
    | nil => exact ⟨rfl, hV⟩
    | cons g gs => exact hV.elim
  obtain ⟨rfl, rfl⟩ := hg
  rw [List.append_nil] at hps
  subst hps
  have hc : ∀ p v, W.cell? p = some v → W'.cell? p = some v := fun p v h => (World.cell?_of_block (w := W) (hb.block p.block (World.block_lt_of_cell? W p h))).trans h
  have hm : ∀ (b : Nat) es c, W.heap[b]? = some (Obj.map es c) → W'.heap[b]? = some (Obj.map es c) := fun b es c h => (hb.block b (Array.getElem?_eq_some_iff.1 h).1).trans h
  have hag : ∀ sp : Nat → Bool, (∀ x ∈ before, sp x.block = true) → DataW.TrodAll enc P W' 0 sp true f.params.toList args.toList ds before := fun sp hsp => trodAll_keep hsz hc hm _ _ _ _ (fun t ht => by simpa using List.all_eq_true.1 hts t ht) hA sp hsp
  have hlt : ∀ x ∈ before, x.block < W.heap.size := fun x hx => hW0.lt x hx
  have hold : ∀ x ∈ before, (fun b => decide (b < W.heap.size)) x.block = true := fun x hx => by simpa using hlt x hx
  have hR : ∀ (b : Nat) (sp : Nat → Bool) (hd : Bool), DataW.TrodAll enc P W' b sp hd f.resultTypes.toList ((Value.bool true).resultList f.resultTypes.size) (s.fn H (ds ++ [])).results [] := fun b sp hd => by
    rw [List.append_nil, hres, hrt]
    exact trodAll_cons_mk (shut_bool hbt true) trodAll_mk0
  have hR2 : ∀ sp : Nat → Bool, (∀ x ∈ before, sp x.block = true) → DataW.TrodAll enc P W' 0 sp true f.params.toList args.toList (s.fn H (ds ++ [])).args before := fun sp hsp => by
    rw [List.append_nil, hargs]; exact hag sp hsp
  have hVV : ∀ sp : Nat → Bool, DataW.TrodVars enc P W' sp s.vars (s.fn H (ds ++ [])).vars [] := fun sp => by
    rw [List.append_nil, hvars, hv]; rfl
  refine ⟨ds, [], before, [], before, [], hW0, hR _ _ _, hR2 _ hold, hVV _, below_keptBut hb _, fun _ => ?_⟩
  refine ⟨?_, _, _, ([] ++ before) ++ [], ⟨[] ++ before, [], trodAll_append (hR2 _ (fun _ _ => rfl)) (hR _ _ _), hVV _, rfl, ?_, ?_⟩, ?_⟩
  · exact ok_one hrt rfl (okWide_bool_mk hbt _)
  · intro b off hp
    have hp' : MemPlace.cell b off ∈ before := by simpa using hp
    have hlt' := hlt _ hp'
    have : W'.frozen? ⟨b, off, none⟩ = W.frozen? ⟨b, off, none⟩ := World.frozen?_of_block (w := W) (hb.block b hlt')
    rw [this]
    exact hfz b off hp'
  · intro ha
    simpa using hnd ha
  · intro x hx _
    simpa using hx
end
end Go.Oche

/- What a law's arguments read as: slices of elements of k cells, slices of slices, rows of numbers. -/
namespace Go.Proofs.Ytagfcodpgochjaa
open Go.RowKit Go.Oche Go.Proofs Go.ChangeShapes Go.WideShapes Go.ChangeAt

theorem own : ownKnob Try.prog.godebug = none := by kernel_rfl
theorem sized : sizedB Try.prog = true := by kernel_rfl
/-- An integer of 64 bits. -/
def I64' (n : Int) : Prop := -9223372036854775808 ≤ n ∧ n ≤ 9223372036854775807
theorem wf_i64 {n : Int} (h : (Lit.int .i64 n).wf = true) : I64' n := by
  have := h
  simp [Lit.wf, IntKind.min, IntKind.max, IntKind.signed, IntKind.bits] at this
  exact this
theorem wf_u16 {n : Int} (h : (Lit.int .u16 n).wf = true) : 0 ≤ n ∧ n ≤ 65535 := by
  have := h
  simp [Lit.wf, IntKind.min, IntKind.max, IntKind.signed, IntKind.bits] at this
  exact this
theorem wf_u8 {n : Int} (h : (Lit.int .u8 n).wf = true) : 0 ≤ n ∧ n ≤ 255 := by
  have := h
  simp [Lit.wf, IntKind.min, IntKind.max, IntKind.signed, IntKind.bits] at this
  exact this
theorem wf_u32 {n : Int} (h : (Lit.int .u32 n).wf = true) : 0 ≤ n ∧ n ≤ 4294967295 := by
  have := h
  simp [Lit.wf, IntKind.min, IntKind.max, IntKind.signed, IntKind.bits] at this
  exact this
theorem wf_i32 {n : Int} (h : (Lit.int .i32 n).wf = true) : -2147483648 ≤ n ∧ n ≤ 2147483647 := by
  have := h
  simp [Lit.wf, IntKind.min, IntKind.max, IntKind.signed, IntKind.bits] at this
  exact this
theorem list_two {α : Type} {cs : List α} (h : cs.length = 2) : ∃ a b, cs = [a, b] := by
  cases cs with
  | nil => simp at h
  | cons a cs =>
    cases cs with
    | nil => simp at h
    | cons b cs =>
      cases cs with
      | nil => exact ⟨a, b, rfl⟩
      | cons c cs => simp at h
theorem list_three {α : Type} {cs : List α} (h : cs.length = 3) : ∃ a b c, cs = [a, b, c] := by
  cases cs with
  | nil => simp at h
  | cons a cs =>
    obtain ⟨b, c, rfl⟩ := list_two (cs := cs) (by simpa using h)
    exact ⟨a, b, c, rfl⟩
theorem choose_rows {β : Type} {R : Nat → β → Prop} : ∀ n, (∀ i, i < n → ∃ b, R i b) → ∃ xs : List β, xs.length = n ∧ ∀ i b, xs[i]? = some b → R i b
  | 0, _ => ⟨[], rfl, fun i b h => by simp at h⟩
  | n + 1, h => by
    obtain ⟨xs, h1, h2⟩ := choose_rows n fun i hi => h i (by omega)
    obtain ⟨b, hb⟩ := h n (by omega)
    refine ⟨xs ++ [b], by simp [h1], fun i b' hi => ?_⟩
    by_cases hin : i < xs.length
    · rw [List.getElem?_append_left hin] at hi
      exact h2 i b' hi
    · have hlt := (List.getElem?_eq_some_iff.1 hi).1
      simp at hlt
      obtain rfl : i = xs.length := by omega
      simp at hi
      subst hi
      rw [h1]; exact hb
theorem spot_none {W : World} {a : Addr} {j : Nat} {x : Value} (h : W.cell? (a.add j) = some x) (hj : j = 0) : a.spot = none := by
  subst hj
  unfold World.cell? Addr.add at h
  simp only [if_true] at h
  cases hs : a.spot with
  | none => rfl
  | some s =>
    rw [hs] at h
    split at h <;> simp at h
section
variable {H : Type} {enc : TypeId × Value → H} {W : World} {base : Nat} {spare : Nat → Bool} {held : Bool}
theorem open_rowsN {β : Type} (row : β → List Value) (k : Nat) (Q : β → Prop) {t e : TypeId} (ht : Try.prog.underlying t = some (.slice e)) (hce : Try.prog.cellsOf e = k) (hk : 0 < k)
    (hone : ∀ n cs (y : DataW H × List MemPlace), DataW.trod enc Try.prog W base spare held n e cs = some y → ∃ b, cs = row b ∧ Q b) (hrow : ∀ b, (row b).length = k) {n : Nat} {v : Value} {x : DataW H × List MemPlace} (h : DataW.trod enc Try.prog W base spare held n t [v] = some x) :
    ∃ xs : List β, SlN k (fun _ => True) W v (xs.map row) ∧ ∀ b ∈ xs, Q b := by
  rcases DataW.trod_slice ht h with ⟨hcs, _⟩ | ⟨a, len, cap, elems, rest, m, _, hcs, _, _, hl, hm, hlen, hel, _, _⟩
  · simp only [List.cons.injEq, and_true] at hcs
    subst hcs
    exact ⟨[], SlN.nil _ _ _, by simp⟩
  · simp only [List.cons.injEq, and_true] at hcs
    subst hcs
    have hall : ∀ i, i < len → ∃ b, (∀ j x, (row b)[j]? = some x → W.cell? ((a.add (i * k)).add j) = some x) ∧ Q b := fun i hi => by
      have hy := hel i hi
      rw [List.getElem?_eq_getElem (by omega), hce, Option.bind_eq_some_iff] at hy
      obtain ⟨cs, hcs, hy⟩ := hy
      obtain ⟨b, rfl, hb⟩ := hone _ _ _ hy
      have := (World.cells?_some hcs)
      refine ⟨b, fun j x hx => ?_, hb⟩
      have hj : j < k := by rw [← hrow b]; exact (List.getElem?_eq_some_iff.1 hx).1
      rw [this.2.2 j hj]; exact hx
    obtain ⟨xs, h1, h2⟩ := choose_rows len hall
    refine ⟨xs, ⟨some a, cap, by rw [List.length_map, h1], by rw [List.length_map, h1]; exact hl, hm, fun i r hr => ?_⟩, fun b hb => ?_⟩
    · rw [List.getElem?_map, Option.map_eq_some_iff] at hr
      obtain ⟨b, hb, rfl⟩ := hr
      have hi : i < len := by rw [← h1]; exact (List.getElem?_eq_some_iff.1 hb).1
      have h0 : 0 < xs.length := by omega
      have hsp : a.spot = none := by
        have hr0 := hrow xs[0]
        have := (h2 0 xs[0] (List.getElem?_eq_getElem h0)).1 0 (row xs[0])[0] (List.getElem?_eq_getElem (by omega))
        rw [Nat.zero_mul] at this
        obtain ⟨b, o, s⟩ := a
        cases s with
        | none => rfl
        | some s =>
          simp [Addr.add, World.cell?] at this
          split at this <;> cases this
      obtain ⟨b', o, sp⟩ := a
      simp only at hsp
      subst hsp
      refine ⟨hrow b, b', o, rfl, trivial, fun j x hx => ?_⟩
      have := (h2 i b hb).1 j x hx
      rw [addr_at, addr_at] at this
      exact this
    · obtain ⟨i, hi⟩ := List.getElem?_of_mem hb
      exact (h2 i b hi).2
theorem open_i64c {n : Nat} {v : Value} {y : DataW H × List MemPlace} (h : DataW.trod enc Try.prog W base spare held n 3 [v] = some y) : ∃ z, v = .int .i64 z ∧ I64' z := by
  obtain ⟨z, hz, _, hw⟩ := DataW.trod_int Try.underlying3 h
  simp only [List.cons.injEq, and_true] at hz
  exact ⟨z, hz, wf_i64 hw⟩
theorem open_cellsT {t : TypeId} {v : Value} {d : DataW H} {p : List MemPlace} (h : DataW.Trod enc Try.prog W base spare held t v d p) (hv : v.cells = #[v]) : ∃ n y, DataW.trod enc Try.prog W base spare held n t [v] = some y := by
  obtain ⟨n, h⟩ := h
  rw [hv] at h
  exact ⟨n, _, h⟩
theorem open_intL {n : Nat} {v : Value} {x : DataW H × List MemPlace} (h : DataW.trod enc Try.prog W base spare held n 22 [v] = some x) : ∃ xs : List Int, Sl (fun _ => True) W v (ints xs) ∧ ∀ b ∈ xs, I64' b := by
  obtain ⟨xs, h1, h2⟩ := open_rowsN (fun z : Int => [.int .i64 z]) 1 I64' Try.underlying22 (by kernel_rfl) (by decide) (fun n cs y hy => by
    obtain ⟨z, hz, _, hw⟩ := DataW.trod_int Try.underlying3 hy
    exact ⟨z, hz, wf_i64 hw⟩) (fun b => rfl) h
  refine ⟨xs, SlN.to1 ?_, h2⟩
  have e : (ints xs).map (fun x => [x]) = xs.map (fun z => [.int .i64 z]) := by simp [ints]
  rw [e]; exact h1
theorem open_struct3 {t : TypeId} {f0 f1 f2 : Field} (ht : Try.prog.underlying t = some (.struct #[f0, f1, f2])) (hc : Try.prog.cellsOf t = 3) (e0 : f0.type = 3 ∧ f0.offset = 0) (e1 : f1.type = 3 ∧ f1.offset = 1) (e2 : f2.type = 3 ∧ f2.offset = 2)
    {n : Nat} {cs : List Value} {y : DataW H × List MemPlace} (h : DataW.trod enc Try.prog W base spare held n t cs = some y) : ∃ b : Int × Int × Int, cs = [.int .i64 b.1, .int .i64 b.2.1, .int .i64 b.2.2] ∧ I64' b.1 ∧ I64' b.2.1 ∧ I64' b.2.2 := by
  obtain ⟨y0, y1, y2, m, _, hl, h0, h1, h2⟩ := Go.Deep.trod_struct3 ht h
  rw [hc] at hl
  have c3 : Try.prog.cellsOf 3 = 1 := by kernel_rfl
  obtain ⟨c0, c1, c2, rfl⟩ := list_three hl
  rw [e0.1, e0.2, c3] at h0
  rw [e1.1, e1.2, c3] at h1
  rw [e2.1, e2.2, c3] at h2
  obtain ⟨a, ha', ha⟩ := open_i64c (v := c0) h0
  obtain ⟨b, hb', hb⟩ := open_i64c (v := c1) h1
  obtain ⟨c, hc', hc⟩ := open_i64c (v := c2) h2
  subst ha' hb' hc'
  exact ⟨(a, b, c), rfl, ha, hb, hc⟩
theorem open_struct2 {t : TypeId} {f0 f1 : Field} (ht : Try.prog.underlying t = some (.struct #[f0, f1])) (hc : Try.prog.cellsOf t = 2) (e0 : f0.type = 3 ∧ f0.offset = 0) (e1 : f1.type = 3 ∧ f1.offset = 1)
    {n : Nat} {cs : List Value} {y : DataW H × List MemPlace} (h : DataW.trod enc Try.prog W base spare held n t cs = some y) : ∃ b : Int × Int, cs = [.int .i64 b.1, .int .i64 b.2] ∧ I64' b.1 ∧ I64' b.2 := by
  obtain ⟨y0, y1, m, _, hl, h0, h1⟩ := trod_struct2 ht h
  rw [hc] at hl
  have c3 : Try.prog.cellsOf 3 = 1 := by kernel_rfl
  obtain ⟨c0, c1, rfl⟩ := list_two hl
  rw [e0.1, e0.2, c3] at h0
  rw [e1.1, e1.2, c3] at h1
  obtain ⟨a, ha', ha⟩ := open_i64c (v := c0) h0
  obtain ⟨b, hb', hb⟩ := open_i64c (v := c1) h1
  subst ha' hb'
  exact ⟨(a, b), rfl, ha, hb⟩
theorem open_intLL {n : Nat} {v : Value} {x : DataW H × List MemPlace} (h : DataW.trod enc Try.prog W base spare held n 32 [v] = some x) : ∃ gs : List (List Int), SlSl (fun _ => True) W v gs ∧ ∀ g ∈ gs, ∀ b ∈ g, I64' b := by
  obtain ⟨xs, h1, h2⟩ := open_rowsN (fun z : Value × List Int => [z.1]) 1 (fun z => Sl (fun _ => True) W z.1 (ints z.2) ∧ ∀ b ∈ z.2, I64' b) Try.underlying32 (by kernel_rfl) (by decide) (fun n cs y hy => by
    have hl : ∃ u, cs = [u] := by
      rcases DataW.trod_slice Try.underlying22 hy with ⟨hcs, _⟩ | ⟨a, len, cap, elems, rest, m, _, hcs, _⟩
      · exact ⟨_, hcs⟩
      · exact ⟨_, hcs⟩
    obtain ⟨u, rfl⟩ := hl
    obtain ⟨xs, h1, h2⟩ := open_intL hy
    exact ⟨(u, xs), rfl, h1, h2⟩) (fun b => rfl) h
  have e : (xs.map (·.1)).map (fun x => [x]) = xs.map (fun z => [z.1]) := by simp
  rw [← e] at h1
  refine ⟨xs.map (·.2), ⟨xs.map (·.1), SlN.to1 h1, by simp, fun i hi => ?_⟩, fun g hg => ?_⟩
  · have hi' : i < xs.length := by simpa using hi
    refine ⟨xs[i].1, by simp [hi'], ?_⟩
    simp only [List.getElem_map]
    exact (h2 _ (List.getElem_mem hi')).1
  · obtain ⟨z, hz, rfl⟩ := List.mem_map.1 hg
    exact (h2 z hz).2
end
end Go.Proofs.Ytagfcodpgochjaa

/- Chapter 12: what the claims' texts import: the laws' walks (new ones are appended at the end). -/

/- Chapter 12, coins: what comes out is right, and there is nothing with fewer. -/
namespace Go.Proofs.Ytagfcodpgochjaa
open Go.RowKit Go.Oche Go.Proofs

/-- What so many of each kind are worth. -/
def worthN : List (Int × Int) → List Nat → Nat
  | c :: l, n :: ns => n * c.1.toNat + worthN l ns
  | _, _ => 0
/-- So many of each kind are there. -/
def Fits : List (Int × Int) → List Nat → Prop
  | [], [] => True
  | c :: l, n :: ns => n ≤ c.2.toNat ∧ Fits l ns
  | _, _ => False
def castL (ns : List Nat) : List Int := ns.map fun (n : Nat) => (n : Int)
theorem Fits.len : ∀ {l : List (Int × Int)} {ns : List Nat}, Fits l ns → ns.length = l.length
  | [], [], _ => rfl
  | _ :: _, _ :: _, h => by simp [Fits.len h.2]
  | [], _ :: _, h => h.elim
  | _ :: _, [], h => h.elim
theorem Fits.snoc : ∀ {l : List (Int × Int)} {ns : List Nat} {c : Int × Int} {n : Nat}, Fits l ns → n ≤ c.2.toNat → Fits (l ++ [c]) (ns ++ [n])
  | [], [], _, _, _, hn => ⟨hn, trivial⟩
  | _ :: _, _ :: _, _, _, h, hn => ⟨h.1, Fits.snoc h.2 hn⟩
  | [], _ :: _, _, _, h, _ => h.elim
  | _ :: _, [], _, _, h, _ => h.elim
theorem worthN_snoc : ∀ {l : List (Int × Int)} {ns : List Nat} (c : Int × Int) (n : Nat), Fits l ns → worthN (l ++ [c]) (ns ++ [n]) = worthN l ns + n * c.1.toNat
  | [], [], c, n, _ => by simp [worthN]
  | d :: l, m :: ns, c, n, h => by
    have := worthN_snoc c n h.2
    simp only [List.cons_append, worthN, this]; omega
  | [], _ :: _, _, _, h => h.elim
  | _ :: _, [], _, _, h => h.elim
theorem Fits.at : ∀ {l : List (Int × Int)} {ns : List Nat}, Fits l ns → ∀ i, ns.getD i 0 ≤ (l.getD i (0, 0)).2.toNat
  | [], [], _, i => by simp
  | c :: l, n :: ns, h, 0 => by simpa using h.1
  | c :: l, n :: ns, h, i + 1 => by have := Fits.at h.2 i; simpa using this
  | [], _ :: _, h, _ => h.elim
  | _ :: _, [], h, _ => h.elim
theorem worthN_take : ∀ {l : List (Int × Int)} {ns : List Nat}, Fits l ns → ∀ i, i < l.length → worthN (l.take (i + 1)) (ns.take (i + 1)) = worthN (l.take i) (ns.take i) + ns.getD i 0 * (l.getD i (0, 0)).1.toNat
  | c :: l, n :: ns, h, 0, _ => by simp [worthN]
  | c :: l, n :: ns, h, i + 1, hi => by
    have := worthN_take h.2 i (by simpa using hi)
    simp only [List.take_succ_cons, worthN, this, List.getD_cons_succ]; omega
  | [], _, _, i, hi => by simp at hi
  | _ :: _, [], h, _, _ => h.elim
theorem worthN_mono : ∀ {l : List (Int × Int)} {ns : List Nat}, Fits l ns → ∀ i, worthN (l.take i) (ns.take i) ≤ worthN l ns
  | [], [], _, i => by simp
  | c :: l, n :: ns, h, 0 => by simp [worthN]
  | c :: l, n :: ns, h, i + 1 => by
    have := worthN_mono h.2 i
    simp only [List.take_succ_cons, worthN]; omega
  | [], _ :: _, h, _ => h.elim
  | _ :: _, [], h, _ => h.elim
theorem sum_take_le : ∀ (ns : List Nat) (i : Nat), (ns.take i).sum ≤ ns.sum
  | [], i => by simp
  | n :: ns, 0 => by simp
  | n :: ns, i + 1 => by have := sum_take_le ns i; simp; omega
/-- The rows once more, from the first kind on. -/
def rowS : List (Int × Int) → Nat → Int
  | [], a => if a = 0 then 0 else noneC
  | c :: l, a => addK (rowS l) c.1.toNat c.2.toNat a
theorem rowF_S (tin : List (Int × Int)) : ∀ k, k ≤ tin.length → rowF tin k = rowS (tin.drop (tin.length - k))
  | 0, _ => by funext a; rw [Nat.sub_zero, List.drop_length]; rfl
  | k + 1, h => by
    have e : tin.drop (tin.length - (k + 1)) = tin.getD (tin.length - 1 - k) (0, 0) :: tin.drop (tin.length - k) := by
      have h1 : tin.length - (k + 1) < tin.length := by omega
      rw [List.drop_eq_getElem_cons h1, show tin.length - (k + 1) + 1 = tin.length - k by omega, List.getD_eq_getElem?_getD, show tin.length - 1 - k = tin.length - (k + 1) by omega, List.getElem?_eq_getElem h1]
      rfl
    funext a
    rw [e, rowS, rowF, rowF_S tin k (by omega)]
theorem rowS_le : ∀ {l : List (Int × Int)} {ns : List Nat}, Fits l ns → (∀ c ∈ l, 1 ≤ c.1) → rowS l (worthN l ns) ≤ (ns.sum : Int)
  | [], [], _, _ => by simp [rowS, worthN]
  | c :: l, n :: ns, h, hw => by
    have ih := rowS_le h.2 (fun d hd => hw d (by simp [hd]))
    have hc := hw c (by simp)
    rw [rowS, worthN, List.sum_cons]
    have h1 : n ≤ (n * c.1.toNat + worthN l ns) / c.1.toNat := by
      rw [Nat.le_div_iff_mul_le (by omega)]; omega
    have h2 := bestQ_le (rowS l) c.1.toNat (n * c.1.toNat + worthN l ns) (min c.2.toNat ((n * c.1.toNat + worthN l ns) / c.1.toNat)) n (by have := h.1; omega)
    rw [show n * c.1.toNat + worthN l ns - n * c.1.toNat = worthN l ns by omega] at h2
    unfold addK
    omega
  | [], _ :: _, h, _ => h.elim
  | _ :: _, [], h, _ => h.elim
/-- Coins of the tin with just the amount. -/
def CoinsOk (l : List (Int × Int)) (A : Nat) (r : List Int) (ms : List Nat) : Prop := r = castL ms ∧ Fits l ms ∧ worthN l ms = A
theorem cnt_part {tin : List (Int × Int)} {A : Nat} (h : rowF tin tin.length A < noneC) : ∀ i, i ≤ tin.length → ∃ ns : List Nat, (cntTo tin A i).1 = castL ns ∧ Fits (tin.take i) ns ∧ worthN (tin.take i) ns + (cntTo tin A i).2 = A ∧ (ns.sum : Int) + rowF tin (tin.length - i) (cntTo tin A i).2 = rowF tin tin.length A
  | 0, _ => ⟨[], rfl, by simp [Fits], by simp [worthN, cntTo], by simp [cntTo]⟩
  | i + 1, hi => by
    obtain ⟨ns, h1, h2, h3, h4⟩ := cnt_part h i (by omega)
    obtain ⟨h5, h6⟩ := cnt_inv h i (by omega)
    have h7 := step_ok (tin := tin) (i := i) (by omega) h6
    have e : tin.take (i + 1) = tin.take i ++ [tin.getD i (0, 0)] := by
      rw [List.take_succ_eq_append_getElem (by omega), List.getD_eq_getElem?_getD, List.getElem?_eq_getElem (by omega)]; rfl
    have hs : stepN tin i (cntTo tin A i).2 ≤ min (tin.getD i (0, 0)).2.toNat ((cntTo tin A i).2 / (tin.getD i (0, 0)).1.toNat) := by unfold stepN; exact downN_le _ _ _ _ _
    have hm : stepN tin i (cntTo tin A i).2 * (tin.getD i (0, 0)).1.toNat ≤ (cntTo tin A i).2 := by
      have h8 : stepN tin i (cntTo tin A i).2 ≤ (cntTo tin A i).2 / (tin.getD i (0, 0)).1.toNat := by omega
      exact Nat.le_trans (Nat.mul_le_mul_right _ h8) (Nat.div_mul_le_self _ _)
    refine ⟨ns ++ [stepN tin i (cntTo tin A i).2], ?_, ?_, ?_, ?_⟩
    · rw [cntTo_succ, h1]; simp [castL]
    · rw [e]; exact h2.snoc (by omega)
    · rw [e, worthN_snoc _ _ h2, cntTo_succ]
      simp only
      omega
    · rw [cntTo_succ, List.sum_append]
      simp only [List.sum_cons, List.sum_nil, Nat.add_zero]
      rw [show tin.length - (i + 1) = tin.length - i - 1 by omega]
      omega
theorem cnt_all {tin : List (Int × Int)} {A : Nat} (h : rowF tin tin.length A < noneC) : ∃ ms, CoinsOk tin A (cntTo tin A tin.length).1 ms ∧ (ms.sum : Int) = rowF tin tin.length A := by
  obtain ⟨ns, h1, h2, h3, h4⟩ := cnt_part h tin.length (Nat.le_refl _)
  have h6 := (cnt_inv h tin.length (Nat.le_refl _)).2
  rw [Nat.sub_self] at h4 h6
  have h7 : (cntTo tin A tin.length).2 = 0 := by
    by_cases e : (cntTo tin A tin.length).2 = 0
    · exact e
    · rw [rowF, if_neg e] at h6; omega
  rw [h7] at h3 h4
  rw [rowF, if_pos rfl] at h4
  rw [List.take_length] at h2 h3
  exact ⟨ns, ⟨h1, h2, by omega⟩, by omega⟩
/-- A tin as the law makes them: no kind twice, few coins. -/
structure TinOk (l : List (Int × Int)) : Prop where
  dup : dupC l = false
  rng : ∀ c ∈ l, (1 ≤ c.1 ∧ c.1 ≤ 2000) ∧ 0 ≤ c.2 ∧ c.2 ≤ 19
theorem TinOk.good {l : List (Int × Int)} (h : TinOk l) : l.any coinBad = false := List.any_eq_false.2 fun c hc => by
  have := h.rng c hc
  simp [coinBad, isIn]
  omega
theorem TinOk.nil : TinOk [] := ⟨rfl, by simp⟩
theorem TinOk.snoc {l : List (Int × Int)} {c : Int × Int} (h : TinOk l) (hc : (1 ≤ c.1 ∧ c.1 ≤ 2000) ∧ 0 ≤ c.2 ∧ c.2 ≤ 19) (hn : ∀ d ∈ l, d.1 ≠ c.1) : TinOk (l ++ [c]) := by
  refine ⟨dupC_false.2 fun i k hk hi => ?_, fun d hd => ?_⟩
  · have hd := dupC_false.1 h.dup
    simp only [List.length_append, List.length_cons, List.length_nil] at hi
    have ek : coinAt (l ++ [c]) (k : Int) = coinAt l k := by
      unfold coinAt; simp only [Int.toNat_natCast, List.getD_eq_getElem?_getD]; rw [List.getElem?_append_left (by omega)]
    rw [ek]
    by_cases e : i < l.length
    · have ei : coinAt (l ++ [c]) (i : Int) = coinAt l i := by
        unfold coinAt; simp only [Int.toNat_natCast, List.getD_eq_getElem?_getD]; rw [List.getElem?_append_left (by omega)]
      rw [ei]; exact hd i k hk e
    · obtain rfl : i = l.length := by omega
      have ei : coinAt (l ++ [c]) (l.length : Int) = c := by
        unfold coinAt; simp [List.getD_eq_getElem?_getD]
      rw [ei]
      refine hn _ ?_
      unfold coinAt
      rw [Int.toNat_natCast, List.getD_eq_getElem?_getD, List.getElem?_eq_getElem hk]
      exact List.getElem_mem hk
  · rcases List.mem_append.1 hd with hd | hd
    · exact h.rng d hd
    · simp only [List.mem_singleton] at hd; subst hd; exact hc
theorem err_form {l : List (Int × Int)} (h : TinOk l) (hl : l.length ≤ 12) {a : Nat} (ha : a ≤ 20000) : coinsErr a l = if noneC ≤ rowF l l.length a then 7 else 0 := by
  have e1 : isIn (a : Int) 0 20000 = true := by simp only [isIn, Bool.and_eq_true, decide_eq_true_eq]; omega
  unfold coinsErr
  rw [e1, h.good, h.dup, if_neg (by decide), if_neg (by omega), if_neg (by decide), if_neg (by decide), Int.toNat_natCast]
/-- THE LAW, first half. -/
theorem coins_law {l : List (Int × Int)} {ns : List Nat} (h : TinOk l) (hl : l.length ≤ 12) (hf : Fits l ns) (hA : worthN l ns ≤ 20000) (hn : ns.sum ≤ 1000) :
    coinsErr (worthN l ns) l = 0 ∧ ∃ ms, CoinsOk l (worthN l ns) (coinsRes (worthN l ns) l) ms ∧ ms.sum ≤ ns.sum := by
  have h1 := rowS_le hf (fun c hc => (h.rng c hc).1.1)
  have h2 : rowF l l.length (worthN l ns) ≤ (ns.sum : Int) := by rw [rowF_S l _ (Nat.le_refl _), Nat.sub_self, List.drop_zero]; exact h1
  have h3 : rowF l l.length (worthN l ns) < noneC := by unfold noneC; omega
  have h4 : coinsErr (worthN l ns) l = 0 := by rw [err_form h hl hA, if_neg (by omega)]
  obtain ⟨ms, h5, h6⟩ := cnt_all h3
  refine ⟨h4, ms, ?_, by omega⟩
  unfold coinsRes
  rw [if_pos h4, Int.toNat_natCast]; exact h5
theorem coins_other {l : List (Int × Int)} (h : TinOk l) (hl : l.length ≤ 12) {a : Nat} (ha : a ≤ 20000) :
    (coinsErr a l = 7 ∧ coinsRes a l = []) ∨ (coinsErr a l = 0 ∧ ∃ ms, CoinsOk l a (coinsRes a l) ms) := by
  by_cases e : noneC ≤ rowF l l.length a
  · have h4 : coinsErr a l = 7 := by rw [err_form h hl ha, if_pos e]
    exact .inl ⟨h4, by unfold coinsRes; rw [h4]; rfl⟩
  · have h4 : coinsErr a l = 0 := by rw [err_form h hl ha, if_neg e]
    obtain ⟨ms, h5, _⟩ := cnt_all (tin := l) (A := a) (by omega)
    refine .inr ⟨h4, ms, ?_⟩
    unfold coinsRes
    rw [if_pos h4, Int.toNat_natCast]; exact h5
end Go.Proofs.Ytagfcodpgochjaa
