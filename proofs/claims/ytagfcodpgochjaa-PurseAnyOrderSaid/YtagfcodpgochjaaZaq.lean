/- The texts Law, Opn, AL, QA, FreeV, in build order. -/
import Derived.Test.YtagfcodpgochjaaZap
import Derived.WalkKit
import Derived.ProofKit
import Derived.OpenShut
import Derived.Below
import Derived.ChangeSame
import Derived.ChangeAgain
import Derived.JoinedCond
import Derived.Test.YtagfcodpgochjaaRows
import Derived.Lib.SmallJoins
import Derived.ChangeSlices
import Derived.JoinedOf
import Derived.JoinedAt
import Derived.Deep.Strs

/- A law that makes new memory alone: what was read before is read again. -/
namespace Go.Oche
open Go Go.RowKit Go.ChangeShapes

/-- The types that a type of the table is made of lie in the table too, and slices have elements of some size. -/
def kidsB (P : Program) (t : TypeId) : Bool := match P.underlying t with
  | some (.slice e) => P.cellsOf e != 0 && decide (e < P.types.size)
  | some (.pointer e) => decide (e < P.types.size)
  | some (.struct fs) => fs.toList.all fun f => decide (f.type < P.types.size)
  | some (.array _ e) => decide (e < P.types.size)
  | some (.map _ e) => decide (e < P.types.size)
  | _ => true
def sizedB (P : Program) : Bool := (List.range P.types.size).all (kidsB P)
theorem kids_of {P : Program} (h : sizedB P = true) {t : TypeId} (hl : t < P.types.size) : kidsB P t = true := List.all_eq_true.1 h t (List.mem_range.2 hl)

theorem mapM_keep {α β : Type} {f g : α → Option β} : ∀ {l : List α} {ys : List β}, l.mapM f = some ys → (∀ x ∈ l, ∀ y ∈ ys, f x = some y → g x = some y) → l.mapM g = some ys
  | [], ys, h, _ => by simpa using h
  | x :: l, ys, h, hk => by
    rw [List.mapM_cons] at h ⊢
    cases hx : f x with
    | none => rw [hx] at h; cases h
    | some y =>
      rw [hx] at h
      cases hl : l.mapM f with
      | none => rw [hl] at h; cases h
      | some zs =>
        rw [hl] at h
        cases h
        rw [hk x (by simp) y (by simp) hx, mapM_keep hl fun x' hx' y' hy' => hk x' (by simp [hx']) y' (by simp [hy'])]
        rfl
theorem mapM_len {α β : Type} {f : α → Option β} : ∀ {l : List α} {ys : List β}, l.mapM f = some ys → ys.length = l.length
  | [], ys, h => by
    have : ys = [] := by simpa using h.symm
    rw [this]; rfl
  | x :: l, ys, h => by
    rw [List.mapM_cons] at h
    cases hx : f x with
    | none => rw [hx] at h; cases h
    | some y =>
      rw [hx] at h
      cases hl : l.mapM f with
      | none => rw [hl] at h; cases h
      | some zs => rw [hl] at h; cases h; simp [mapM_len hl]

section
variable {H : Type} {enc : TypeId × Value → H} {P : Program} {W W' : World} {base : Nat}
theorem cells_keep (hc : ∀ p v, W.cell? p = some v → W'.cell? p = some v) {a : Addr} {n : Nat} {cs : List Value} (h : W.cells? base a n = some cs) : W'.cells? base a n = some cs := by
  unfold World.cells? at h ⊢
  split at h
  · rename_i hb
    rw [if_pos hb]
    exact mapM_keep h fun i _ y _ hy => hc _ _ hy
  · cases h
theorem bind_keep (hc : ∀ p v, W.cell? p = some v → W'.cell? p = some v) {a : Addr} {n : Nat} {f g : List Value → Option (DataW H × List MemPlace)} {x : DataW H × List MemPlace} (h : (W.cells? base a n).bind f = some x) (hk : ∀ cs, f cs = some x → g cs = some x) : (W'.cells? base a n).bind g = some x := by
  cases hcs : W.cells? base a n with
  | none => rw [hcs] at h; cases h
  | some cs => rw [hcs] at h; rw [cells_keep hc hcs]; exact hk cs h

/-- What was read before is read again: memory that there was is as it was. -/
theorem trod_keep (hsz : sizedB P = true) (hc : ∀ p v, W.cell? p = some v → W'.cell? p = some v) (hm : ∀ (b : Nat) es c, W.heap[b]? = some (Obj.map es c) → W'.heap[b]? = some (Obj.map es c)) :
    ∀ (fuel : Nat) (t : TypeId) (cs : List Value) (x : DataW H × List MemPlace), t < P.types.size → DataW.trod enc P W base (fun _ => true) true fuel t cs = some x → ∀ sp : Nat → Bool, (∀ p ∈ x.2, sp p.block = true) →
      DataW.trod enc P W' base sp true fuel t cs = some x := by
  intro fuel
  induction fuel with
  | zero => intro t cs x _ h; cases h
  | succ fuel ih =>
    intro t cs x htl h sp hsp
    have hkid := kids_of hsz htl
    unfold kidsB at hkid
    unfold DataW.trod at h ⊢
    split at h
    all_goals try exact h
    · rename_i e a hu
      rw [hu] at hkid
      have he : e < P.types.size := by simpa using hkid
      obtain ⟨y, hy, rfl⟩ := Option.map_eq_some_iff.1 h
      refine Option.map_eq_some_iff.2 ⟨y, bind_keep hc hy fun cs hcs => ih _ _ _ he hcs sp fun p hp => hsp p (by simp [hp]), rfl⟩
    · rename_i e a len cap hu
      rw [hu] at hkid
      obtain ⟨hz, he⟩ : P.cellsOf e ≠ 0 ∧ e < P.types.size := by simpa using hkid
      simp only at h ⊢
      split at h
      · rename_i hcond
        rw [if_pos hcond]
        obtain ⟨elems, hel, h⟩ := Option.bind_eq_some_iff.1 h
        obtain ⟨rest, hrest, rfl⟩ := Option.map_eq_some_iff.1 h
        simp only [if_true] at hrest
        have hl1 := mapM_len hel
        have hl2 := mapM_len hrest
        simp only [List.length_range] at hl1 hl2
        have hx : ∀ y ∈ elems ++ rest, ∀ p ∈ y.2, sp p.block = true := fun y hy p hp => hsp p (List.mem_append_right _ (List.mem_flatMap.2 ⟨y, hy, hp⟩))
        refine Option.bind_eq_some_iff.2 ⟨elems, mapM_keep hel fun i _ y hy hi => bind_keep hc hi fun cs hcs => ih _ _ _ he hcs sp (hx y (by simp [hy])), Option.map_eq_some_iff.2 ⟨rest, ?_, rfl⟩⟩
        by_cases hs : sp a.block = true
        · rw [if_pos hs]
          exact mapM_keep hrest fun i _ y hy hi => bind_keep hc hi fun cs hcs => ih _ _ _ he hcs sp (hx y (by simp [hy]))
        · rw [if_neg hs]
          have h0 : cap - len = 0 := by
            rcases Nat.eq_zero_or_pos (cap - len) with h | h
            · exact h
            · exfalso
              apply hs
              have hpos : 0 < (elems.length + rest.length) * P.cellsOf e := Nat.mul_pos (by omega) (by omega)
              refine hsp (.cell a.block (a.off + 0)) (List.mem_append_left _ ?_)
              unfold MemPlace.row
              exact List.mem_map.2 ⟨0, List.mem_range.2 hpos, rfl⟩
          have : rest = [] := List.eq_nil_of_length_eq_zero (by omega)
          rw [this]
      · cases h
    · rename_i fs hu
      rw [hu] at hkid
      have he : ∀ f ∈ fs.toList, f.type < P.types.size := fun f hf => by simpa using List.all_eq_true.1 hkid f hf
      split at h
      · rename_i hl
        rw [if_pos hl]
        obtain ⟨xs, hxs, rfl⟩ := Option.map_eq_some_iff.1 h
        exact Option.map_eq_some_iff.2 ⟨xs, mapM_keep hxs fun f hff y hy hf => ih _ _ _ (he f hff) hf sp fun p hp => hsp p (List.mem_flatMap.2 ⟨y, hy, hp⟩), rfl⟩
      · cases h
    · rename_i n e hu
      rw [hu] at hkid
      have he : e < P.types.size := by simpa using hkid
      split at h
      · rename_i hl
        rw [if_pos hl]
        obtain ⟨xs, hxs, rfl⟩ := Option.map_eq_some_iff.1 h
        exact Option.map_eq_some_iff.2 ⟨xs, mapM_keep hxs fun f _ y hy hf => ih _ _ _ he hf sp fun p hp => hsp p (List.mem_flatMap.2 ⟨y, hy, hp⟩), rfl⟩
      · cases h
    · rename_i k e b hu
      rw [hu] at hkid
      have he : e < P.types.size := by simpa using hkid
      split at h
      · rename_i es clock hb
        rw [hm _ _ _ hb]
        simp only
        split at h
        · rename_i hcond
          rw [if_pos hcond]
          obtain ⟨entries, hen, h⟩ := Option.bind_eq_some_iff.1 h
          have hplaces : ∀ y ∈ entries, ∀ p ∈ y.2, sp p.block = true := fun y hy p hp => hsp p (by
            dsimp only at h
            split at h
            · cases h; exact List.mem_cons_of_mem _ (List.mem_flatMap.2 ⟨y, hy, hp⟩)
            · cases h)
          refine Option.bind_eq_some_iff.2 ⟨entries, mapM_keep hen fun z _ y hy hz => ?_, h⟩
          obtain ⟨key, hk, hz⟩ := Option.bind_eq_some_iff.1 hz
          refine Option.bind_eq_some_iff.2 ⟨key, hk, ?_⟩
          split at hz
          · rename_i hfm
            rw [if_pos hfm]
            obtain ⟨y', hy', rfl⟩ := Option.map_eq_some_iff.1 hz
            exact Option.map_eq_some_iff.2 ⟨y', ih _ _ _ he hy' sp (hplaces _ hy), rfl⟩
          · cases hz
        · cases h
      · cases h
theorem trodAll_keep (hsz : sizedB P = true) (hc : ∀ p v, W.cell? p = some v → W'.cell? p = some v) (hm : ∀ (b : Nat) es c, W.heap[b]? = some (Obj.map es c) → W'.heap[b]? = some (Obj.map es c)) :
    ∀ (ts : List TypeId) (vs : List Value) (ds : List (DataW H)) (ps : List MemPlace), (∀ t ∈ ts, t < P.types.size) → DataW.TrodAll enc P W base (fun _ => true) true ts vs ds ps → ∀ sp : Nat → Bool, (∀ p ∈ ps, sp p.block = true) → DataW.TrodAll enc P W' base sp true ts vs ds ps
  | [], [], [], _, _, h, _, _ => h
  | t :: ts, v :: vs, d :: ds, ps, hts, ⟨p, q, ⟨fuel, h1⟩, h2, h3⟩, sp, hsp => by
    subst h3
    exact ⟨p, q, ⟨fuel, trod_keep hsz hc hm fuel t _ _ (hts t (by simp)) h1 sp fun x hx => hsp x (by simp [hx])⟩, trodAll_keep hsz hc hm ts vs ds q (fun t ht => hts t (by simp [ht])) h2 sp fun x hx => hsp x (by simp [hx]), rfl⟩
  | [], [], _ :: _, _, _, h, _, _ => h.elim
  | [], _ :: _, ds, _, _, h, _, _ => by cases ds <;> exact h.elim
  | _ :: _, [], ds, _, _, h, _, _ => by cases ds <;> exact h.elim
  | _ :: _, _ :: _, [], _, _, h, _, _ => h.elim

theorem below_keptBut (hb : Below W.heap.size W W') (may : MemPlace → Prop) : W.keptBut W' may := by
  refine ⟨hb.os, hb.output, fun i hi => ?_⟩
  have := hb.block i hi
  rw [this]
  cases h : W.heap[i]? with
  | none => rfl
  | some o => cases o <;> simp

/-- The post of a law that has answered true and made new memory alone. -/
theorem law_post {f : Func} {s : ChangeSpec} {apart fresh handsOn again : Bool} {args : Array Value} {ds gs : List (DataW H)} {before : List MemPlace}
    (hsz : sizedB P = true) (hts : f.params.toList.all (fun t => decide (t < P.types.size)) = true) (hW : DataW.Whole enc P f.params.toList s.vars apart W args.toList ds gs before) (hv : s.vars = []) (hb : Below W.heap.size W W')
    (hres : (s.fn H ds).results = [.lit (.bool true)]) (hargs : (s.fn H ds).args = ds) (hvars : (s.fn H ds).vars = []) {bt : TypeId} (hrt : f.resultTypes = #[bt]) (hbt : P.underlying bt = some .bool) :
    s.post enc P f apart fresh handsOn again W args (.bool true) W' := by
  have hW0 := hW
  obtain ⟨p, q, hA, hV, hps, hfz, hnd⟩ := hW
  rw [hv] at hV
  have hg : gs = [] ∧ q = [] := by
    cases gs with
    | nil => exact ⟨rfl, hV⟩
    | cons g gs => exact hV.elim
  obtain ⟨rfl, rfl⟩ := hg
  rw [List.append_nil] at hps
  subst hps
  have hc : ∀ p v, W.cell? p = some v → W'.cell? p = some v := fun p v h => (World.cell?_of_block (w := W) (hb.block p.block (World.block_lt_of_cell? W p h))).trans h
  have hm : ∀ (b : Nat) es c, W.heap[b]? = some (Obj.map es c) → W'.heap[b]? = some (Obj.map es c) := fun b es c h => (hb.block b (Array.getElem?_eq_some_iff.1 h).1).trans h
  have hag : ∀ sp : Nat → Bool, (∀ x ∈ before, sp x.block = true) → DataW.TrodAll enc P W' 0 sp true f.params.toList args.toList ds before := fun sp hsp => trodAll_keep hsz hc hm _ _ _ _ (fun t ht => by simpa using List.all_eq_true.1 hts t ht) hA sp hsp
  have hlt : ∀ x ∈ before, x.block < W.heap.size := fun x hx => hW0.lt x hx
  have hold : ∀ x ∈ before, (fun b => decide (b < W.heap.size)) x.block = true := fun x hx => by simpa using hlt x hx
  have hR : ∀ (b : Nat) (sp : Nat → Bool) (hd : Bool), DataW.TrodAll enc P W' b sp hd f.resultTypes.toList ((Value.bool true).resultList f.resultTypes.size) (s.fn H (ds ++ [])).results [] := fun b sp hd => by
    rw [List.append_nil, hres, hrt]
    exact trodAll_cons_mk (shut_bool hbt true) trodAll_mk0
  have hR2 : ∀ sp : Nat → Bool, (∀ x ∈ before, sp x.block = true) → DataW.TrodAll enc P W' 0 sp true f.params.toList args.toList (s.fn H (ds ++ [])).args before := fun sp hsp => by
    rw [List.append_nil, hargs]; exact hag sp hsp
  have hVV : ∀ sp : Nat → Bool, DataW.TrodVars enc P W' sp s.vars (s.fn H (ds ++ [])).vars [] := fun sp => by
    rw [List.append_nil, hvars, hv]; rfl
  refine ⟨ds, [], before, [], before, [], hW0, hR _ _ _, hR2 _ hold, hVV _, below_keptBut hb _, fun _ => ?_⟩
  refine ⟨?_, _, _, ([] ++ before) ++ [], ⟨[] ++ before, [], trodAll_append (hR2 _ (fun _ _ => rfl)) (hR _ _ _), hVV _, rfl, ?_, ?_⟩, ?_⟩
  · exact ok_one hrt rfl (okWide_bool_mk hbt _)
  · intro b off hp
    have hp' : MemPlace.cell b off ∈ before := by simpa using hp
    have hlt' := hlt _ hp'
    have : W'.frozen? ⟨b, off, none⟩ = W.frozen? ⟨b, off, none⟩ := World.frozen?_of_block (w := W) (hb.block b hlt')
    rw [this]
    exact hfz b off hp'
  · intro ha
    simpa using hnd ha
  · intro x hx _
    simpa using hx
end
end Go.Oche

/- What a law's arguments read as: slices of elements of k cells, slices of slices, rows of numbers. -/
namespace Go.Proofs.Ytagfcodpgochjaa
open Go.RowKit Go.Oche Go.Proofs Go.ChangeShapes Go.WideShapes Go.ChangeAt

theorem own : ownKnob Try.prog.godebug = none := by kernel_rfl
theorem sized : sizedB Try.prog = true := by kernel_rfl
/-- An integer of 64 bits. -/
def I64' (n : Int) : Prop := -9223372036854775808 ≤ n ∧ n ≤ 9223372036854775807
theorem wf_i64 {n : Int} (h : (Lit.int .i64 n).wf = true) : I64' n := by
  have := h
  simp [Lit.wf, IntKind.min, IntKind.max, IntKind.signed, IntKind.bits] at this
  exact this
theorem wf_u16 {n : Int} (h : (Lit.int .u16 n).wf = true) : 0 ≤ n ∧ n ≤ 65535 := by
  have := h
  simp [Lit.wf, IntKind.min, IntKind.max, IntKind.signed, IntKind.bits] at this
  exact this
theorem wf_u8 {n : Int} (h : (Lit.int .u8 n).wf = true) : 0 ≤ n ∧ n ≤ 255 := by
  have := h
  simp [Lit.wf, IntKind.min, IntKind.max, IntKind.signed, IntKind.bits] at this
  exact this
theorem wf_u32 {n : Int} (h : (Lit.int .u32 n).wf = true) : 0 ≤ n ∧ n ≤ 4294967295 := by
  have := h
  simp [Lit.wf, IntKind.min, IntKind.max, IntKind.signed, IntKind.bits] at this
  exact this
theorem wf_i32 {n : Int} (h : (Lit.int .i32 n).wf = true) : -2147483648 ≤ n ∧ n ≤ 2147483647 := by
  have := h
  simp [Lit.wf, IntKind.min, IntKind.max, IntKind.signed, IntKind.bits] at this
  exact this
theorem list_two {α : Type} {cs : List α} (h : cs.length = 2) : ∃ a b, cs = [a, b] := by
  cases cs with
  | nil => simp at h
  | cons a cs =>
    cases cs with
    | nil => simp at h
    | cons b cs =>
      cases cs with
      | nil => exact ⟨a, b, rfl⟩
      | cons c cs => simp at h
theorem list_three {α : Type} {cs : List α} (h : cs.length = 3) : ∃ a b c, cs = [a, b, c] := by
  cases cs with
  | nil => simp at h
  | cons a cs =>
    obtain ⟨b, c, rfl⟩ := list_two (cs := cs) (by simpa using h)
    exact ⟨a, b, c, rfl⟩
theorem choose_rows {β : Type} {R : Nat → β → Prop} : ∀ n, (∀ i, i < n → ∃ b, R i b) → ∃ xs : List β, xs.length = n ∧ ∀ i b, xs[i]? = some b → R i b
  | 0, _ => ⟨[], rfl, fun i b h => by simp at h⟩
  | n + 1, h => by
    obtain ⟨xs, h1, h2⟩ := choose_rows n fun i hi => h i (by omega)
    obtain ⟨b, hb⟩ := h n (by omega)
    refine ⟨xs ++ [b], by simp [h1], fun i b' hi => ?_⟩
    by_cases hin : i < xs.length
    · rw [List.getElem?_append_left hin] at hi
      exact h2 i b' hi
    · have hlt := (List.getElem?_eq_some_iff.1 hi).1
      simp at hlt
      obtain rfl : i = xs.length := by omega
      simp at hi
      subst hi
      rw [h1]; exact hb
theorem spot_none {W : World} {a : Addr} {j : Nat} {x : Value} (h : W.cell? (a.add j) = some x) (hj : j = 0) : a.spot = none := by
  subst hj
  unfold World.cell? Addr.add at h
  simp only [if_true] at h
  cases hs : a.spot with
  | none => rfl
  | some s =>
    rw [hs] at h
    split at h <;> simp at h
section
variable {H : Type} {enc : TypeId × Value → H} {W : World} {base : Nat} {spare : Nat → Bool} {held : Bool}
theorem open_rowsN {β : Type} (row : β → List Value) (k : Nat) (Q : β → Prop) {t e : TypeId} (ht : Try.prog.underlying t = some (.slice e)) (hce : Try.prog.cellsOf e = k) (hk : 0 < k)
    (hone : ∀ n cs (y : DataW H × List MemPlace), DataW.trod enc Try.prog W base spare held n e cs = some y → ∃ b, cs = row b ∧ Q b) (hrow : ∀ b, (row b).length = k) {n : Nat} {v : Value} {x : DataW H × List MemPlace} (h : DataW.trod enc Try.prog W base spare held n t [v] = some x) :
    ∃ xs : List β, SlN k (fun _ => True) W v (xs.map row) ∧ ∀ b ∈ xs, Q b := by
  rcases DataW.trod_slice ht h with ⟨hcs, _⟩ | ⟨a, len, cap, elems, rest, m, _, hcs, _, _, hl, hm, hlen, hel, _, _⟩
  · simp only [List.cons.injEq, and_true] at hcs
    subst hcs
    exact ⟨[], SlN.nil _ _ _, by simp⟩
  · simp only [List.cons.injEq, and_true] at hcs
    subst hcs
    have hall : ∀ i, i < len → ∃ b, (∀ j x, (row b)[j]? = some x → W.cell? ((a.add (i * k)).add j) = some x) ∧ Q b := fun i hi => by
      have hy := hel i hi
      rw [List.getElem?_eq_getElem (by omega), hce, Option.bind_eq_some_iff] at hy
      obtain ⟨cs, hcs, hy⟩ := hy
      obtain ⟨b, rfl, hb⟩ := hone _ _ _ hy
      have := (World.cells?_some hcs)
      refine ⟨b, fun j x hx => ?_, hb⟩
      have hj : j < k := by rw [← hrow b]; exact (List.getElem?_eq_some_iff.1 hx).1
      rw [this.2.2 j hj]; exact hx
    obtain ⟨xs, h1, h2⟩ := choose_rows len hall
    refine ⟨xs, ⟨some a, cap, by rw [List.length_map, h1], by rw [List.length_map, h1]; exact hl, hm, fun i r hr => ?_⟩, fun b hb => ?_⟩
    · rw [List.getElem?_map, Option.map_eq_some_iff] at hr
      obtain ⟨b, hb, rfl⟩ := hr
      have hi : i < len := by rw [← h1]; exact (List.getElem?_eq_some_iff.1 hb).1
      have h0 : 0 < xs.length := by omega
      have hsp : a.spot = none := by
        have hr0 := hrow xs[0]
        have := (h2 0 xs[0] (List.getElem?_eq_getElem h0)).1 0 (row xs[0])[0] (List.getElem?_eq_getElem (by omega))
        rw [Nat.zero_mul] at this
        obtain ⟨b, o, s⟩ := a
        cases s with
        | none => rfl
        | some s =>
          simp [Addr.add, World.cell?] at this
          split at this <;> cases this
      obtain ⟨b', o, sp⟩ := a
      simp only at hsp
      subst hsp
      refine ⟨hrow b, b', o, rfl, trivial, fun j x hx => ?_⟩
      have := (h2 i b hb).1 j x hx
      rw [addr_at, addr_at] at this
      exact this
    · obtain ⟨i, hi⟩ := List.getElem?_of_mem hb
      exact (h2 i b hi).2
theorem open_i64c {n : Nat} {v : Value} {y : DataW H × List MemPlace} (h : DataW.trod enc Try.prog W base spare held n 3 [v] = some y) : ∃ z, v = .int .i64 z ∧ I64' z := by
  obtain ⟨z, hz, _, hw⟩ := DataW.trod_int Try.underlying3 h
  simp only [List.cons.injEq, and_true] at hz
  exact ⟨z, hz, wf_i64 hw⟩
theorem open_cellsT {t : TypeId} {v : Value} {d : DataW H} {p : List MemPlace} (h : DataW.Trod enc Try.prog W base spare held t v d p) (hv : v.cells = #[v]) : ∃ n y, DataW.trod enc Try.prog W base spare held n t [v] = some y := by
  obtain ⟨n, h⟩ := h
  rw [hv] at h
  exact ⟨n, _, h⟩
theorem open_intL {n : Nat} {v : Value} {x : DataW H × List MemPlace} (h : DataW.trod enc Try.prog W base spare held n 22 [v] = some x) : ∃ xs : List Int, Sl (fun _ => True) W v (ints xs) ∧ ∀ b ∈ xs, I64' b := by
  obtain ⟨xs, h1, h2⟩ := open_rowsN (fun z : Int => [.int .i64 z]) 1 I64' Try.underlying22 (by kernel_rfl) (by decide) (fun n cs y hy => by
    obtain ⟨z, hz, _, hw⟩ := DataW.trod_int Try.underlying3 hy
    exact ⟨z, hz, wf_i64 hw⟩) (fun b => rfl) h
  refine ⟨xs, SlN.to1 ?_, h2⟩
  have e : (ints xs).map (fun x => [x]) = xs.map (fun z => [.int .i64 z]) := by simp [ints]
  rw [e]; exact h1
theorem open_struct3 {t : TypeId} {f0 f1 f2 : Field} (ht : Try.prog.underlying t = some (.struct #[f0, f1, f2])) (hc : Try.prog.cellsOf t = 3) (e0 : f0.type = 3 ∧ f0.offset = 0) (e1 : f1.type = 3 ∧ f1.offset = 1) (e2 : f2.type = 3 ∧ f2.offset = 2)
    {n : Nat} {cs : List Value} {y : DataW H × List MemPlace} (h : DataW.trod enc Try.prog W base spare held n t cs = some y) : ∃ b : Int × Int × Int, cs = [.int .i64 b.1, .int .i64 b.2.1, .int .i64 b.2.2] ∧ I64' b.1 ∧ I64' b.2.1 ∧ I64' b.2.2 := by
  obtain ⟨y0, y1, y2, m, _, hl, h0, h1, h2⟩ := Go.Deep.trod_struct3 ht h
  rw [hc] at hl
  have c3 : Try.prog.cellsOf 3 = 1 := by kernel_rfl
  obtain ⟨c0, c1, c2, rfl⟩ := list_three hl
  rw [e0.1, e0.2, c3] at h0
  rw [e1.1, e1.2, c3] at h1
  rw [e2.1, e2.2, c3] at h2
  obtain ⟨a, ha', ha⟩ := open_i64c (v := c0) h0
  obtain ⟨b, hb', hb⟩ := open_i64c (v := c1) h1
  obtain ⟨c, hc', hc⟩ := open_i64c (v := c2) h2
  subst ha' hb' hc'
  exact ⟨(a, b, c), rfl, ha, hb, hc⟩
theorem open_struct2 {t : TypeId} {f0 f1 : Field} (ht : Try.prog.underlying t = some (.struct #[f0, f1])) (hc : Try.prog.cellsOf t = 2) (e0 : f0.type = 3 ∧ f0.offset = 0) (e1 : f1.type = 3 ∧ f1.offset = 1)
    {n : Nat} {cs : List Value} {y : DataW H × List MemPlace} (h : DataW.trod enc Try.prog W base spare held n t cs = some y) : ∃ b : Int × Int, cs = [.int .i64 b.1, .int .i64 b.2] ∧ I64' b.1 ∧ I64' b.2 := by
  obtain ⟨y0, y1, m, _, hl, h0, h1⟩ := trod_struct2 ht h
  rw [hc] at hl
  have c3 : Try.prog.cellsOf 3 = 1 := by kernel_rfl
  obtain ⟨c0, c1, rfl⟩ := list_two hl
  rw [e0.1, e0.2, c3] at h0
  rw [e1.1, e1.2, c3] at h1
  obtain ⟨a, ha', ha⟩ := open_i64c (v := c0) h0
  obtain ⟨b, hb', hb⟩ := open_i64c (v := c1) h1
  subst ha' hb'
  exact ⟨(a, b), rfl, ha, hb⟩
theorem open_intLL {n : Nat} {v : Value} {x : DataW H × List MemPlace} (h : DataW.trod enc Try.prog W base spare held n 32 [v] = some x) : ∃ gs : List (List Int), SlSl (fun _ => True) W v gs ∧ ∀ g ∈ gs, ∀ b ∈ g, I64' b := by
  obtain ⟨xs, h1, h2⟩ := open_rowsN (fun z : Value × List Int => [z.1]) 1 (fun z => Sl (fun _ => True) W z.1 (ints z.2) ∧ ∀ b ∈ z.2, I64' b) Try.underlying32 (by kernel_rfl) (by decide) (fun n cs y hy => by
    have hl : ∃ u, cs = [u] := by
      rcases DataW.trod_slice Try.underlying22 hy with ⟨hcs, _⟩ | ⟨a, len, cap, elems, rest, m, _, hcs, _⟩
      · exact ⟨_, hcs⟩
      · exact ⟨_, hcs⟩
    obtain ⟨u, rfl⟩ := hl
    obtain ⟨xs, h1, h2⟩ := open_intL hy
    exact ⟨(u, xs), rfl, h1, h2⟩) (fun b => rfl) h
  have e : (xs.map (·.1)).map (fun x => [x]) = xs.map (fun z => [z.1]) := by simp
  rw [← e] at h1
  refine ⟨xs.map (·.2), ⟨xs.map (·.1), SlN.to1 h1, by simp, fun i hi => ?_⟩, fun g hg => ?_⟩
  · have hi' : i < xs.length := by simpa using hi
    refine ⟨xs[i].1, by simp [hi'], ?_⟩
    simp only [List.getElem_map]
    exact (h2 _ (List.getElem_mem hi')).1
  · obtain ⟨z, hz, rfl⟩ := List.mem_map.1 hg
    exact (h2 z hz).2
end
end Go.Proofs.Ytagfcodpgochjaa

/- Chapter 12: what the claims' texts import: the laws' walks (new ones are appended at the end). -/

/- Chapter 12: moves in any order, and some of them again. -/
namespace Go.Proofs.Ytagfcodpgochjaa
open Go.RowKit Go.Oche Go.Proofs

/-- Moves that are valid by themselves; a number is one move's. -/
structure MvOk (n : Nat) (L : List Mv) : Prop where
  valid : ∀ x ∈ L, moveErr n x = 0
  one : ∀ x ∈ L, ∀ y ∈ L, x.1 = y.1 → x = y
/-- The receipts of moves. -/
structure RecOf (M : List Mv) (E : Rec) : Prop where
  nodup : (E.map (·.1.1)).Nodup
  mem : ∀ x, x ∈ E.map (·.1) ↔ x ∈ M
  at_ : ∀ e ∈ E, M[e.2]? = some e.1
theorem scan_pre {n : Nat} : ∀ (M pre : List Mv) (E : Rec), MvOk n (pre ++ M) → RecOf pre E → ∃ E', scanMv n M pre.length E = .ok E' ∧ RecOf (pre ++ M) E'
  | [], pre, E, _, h => ⟨E, rfl, by rwa [List.append_nil]⟩
  | x :: M, pre, E, hM, h => by
    have hx : x ∈ pre ++ x :: M := by simp
    have he : enterErr n E x = 0 := by
      unfold enterErr
      rw [if_neg (by rw [hM.valid x hx]; exact fun h => h rfl)]
      cases hq : numE E x.1 with
      | none => rfl
      | some y =>
        obtain ⟨h1, h2⟩ := numE_some hq
        have h3 : y.1 ∈ pre := (h.mem y.1).1 (List.mem_map.2 ⟨y, h1, rfl⟩)
        have h4 := hM.one y.1 (by simp [h3]) x hx h2
        simp [h4]
    have hk : pre.length < (pre ++ [x]).length := by simp
    have hr : RecOf (pre ++ [x]) (enterE E pre.length x) := by
      unfold enterE
      cases hq : numE E x.1 with
      | some y =>
        obtain ⟨h1, h2⟩ := numE_some hq
        have h3 : y.1 ∈ pre := (h.mem y.1).1 (List.mem_map.2 ⟨y, h1, rfl⟩)
        have h4 := hM.one y.1 (by simp [h3]) x hx h2
        rw [if_pos (by rfl)]
        refine ⟨h.nodup, fun z => ?_, fun e he => ?_⟩
        · rw [h.mem z, List.mem_append, List.mem_singleton]
          exact ⟨.inl, fun h => h.elim id fun e => by rw [e, ← h4]; exact h3⟩
        · have := h.at_ e he
          rw [List.getElem?_append_left (List.getElem?_eq_some_iff.1 this).1]; exact this
      | none =>
        rw [if_neg (by simp)]
        refine ⟨?_, fun z => ?_, fun e he => ?_⟩
        · rw [List.map_append, List.map_cons, List.map_nil]
          refine List.nodup_append.2 ⟨h.nodup, by simp, fun a ha b hb => ?_⟩
          simp at hb
          subst hb
          exact fun e => numE_none hq (e ▸ ha)
        · rw [List.map_append, List.mem_append, List.mem_append, h.mem z]
          simp
        · rcases List.mem_append.1 he with he | he
          · have := h.at_ e he
            rw [List.getElem?_append_left (List.getElem?_eq_some_iff.1 this).1]; exact this
          · simp only [List.mem_singleton] at he
            subst he
            simp
    rw [scanMv, if_pos he]
    have := scan_pre M (pre ++ [x]) _ (by simpa using hM) hr
    simpa using this
theorem scan_ok {n : Nat} {M : List Mv} (h : MvOk n M) : ∃ E, scanMv n M 0 [] = .ok E ∧ RecOf M E :=
  scan_pre M [] [] (by simpa using h) ⟨by simp, by simp, by simp⟩
theorem RecOf.num {M : List Mv} {E : Rec} (h : RecOf M E) (k : Int) : k ∈ E.map (·.1.1) ↔ ∃ x ∈ M, x.1 = k := by
  rw [List.mem_map]
  constructor
  · rintro ⟨e, he, rfl⟩
    exact ⟨e.1, (h.mem _).1 (List.mem_map.2 ⟨e, he, rfl⟩), rfl⟩
  · rintro ⟨x, hx, rfl⟩
    obtain ⟨e, he, rfl⟩ := List.mem_map.1 ((h.mem x).2 hx)
    exact ⟨e, he, rfl⟩
def numK (E : Rec) : List Int := (E.map (·.1.1)).mergeSort fun a b => decide (a ≤ b)
theorem numK_perm (E : Rec) : (numK E).Perm (E.map (·.1.1)) := List.mergeSort_perm _ _
theorem numK_same {M M' : List Mv} {E E' : Rec} (h : RecOf M E) (h' : RecOf M' E') (hs : ∀ x, x ∈ M ↔ x ∈ M') : numK E = numK E' := by
  have hp : ∀ l : List Int, (l.mergeSort fun a b => decide (a ≤ b)).Pairwise fun a b => decide (a ≤ b) = true := fun l =>
    List.pairwise_mergeSort (fun a b c h1 h2 => by simp at *; omega) (fun a b => by simp; omega) l
  refine List.Perm.eq_of_pairwise (fun a b _ _ h1 h2 => ?_) (hp (E.map (·.1.1))) (hp (E'.map (·.1.1))) ?_
  · simp at h1 h2; omega
  · refine (numK_perm E).trans (List.Perm.trans ?_ (numK_perm E').symm)
    rw [List.perm_ext_iff_of_nodup h.nodup h'.nodup]
    intro k
    rw [h.num, h'.num]
    exact ⟨fun ⟨x, hx, e⟩ => ⟨x, (hs x).1 hx, e⟩, fun ⟨x, hx, e⟩ => ⟨x, (hs x).2 hx, e⟩⟩
theorem sortE_at {M : List Mv} {E : Rec} (h : RecOf M E) {k : Int} (hk : k ∈ numK E) : ∃ y, (numE E k).getD ((0, 0, 0, 0), 0) = y ∧ y ∈ E ∧ y.1 ∈ M ∧ y.1.1 = k := by
  have hk2 := (numK_perm E).mem_iff.1 hk
  cases hq : numE E k with
  | none => exact absurd hk2 (numE_none hq)
  | some y =>
    obtain ⟨h1, h2⟩ := numE_some hq
    exact ⟨y, rfl, h1, (h.mem _).1 (List.mem_map.2 ⟨y, h1, rfl⟩), h2⟩
theorem sort_same {n : Nat} {M M' : List Mv} {E E' : Rec} (hM : MvOk n M) (h : RecOf M E) (h' : RecOf M' E') (hs : ∀ x, x ∈ M ↔ x ∈ M') : (sortE E).map (·.1) = (sortE E').map (·.1) := by
  have hK := numK_same h h' hs
  show ((numK E).map _).map _ = ((numK E').map _).map _
  rw [← hK, List.map_map, List.map_map]
  refine List.map_congr_left fun k hk => ?_
  obtain ⟨y, e1, _, h2, h3⟩ := sortE_at h hk
  obtain ⟨y', e1', _, h2', h3'⟩ := sortE_at h' (hK ▸ hk)
  simp only [Function.comp_apply, e1, e1']
  exact hM.one _ h2 _ ((hs _).2 h2') (by rw [h3, h3'])
theorem sort_perm {L : List Mv} {E : Rec} (hnd : (L.map (·.1)).Nodup) (h : RecOf L E) : ((sortE E).map (·.1)).Perm L := by
  have e1 : ((sortE E).map (·.1)).map (·.1) = numK E := by
    show (((numK E).map _).map _).map _ = _
    rw [List.map_map, List.map_map]
    conv => rhs; rw [← List.map_id (numK E)]
    refine List.map_congr_left fun k hk => ?_
    obtain ⟨y, e1, _, _, h3⟩ := sortE_at h hk
    simp only [Function.comp_apply, e1, id]; exact h3
  have n1 : ((sortE E).map (·.1)).Nodup := by
    have : (((sortE E).map (·.1)).map (·.1)).Nodup := by rw [e1]; exact (numK_perm E).nodup_iff.2 h.nodup
    exact List.Pairwise.of_map (·.1) (fun a b hab e => hab (by rw [e])) this
  have n2 : L.Nodup := List.Pairwise.of_map (·.1) (fun a b hab e => hab (by rw [e])) hnd
  have inj : ∀ x ∈ L, ∀ y ∈ L, x.1 = y.1 → x = y := by
    have hp : L.Pairwise fun x y => x.1 ≠ y.1 := List.pairwise_map.1 hnd
    intro x hx y hy e
    obtain ⟨i, hi, rfl⟩ := List.mem_iff_getElem.1 hx
    obtain ⟨j, hj, rfl⟩ := List.mem_iff_getElem.1 hy
    rcases Nat.lt_trichotomy i j with h1 | h1 | h1
    · exact absurd e (List.pairwise_iff_getElem.1 hp i j hi hj h1)
    · subst h1; rfl
    · exact absurd e.symm (List.pairwise_iff_getElem.1 hp j i hj hi h1)
  rw [List.perm_ext_iff_of_nodup n1 n2]
  intro x
  constructor
  · intro hx
    obtain ⟨e, he, rfl⟩ := List.mem_map.1 hx
    obtain ⟨k, hk, rfl⟩ := List.mem_map.1 he
    obtain ⟨y, e1, _, h2, _⟩ := sortE_at h hk
    rw [e1]; exact h2
  · intro hx
    have hk : x.1 ∈ numK E := (numK_perm E).mem_iff.2 ((h.num _).2 ⟨x, hx, rfl⟩)
    obtain ⟨y, e1, _, h2, h3⟩ := sortE_at h hk
    exact List.mem_map.2 ⟨y, List.mem_map.2 ⟨x.1, hk, e1⟩, inj _ h2 _ hx h3⟩
/-- What a move does to an account. -/
def delta (i : Nat) (x : Mv) : Int := (if x.2.1.toNat = i then -x.2.2.2 else 0) + (if x.2.2.1.toNat = i then x.2.2.2 else 0)
theorem run_both {n : Nat} {cr : List Int} : ∀ (S S' : Rec) (has : List Int) (B : Int), S.map (·.1) = S'.map (·.1) → (∀ e ∈ S, moveErr n e.1 = 0 ∧ e.1.2.2.2 ≤ 65536) → has.length = n →
    (∀ i, i < n → -(cr.getD i 0) ≤ has.getD i 0 ∧ has.getD i 0 ≤ B) → B + 65536 * (S.length : Int) ≤ 1000000000 →
    (∃ has', runMv cr has S = (has', 0, 0) ∧ runMv cr has S' = (has', 0, 0) ∧ has'.length = n ∧ ∀ i, i < n → -(cr.getD i 0) ≤ has'.getD i 0 ∧ has'.getD i 0 = has.getD i 0 + ((S.map (·.1)).map (delta i)).sum) ∨
    (∃ e e' : Mv × Nat, e ∈ S ∧ e' ∈ S' ∧ e.1 = e'.1 ∧ runMv cr has S = ([], (e.2 : Int), 9) ∧ runMv cr has S' = ([], (e'.2 : Int), 9))
  | [], [], has, _, _, _, hl, hb, _ => .inl ⟨has, rfl, rfl, hl, fun i hi => ⟨(hb i hi).1, by simp⟩⟩
  | [], _ :: _, _, _, h, _, _, _, _ => by simp at h
  | _ :: _, [], _, _, h, _, _, _, _ => by simp at h
  | (x, k) :: S, (x', k') :: S', has, B, h, hv, hl, hb, hB => by
    simp only [List.map_cons, List.cons.injEq] at h
    obtain ⟨rfl, h⟩ := h
    obtain ⟨hx, ha⟩ := hv (x, k) (by simp)
    simp only at hx ha
    obtain ⟨_, hf, ht, hne, h1, _⟩ := moveErr_zero hx
    have hF : x.2.1.toNat < has.length := by omega
    have hT : x.2.2.1.toNat < has.length := by omega
    have hFT : x.2.1.toNat ≠ x.2.2.1.toNat := by omega
    have e := mvL_at (m := x.2.2.2) hF hT hFT
    rw [List.length_cons, Int.natCast_add, Int.mul_add] at hB
    rw [runMv, runMv]
    by_cases h2 : (mvL has x.2.1.toNat x.2.2.1.toNat x.2.2.2).getD x.2.1.toNat 0 < -(cr.getD x.2.1.toNat 0)
    · rw [if_pos h2, if_pos h2]
      exact .inr ⟨(x, k), (x, k'), by simp, by simp, rfl, rfl, rfl⟩
    · have h3 : ¬ 1000000000 < (mvL has x.2.1.toNat x.2.2.1.toNat x.2.2.2).getD x.2.2.1.toNat 0 := by
        rw [e, if_pos rfl]
        have := hb x.2.2.1.toNat (by omega)
        have : (0 : Int) ≤ 65536 * (S.length : Int) := by omega
        omega
      rw [if_neg h2, if_neg h3, if_neg h2, if_neg h3]
      have ih := run_both (n := n) (cr := cr) S S' (mvL has x.2.1.toNat x.2.2.1.toNat x.2.2.2) (B + 65536) h (fun e he => hv e (by simp [he])) (by simp [hl]) (fun i hi => by
        have bi := hb i hi
        have bT := hb x.2.2.1.toNat (by omega)
        have bF := hb x.2.1.toNat (by omega)
        rw [e] at h2
        rw [if_neg hFT, if_pos rfl] at h2
        rw [e]
        by_cases c1 : i = x.2.2.1.toNat
        · subst c1; rw [if_pos rfl]; omega
        · rw [if_neg c1]
          by_cases c2 : i = x.2.1.toNat
          · subst c2; rw [if_pos rfl]; omega
          · rw [if_neg c2]; omega) (by omega)
      rcases ih with ⟨has', r1, r2, r3, r4⟩ | ⟨e1, e2, r1, r2, r3⟩
      · refine .inl ⟨has', r1, r2, r3, fun i hi => ⟨(r4 i hi).1, ?_⟩⟩
        rw [(r4 i hi).2, e, List.map_cons, List.map_cons, List.sum_cons, delta]
        simp only
        by_cases c1 : i = x.2.2.1.toNat
        · rw [if_pos c1, if_neg (by omega), if_pos c1.symm, c1]; omega
        · rw [if_neg c1, if_neg (Ne.symm c1)]
          by_cases c2 : i = x.2.1.toNat
          · rw [if_pos c2, if_pos c2.symm, c2]; omega
          · rw [if_neg c2, if_neg (Ne.symm c2)]; omega
      · exact .inr ⟨e1, e2, by simp [r1], by simp [r2], r3⟩
theorem sum_permI {l l' : List Int} (h : l.Perm l') : l.sum = l'.sum := by
  induction h with
  | nil => rfl
  | cons x _ ih => simp [ih]
  | swap x y l => simp; omega
  | trans _ _ h1 h2 => exact h1.trans h2
theorem sum_at (n t : Nat) (a : Int) (ht : t < n) : ((List.range n).map fun i => if t = i then a else 0).sum = a := by
  have h : ∀ m, ((List.range m).map fun i => if t = i then a else 0).sum = if t < m then a else 0 := by
    intro m
    induction m with
    | zero => simp
    | succ m ih =>
      rw [List.range_succ, List.map_append, List.sum_append, ih]
      simp only [List.map_cons, List.map_nil, List.sum_cons, List.sum_nil]
      by_cases h1 : t < m
      · rw [if_pos h1, if_neg (by omega), if_pos (by omega)]; omega
      · rw [if_neg h1]
        by_cases h2 : t = m
        · rw [if_pos h2, if_pos (by omega)]; omega
        · rw [if_neg h2, if_neg (by omega)]; omega
  rw [h n, if_pos ht]
theorem sum_addI {f g : Nat → Int} : ∀ l : List Nat, (l.map fun i => f i + g i).sum = (l.map f).sum + (l.map g).sum
  | [] => rfl
  | x :: l => by
    rw [List.map_cons, List.map_cons, List.map_cons, List.sum_cons, List.sum_cons, List.sum_cons, sum_addI l]; omega
theorem delta_sum {n : Nat} {x : Mv} (h : moveErr n x = 0) : ((List.range n).map fun i => delta i x).sum = 0 := by
  obtain ⟨_, hf, ht, hne, h1, _⟩ := moveErr_zero h
  unfold delta
  rw [sum_addI, sum_at _ _ _ (by omega), sum_at _ _ _ (by omega)]; omega
theorem deltas_sum {n : Nat} : ∀ {L : List Mv}, (∀ x ∈ L, moveErr n x = 0) → ((List.range n).map fun i => (L.map (delta i)).sum).sum = 0
  | [], _ => by
    simp only [List.map_nil, List.sum_nil]
    have : ∀ m, ((List.range m).map fun _ => (0 : Int)).sum = 0 := by
      intro m
      induction m with
      | zero => rfl
      | succ m ih => rw [List.range_succ, List.map_append, List.sum_append, ih]; rfl
    exact this n
  | x :: L, h => by
    have e : ∀ i, ((x :: L).map (delta i)).sum = delta i x + (L.map (delta i)).sum := fun i => by rw [List.map_cons, List.sum_cons]
    simp only [e]
    rw [sum_addI, delta_sum (h x (by simp)), deltas_sum fun y hy => h y (by simp [hy])]; rfl
theorem delta_bd {i : Nat} {x : Mv} (h : 0 ≤ x.2.2.2 ∧ x.2.2.2 ≤ 65536) : -65536 ≤ delta i x ∧ delta i x ≤ 65536 := by
  unfold delta
  split <;> split <;> omega
theorem deltas_bd {i : Nat} : ∀ {L : List Mv}, (∀ x ∈ L, 0 ≤ x.2.2.2 ∧ x.2.2.2 ≤ 65536) → -(65536 * (L.length : Int)) ≤ (L.map (delta i)).sum ∧ (L.map (delta i)).sum ≤ 65536 * (L.length : Int)
  | [], _ => by simp
  | x :: L, h => by
    have h1 := deltas_bd (i := i) (L := L) fun y hy => h y (by simp [hy])
    have h2 := delta_bd (i := i) (h x (by simp))
    rw [List.map_cons, List.sum_cons, List.length_cons, Int.natCast_add, Int.mul_add]
    omega
/-- THE LAW. -/
theorem any_order {op cr : List Int} {L M : List Mv} (h2 : 2 ≤ op.length ∧ op.length ≤ 10) (hc : cr.length = op.length) (ho : ∀ x ∈ op, 0 ≤ x ∧ x ≤ 65535) (hcr : ∀ x ∈ cr, 0 ≤ x ∧ x ≤ 65535)
    (hL : MvOk op.length L) (hnd : (L.map (·.1)).Nodup) (hamt : ∀ x ∈ L, x.2.2.2 ≤ 65536) (hlen : L.length ≤ 30) (hlM : M.length ≤ 1000) (hm : ∀ x, x ∈ L ↔ x ∈ M) :
    (∃ has, postRes op cr L = (has, 0, 0) ∧ postRes op cr M = (has, 0, 0) ∧ has.length = op.length ∧ (∀ i, i < op.length → -(cr.getD i 0) ≤ has.getD i 0 ∧ has.getD i 0 = op.getD i 0 + (L.map (delta i)).sum) ∧ ((List.range op.length).map fun i => has.getD i 0 - op.getD i 0).sum = 0) ∨
    (∃ (a b : Nat) (x : Mv), postRes op cr L = ([], (a : Int), 9) ∧ postRes op cr M = ([], (b : Int), 9) ∧ L[a]? = some x ∧ M[b]? = some x) := by
  have gop : ∀ i, 0 ≤ op.getD i 0 ∧ op.getD i 0 ≤ 65535 := fun i => by
    rw [List.getD_eq_getElem?_getD]
    cases hg : op[i]? with
    | none => simp
    | some x => exact ho x (List.mem_of_getElem? hg)
  have gcr : ∀ i, 0 ≤ cr.getD i 0 ∧ cr.getD i 0 ≤ 65535 := fun i => by
    rw [List.getD_eq_getElem?_getD]
    cases hg : cr[i]? with
    | none => simp
    | some x => exact hcr x (List.mem_of_getElem? hg)
  have hbk : bookOk op cr = true := by
    unfold bookOk
    simp only [Bool.and_eq_true, Bool.not_eq_true', isIn, decide_eq_true_eq, List.any_eq_false, acctBad]
    refine ⟨⟨⟨by omega, hc⟩, fun x hx => ?_⟩, fun i hi => ?_⟩
    · have := hcr x hx
      simp [outB]
      omega
    · have h1 := gop i
      have h3 := gcr i
      simp only [List.getD_eq_getElem?_getD] at h1 h3
      simp [outB]
      omega
  have hM : MvOk op.length M := ⟨fun x hx => hL.valid x ((hm x).2 hx), fun x hx y hy => hL.one x ((hm x).2 hx) y ((hm y).2 hy)⟩
  obtain ⟨E, hE, hr⟩ := scan_ok hL
  obtain ⟨E', hE', hr'⟩ := scan_ok hM
  have hp := sort_perm hnd hr
  have hs := sort_same hL hr hr' hm
  have hlE : (sortE E).length = L.length := by have := hp.length_eq; simpa using this
  have hpost : postRes op cr L = runMv cr op (sortE E) := by
    unfold postRes; rw [hbk, if_neg (by decide), if_neg (by omega), hE]
  have hpost' : postRes op cr M = runMv cr op (sortE E') := by
    unfold postRes; rw [hbk, if_neg (by decide), if_neg (by omega), hE']
  have hin : ∀ {M : List Mv} {E : Rec}, RecOf M E → ∀ e ∈ sortE E, M[e.2]? = some e.1 ∧ e.1 ∈ M := fun hr e he => by
    obtain ⟨k, hk, rfl⟩ := List.mem_map.1 he
    obtain ⟨y, e1, h1, h2, _⟩ := sortE_at hr hk
    rw [e1]; exact ⟨hr.at_ y h1, h2⟩
  rcases run_both (n := op.length) (cr := cr) (sortE E) (sortE E') op 65535 hs (fun e he => ⟨hL.valid _ (hin hr e he).2, hamt _ (hin hr e he).2⟩) rfl (fun i _ => by have := gop i; have := gcr i; omega) (by rw [hlE]; omega) with ⟨has, r1, r2, r3, r4⟩ | ⟨e, e', h1, h2, h3, h4, h5⟩
  · have r5 : ∀ i, i < op.length → has.getD i 0 = op.getD i 0 + (L.map (delta i)).sum := fun i hi => by
      rw [(r4 i hi).2, sum_permI (hp.map (delta i))]
    refine .inl ⟨has, by rw [hpost, r1], by rw [hpost', r2], r3, fun i hi => ⟨(r4 i hi).1, r5 i hi⟩, ?_⟩
    refine Eq.trans (congrArg List.sum (List.map_congr_left fun i hi => ?_)) (deltas_sum hL.valid)
    rw [r5 i (by simpa using hi)]; omega
  · exact .inr ⟨e.2, e'.2, e.1, by rw [hpost, h4], by rw [hpost', h5], (hin hr e h1).1, by rw [h3]; exact (hin hr' e' h2).1⟩
end Go.Proofs.Ytagfcodpgochjaa

/- The law of a drawn region (Free) once more: what holds at every moment may speak of the values together. -/
namespace Go.Oche
open Go Go.RowKit
def updV (vs : Nat → Value) (i : Nat) (v : Value) : Nat → Value := fun j => if j = i then v else vs j
section
variable (P : Program) (ops : Array Oper) (J : (Nat → Bool) → (Nat → Value) → World → Prop) (a₀ : Act)
/-- The condition of operation number i: what it waits for has come; L: what has been listed. -/
def VVC (i : Nat) (o : Oper) : Prop :=
  ∀ (a : Act) (w : World) (L : Nat → Bool) (vs : Nat → Value), L i = false → J L vs w →
    (∀ e ∈ o.after.toList, Region.binds .any e = true → ∃ oj, ops[e.on]? = some oj ∧ L e.on = true ∧ ∀ d, oj.dst = some d → a.tmps[d]? = some (vs e.on)) →
    (∀ t : Nat, (ops.toList.all fun oj => oj.dst != some t || oj.after.toList.any fun e => Region.binds .any e && e.on == i) = true → a.tmps[t]? = a₀.tmps[t]?) →
    if Region.wanted o (yielded ops a.tmps) then opOK P o a w (fun v w' => J (setB L i) (updV vs i v) w') else J (setB L i) (updV vs i undef) w
def VAll : List Oper → Nat → Prop
  | [], _ => True
  | o :: l, i => VVC P ops J a₀ i o ∧ VAll l (i + 1)
end
structure VInv (ops : Array Oper) (J : (Nat → Bool) → (Nat → Value) → World → Prop) (a₀ : Act) (vs : Nat → Value) (listed : Array Bool) (a : Act) (w : World) : Prop where
  inv : J (fun j => listed.getD j false) vs w
  vals : ∀ j o, ops[j]? = some o → listed.getD j false = true → ∀ d, o.dst = some d → a.tmps[d]? = some (vs j)
  rest : ∀ t, (∀ j o, ops[j]? = some o → listed.getD j false = true → o.dst ≠ some t) → a.tmps[t]? = a₀.tmps[t]?
  size : a.tmps.size = a₀.tmps.size
  defers : a.defers = a₀.defers
theorem vAll_at {P : Program} {ops : Array Oper} {J : (Nat → Bool) → (Nat → Value) → World → Prop} {a₀ : Act} : ∀ {l : List Oper} {i j : Nat} {o : Oper},
    VAll P ops J a₀ l i → l[j]? = some o → VVC P ops J a₀ (i + j) o
  | [], _, _, _, _, h => by simp at h
  | o' :: l, i, 0, o, h, hj => by simp at hj; subst hj; exact h.1
  | o' :: l, i, j + 1, o, h, hj => by
    have := vAll_at h.2 (j := j) (o := o) (by simpa using hj)
    rwa [show i + 1 + j = i + (j + 1) by omega] at this
section law
variable {P : Program} {ops : Array Oper} {J : (Nat → Bool) → (Nat → Value) → World → Prop} {a₀ : Act} {Q : Exit → Act → World → Prop} {n : Nat}

theorem v_head (hB : freeB ops n a₀.tmps.size = true) (hv : VAll P ops J a₀ (ops.toList.take n) 0)
    (he : ∀ vs w, J (fun j => decide (j < n)) vs w → wpList P ops Q (ops.toList.drop n) (putAll vs (ops.toList.take n) 0 a₀) w) :
    ∀ (f : Nat) (vs : Nat → Value) (listed : Array Bool) (a : Act) (w : World), left n listed ≤ f → HeadInv .any ops n listed → VInv ops J a₀ vs listed a w → wpAny P .any ops Q (f + (ops.size - n)) listed a w := by
  simp only [freeB, Bool.and_eq_true, Bool.or_eq_true, beq_iff_eq, decide_eq_true_eq] at hB
  obtain ⟨⟨⟨⟨⟨hn, hback⟩, hdist⟩, hin⟩, htail⟩, hseq⟩ := hB
  have hin' : ∀ j o d, ops[j]? = some o → j < n → o.dst = some d → d < a₀.tmps.size := fun j o d ho hj hd => by
    have hmem : o ∈ ops.toList.take n := List.mem_of_getElem? (i := j) (by rw [List.getElem?_take, if_pos hj]; simpa using ho)
    have := List.all_eq_true.1 hin o hmem
    rw [hd] at this
    simpa using this
  have hld : ∀ j o, ops[j]? = some o → j < n → (ops.toList.take n)[j]? = some o := fun j o ho hj => by rw [List.getElem?_take, if_pos hj]; simpa using ho
  intro f
  induction f with
  | zero =>
    intro vs listed a w hl inv fi
    have hall := left_zero (Nat.le_zero.1 hl)
    have harr : listed = headArr n ops.size := by
      refine Array.ext (by simp [inv.size, headArr]; omega) fun j h1 h2 => ?_
      by_cases hj : j < n
      · have := hall j hj
        simp [h1] at this
        rw [this]
        simp only [headArr]
        rw [Array.getElem_append_left (by simpa using hj)]
        simp
      · have := inv.tail j (by omega) (by rw [inv.size] at h1; exact h1)
        simp [h1] at this
        rw [this]
        simp only [headArr]
        rw [Array.getElem_append_right (by simpa using hj)]
        simp
    have hnl : ∀ j o, ops[j]? = some o → listed.getD j false = true → j < n := fun j o ho hl => by
      rcases Nat.lt_or_ge j n with h | h
      · exact h
      · have := inv.tail j h (Array.getElem?_eq_some_iff.1 ho).1
        rw [getD_both this] at hl; cases hl
    have hK := he vs w (by have h1 := fi.inv; rwa [show (fun j => listed.getD j false) = (fun j => decide (j < n)) from funext fun j => by
      by_cases hj : j < n
      · rw [hall j hj]; simp [hj]
      · have : listed.getD j false = false := by
          rcases Nat.lt_or_ge j ops.size with h | h
          · exact getD_both (inv.tail j (by omega) h)
          · simp [Array.getElem?_eq_none (show listed.size ≤ j by rw [inv.size]; exact h)]
        rw [this]; simp [hj]] at h1)
    have ha : a = putAll vs (ops.toList.take n) 0 a₀ := by
      refine act_ext (fun t => ?_) (by rw [putAll_defers]; exact fi.defers)
      by_cases ht : ∃ j o, ops[j]? = some o ∧ j < n ∧ o.dst = some t
      · obtain ⟨j, o, ho, hj, hd⟩ := ht
        rw [fi.vals j o ho (hall j hj) t hd, putAll_some vs t _ 0 a₀ j o hdist (hld j o ho hj) hd (hin' j o t ho hj hd)]
        simp
      · rw [fi.rest t (fun j o ho hl hd => ht ⟨j, o, ho, hnl j o ho hl, hd⟩), putAll_none]
        intro o ho hd
        obtain ⟨j, hj⟩ := List.getElem?_of_mem ho
        rw [List.getElem?_take] at hj
        split at hj
        · exact ht ⟨j, o, by simpa using hj, by assumption, hd⟩
        · cases hj
    rw [← ha] at hK
    rw [Nat.zero_add]
    have hlen : (ops.toList.drop n).length = ops.size - n := by simp
    have := wpAny_of_seq (P := P) (md := .any) (Q' := Q) (ops.toList.drop n) n listed a w (fun j => by simp [List.getElem?_drop]) (by rw [hlen, harr]; exact hseq) hK
    rwa [hlen] at this
  | succ f ih =>
    intro vs listed a w hl inv fi
    by_cases h0 : left n listed = 0
    · have := ih vs listed a w (by omega) inv fi
      rw [show f + 1 + (ops.size - n) = f + (ops.size - n) + 1 by omega]
      exact wpAny_more _ _ _ _ this
    · obtain ⟨j₀, hj₀, hun₀, hbefore⟩ := exists_unlisted h0
      have hj₀s : j₀ < ops.size := by omega
      rw [show f + 1 + (ops.size - n) = f + (ops.size - n) + 1 by omega]
      refine ⟨fun hr => ?_, fun i hi => ?_⟩
      · exfalso
        have : j₀ ∈ Region.ready .any ops listed := mem_ready.2 ⟨getD_in (by rw [inv.size]; omega) hun₀, ops[j₀], by simp [hj₀s], fun e he hb => by
          have h1 := List.all_eq_true.1 hback (ops[j₀], j₀) (List.mem_iff_getElem?.2 ⟨j₀, by simp [hj₀s]⟩)
          have h2 := List.all_eq_true.1 h1 e (by simpa using he)
          simp only [hb, Bool.not_true, Bool.false_or, decide_eq_true_eq] at h2
          exact hbefore _ h2⟩
        rw [hr] at this; cases this
      · have hin0 : i < n := by
          rcases Nat.lt_or_ge i n with h | h
          · exact h
          · exfalso
            rcases htail with h1 | ⟨⟨h1, h2⟩, h3⟩
            · obtain ⟨_, oi, hoi, _⟩ := mem_ready.1 hi
              have := (Array.getElem?_eq_some_iff.1 hoi).1
              omega
            · exact tail_waits h2 h3 h1 inv (n - j₀) j₀ rfl hj₀ (getD_in (by rw [inv.size]; omega) hun₀) i h hi
        obtain ⟨hiun, oi, hoi, hready⟩ := mem_ready.1 hi
        have his : i < ops.size := (Array.getElem?_eq_some_iff.1 hoi).1
        have hvc := vAll_at hv (hld i oi hoi hin0)
        rw [Nat.zero_add] at hvc
        have hvc := hvc a w (fun j => listed.getD j false) vs (getD_both hiun) fi.inv (fun e he hb => by
            have hl' := hready e (by simpa using he) hb
            have hes : e.on < ops.size := by
              have : e.on < listed.size := by
                rcases Nat.lt_or_ge e.on listed.size with h | h
                · exact h
                · rw [show listed.getD e.on false = false from by simp [Array.getElem?_eq_none h]] at hl'; cases hl'
              rw [inv.size] at this; exact this
            have := fi.vals e.on ops[e.on] (by simp [hes]) hl'
            exact ⟨ops[e.on], by simp [hes], hl', this⟩)
          (fun t ht => fi.rest t fun j o ho hlj => by
            have h1 := List.all_eq_true.1 ht o (by simpa using Array.mem_of_getElem? ho)
            simp only [Bool.or_eq_true, List.any_eq_true, Bool.and_eq_true, beq_iff_eq] at h1
            rcases h1 with h1 | ⟨e, he, hb, hei⟩
            · simpa using h1
            · exfalso
              have h2 := inv.closed j o ho hlj e (by simpa using he) hb
              rw [hei, getD_both hiun] at h2
              cases h2)
        have hset : (fun j => (listed.setIfInBounds i true).getD j false) = setB (fun j => listed.getD j false) i := funext fun j => by
          unfold setB
          by_cases hji : j = i
          · subst hji; simp [inv.size, his]
          · rw [if_neg hji, getD_set_ne false (Ne.symm hji)]
        have next : ∀ v w', J (setB (fun j => listed.getD j false) i) (updV vs i v) w' → wpAny P .any ops Q (f + (ops.size - n)) (listed.setIfInBounds i true) (a.put oi.dst v) w' := fun v w' hj' => by
          refine ih (updV vs i v) _ _ _ (by have := left_set hin0 (by rw [inv.size]; exact his) hiun; omega) (inv.set hi hin0) ⟨?_, ?_, ?_, ?_, ?_⟩
          · rw [hset]; exact hj'
          · intro j o ho hl' d hd
            by_cases hji : j = i
            · subst hji
              have : o = oi := Option.some.inj (ho.symm.trans hoi)
              subst this
              rw [put_at, if_pos ⟨hd, by rw [fi.size]; exact hin' _ _ _ ho hin0 hd⟩]; simp [updV]
            · rw [getD_set_ne false (Ne.symm hji)] at hl'
              have hjn : j < n := by
                rcases Nat.lt_or_ge j n with h | h
                · exact h
                · have := inv.tail j h (Array.getElem?_eq_some_iff.1 ho).1
                  rw [getD_both this] at hl'; cases hl'
              rw [put_at, if_neg (fun h' => distB_ne hdist (hld j o ho hjn) (hld i oi hoi hin0) hji hd h'.1)]
              simpa [updV, hji] using fi.vals j o ho hl' d hd
          · intro t ht
            have h1 : oi.dst ≠ some t := ht i oi hoi (by simp [inv.size, his])
            rw [put_at, if_neg (fun h' => h1 h'.1)]
            refine fi.rest t fun j o ho hl' => ht j o ho ?_
            exact getD_set_true hl'
          · rw [put_size]; exact fi.size
          · rw [put_defers]; exact fi.defers
        unfold wpOp
        simp only [hoi]
        split
        · rename_i hwd
          rw [if_pos hwd] at hvc
          exact .inl (wp_of_opOK hvc fun v w' hj' => next v w' hj')
        · rename_i hwd
          rw [if_neg hwd] at hvc
          exact next _ _ hvc

/-- THE LAW. -/
theorem wp_region_v {id : Nat} {l : List Oper} {a : Act} {w : World} (n : Nat) (J : (Nat → Bool) → (Nat → Value) → World → Prop) (hmix : P.follows .mixedOrders = true) (hB : freeB l.toArray n a.tmps.size = true)
    (hJ : ∀ vs, J (fun _ => false) vs w.drew) (hv : VAll P l.toArray J a (l.take n) 0)
    (he : ∀ vs w', J (fun j => decide (j < n)) vs w' → wpList P l.toArray Q (l.drop n) (putAll vs (l.take n) 0 a) w') : (Code.region id l.toArray true).wp P Q a w := by
  refine wp_region_any hmix ?_
  have := v_head (Q := Q) (a₀ := a) hB hv he n (fun _ => undef) (Array.replicate l.toArray.size false) a w.drew (by
      unfold left; exact Nat.le_trans List.countP_le_length (by simp))
    ⟨by simp, fun j oj _ hl => (by rw [getD_replicate_false] at hl; cases hl), fun t _ ht => getD_in (by simpa using ht) (getD_replicate_false _ _)⟩
    ⟨by rw [show (fun j => (Array.replicate l.toArray.size false).getD j false) = (fun _ => false) from funext fun j => getD_replicate_false _ _]; exact hJ _, fun j o _ hl => (by rw [getD_replicate_false] at hl; cases hl), fun _ _ => rfl, rfl, rfl⟩
  have hn : n ≤ l.toArray.size := by simp only [freeB, Bool.and_eq_true, decide_eq_true_eq] at hB; exact hB.1.1.1.1.1
  rw [show n + (l.toArray.size - n) = l.toArray.size by omega] at this
  exact this
end law
end Go.Oche
