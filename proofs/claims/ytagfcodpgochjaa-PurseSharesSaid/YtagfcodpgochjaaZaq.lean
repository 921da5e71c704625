/- The texts Law, Opn, AL, YP, in build order. -/
import Derived.Test.YtagfcodpgochjaaZap
import Derived.WalkKit
import Derived.ProofKit
import Derived.OpenShut
import Derived.Below
import Derived.ChangeSame
import Derived.ChangeAgain
import Derived.JoinedCond
import Derived.Test.YtagfcodpgochjaaRows
import Derived.Lib.SmallJoins
import Derived.ChangeSlices
import Derived.JoinedOf
import Derived.JoinedAt
import Derived.Deep.Strs

/- A law that makes new memory alone: what was read before is read again. -/
namespace Go.Oche
open Go Go.RowKit Go.ChangeShapes

/-- The types that a type of the table is made of lie in the table too, and slices have elements of some size. -/
def kidsB (P : Program) (t : TypeId) : Bool := match P.underlying t with
  | some (.slice e) => P.cellsOf e != 0 && decide (e < P.types.size)
  | some (.pointer e) => decide (e < P.types.size)
  | some (.struct fs) => fs.toList.all fun f => decide (f.type < P.types.size)
  | some (.array _ e) => decide (e < P.types.size)
  | some (.map _ e) => decide (e < P.types.size)
  | _ => true
def sizedB (P : Program) : Bool := (List.range P.types.size).all (kidsB P)
theorem kids_of {P : Program} (h : sizedB P = true) {t : TypeId} (hl : t < P.types.size) : kidsB P t = true := List.all_eq_true.1 h t (List.mem_range.2 hl)

theorem mapM_keep {α β : Type} {f g : α → Option β} : ∀ {l : List α} {ys : List β}, l.mapM f = some ys → (∀ x ∈ l, ∀ y ∈ ys, f x = some y → g x = some y) → l.mapM g = some ys
  | [], ys, h, _ => by simpa using h
  | x :: l, ys, h, hk => by
    rw [List.mapM_cons] at h ⊢
    cases hx : f x with
    | none => rw [hx] at h; cases h
    | some y =>
      rw [hx] at h
      cases hl : l.mapM f with
      | none => rw [hl] at h; cases h
      | some zs =>
        rw [hl] at h
        cases h
        rw [hk x (by simp) y (by simp) hx, mapM_keep hl fun x' hx' y' hy' => hk x' (by simp [hx']) y' (by simp [hy'])]
        rfl
theorem mapM_len {α β : Type} {f : α → Option β} : ∀ {l : List α} {ys : List β}, l.mapM f = some ys → ys.length = l.length
  | [], ys, h => by
    have : ys = [] := by simpa using h.symm
    rw [this]; rfl
  | x :: l, ys, h => by
    rw [List.mapM_cons] at h
    cases hx : f x with
    | none => rw [hx] at h; cases h
    | some y =>
      rw [hx] at h
      cases hl : l.mapM f with
      | none => rw [hl] at h; cases h
      | some zs => rw [hl] at h; cases h; simp [mapM_len hl]

section
variable {H : Type} {enc : TypeId × Value → H} {P : Program} {W W' : World} {base : Nat}
theorem cells_keep (hc : ∀ p v, W.cell? p = some v → W'.cell? p = some v) {a : Addr} {n : Nat} {cs : List Value} (h : W.cells? base a n = some cs) : W'.cells? base a n = some cs := by
  unfold World.cells? at h ⊢
  split at h
  · rename_i hb
    rw [if_pos hb]
    exact mapM_keep h fun i _ y _ hy => hc _ _ hy
  · cases h
theorem bind_keep (hc : ∀ p v, W.cell? p = some v → W'.cell? p = some v) {a : Addr} {n : Nat} {f g : List Value → Option (DataW H × List MemPlace)} {x : DataW H × List MemPlace} (h : (W.cells? base a n).bind f = some x) (hk : ∀ cs, f cs = some x → g cs = some x) : (W'.cells? base a n).bind g = some x := by
  cases hcs : W.cells? base a n with
  | none => rw [hcs] at h; cases h
  | some cs => rw [hcs] at h; rw [cells_keep hc hcs]; exact hk cs h

/-- What was read before is read again: memory that there was is as it was. -/
theorem trod_keep (hsz : sizedB P = true) (hc : ∀ p v, W.cell? p = some v → W'.cell? p = some v) (hm : ∀ (b : Nat) es c, W.heap[b]? = some (Obj.map es c) → W'.heap[b]? = some (Obj.map es c)) :
    ∀ (fuel : Nat) (t : TypeId) (cs : List Value) (x : DataW H × List MemPlace), t < P.types.size → DataW.trod enc P W base (fun _ => true) true fuel t cs = some x → ∀ sp : Nat → Bool, (∀ p ∈ x.2, sp p.block = true) →
      DataW.trod enc P W' base sp true fuel t cs = some x := by
  intro fuel
  induction fuel with
  | zero => intro t cs x _ h; cases h
  | succ fuel ih =>
    intro t cs x htl h sp hsp
    have hkid := kids_of hsz htl
    unfold kidsB at hkid
    unfold DataW.trod at h ⊢
    split at h
    all_goals try exact h
    · rename_i e a hu
      rw [hu] at hkid
      have he : e < P.types.size := by simpa using hkid
      obtain ⟨y, hy, rfl⟩ := Option.map_eq_some_iff.1 h
      refine Option.map_eq_some_iff.2 ⟨y, bind_keep hc hy fun cs hcs => ih _ _ _ he hcs sp fun p hp => hsp p (by simp [hp]), rfl⟩
    · rename_i e a len cap hu
      rw [hu] at hkid
      obtain ⟨hz, he⟩ : P.cellsOf e ≠ 0 ∧ e < P.types.size := by simpa using hkid
      simp only at h ⊢
      split at h
      · rename_i hcond
        rw [if_pos hcond]
        obtain ⟨elems, hel, h⟩ := Option.bind_eq_some_iff.1 h
        obtain ⟨rest, hrest, rfl⟩ := Option.map_eq_some_iff.1 h
        simp only [if_true] at hrest
        have hl1 := mapM_len hel
        have hl2 := mapM_len hrest
        simp only [List.length_range] at hl1 hl2
        have hx : ∀ y ∈ elems ++ rest, ∀ p ∈ y.2, sp p.block = true := fun y hy p hp => hsp p (List.mem_append_right _ (List.mem_flatMap.2 ⟨y, hy, hp⟩))
        refine Option.bind_eq_some_iff.2 ⟨elems, mapM_keep hel fun i _ y hy hi => bind_keep hc hi fun cs hcs => ih _ _ _ he hcs sp (hx y (by simp [hy])), Option.map_eq_some_iff.2 ⟨rest, ?_, rfl⟩⟩
        by_cases hs : sp a.block = true
        · rw [if_pos hs]
          exact mapM_keep hrest fun i _ y hy hi => bind_keep hc hi fun cs hcs => ih _ _ _ he hcs sp (hx y (by simp [hy]))
        · rw [if_neg hs]
          have h0 : cap - len = 0 := by
            rcases Nat.eq_zero_or_pos (cap - len) with h | h
            · exact h
            · exfalso
              apply hs
              have hpos : 0 < (elems.length + rest.length) * P.cellsOf e := Nat.mul_pos (by omega) (by omega)
              refine hsp (.cell a.block (a.off + 0)) (List.mem_append_left _ ?_)
              unfold MemPlace.row
              exact List.mem_map.2 ⟨0, List.mem_range.2 hpos, rfl⟩
          have : rest = [] := List.eq_nil_of_length_eq_zero (by omega)
          rw [this]
      · cases h
    · rename_i fs hu
      rw [hu] at hkid
      have he : ∀ f ∈ fs.toList, f.type < P.types.size := fun f hf => by simpa using List.all_eq_true.1 hkid f hf
      split at h
      · rename_i hl
        rw [if_pos hl]
        obtain ⟨xs, hxs, rfl⟩ := Option.map_eq_some_iff.1 h
        exact Option.map_eq_some_iff.2 ⟨xs, mapM_keep hxs fun f hff y hy hf => ih _ _ _ (he f hff) hf sp fun p hp => hsp p (List.mem_flatMap.2 ⟨y, hy, hp⟩), rfl⟩
      · cases h
    · rename_i n e hu
      rw [hu] at hkid
      have he : e < P.types.size := by simpa using hkid
      split at h
      · rename_i hl
        rw [if_pos hl]
        obtain ⟨xs, hxs, rfl⟩ := Option.map_eq_some_iff.1 h
        exact Option.map_eq_some_iff.2 ⟨xs, mapM_keep hxs fun f _ y hy hf => ih _ _ _ he hf sp fun p hp => hsp p (List.mem_flatMap.2 ⟨y, hy, hp⟩), rfl⟩
      · cases h
    · rename_i k e b hu
      rw [hu] at hkid
      have he : e < P.types.size := by simpa using hkid
      split at h
      · rename_i es clock hb
        rw [hm _ _ _ hb]
        simp only
        split at h
        · rename_i hcond
          rw [if_pos hcond]
          obtain ⟨entries, hen, h⟩ := Option.bind_eq_some_iff.1 h
          have hplaces : ∀ y ∈ entries, ∀ p ∈ y.2, sp p.block = true := fun y hy p hp => hsp p (by
            dsimp only at h
            split at h
            · cases h; exact List.mem_cons_of_mem _ (List.mem_flatMap.2 ⟨y, hy, hp⟩)
            · cases h)
          refine Option.bind_eq_some_iff.2 ⟨entries, mapM_keep hen fun z _ y hy hz => ?_, h⟩
          obtain ⟨key, hk, hz⟩ := Option.bind_eq_some_iff.1 hz
          refine Option.bind_eq_some_iff.2 ⟨key, hk, ?_⟩
          split at hz
          · rename_i hfm
            rw [if_pos hfm]
            obtain ⟨y', hy', rfl⟩ := Option.map_eq_some_iff.1 hz
            exact Option.map_eq_some_iff.2 ⟨y', ih _ _ _ he hy' sp (hplaces _ hy), rfl⟩
          · cases hz
        · cases h
      · cases h
theorem trodAll_keep (hsz : sizedB P = true) (hc : ∀ p v, W.cell? p = some v → W'.cell? p = some v) (hm : ∀ (b : Nat) es c, W.heap[b]? = some (Obj.map es c) → W'.heap[b]? = some (Obj.map es c)) :
    ∀ (ts : List TypeId) (vs : List Value) (ds : List (DataW H)) (ps : List MemPlace), (∀ t ∈ ts, t < P.types.size) → DataW.TrodAll enc P W base (fun _ => true) true ts vs ds ps → ∀ sp : Nat → Bool, (∀ p ∈ ps, sp p.block = true) → DataW.TrodAll enc P W' base sp true ts vs ds ps
  | [], [], [], _, _, h, _, _ => h
  | t :: ts, v :: vs, d :: ds, ps, hts, ⟨p, q, ⟨fuel, h1⟩, h2, h3⟩, sp, hsp => by
    subst h3
    exact ⟨p, q, ⟨fuel, trod_keep hsz hc hm fuel t _ _ (hts t (by simp)) h1 sp fun x hx => hsp x (by simp [hx])⟩, trodAll_keep hsz hc hm ts vs ds q (fun t ht => hts t (by simp [ht])) h2 sp fun x hx => hsp x (by simp [hx]), rfl⟩
  | [], [], _ :: _, _, _, h, _, _ => h.elim
  | [], _ :: _, ds, _, _, h, _, _ => by cases ds <;> exact h.elim
  | _ :: _, [], ds, _, _, h, _, _ => by cases ds <;> exact h.elim
  | _ :: _, _ :: _, [], _, _, h, _, _ => h.elim

theorem below_keptBut (hb : Below W.heap.size W W') (may : MemPlace → Prop) : W.keptBut W' may := by
  refine ⟨hb.os, hb.output, fun i hi => ?_⟩
  have := hb.block i hi
  rw [this]
  cases h : W.heap[i]? with
  | none => rfl
  | some o => cases o <;> simp

/-- The post of a law that has answered true and made new memory alone. -/
theorem law_post {f : Func} {s : ChangeSpec} {apart fresh handsOn again : Bool} {args : Array Value} {ds gs : List (DataW H)} {before : List MemPlace}
    (hsz : sizedB P = true) (hts : f.params.toList.all (fun t => decide (t < P.types.size)) = true) (hW : DataW.Whole enc P f.params.toList s.vars apart W args.toList ds gs before) (hv : s.vars = []) (hb : Below W.heap.size W W')
    (hres : (s.fn H ds).results = [.lit (.bool true)]) (hargs : (s.fn H ds).args = ds) (hvars : (s.fn H ds).vars = []) {bt : TypeId} (hrt : f.resultTypes = #[bt]) (hbt : P.underlying bt = some .bool) :
    s.post enc P f apart fresh handsOn again W args (.bool true) W' := by
  have hW0 := hW
  obtain ⟨p, q, hA, hV, hps, hfz, hnd⟩ := hW
  rw [hv] at hV
  have hg : gs = [] ∧ q = [] := by
    cases gs with
    | nil => exact ⟨rfl, hV⟩
    | cons g gs => exact hV.elim
  obtain ⟨rfl, rfl⟩ := hg
  rw [List.append_nil] at hps
  subst hps
  have hc : ∀ p v, W.cell? p = some v → W'.cell? p = some v := fun p v h => (World.cell?_of_block (w := W) (hb.block p.block (World.block_lt_of_cell? W p h))).trans h
  have hm : ∀ (b : Nat) es c, W.heap[b]? = some (Obj.map es c) → W'.heap[b]? = some (Obj.map es c) := fun b es c h => (hb.block b (Array.getElem?_eq_some_iff.1 h).1).trans h
  have hag : ∀ sp : Nat → Bool, (∀ x ∈ before, sp x.block = true) → DataW.TrodAll enc P W' 0 sp true f.params.toList args.toList ds before := fun sp hsp => trodAll_keep hsz hc hm _ _ _ _ (fun t ht => by simpa using List.all_eq_true.1 hts t ht) hA sp hsp
  have hlt : ∀ x ∈ before, x.block < W.heap.size := fun x hx => hW0.lt x hx
  have hold : ∀ x ∈ before, (fun b => decide (b < W.heap.size)) x.block = true := fun x hx => by simpa using hlt x hx
  have hR : ∀ (b : Nat) (sp : Nat → Bool) (hd : Bool), DataW.TrodAll enc P W' b sp hd f.resultTypes.toList ((Value.bool true).resultList f.resultTypes.size) (s.fn H (ds ++ [])).results [] := fun b sp hd => by
    rw [List.append_nil, hres, hrt]
    exact trodAll_cons_mk (shut_bool hbt true) trodAll_mk0
  have hR2 : ∀ sp : Nat → Bool, (∀ x ∈ before, sp x.block = true) → DataW.TrodAll enc P W' 0 sp true f.params.toList args.toList (s.fn H (ds ++ [])).args before := fun sp hsp => by
    rw [List.append_nil, hargs]; exact hag sp hsp
  have hVV : ∀ sp : Nat → Bool, DataW.TrodVars enc P W' sp s.vars (s.fn H (ds ++ [])).vars [] := fun sp => by
    rw [List.append_nil, hvars, hv]; rfl
  refine ⟨ds, [], before, [], before, [], hW0, hR _ _ _, hR2 _ hold, hVV _, below_keptBut hb _, fun _ => ?_⟩
  refine ⟨?_, _, _, ([] ++ before) ++ [], ⟨[] ++ before, [], trodAll_append (hR2 _ (fun _ _ => rfl)) (hR _ _ _), hVV _, rfl, ?_, ?_⟩, ?_⟩
  · exact ok_one hrt rfl (okWide_bool_mk hbt _)
  · intro b off hp
    have hp' : MemPlace.cell b off ∈ before := by simpa using hp
    have hlt' := hlt _ hp'
    have : W'.frozen? ⟨b, off, none⟩ = W.frozen? ⟨b, off, none⟩ := World.frozen?_of_block (w := W) (hb.block b hlt')
    rw [this]
    exact hfz b off hp'
  · intro ha
    simpa using hnd ha
  · intro x hx _
    simpa using hx
end
end Go.Oche

/- What a law's arguments read as: slices of elements of k cells, slices of slices, rows of numbers. -/
namespace Go.Proofs.Ytagfcodpgochjaa
open Go.RowKit Go.Oche Go.Proofs Go.ChangeShapes Go.WideShapes Go.ChangeAt

theorem own : ownKnob Try.prog.godebug = none := by kernel_rfl
theorem sized : sizedB Try.prog = true := by kernel_rfl
/-- An integer of 64 bits. -/
def I64' (n : Int) : Prop := -9223372036854775808 ≤ n ∧ n ≤ 9223372036854775807
theorem wf_i64 {n : Int} (h : (Lit.int .i64 n).wf = true) : I64' n := by
  have := h
  simp [Lit.wf, IntKind.min, IntKind.max, IntKind.signed, IntKind.bits] at this
  exact this
theorem wf_u16 {n : Int} (h : (Lit.int .u16 n).wf = true) : 0 ≤ n ∧ n ≤ 65535 := by
  have := h
  simp [Lit.wf, IntKind.min, IntKind.max, IntKind.signed, IntKind.bits] at this
  exact this
theorem wf_u8 {n : Int} (h : (Lit.int .u8 n).wf = true) : 0 ≤ n ∧ n ≤ 255 := by
  have := h
  simp [Lit.wf, IntKind.min, IntKind.max, IntKind.signed, IntKind.bits] at this
  exact this
theorem wf_u32 {n : Int} (h : (Lit.int .u32 n).wf = true) : 0 ≤ n ∧ n ≤ 4294967295 := by
  have := h
  simp [Lit.wf, IntKind.min, IntKind.max, IntKind.signed, IntKind.bits] at this
  exact this
theorem wf_i32 {n : Int} (h : (Lit.int .i32 n).wf = true) : -2147483648 ≤ n ∧ n ≤ 2147483647 := by
  have := h
  simp [Lit.wf, IntKind.min, IntKind.max, IntKind.signed, IntKind.bits] at this
  exact this
theorem list_two {α : Type} {cs : List α} (h : cs.length = 2) : ∃ a b, cs = [a, b] := by
  cases cs with
  | nil => simp at h
  | cons a cs =>
    cases cs with
    | nil => simp at h
    | cons b cs =>
      cases cs with
      | nil => exact ⟨a, b, rfl⟩
      | cons c cs => simp at h
theorem list_three {α : Type} {cs : List α} (h : cs.length = 3) : ∃ a b c, cs = [a, b, c] := by
  cases cs with
  | nil => simp at h
  | cons a cs =>
    obtain ⟨b, c, rfl⟩ := list_two (cs := cs) (by simpa using h)
    exact ⟨a, b, c, rfl⟩
theorem choose_rows {β : Type} {R : Nat → β → Prop} : ∀ n, (∀ i, i < n → ∃ b, R i b) → ∃ xs : List β, xs.length = n ∧ ∀ i b, xs[i]? = some b → R i b
  | 0, _ => ⟨[], rfl, fun i b h => by simp at h⟩
  | n + 1, h => by
    obtain ⟨xs, h1, h2⟩ := choose_rows n fun i hi => h i (by omega)
    obtain ⟨b, hb⟩ := h n (by omega)
    refine ⟨xs ++ [b], by simp [h1], fun i b' hi => ?_⟩
    by_cases hin : i < xs.length
    · rw [List.getElem?_append_left hin] at hi
      exact h2 i b' hi
    · have hlt := (List.getElem?_eq_some_iff.1 hi).1
      simp at hlt
      obtain rfl : i = xs.length := by omega
      simp at hi
      subst hi
      rw [h1]; exact hb
theorem spot_none {W : World} {a : Addr} {j : Nat} {x : Value} (h : W.cell? (a.add j) = some x) (hj : j = 0) : a.spot = none := by
  subst hj
  unfold World.cell? Addr.add at h
  simp only [if_true] at h
  cases hs : a.spot with
  | none => rfl
  | some s =>
    rw [hs] at h
    split at h <;> simp at h
section
variable {H : Type} {enc : TypeId × Value → H} {W : World} {base : Nat} {spare : Nat → Bool} {held : Bool}
theorem open_rowsN {β : Type} (row : β → List Value) (k : Nat) (Q : β → Prop) {t e : TypeId} (ht : Try.prog.underlying t = some (.slice e)) (hce : Try.prog.cellsOf e = k) (hk : 0 < k)
    (hone : ∀ n cs (y : DataW H × List MemPlace), DataW.trod enc Try.prog W base spare held n e cs = some y → ∃ b, cs = row b ∧ Q b) (hrow : ∀ b, (row b).length = k) {n : Nat} {v : Value} {x : DataW H × List MemPlace} (h : DataW.trod enc Try.prog W base spare held n t [v] = some x) :
    ∃ xs : List β, SlN k (fun _ => True) W v (xs.map row) ∧ ∀ b ∈ xs, Q b := by
  rcases DataW.trod_slice ht h with ⟨hcs, _⟩ | ⟨a, len, cap, elems, rest, m, _, hcs, _, _, hl, hm, hlen, hel, _, _⟩
  · simp only [List.cons.injEq, and_true] at hcs
    subst hcs
    exact ⟨[], SlN.nil _ _ _, by simp⟩
  · simp only [List.cons.injEq, and_true] at hcs
    subst hcs
    have hall : ∀ i, i < len → ∃ b, (∀ j x, (row b)[j]? = some x → W.cell? ((a.add (i * k)).add j) = some x) ∧ Q b := fun i hi => by
      have hy := hel i hi
      rw [List.getElem?_eq_getElem (by omega), hce, Option.bind_eq_some_iff] at hy
      obtain ⟨cs, hcs, hy⟩ := hy
      obtain ⟨b, rfl, hb⟩ := hone _ _ _ hy
      have := (World.cells?_some hcs)
      refine ⟨b, fun j x hx => ?_, hb⟩
      have hj : j < k := by rw [← hrow b]; exact (List.getElem?_eq_some_iff.1 hx).1
      rw [this.2.2 j hj]; exact hx
    obtain ⟨xs, h1, h2⟩ := choose_rows len hall
    refine ⟨xs, ⟨some a, cap, by rw [List.length_map, h1], by rw [List.length_map, h1]; exact hl, hm, fun i r hr => ?_⟩, fun b hb => ?_⟩
    · rw [List.getElem?_map, Option.map_eq_some_iff] at hr
      obtain ⟨b, hb, rfl⟩ := hr
      have hi : i < len := by rw [← h1]; exact (List.getElem?_eq_some_iff.1 hb).1
      have h0 : 0 < xs.length := by omega
      have hsp : a.spot = none := by
        have hr0 := hrow xs[0]
        have := (h2 0 xs[0] (List.getElem?_eq_getElem h0)).1 0 (row xs[0])[0] (List.getElem?_eq_getElem (by omega))
        rw [Nat.zero_mul] at this
        obtain ⟨b, o, s⟩ := a
        cases s with
        | none => rfl
        | some s =>
          simp [Addr.add, World.cell?] at this
          split at this <;> cases this
      obtain ⟨b', o, sp⟩ := a
      simp only at hsp
      subst hsp
      refine ⟨hrow b, b', o, rfl, trivial, fun j x hx => ?_⟩
      have := (h2 i b hb).1 j x hx
      rw [addr_at, addr_at] at this
      exact this
    · obtain ⟨i, hi⟩ := List.getElem?_of_mem hb
      exact (h2 i b hi).2
theorem open_i64c {n : Nat} {v : Value} {y : DataW H × List MemPlace} (h : DataW.trod enc Try.prog W base spare held n 3 [v] = some y) : ∃ z, v = .int .i64 z ∧ I64' z := by
  obtain ⟨z, hz, _, hw⟩ := DataW.trod_int Try.underlying3 h
  simp only [List.cons.injEq, and_true] at hz
  exact ⟨z, hz, wf_i64 hw⟩
theorem open_cellsT {t : TypeId} {v : Value} {d : DataW H} {p : List MemPlace} (h : DataW.Trod enc Try.prog W base spare held t v d p) (hv : v.cells = #[v]) : ∃ n y, DataW.trod enc Try.prog W base spare held n t [v] = some y := by
  obtain ⟨n, h⟩ := h
  rw [hv] at h
  exact ⟨n, _, h⟩
theorem open_intL {n : Nat} {v : Value} {x : DataW H × List MemPlace} (h : DataW.trod enc Try.prog W base spare held n 22 [v] = some x) : ∃ xs : List Int, Sl (fun _ => True) W v (ints xs) ∧ ∀ b ∈ xs, I64' b := by
  obtain ⟨xs, h1, h2⟩ := open_rowsN (fun z : Int => [.int .i64 z]) 1 I64' Try.underlying22 (by kernel_rfl) (by decide) (fun n cs y hy => by
    obtain ⟨z, hz, _, hw⟩ := DataW.trod_int Try.underlying3 hy
    exact ⟨z, hz, wf_i64 hw⟩) (fun b => rfl) h
  refine ⟨xs, SlN.to1 ?_, h2⟩
  have e : (ints xs).map (fun x => [x]) = xs.map (fun z => [.int .i64 z]) := by simp [ints]
  rw [e]; exact h1
theorem open_struct3 {t : TypeId} {f0 f1 f2 : Field} (ht : Try.prog.underlying t = some (.struct #[f0, f1, f2])) (hc : Try.prog.cellsOf t = 3) (e0 : f0.type = 3 ∧ f0.offset = 0) (e1 : f1.type = 3 ∧ f1.offset = 1) (e2 : f2.type = 3 ∧ f2.offset = 2)
    {n : Nat} {cs : List Value} {y : DataW H × List MemPlace} (h : DataW.trod enc Try.prog W base spare held n t cs = some y) : ∃ b : Int × Int × Int, cs = [.int .i64 b.1, .int .i64 b.2.1, .int .i64 b.2.2] ∧ I64' b.1 ∧ I64' b.2.1 ∧ I64' b.2.2 := by
  obtain ⟨y0, y1, y2, m, _, hl, h0, h1, h2⟩ := Go.Deep.trod_struct3 ht h
  rw [hc] at hl
  have c3 : Try.prog.cellsOf 3 = 1 := by kernel_rfl
  obtain ⟨c0, c1, c2, rfl⟩ := list_three hl
  rw [e0.1, e0.2, c3] at h0
  rw [e1.1, e1.2, c3] at h1
  rw [e2.1, e2.2, c3] at h2
  obtain ⟨a, ha', ha⟩ := open_i64c (v := c0) h0
  obtain ⟨b, hb', hb⟩ := open_i64c (v := c1) h1
  obtain ⟨c, hc', hc⟩ := open_i64c (v := c2) h2
  subst ha' hb' hc'
  exact ⟨(a, b, c), rfl, ha, hb, hc⟩
theorem open_struct2 {t : TypeId} {f0 f1 : Field} (ht : Try.prog.underlying t = some (.struct #[f0, f1])) (hc : Try.prog.cellsOf t = 2) (e0 : f0.type = 3 ∧ f0.offset = 0) (e1 : f1.type = 3 ∧ f1.offset = 1)
    {n : Nat} {cs : List Value} {y : DataW H × List MemPlace} (h : DataW.trod enc Try.prog W base spare held n t cs = some y) : ∃ b : Int × Int, cs = [.int .i64 b.1, .int .i64 b.2] ∧ I64' b.1 ∧ I64' b.2 := by
  obtain ⟨y0, y1, m, _, hl, h0, h1⟩ := trod_struct2 ht h
  rw [hc] at hl
  have c3 : Try.prog.cellsOf 3 = 1 := by kernel_rfl
  obtain ⟨c0, c1, rfl⟩ := list_two hl
  rw [e0.1, e0.2, c3] at h0
  rw [e1.1, e1.2, c3] at h1
  obtain ⟨a, ha', ha⟩ := open_i64c (v := c0) h0
  obtain ⟨b, hb', hb⟩ := open_i64c (v := c1) h1
  subst ha' hb'
  exact ⟨(a, b), rfl, ha, hb⟩
theorem open_intLL {n : Nat} {v : Value} {x : DataW H × List MemPlace} (h : DataW.trod enc Try.prog W base spare held n 32 [v] = some x) : ∃ gs : List (List Int), SlSl (fun _ => True) W v gs ∧ ∀ g ∈ gs, ∀ b ∈ g, I64' b := by
  obtain ⟨xs, h1, h2⟩ := open_rowsN (fun z : Value × List Int => [z.1]) 1 (fun z => Sl (fun _ => True) W z.1 (ints z.2) ∧ ∀ b ∈ z.2, I64' b) Try.underlying32 (by kernel_rfl) (by decide) (fun n cs y hy => by
    have hl : ∃ u, cs = [u] := by
      rcases DataW.trod_slice Try.underlying22 hy with ⟨hcs, _⟩ | ⟨a, len, cap, elems, rest, m, _, hcs, _⟩
      · exact ⟨_, hcs⟩
      · exact ⟨_, hcs⟩
    obtain ⟨u, rfl⟩ := hl
    obtain ⟨xs, h1, h2⟩ := open_intL hy
    exact ⟨(u, xs), rfl, h1, h2⟩) (fun b => rfl) h
  have e : (xs.map (·.1)).map (fun x => [x]) = xs.map (fun z => [z.1]) := by simp
  rw [← e] at h1
  refine ⟨xs.map (·.2), ⟨xs.map (·.1), SlN.to1 h1, by simp, fun i hi => ?_⟩, fun g hg => ?_⟩
  · have hi' : i < xs.length := by simpa using hi
    refine ⟨xs[i].1, by simp [hi'], ?_⟩
    simp only [List.getElem_map]
    exact (h2 _ (List.getElem_mem hi')).1
  · obtain ⟨z, hz, rfl⟩ := List.mem_map.1 hg
    exact (h2 z hz).2
end
end Go.Proofs.Ytagfcodpgochjaa

/- Chapter 12: what the claims' texts import: the laws' walks (new ones are appended at the end). -/

/- Chapter 12, the stable sort of more than 20, in plain Lean: swapping ranges, rotating, merging in place. -/
namespace Go.Proofs.Ytagfcodpgochjaa
open Go.RowKit Go.Oche Go.Proofs

def swp (l : List Int) (i j : Nat) : List Int := (l.set i (at0 l j)).set j (at0 l i)
@[simp] theorem swp_length (l : List Int) (i j : Nat) : (swp l i j).length = l.length := by simp [swp]
theorem swp_at {l : List Int} {i j : Nat} (hi : i < l.length) (hj : j < l.length) (q : Nat) : at0 (swp l i j) q = if q = j then at0 l i else if q = i then at0 l j else at0 l q := by
  unfold swp
  rw [at0_set (by simpa using hj), at0_set hi]
theorem swp_perm {l : List Int} {i j : Nat} (hi : i < l.length) (hj : j < l.length) : (swp l i j).Perm l := by
  unfold swp
  rw [at0_eq hj, at0_eq hi]
  exact List.set_set_perm hi hj
/-- The first k of two ranges have changed places. -/
structure SwpR (xs : List Int) (a b k : Nat) (ys : List Int) : Prop where
  len : ys.length = xs.length
  at_ : ∀ q, q < xs.length → at0 ys q = if a ≤ q ∧ q < a + k then at0 xs (b + (q - a)) else if b ≤ q ∧ q < b + k then at0 xs (a + (q - b)) else at0 xs q
  perm : ys.Perm xs
theorem SwpR.start {xs : List Int} {a b : Nat} : SwpR xs a b 0 xs :=
  ⟨rfl, fun q _ => by rw [if_neg (by omega), if_neg (by omega)], List.Perm.refl _⟩
theorem SwpR.step {xs ys : List Int} {a b k : Nat} (h : SwpR xs a b k ys) (hab : a + k < b) (hb : b + k < xs.length) : SwpR xs a b (k + 1) (swp ys (a + k) (b + k)) := by
  have hl := h.len
  have ea := h.at_ (a + k) (by omega)
  have eb := h.at_ (b + k) hb
  rw [if_neg (by omega), if_neg (by omega)] at ea eb
  refine ⟨by simp [hl], fun q hq => ?_, (swp_perm (by omega) (by omega)).trans h.perm⟩
  rw [swp_at (by omega) (by omega), ea, eb, h.at_ q hq]
  by_cases h1 : q = b + k
  · rw [if_pos h1, if_neg (by omega), if_pos (by omega)]; congr 1; omega
  · rw [if_neg h1]
    by_cases h2 : q = a + k
    · rw [if_pos h2, if_pos (by omega)]; congr 1; omega
    · rw [if_neg h2]
      by_cases h3 : a ≤ q ∧ q < a + k
      · rw [if_pos h3, if_pos (by omega)]
      · rw [if_neg h3, if_neg (show ¬ (a ≤ q ∧ q < a + (k + 1)) by omega)]
        by_cases h4 : b ≤ q ∧ q < b + k
        · rw [if_pos h4, if_pos (by omega)]
        · rw [if_neg h4, if_neg (by omega)]
/-- Rotated: what stood from m to b stands first, from a on. -/
def rotAt (a m b q : Nat) : Nat := if a ≤ q ∧ q < a + (b - m) then q - a + m else if a + (b - m) ≤ q ∧ q < b then q - (a + (b - m)) + a else q
structure RotOk (xs : List Int) (a m b : Nat) (ys : List Int) : Prop where
  len : ys.length = xs.length
  at_ : ∀ q, q < xs.length → at0 ys q = at0 xs (rotAt a m b q)
  perm : ys.Perm xs
theorem rotAt_lt {a m b q n : Nat} (_hm : a ≤ m) (hb : m ≤ b) (hn : b ≤ n) (hq : q < n) : rotAt a m b q < n := by
  unfold rotAt; split
  · omega
  · split <;> omega
/-- Within a rotation: i and j are left. -/
structure RotK (xs : List Int) (a m b i j : Nat) (ys : List Int) : Prop where
  len : ys.length = xs.length
  rng : a + i ≤ m ∧ m + j ≤ b ∧ 1 ≤ i ∧ 1 ≤ j
  eq : ∀ q, q < xs.length → at0 xs (rotAt a m b q) = at0 ys (rotAt (m - i) m (m + j) q)
  perm : ys.Perm xs
theorem RotK.start {xs : List Int} {a m b : Nat} (h1 : a < m) (h2 : m < b) : RotK xs a m b (m - a) (b - m) xs :=
  ⟨rfl, by omega, fun q _ => by rw [show m - (m - a) = a by omega, show m + (b - m) = b by omega], List.Perm.refl _⟩
theorem RotK.left {xs ys zs : List Int} {a m b i j : Nat} (h : RotK xs a m b i j ys) (hb : b ≤ xs.length) (hij : j < i) (hs : SwpR ys (m - i) m j zs) : RotK xs a m b (i - j) j zs := by
  have hr := h.rng
  have hl := h.len
  refine ⟨hs.len.trans hl, by omega, fun q hq => ?_, hs.perm.trans h.perm⟩
  rw [h.eq q hq, hs.at_ _ (rotAt_lt (by omega) (by omega) (by omega) (by omega))]
  unfold rotAt
  repeat' split
  all_goals first | omega | (congr 1; omega)
theorem RotK.right {xs ys zs : List Int} {a m b i j : Nat} (h : RotK xs a m b i j ys) (hb : b ≤ xs.length) (hij : i < j) (hs : SwpR ys (m - i) (m + j - i) i zs) : RotK xs a m b i (j - i) zs := by
  have hr := h.rng
  have hl := h.len
  refine ⟨hs.len.trans hl, by omega, fun q hq => ?_, hs.perm.trans h.perm⟩
  rw [h.eq q hq, hs.at_ _ (rotAt_lt (by omega) (by omega) (by omega) (by omega))]
  unfold rotAt
  repeat' split
  all_goals first | omega | (congr 1; omega)
theorem RotK.last {xs ys zs : List Int} {a m b i : Nat} (h : RotK xs a m b i i ys) (_hb : b ≤ xs.length) (hs : SwpR ys (m - i) m i zs) : RotOk xs a m b zs := by
  have hr := h.rng
  have hl := h.len
  refine ⟨hs.len.trans hl, fun q hq => ?_, hs.perm.trans h.perm⟩
  rw [h.eq q hq, hs.at_ q (by omega)]
  unfold rotAt
  repeat' split
  all_goals first | omega | (congr 1; omega)
theorem RotOk.refl {xs : List Int} {a m b : Nat} (h : a = m ∨ m = b) (h1 : a ≤ m) (h2 : m ≤ b) : RotOk xs a m b xs := by
  refine ⟨rfl, fun q _ => ?_, List.Perm.refl _⟩
  have : rotAt a m b q = q := by unfold rotAt; repeat' split
                                 all_goals omega
  rw [this]
/-- The first moves on by one. -/
theorem RotOk.fst {xs ys : List Int} {a k : Nat} (h : RotOk xs a (a + 1) (k + 1) ys) (hak : a ≤ k) (hk : k + 1 < xs.length) : RotOk xs a (a + 1) (k + 2) (swp ys k (k + 1)) := by
  have hl := h.len
  refine ⟨by simp [hl], fun q hq => ?_, (swp_perm (by omega) (by omega)).trans h.perm⟩
  rw [swp_at (by omega) (by omega), h.at_ k (by omega), h.at_ (k + 1) (by omega), h.at_ q hq]
  unfold rotAt
  repeat' split
  all_goals first | omega | (congr 1; omega)
/-- The last moves back by one. -/
theorem RotOk.lst {xs ys : List Int} {m k : Nat} (h : RotOk xs (k + 1) m (m + 1) ys) (hk : k + 1 ≤ m) (hm : m < xs.length) : RotOk xs k m (m + 1) (swp ys (k + 1) k) := by
  have hl := h.len
  refine ⟨by simp [hl], fun q hq => ?_, (swp_perm (by omega) (by omega)).trans h.perm⟩
  rw [swp_at (by omega) (by omega), h.at_ k (by omega), h.at_ (k + 1) (by omega), h.at_ q hq]
  unfold rotAt
  repeat' split
  all_goals first | omega | (congr 1; omega)
theorem befo_trans {r : Int → Int} {x y z : Int} (h1 : befo r x y) (h2 : befo r y z) : befo r x z := by unfold befo at *; omega
/-- Two runs to be merged. -/
structure MrgIn (r : Int → Int) (ys : List Int) (a m b : Nat) : Prop where
  ordL : ∀ p q, a ≤ p → p < q → q < m → befo r (at0 ys p) (at0 ys q)
  ordR : ∀ p q, m ≤ p → p < q → q < b → befo r (at0 ys p) (at0 ys q)
  low : ∀ p q, a ≤ p → p < m → m ≤ q → q < b → at0 ys p < at0 ys q
/-- .. merged. -/
structure MrgOut (r : Int → Int) (ys : List Int) (a b : Nat) (zs : List Int) : Prop where
  len : zs.length = ys.length
  out : ∀ q, q < a ∨ b ≤ q → at0 zs q = at0 ys q
  mem : ∀ q, a ≤ q → q < b → ∃ p, a ≤ p ∧ p < b ∧ at0 zs q = at0 ys p
  ord : ∀ p q, a ≤ p → p < q → q < b → befo r (at0 zs p) (at0 zs q)
  perm : zs.Perm ys
theorem at0_out {l : List Int} {q : Nat} (h : l.length ≤ q) : at0 l q = 0 := by rw [at0, List.getD_eq_getElem?_getD, List.getElem?_eq_none h]; rfl
theorem RotOk.out {xs ys : List Int} {a m b : Nat} (h : RotOk xs a m b ys) (h1 : a ≤ m) (h2 : m ≤ b) {q : Nat} (hq : q < a ∨ b ≤ q) : at0 ys q = at0 xs q := by
  rcases Nat.lt_or_ge q xs.length with hl | hl
  · rw [h.at_ q hl]
    have : rotAt a m b q = q := by unfold rotAt; rw [if_neg (by omega), if_neg (by omega)]
    rw [this]
  · rw [at0_out hl, at0_out (by rw [h.len]; exact hl)]
/-- One that stands first comes to its place. -/
theorem MrgIn.one {r : Int → Int} {ys zs : List Int} {a i b : Nat} (h : MrgIn r ys a (a + 1) b) (hb : b ≤ ys.length) (hi : a + 1 ≤ i ∧ i ≤ b) (hlo : ∀ q, a + 1 ≤ q → q < i → r (at0 ys a) < r (at0 ys q)) (hhi : ∀ q, i ≤ q → q < b → ¬ r (at0 ys a) < r (at0 ys q)) (hz : RotOk ys a (a + 1) i zs) : MrgOut r ys a b zs := by
  have key : ∀ q, a ≤ q → q < b → at0 zs q = if q + 1 < i then at0 ys (q + 1) else if q + 1 = i then at0 ys a else at0 ys q := fun q h1 h2 => by
    rw [hz.at_ q (by omega)]
    unfold rotAt
    repeat' split
    all_goals first | omega | (congr 1; omega)
  refine ⟨hz.len, fun q hq => hz.out (by omega) (by omega) (by omega), fun q h1 h2 => ?_, fun p q h1 h2 h3 => ?_, hz.perm⟩
  · rw [key q h1 h2]
    split
    · exact ⟨q + 1, by omega, by omega, rfl⟩
    · split
      · exact ⟨a, by omega, by omega, rfl⟩
      · exact ⟨q, h1, h2, rfl⟩
  · have hl : ∀ q, i ≤ q → q < b → befo r (at0 ys a) (at0 ys q) := fun q h1 h2 => by
      have := hhi q h1 h2
      have := h.low a q (by omega) (by omega) (by omega) h2
      unfold befo; omega
    rw [key p (by omega) (by omega), key q (by omega) h3]
    repeat' split
    all_goals first
      | omega
      | exact h.ordR _ _ (by omega) (by omega) (by omega)
      | exact .inl (hlo _ (by omega) (by omega))
      | exact hl _ (by omega) (by omega)
/-- One that stands last comes to its place. -/
theorem MrgIn.lone {r : Int → Int} {ys zs : List Int} {a i m : Nat} (h : MrgIn r ys a m (m + 1)) (hb : m + 1 ≤ ys.length) (hi : a ≤ i ∧ i ≤ m) (hlo : ∀ q, a ≤ q → q < i → ¬ r (at0 ys q) < r (at0 ys m)) (hhi : ∀ q, i ≤ q → q < m → r (at0 ys q) < r (at0 ys m)) (hz : RotOk ys i m (m + 1) zs) : MrgOut r ys a (m + 1) zs := by
  have key : ∀ q, a ≤ q → q < m + 1 → at0 zs q = if q < i then at0 ys q else if q = i then at0 ys m else at0 ys (q - 1) := fun q h1 h2 => by
    rw [hz.at_ q (by omega)]
    unfold rotAt
    repeat' split
    all_goals first | omega | (congr 1; omega)
  refine ⟨hz.len, fun q hq => hz.out (by omega) (by omega) (by omega), fun q h1 h2 => ?_, fun p q h1 h2 h3 => ?_, hz.perm⟩
  · rw [key q h1 h2]
    split
    · exact ⟨q, by omega, by omega, rfl⟩
    · split
      · exact ⟨m, by omega, by omega, rfl⟩
      · exact ⟨q - 1, by omega, by omega, rfl⟩
  · have hl : ∀ q, a ≤ q → q < i → befo r (at0 ys q) (at0 ys m) := fun q h1 h2 => by
      have := hlo q h1 h2
      have := h.low q m (by omega) (by omega) (by omega) (by omega)
      unfold befo; omega
    rw [key p (by omega) (by omega), key q (by omega) h3]
    repeat' split
    all_goals first
      | omega
      | exact h.ordL _ _ (by omega) (by omega) (by omega)
      | exact .inl (hhi _ (by omega) (by omega))
      | exact hl _ (by omega) (by omega)
/-- Where the search begins, and where it ends. -/
def symLo (a m b : Nat) : Nat := if (a + b) / 2 < m then (a + b) / 2 + m - b else a
def symHi (a m b : Nat) : Nat := if (a + b) / 2 < m then (a + b) / 2 else m
theorem sym_rng {a m b c : Nat} (h1 : a < m) (h2 : m < b) (hc : symLo a m b ≤ c) (hc2 : c < symHi a m b) : a ≤ c ∧ c < m ∧ m ≤ (a + b) / 2 + m - 1 - c ∧ (a + b) / 2 + m - 1 - c < b := by
  unfold symLo symHi at *
  split at hc
  · rename_i h; rw [if_pos h] at hc2; omega
  · rename_i h; rw [if_neg h] at hc2; omega
def symP (r : Int → Int) (ys : List Int) (p c : Nat) : Prop := r (at0 ys c) < r (at0 ys (p - c))
theorem symP_mono {r : Int → Int} {ys : List Int} {a m b c d : Nat} (h : MrgIn r ys a m b) (h1 : a < m) (h2 : m < b) (hc : symLo a m b ≤ c) (hcd : c ≤ d) (hd : d < symHi a m b) (hp : symP r ys ((a + b) / 2 + m - 1) c) : symP r ys ((a + b) / 2 + m - 1) d := by
  rcases Nat.eq_or_lt_of_le hcd with e | e
  · subst e; exact hp
  · have hc1 := sym_rng h1 h2 hc (by omega)
    have hd1 := sym_rng h1 h2 (by omega) hd
    have e1 := h.ordL c d hc1.1 e hd1.2.1
    have e2 := h.ordR ((a + b) / 2 + m - 1 - d) ((a + b) / 2 + m - 1 - c) hd1.2.2.1 (by omega) hc1.2.2.2
    unfold symP at *
    unfold befo at e1 e2
    omega
/-- The two halves, when what had to change sides has. -/
theorem MrgIn.split {r : Int → Int} {ys zs : List Int} {a m b s : Nat} (h : MrgIn r ys a m b) (hb : b ≤ ys.length) (h1 : a < m) (h2 : m < b) (hs : symLo a m b ≤ s ∧ s ≤ symHi a m b)
    (hlo : ∀ c, symLo a m b ≤ c → c < s → ¬ symP r ys ((a + b) / 2 + m - 1) c) (hhi : ∀ c, s ≤ c → c < symHi a m b → symP r ys ((a + b) / 2 + m - 1) c) (hz : RotOk ys s m ((a + b) / 2 + m - s) zs) :
    (a ≤ s ∧ s ≤ m ∧ s ≤ (a + b) / 2 ∧ m ≤ (a + b) / 2 + m - s ∧ (a + b) / 2 + m - s ≤ b ∧ (a + b) / 2 ≤ (a + b) / 2 + m - s) ∧ MrgIn r zs a s ((a + b) / 2) ∧ MrgIn r zs ((a + b) / 2) ((a + b) / 2 + m - s) b ∧ (∀ p q, a ≤ p → p < (a + b) / 2 → (a + b) / 2 ≤ q → q < b → befo r (at0 zs p) (at0 zs q)) ∧ (∀ q, a ≤ q → q < b → ∃ p, a ≤ p ∧ p < b ∧ at0 zs q = at0 ys p) := by
  obtain ⟨d, hd⟩ : ∃ d, (a + b) / 2 = d := ⟨_, rfl⟩
  have hrng : a ≤ s ∧ s ≤ m ∧ s ≤ d ∧ d + m - s ≤ b := by
    unfold symLo symHi at hs
    rw [hd] at hs
    split at hs <;> omega
  have hlast : ∀ p q, a ≤ p → p < s → d + m - s ≤ q → q < b → befo r (at0 ys p) (at0 ys q) := fun p q e1 e2 e3 e4 => by
    have hsl : symLo a m b < s := by
      rcases Nat.lt_or_ge (symLo a m b) s with e | e
      · exact e
      · exfalso
        unfold symLo at e hs
        rw [hd] at e hs
        split at e <;> omega
    have g1 := hlo (s - 1) (by omega) (by omega)
    rw [hd] at g1
    unfold symP at g1
    rw [show d + m - 1 - (s - 1) = d + m - s by omega] at g1
    have g2 := h.low (s - 1) (d + m - s) (by omega) (by omega) (by omega) (by omega)
    have g3 : befo r (at0 ys (s - 1)) (at0 ys (d + m - s)) := by unfold befo; omega
    have g4 : p = s - 1 ∨ befo r (at0 ys p) (at0 ys (s - 1)) := by
      rcases Nat.lt_or_ge p (s - 1) with e | e
      · exact .inr (h.ordL p (s - 1) e1 e (by omega))
      · exact .inl (by omega)
    have g5 : q = d + m - s ∨ befo r (at0 ys (d + m - s)) (at0 ys q) := by
      rcases Nat.lt_or_ge (d + m - s) q with e | e
      · exact .inr (h.ordR _ q (by omega) e e4)
      · exact .inl (by omega)
    have g6 : befo r (at0 ys (s - 1)) (at0 ys q) := by
      rcases g5 with e | e
      · rw [e]; exact g3
      · exact befo_trans g3 e
    rcases g4 with e | e
    · rw [e]; exact g6
    · exact befo_trans e g6
  have hfirst : ∀ p q, m ≤ p → p < d + m - s → s ≤ q → q < m → befo r (at0 ys p) (at0 ys q) := fun p q e1 e2 e3 e4 => by
    have hsh : s < symHi a m b := by
      rcases Nat.lt_or_ge s (symHi a m b) with e | e
      · exact e
      · exfalso
        unfold symHi at e hs
        rw [hd] at e hs
        split at e <;> omega
    have g1 := hhi s (Nat.le_refl _) hsh
    rw [hd] at g1
    unfold symP at g1
    have g3 : befo r (at0 ys (d + m - 1 - s)) (at0 ys s) := .inl g1
    have g4 : p = d + m - 1 - s ∨ befo r (at0 ys p) (at0 ys (d + m - 1 - s)) := by
      rcases Nat.lt_or_ge p (d + m - 1 - s) with e | e
      · exact .inr (h.ordR p _ e1 e (by omega))
      · exact .inl (by omega)
    have g5 : q = s ∨ befo r (at0 ys s) (at0 ys q) := by
      rcases Nat.lt_or_ge s q with e | e
      · exact .inr (h.ordL s q (by omega) e e4)
      · exact .inl (by omega)
    have g6 : befo r (at0 ys (d + m - 1 - s)) (at0 ys q) := by
      rcases g5 with e | e
      · rw [e]; exact g3
      · exact befo_trans g3 e
    rcases g4 with e | e
    · rw [e]; exact g6
    · exact befo_trans e g6
  rw [hd] at hz ⊢
  have key : ∀ q, a ≤ q → q < b → at0 zs q = if q < s then at0 ys q else if q < d then at0 ys (q - s + m) else if q < d + m - s then at0 ys (q - d + s) else at0 ys q := fun q h1 h2 => by
    rw [hz.at_ q (by omega)]
    unfold rotAt
    repeat' split
    all_goals first | omega | (congr 1; omega)
  refine ⟨by omega, ⟨fun p q e1 e2 e3 => ?_, fun p q e1 e2 e3 => ?_, fun p q e1 e2 e3 e4 => ?_⟩, ⟨fun p q e1 e2 e3 => ?_, fun p q e1 e2 e3 => ?_, fun p q e1 e2 e3 e4 => ?_⟩, fun p q e1 e2 e3 e4 => ?_, fun q e1 e2 => ?_⟩
  · rw [key p (by omega) (by omega), key q (by omega) (by omega), if_pos (by omega), if_pos e3]
    exact h.ordL p q e1 e2 (by omega)
  · rw [key p (by omega) (by omega), key q (by omega) (by omega), if_neg (by omega), if_pos (by omega), if_neg (by omega), if_pos e3]
    exact h.ordR _ _ (by omega) (by omega) (by omega)
  · rw [key p (by omega) (by omega), key q (by omega) (by omega), if_pos e2, if_neg (by omega), if_pos e4]
    exact h.low _ _ e1 (by omega) (by omega) (by omega)
  · rw [key p (by omega) (by omega), key q (by omega) (by omega), if_neg (by omega), if_neg (by omega), if_pos (by omega), if_neg (by omega), if_neg (by omega), if_pos e3]
    exact h.ordL _ _ (by omega) (by omega) (by omega)
  · rw [key p (by omega) (by omega), key q (by omega) (by omega), if_neg (by omega), if_neg (by omega), if_neg (by omega), if_neg (by omega), if_neg (by omega), if_neg (by omega)]
    exact h.ordR _ _ (by omega) e2 e3
  · rw [key p (by omega) (by omega), key q (by omega) (by omega), if_neg (by omega), if_neg (by omega), if_pos e2, if_neg (by omega), if_neg (by omega), if_neg (by omega)]
    exact h.low _ _ (by omega) (by omega) (by omega) e4
  · rw [key p (by omega) (by omega), key q (by omega) (by omega), if_pos e2, if_neg (show ¬ q < s by omega), if_neg (show ¬ q < d by omega)]
    split
    · split
      · exact h.ordL _ _ e1 (by omega) (by omega)
      · exact hlast _ _ e1 (by omega) (by omega) e4
    · split
      · exact hfirst _ _ (by omega) (by omega) (by omega) (by omega)
      · exact h.ordR _ _ (by omega) (by omega) e4
  · rw [key q e1 e2]
    repeat' split
    · exact ⟨q, e1, e2, rfl⟩
    · exact ⟨_, by omega, by omega, rfl⟩
    · exact ⟨_, by omega, by omega, rfl⟩
    · exact ⟨q, e1, e2, rfl⟩
/-- Both halves merged. -/
theorem MrgOut.both {r : Int → Int} {ys zs us vs : List Int} {a d b : Nat} (had : a ≤ d) (hdb : d ≤ b) (hl : zs.length = ys.length) (hout : ∀ q, q < a ∨ b ≤ q → at0 zs q = at0 ys q) (hmem : ∀ q, a ≤ q → q < b → ∃ p, a ≤ p ∧ p < b ∧ at0 zs q = at0 ys p) (hp : zs.Perm ys)
    (hx : ∀ p q, a ≤ p → p < d → d ≤ q → q < b → befo r (at0 zs p) (at0 zs q)) (h1 : MrgOut r zs a d us) (h2 : MrgOut r us d b vs) : MrgOut r ys a b vs := by
  have e1 : ∀ q, a ≤ q → q < d → at0 vs q = at0 us q := fun q _ hq => h2.out q (.inl hq)
  have e2 : ∀ q, d ≤ q → q < b → ∃ p, d ≤ p ∧ p < b ∧ at0 vs q = at0 zs p := fun q g1 g2 => by
    obtain ⟨p, p1, p2, e⟩ := h2.mem q g1 g2
    exact ⟨p, p1, p2, by rw [e]; exact h1.out p (.inr p1)⟩
  refine ⟨h2.len.trans (h1.len.trans hl), fun q hq => ?_, fun q g1 g2 => ?_, fun p q g1 g2 g3 => ?_, h2.perm.trans (h1.perm.trans hp)⟩
  · rw [h2.out q (by omega), h1.out q (by omega), hout q hq]
  · rcases Nat.lt_or_ge q d with g | g
    · obtain ⟨p, p1, p2, e⟩ := h1.mem q g1 g
      obtain ⟨o, o1, o2, e'⟩ := hmem p p1 (by omega)
      exact ⟨o, o1, o2, by rw [e1 q g1 g, e, e']⟩
    · obtain ⟨p, p1, p2, e⟩ := e2 q g g2
      obtain ⟨o, o1, o2, e'⟩ := hmem p (by omega) p2
      exact ⟨o, o1, o2, by rw [e, e']⟩
  · rcases Nat.lt_or_ge q d with g | g
    · rw [e1 p g1 (by omega), e1 q (by omega) g]; exact h1.ord p q g1 g2 g
    · rcases Nat.lt_or_ge p d with f | f
      · obtain ⟨o, o1, o2, e⟩ := h1.mem p g1 f
        obtain ⟨o', o1', o2', e'⟩ := e2 q g g3
        rw [e1 p g1 f, e, e']
        exact hx o o' o1 o2 o1' o2'
      · exact h2.ord p q f g2 g3
end Go.Proofs.Ytagfcodpgochjaa
