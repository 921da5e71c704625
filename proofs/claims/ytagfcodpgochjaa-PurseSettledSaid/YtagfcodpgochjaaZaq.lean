/- The texts Law, Opn, AL, PN, Cpy2, WT, OS, in build order. -/
import Derived.Test.YtagfcodpgochjaaZap
import Derived.WalkKit
import Derived.ProofKit
import Derived.OpenShut
import Derived.Below
import Derived.ChangeSame
import Derived.ChangeAgain
import Derived.JoinedCond
import Derived.Test.YtagfcodpgochjaaRows
import Derived.Lib.SmallJoins
import Derived.ChangeSlices
import Derived.JoinedOf
import Derived.JoinedAt
import Derived.Deep.Strs

/- A law that makes new memory alone: what was read before is read again. -/
namespace Go.Oche
open Go Go.RowKit Go.ChangeShapes

/-- The types that a type of the table is made of lie in the table too, and slices have elements of some size. -/
def kidsB (P : Program) (t : TypeId) : Bool := match P.underlying t with
  | some (.slice e) => P.cellsOf e != 0 && decide (e < P.types.size)
  | some (.pointer e) => decide (e < P.types.size)
  | some (.struct fs) => fs.toList.all fun f => decide (f.type < P.types.size)
  | some (.array _ e) => decide (e < P.types.size)
  | some (.map _ e) => decide (e < P.types.size)
  | _ => true
def sizedB (P : Program) : Bool := (List.range P.types.size).all (kidsB P)
theorem kids_of {P : Program} (h : sizedB P = true) {t : TypeId} (hl : t < P.types.size) : kidsB P t = true := List.all_eq_true.1 h t (List.mem_range.2 hl)

theorem mapM_keep {α β : Type} {f g : α → Option β} : ∀ {l : List α} {ys : List β}, l.mapM f = some ys → (∀ x ∈ l, ∀ y ∈ ys, f x = some y → g x = some y) → l.mapM g = some ys
  | [], ys, h, _ => by simpa using h
  | x :: l, ys, h, hk => by
    rw [List.mapM_cons] at h ⊢
    cases hx : f x with
    | none => rw [hx] at h; cases h
    | some y =>
      rw [hx] at h
      cases hl : l.mapM f with
      | none => rw [hl] at h; cases h
      | some zs =>
        rw [hl] at h
        cases h
        rw [hk x (by simp) y (by simp) hx, mapM_keep hl fun x' hx' y' hy' => hk x' (by simp [hx']) y' (by simp [hy'])]
        rfl
theorem mapM_len {α β : Type} {f : α → Option β} : ∀ {l : List α} {ys : List β}, l.mapM f = some ys → ys.length = l.length
  | [], ys, h => by
    have : ys = [] := by simpa using h.symm
    rw [this]; rfl
  | x :: l, ys, h => by
    rw [List.mapM_cons] at h
    cases hx : f x with
    | none => rw [hx] at h; cases h
    | some y =>
      rw [hx] at h
      cases hl : l.mapM f with
      | none => rw [hl] at h; cases h
      | some zs => rw [hl] at h; cases h; simp [mapM_len hl]

section
variable {H : Type} {enc : TypeId × Value → H} {P : Program} {W W' : World} {base : Nat}
theorem cells_keep (hc : ∀ p v, W.cell? p = some v → W'.cell? p = some v) {a : Addr} {n : Nat} {cs : List Value} (h : W.cells? base a n = some cs) : W'.cells? base a n = some cs := by
  unfold World.cells? at h ⊢
  split at h
  · rename_i hb
    rw [if_pos hb]
    exact mapM_keep h fun i _ y _ hy => hc _ _ hy
  · cases h
theorem bind_keep (hc : ∀ p v, W.cell? p = some v → W'.cell? p = some v) {a : Addr} {n : Nat} {f g : List Value → Option (DataW H × List MemPlace)} {x : DataW H × List MemPlace} (h : (W.cells? base a n).bind f = some x) (hk : ∀ cs, f cs = some x → g cs = some x) : (W'.cells? base a n).bind g = some x := by
  cases hcs : W.cells? base a n with
  | none => rw [hcs] at h; cases h
  | some cs => rw [hcs] at h; rw [cells_keep hc hcs]; exact hk cs h

/-- What was read before is read again: memory that there was is as it was. -/
theorem trod_keep (hsz : sizedB P = true) (hc : ∀ p v, W.cell? p = some v → W'.cell? p = some v) (hm : ∀ (b : Nat) es c, W.heap[b]? = some (Obj.map es c) → W'.heap[b]? = some (Obj.map es c)) :
    ∀ (fuel : Nat) (t : TypeId) (cs : List Value) (x : DataW H × List MemPlace), t < P.types.size → DataW.trod enc P W base (fun _ => true) true fuel t cs = some x → ∀ sp : Nat → Bool, (∀ p ∈ x.2, sp p.block = true) →
      DataW.trod enc P W' base sp true fuel t cs = some x := by
  intro fuel
  induction fuel with
  | zero => intro t cs x _ h; cases h
  | succ fuel ih =>
    intro t cs x htl h sp hsp
    have hkid := kids_of hsz htl
    unfold kidsB at hkid
    unfold DataW.trod at h ⊢
    split at h
    all_goals try exact h
    · rename_i e a hu
      rw [hu] at hkid
      have he : e < P.types.size := by simpa using hkid
      obtain ⟨y, hy, rfl⟩ := Option.map_eq_some_iff.1 h
      refine Option.map_eq_some_iff.2 ⟨y, bind_keep hc hy fun cs hcs => ih _ _ _ he hcs sp fun p hp => hsp p (by simp [hp]), rfl⟩
    · rename_i e a len cap hu
      rw [hu] at hkid
      obtain ⟨hz, he⟩ : P.cellsOf e ≠ 0 ∧ e < P.types.size := by simpa using hkid
      simp only at h ⊢
      split at h
      · rename_i hcond
        rw [if_pos hcond]
        obtain ⟨elems, hel, h⟩ := Option.bind_eq_some_iff.1 h
        obtain ⟨rest, hrest, rfl⟩ := Option.map_eq_some_iff.1 h
        simp only [if_true] at hrest
        have hl1 := mapM_len hel
        have hl2 := mapM_len hrest
        simp only [List.length_range] at hl1 hl2
        have hx : ∀ y ∈ elems ++ rest, ∀ p ∈ y.2, sp p.block = true := fun y hy p hp => hsp p (List.mem_append_right _ (List.mem_flatMap.2 ⟨y, hy, hp⟩))
        refine Option.bind_eq_some_iff.2 ⟨elems, mapM_keep hel fun i _ y hy hi => bind_keep hc hi fun cs hcs => ih _ _ _ he hcs sp (hx y (by simp [hy])), Option.map_eq_some_iff.2 ⟨rest, ?_, rfl⟩⟩
        by_cases hs : sp a.block = true
        · rw [if_pos hs]
          exact mapM_keep hrest fun i _ y hy hi => bind_keep hc hi fun cs hcs => ih _ _ _ he hcs sp (hx y (by simp [hy]))
        · rw [if_neg hs]
          have h0 : cap - len = 0 := by
            rcases Nat.eq_zero_or_pos (cap - len) with h | h
            · exact h
            · exfalso
              apply hs
              have hpos : 0 < (elems.length + rest.length) * P.cellsOf e := Nat.mul_pos (by omega) (by omega)
              refine hsp (.cell a.block (a.off + 0)) (List.mem_append_left _ ?_)
              unfold MemPlace.row
              exact List.mem_map.2 ⟨0, List.mem_range.2 hpos, rfl⟩
          have : rest = [] := List.eq_nil_of_length_eq_zero (by omega)
          rw [this]
      · cases h
    · rename_i fs hu
      rw [hu] at hkid
      have he : ∀ f ∈ fs.toList, f.type < P.types.size := fun f hf => by simpa using List.all_eq_true.1 hkid f hf
      split at h
      · rename_i hl
        rw [if_pos hl]
        obtain ⟨xs, hxs, rfl⟩ := Option.map_eq_some_iff.1 h
        exact Option.map_eq_some_iff.2 ⟨xs, mapM_keep hxs fun f hff y hy hf => ih _ _ _ (he f hff) hf sp fun p hp => hsp p (List.mem_flatMap.2 ⟨y, hy, hp⟩), rfl⟩
      · cases h
    · rename_i n e hu
      rw [hu] at hkid
      have he : e < P.types.size := by simpa using hkid
      split at h
      · rename_i hl
        rw [if_pos hl]
        obtain ⟨xs, hxs, rfl⟩ := Option.map_eq_some_iff.1 h
        exact Option.map_eq_some_iff.2 ⟨xs, mapM_keep hxs fun f _ y hy hf => ih _ _ _ he hf sp fun p hp => hsp p (List.mem_flatMap.2 ⟨y, hy, hp⟩), rfl⟩
      · cases h
    · rename_i k e b hu
      rw [hu] at hkid
      have he : e < P.types.size := by simpa using hkid
      split at h
      · rename_i es clock hb
        rw [hm _ _ _ hb]
        simp only
        split at h
        · rename_i hcond
          rw [if_pos hcond]
          obtain ⟨entries, hen, h⟩ := Option.bind_eq_some_iff.1 h
          have hplaces : ∀ y ∈ entries, ∀ p ∈ y.2, sp p.block = true := fun y hy p hp => hsp p (by
            dsimp only at h
            split at h
            · cases h; exact List.mem_cons_of_mem _ (List.mem_flatMap.2 ⟨y, hy, hp⟩)
            · cases h)
          refine Option.bind_eq_some_iff.2 ⟨entries, mapM_keep hen fun z _ y hy hz => ?_, h⟩
          obtain ⟨key, hk, hz⟩ := Option.bind_eq_some_iff.1 hz
          refine Option.bind_eq_some_iff.2 ⟨key, hk, ?_⟩
          split at hz
          · rename_i hfm
            rw [if_pos hfm]
            obtain ⟨y', hy', rfl⟩ := Option.map_eq_some_iff.1 hz
            exact Option.map_eq_some_iff.2 ⟨y', ih _ _ _ he hy' sp (hplaces _ hy), rfl⟩
          · cases hz
        · cases h
      · cases h
theorem trodAll_keep (hsz : sizedB P = true) (hc : ∀ p v, W.cell? p = some v → W'.cell? p = some v) (hm : ∀ (b : Nat) es c, W.heap[b]? = some (Obj.map es c) → W'.heap[b]? = some (Obj.map es c)) :
    ∀ (ts : List TypeId) (vs : List Value) (ds : List (DataW H)) (ps : List MemPlace), (∀ t ∈ ts, t < P.types.size) → DataW.TrodAll enc P W base (fun _ => true) true ts vs ds ps → ∀ sp : Nat → Bool, (∀ p ∈ ps, sp p.block = true) → DataW.TrodAll enc P W' base sp true ts vs ds ps
  | [], [], [], _, _, h, _, _ => h
  | t :: ts, v :: vs, d :: ds, ps, hts, ⟨p, q, ⟨fuel, h1⟩, h2, h3⟩, sp, hsp => by
    subst h3
    exact ⟨p, q, ⟨fuel, trod_keep hsz hc hm fuel t _ _ (hts t (by simp)) h1 sp fun x hx => hsp x (by simp [hx])⟩, trodAll_keep hsz hc hm ts vs ds q (fun t ht => hts t (by simp [ht])) h2 sp fun x hx => hsp x (by simp [hx]), rfl⟩
  | [], [], _ :: _, _, _, h, _, _ => h.elim
  | [], _ :: _, ds, _, _, h, _, _ => by cases ds <;> exact h.elim
  | _ :: _, [], ds, _, _, h, _, _ => by cases ds <;> exact h.elim
  | _ :: _, _ :: _, [], _, _, h, _, _ => h.elim

theorem below_keptBut (hb : Below W.heap.size W W') (may : MemPlace → Prop) : W.keptBut W' may := by
  refine ⟨hb.os, hb.output, fun i hi => ?_⟩
  have := hb.block i hi
  rw [this]
  cases h : W.heap[i]? with
  | none => rfl
  | some o => cases o <;> simp

/-- The post of a law that has answered true and made new memory alone. -/
theorem law_post {f : Func} {s : ChangeSpec} {apart fresh handsOn again : Bool} {args : Array Value} {ds gs : List (DataW H)} {before : List MemPlace}
    (hsz : sizedB P = true) (hts : f.params.toList.all (fun t => decide (t < P.types.size)) = true) (hW : DataW.Whole enc P f.params.toList s.vars apart W args.toList ds gs before) (hv : s.vars = []) (hb : Below W.heap.size W W')
    (hres : (s.fn H ds).results = [.lit (.bool true)]) (hargs : (s.fn H ds).args = ds) (hvars : (s.fn H ds).vars = []) {bt : TypeId} (hrt : f.resultTypes = #[bt]) (hbt : P.underlying bt = some .bool) :
    s.post enc P f apart fresh handsOn again W args (.bool true) W' := by
  have hW0 := hW
  obtain ⟨p, q, hA, hV, hps, hfz, hnd⟩ := hW
  rw [hv] at hV
  have hg : gs = [] ∧ q = [] := by
    cases gs with
    | nil => exact ⟨rfl, hV⟩
    | cons g gs => exact hV.elim
  obtain ⟨rfl, rfl⟩ := hg
  rw [List.append_nil] at hps
  subst hps
  have hc : ∀ p v, W.cell? p = some v → W'.cell? p = some v := fun p v h => (World.cell?_of_block (w := W) (hb.block p.block (World.block_lt_of_cell? W p h))).trans h
  have hm : ∀ (b : Nat) es c, W.heap[b]? = some (Obj.map es c) → W'.heap[b]? = some (Obj.map es c) := fun b es c h => (hb.block b (Array.getElem?_eq_some_iff.1 h).1).trans h
  have hag : ∀ sp : Nat → Bool, (∀ x ∈ before, sp x.block = true) → DataW.TrodAll enc P W' 0 sp true f.params.toList args.toList ds before := fun sp hsp => trodAll_keep hsz hc hm _ _ _ _ (fun t ht => by simpa using List.all_eq_true.1 hts t ht) hA sp hsp
  have hlt : ∀ x ∈ before, x.block < W.heap.size := fun x hx => hW0.lt x hx
  have hold : ∀ x ∈ before, (fun b => decide (b < W.heap.size)) x.block = true := fun x hx => by simpa using hlt x hx
  have hR : ∀ (b : Nat) (sp : Nat → Bool) (hd : Bool), DataW.TrodAll enc P W' b sp hd f.resultTypes.toList ((Value.bool true).resultList f.resultTypes.size) (s.fn H (ds ++ [])).results [] := fun b sp hd => by
    rw [List.append_nil, hres, hrt]
    exact trodAll_cons_mk (shut_bool hbt true) trodAll_mk0
  have hR2 : ∀ sp : Nat → Bool, (∀ x ∈ before, sp x.block = true) → DataW.TrodAll enc P W' 0 sp true f.params.toList args.toList (s.fn H (ds ++ [])).args before := fun sp hsp => by
    rw [List.append_nil, hargs]; exact hag sp hsp
  have hVV : ∀ sp : Nat → Bool, DataW.TrodVars enc P W' sp s.vars (s.fn H (ds ++ [])).vars [] := fun sp => by
    rw [List.append_nil, hvars, hv]; rfl
  refine ⟨ds, [], before, [], before, [], hW0, hR _ _ _, hR2 _ hold, hVV _, below_keptBut hb _, fun _ => ?_⟩
  refine ⟨?_, _, _, ([] ++ before) ++ [], ⟨[] ++ before, [], trodAll_append (hR2 _ (fun _ _ => rfl)) (hR _ _ _), hVV _, rfl, ?_, ?_⟩, ?_⟩
  · exact ok_one hrt rfl (okWide_bool_mk hbt _)
  · intro b off hp
    have hp' : MemPlace.cell b off ∈ before := by simpa using hp
    have hlt' := hlt _ hp'
    have : W'.frozen? ⟨b, off, none⟩ = W.frozen? ⟨b, off, none⟩ := World.frozen?_of_block (w := W) (hb.block b hlt')
    rw [this]
    exact hfz b off hp'
  · intro ha
    simpa using hnd ha
  · intro x hx _
    simpa using hx
end
end Go.Oche

/- What a law's arguments read as: slices of elements of k cells, slices of slices, rows of numbers. -/
namespace Go.Proofs.Ytagfcodpgochjaa
open Go.RowKit Go.Oche Go.Proofs Go.ChangeShapes Go.WideShapes Go.ChangeAt

theorem own : ownKnob Try.prog.godebug = none := by kernel_rfl
theorem sized : sizedB Try.prog = true := by kernel_rfl
/-- An integer of 64 bits. -/
def I64' (n : Int) : Prop := -9223372036854775808 ≤ n ∧ n ≤ 9223372036854775807
theorem wf_i64 {n : Int} (h : (Lit.int .i64 n).wf = true) : I64' n := by
  have := h
  simp [Lit.wf, IntKind.min, IntKind.max, IntKind.signed, IntKind.bits] at this
  exact this
theorem wf_u16 {n : Int} (h : (Lit.int .u16 n).wf = true) : 0 ≤ n ∧ n ≤ 65535 := by
  have := h
  simp [Lit.wf, IntKind.min, IntKind.max, IntKind.signed, IntKind.bits] at this
  exact this
theorem wf_u8 {n : Int} (h : (Lit.int .u8 n).wf = true) : 0 ≤ n ∧ n ≤ 255 := by
  have := h
  simp [Lit.wf, IntKind.min, IntKind.max, IntKind.signed, IntKind.bits] at this
  exact this
theorem wf_u32 {n : Int} (h : (Lit.int .u32 n).wf = true) : 0 ≤ n ∧ n ≤ 4294967295 := by
  have := h
  simp [Lit.wf, IntKind.min, IntKind.max, IntKind.signed, IntKind.bits] at this
  exact this
theorem wf_i32 {n : Int} (h : (Lit.int .i32 n).wf = true) : -2147483648 ≤ n ∧ n ≤ 2147483647 := by
  have := h
  simp [Lit.wf, IntKind.min, IntKind.max, IntKind.signed, IntKind.bits] at this
  exact this
theorem list_two {α : Type} {cs : List α} (h : cs.length = 2) : ∃ a b, cs = [a, b] := by
  cases cs with
  | nil => simp at h
  | cons a cs =>
    cases cs with
    | nil => simp at h
    | cons b cs =>
      cases cs with
      | nil => exact ⟨a, b, rfl⟩
      | cons c cs => simp at h
theorem list_three {α : Type} {cs : List α} (h : cs.length = 3) : ∃ a b c, cs = [a, b, c] := by
  cases cs with
  | nil => simp at h
  | cons a cs =>
    obtain ⟨b, c, rfl⟩ := list_two (cs := cs) (by simpa using h)
    exact ⟨a, b, c, rfl⟩
theorem choose_rows {β : Type} {R : Nat → β → Prop} : ∀ n, (∀ i, i < n → ∃ b, R i b) → ∃ xs : List β, xs.length = n ∧ ∀ i b, xs[i]? = some b → R i b
  | 0, _ => ⟨[], rfl, fun i b h => by simp at h⟩
  | n + 1, h => by
    obtain ⟨xs, h1, h2⟩ := choose_rows n fun i hi => h i (by omega)
    obtain ⟨b, hb⟩ := h n (by omega)
    refine ⟨xs ++ [b], by simp [h1], fun i b' hi => ?_⟩
    by_cases hin : i < xs.length
    · rw [List.getElem?_append_left hin] at hi
      exact h2 i b' hi
    · have hlt := (List.getElem?_eq_some_iff.1 hi).1
      simp at hlt
      obtain rfl : i = xs.length := by omega
      simp at hi
      subst hi
      rw [h1]; exact hb
theorem spot_none {W : World} {a : Addr} {j : Nat} {x : Value} (h : W.cell? (a.add j) = some x) (hj : j = 0) : a.spot = none := by
  subst hj
  unfold World.cell? Addr.add at h
  simp only [if_true] at h
  cases hs : a.spot with
  | none => rfl
  | some s =>
    rw [hs] at h
    split at h <;> simp at h
section
variable {H : Type} {enc : TypeId × Value → H} {W : World} {base : Nat} {spare : Nat → Bool} {held : Bool}
theorem open_rowsN {β : Type} (row : β → List Value) (k : Nat) (Q : β → Prop) {t e : TypeId} (ht : Try.prog.underlying t = some (.slice e)) (hce : Try.prog.cellsOf e = k) (hk : 0 < k)
    (hone : ∀ n cs (y : DataW H × List MemPlace), DataW.trod enc Try.prog W base spare held n e cs = some y → ∃ b, cs = row b ∧ Q b) (hrow : ∀ b, (row b).length = k) {n : Nat} {v : Value} {x : DataW H × List MemPlace} (h : DataW.trod enc Try.prog W base spare held n t [v] = some x) :
    ∃ xs : List β, SlN k (fun _ => True) W v (xs.map row) ∧ ∀ b ∈ xs, Q b := by
  rcases DataW.trod_slice ht h with ⟨hcs, _⟩ | ⟨a, len, cap, elems, rest, m, _, hcs, _, _, hl, hm, hlen, hel, _, _⟩
  · simp only [List.cons.injEq, and_true] at hcs
    subst hcs
    exact ⟨[], SlN.nil _ _ _, by simp⟩
  · simp only [List.cons.injEq, and_true] at hcs
    subst hcs
    have hall : ∀ i, i < len → ∃ b, (∀ j x, (row b)[j]? = some x → W.cell? ((a.add (i * k)).add j) = some x) ∧ Q b := fun i hi => by
      have hy := hel i hi
      rw [List.getElem?_eq_getElem (by omega), hce, Option.bind_eq_some_iff] at hy
      obtain ⟨cs, hcs, hy⟩ := hy
      obtain ⟨b, rfl, hb⟩ := hone _ _ _ hy
      have := (World.cells?_some hcs)
      refine ⟨b, fun j x hx => ?_, hb⟩
      have hj : j < k := by rw [← hrow b]; exact (List.getElem?_eq_some_iff.1 hx).1
      rw [this.2.2 j hj]; exact hx
    obtain ⟨xs, h1, h2⟩ := choose_rows len hall
    refine ⟨xs, ⟨some a, cap, by rw [List.length_map, h1], by rw [List.length_map, h1]; exact hl, hm, fun i r hr => ?_⟩, fun b hb => ?_⟩
    · rw [List.getElem?_map, Option.map_eq_some_iff] at hr
      obtain ⟨b, hb, rfl⟩ := hr
      have hi : i < len := by rw [← h1]; exact (List.getElem?_eq_some_iff.1 hb).1
      have h0 : 0 < xs.length := by omega
      have hsp : a.spot = none := by
        have hr0 := hrow xs[0]
        have := (h2 0 xs[0] (List.getElem?_eq_getElem h0)).1 0 (row xs[0])[0] (List.getElem?_eq_getElem (by omega))
        rw [Nat.zero_mul] at this
        obtain ⟨b, o, s⟩ := a
        cases s with
        | none => rfl
        | some s =>
          simp [Addr.add, World.cell?] at this
          split at this <;> cases this
      obtain ⟨b', o, sp⟩ := a
      simp only at hsp
      subst hsp
      refine ⟨hrow b, b', o, rfl, trivial, fun j x hx => ?_⟩
      have := (h2 i b hb).1 j x hx
      rw [addr_at, addr_at] at this
      exact this
    · obtain ⟨i, hi⟩ := List.getElem?_of_mem hb
      exact (h2 i b hi).2
theorem open_i64c {n : Nat} {v : Value} {y : DataW H × List MemPlace} (h : DataW.trod enc Try.prog W base spare held n 3 [v] = some y) : ∃ z, v = .int .i64 z ∧ I64' z := by
  obtain ⟨z, hz, _, hw⟩ := DataW.trod_int Try.underlying3 h
  simp only [List.cons.injEq, and_true] at hz
  exact ⟨z, hz, wf_i64 hw⟩
theorem open_cellsT {t : TypeId} {v : Value} {d : DataW H} {p : List MemPlace} (h : DataW.Trod enc Try.prog W base spare held t v d p) (hv : v.cells = #[v]) : ∃ n y, DataW.trod enc Try.prog W base spare held n t [v] = some y := by
  obtain ⟨n, h⟩ := h
  rw [hv] at h
  exact ⟨n, _, h⟩
theorem open_intL {n : Nat} {v : Value} {x : DataW H × List MemPlace} (h : DataW.trod enc Try.prog W base spare held n 22 [v] = some x) : ∃ xs : List Int, Sl (fun _ => True) W v (ints xs) ∧ ∀ b ∈ xs, I64' b := by
  obtain ⟨xs, h1, h2⟩ := open_rowsN (fun z : Int => [.int .i64 z]) 1 I64' Try.underlying22 (by kernel_rfl) (by decide) (fun n cs y hy => by
    obtain ⟨z, hz, _, hw⟩ := DataW.trod_int Try.underlying3 hy
    exact ⟨z, hz, wf_i64 hw⟩) (fun b => rfl) h
  refine ⟨xs, SlN.to1 ?_, h2⟩
  have e : (ints xs).map (fun x => [x]) = xs.map (fun z => [.int .i64 z]) := by simp [ints]
  rw [e]; exact h1
theorem open_struct3 {t : TypeId} {f0 f1 f2 : Field} (ht : Try.prog.underlying t = some (.struct #[f0, f1, f2])) (hc : Try.prog.cellsOf t = 3) (e0 : f0.type = 3 ∧ f0.offset = 0) (e1 : f1.type = 3 ∧ f1.offset = 1) (e2 : f2.type = 3 ∧ f2.offset = 2)
    {n : Nat} {cs : List Value} {y : DataW H × List MemPlace} (h : DataW.trod enc Try.prog W base spare held n t cs = some y) : ∃ b : Int × Int × Int, cs = [.int .i64 b.1, .int .i64 b.2.1, .int .i64 b.2.2] ∧ I64' b.1 ∧ I64' b.2.1 ∧ I64' b.2.2 := by
  obtain ⟨y0, y1, y2, m, _, hl, h0, h1, h2⟩ := Go.Deep.trod_struct3 ht h
  rw [hc] at hl
  have c3 : Try.prog.cellsOf 3 = 1 := by kernel_rfl
  obtain ⟨c0, c1, c2, rfl⟩ := list_three hl
  rw [e0.1, e0.2, c3] at h0
  rw [e1.1, e1.2, c3] at h1
  rw [e2.1, e2.2, c3] at h2
  obtain ⟨a, ha', ha⟩ := open_i64c (v := c0) h0
  obtain ⟨b, hb', hb⟩ := open_i64c (v := c1) h1
  obtain ⟨c, hc', hc⟩ := open_i64c (v := c2) h2
  subst ha' hb' hc'
  exact ⟨(a, b, c), rfl, ha, hb, hc⟩
theorem open_struct2 {t : TypeId} {f0 f1 : Field} (ht : Try.prog.underlying t = some (.struct #[f0, f1])) (hc : Try.prog.cellsOf t = 2) (e0 : f0.type = 3 ∧ f0.offset = 0) (e1 : f1.type = 3 ∧ f1.offset = 1)
    {n : Nat} {cs : List Value} {y : DataW H × List MemPlace} (h : DataW.trod enc Try.prog W base spare held n t cs = some y) : ∃ b : Int × Int, cs = [.int .i64 b.1, .int .i64 b.2] ∧ I64' b.1 ∧ I64' b.2 := by
  obtain ⟨y0, y1, m, _, hl, h0, h1⟩ := trod_struct2 ht h
  rw [hc] at hl
  have c3 : Try.prog.cellsOf 3 = 1 := by kernel_rfl
  obtain ⟨c0, c1, rfl⟩ := list_two hl
  rw [e0.1, e0.2, c3] at h0
  rw [e1.1, e1.2, c3] at h1
  obtain ⟨a, ha', ha⟩ := open_i64c (v := c0) h0
  obtain ⟨b, hb', hb⟩ := open_i64c (v := c1) h1
  subst ha' hb'
  exact ⟨(a, b), rfl, ha, hb⟩
theorem open_intLL {n : Nat} {v : Value} {x : DataW H × List MemPlace} (h : DataW.trod enc Try.prog W base spare held n 32 [v] = some x) : ∃ gs : List (List Int), SlSl (fun _ => True) W v gs ∧ ∀ g ∈ gs, ∀ b ∈ g, I64' b := by
  obtain ⟨xs, h1, h2⟩ := open_rowsN (fun z : Value × List Int => [z.1]) 1 (fun z => Sl (fun _ => True) W z.1 (ints z.2) ∧ ∀ b ∈ z.2, I64' b) Try.underlying32 (by kernel_rfl) (by decide) (fun n cs y hy => by
    have hl : ∃ u, cs = [u] := by
      rcases DataW.trod_slice Try.underlying22 hy with ⟨hcs, _⟩ | ⟨a, len, cap, elems, rest, m, _, hcs, _⟩
      · exact ⟨_, hcs⟩
      · exact ⟨_, hcs⟩
    obtain ⟨u, rfl⟩ := hl
    obtain ⟨xs, h1, h2⟩ := open_intL hy
    exact ⟨(u, xs), rfl, h1, h2⟩) (fun b => rfl) h
  have e : (xs.map (·.1)).map (fun x => [x]) = xs.map (fun z => [z.1]) := by simp
  rw [← e] at h1
  refine ⟨xs.map (·.2), ⟨xs.map (·.1), SlN.to1 h1, by simp, fun i hi => ?_⟩, fun g hg => ?_⟩
  · have hi' : i < xs.length := by simpa using hi
    refine ⟨xs[i].1, by simp [hi'], ?_⟩
    simp only [List.getElem_map]
    exact (h2 _ (List.getElem_mem hi')).1
  · obtain ⟨z, hz, rfl⟩ := List.mem_map.1 hg
    exact (h2 z hz).2
end
end Go.Proofs.Ytagfcodpgochjaa

/- Chapter 12: what the claims' texts import: the laws' walks (new ones are appended at the end). -/

/- Chapter 12, settling, in plain Lean: how many payments; what is left. -/
namespace Go.Proofs.Ytagfcodpgochjaa
open Go.RowKit Go.Oche Go.Proofs

theorem st_end {xs : List Int} (h0 : 0 < xs.length) (hs : xs.sum = 0) (hb : ∀ x ∈ xs, -1000000000 ≤ x ∧ x ≤ 1000000000) : ∃ k, StOk xs k (stN k xs) ∧ mxV (stN k xs) = 0 := by
  have key : ∀ n, (∃ k, StOk xs k (stN k xs) ∧ mxV (stN k xs) = 0) ∨ StOk xs n (stN n xs) := by
    intro n
    induction n with
    | zero => exact .inr (StOk.start hs hb)
    | succ n ih =>
      rcases ih with h | h
      · exact .inl h
      · by_cases hm : mxV (stN n xs) = 0
        · exact .inl ⟨n, h, hm⟩
        · exact .inr (h.next h0 hm).1
  rcases key (xs.length + 1) with h | h
  · exact h
  · have := h.nz; omega
theorem st_all {xs : List Int} {k : Nat} (h0 : 0 < xs.length) (hs : xs.sum = 0) (hb : ∀ x ∈ xs, -1000000000 ≤ x ∧ x ≤ 1000000000) (h : StOk xs k (stN k xs)) : ∀ i, i ≤ k → StOk xs i (stN i xs)
  | 0, _ => StOk.start hs hb
  | i + 1, hi => ((st_all h0 hs hb h i (by omega)).next h0 (h.pos i (by omega))).1
theorem nz_down {xs : List Int} {k : Nat} (h0 : 0 < xs.length) (h : ∀ i, i ≤ k → StOk xs i (stN i xs)) : ∀ i, i ≤ k → nz (stN i xs) + i ≤ nz xs
  | 0, _ => by simp [stN]
  | i + 1, hi => by
    have h1 := nz_down h0 h i (by omega)
    have h2 := h i (by omega)
    have h3 := (h k (Nat.le_refl _)).pos i (by omega)
    have h4 := (nz_payL h2.sum (by rw [h2.len]; exact h0) h3).1
    rw [stN]; omega
/-- While somebody is to get something two accounts at least have an amount. -/
theorem nz_two {l : List Int} (hs : l.sum = 0) (hl : 0 < l.length) (hm : mxV l ≠ 0) : 2 ≤ nz l := by
  obtain ⟨_, hne, _⟩ := nz_payL hs hl hm
  have n4 := (settle_signs hs hl).2.2 hm
  have l1 := amax_lt l l.length hl
  have l2 := amin_lt l l.length hl
  have e1 := nz_set l2 0
  have hg : (l.set (amin l l.length) 0).getD (amax l l.length) 0 = mxV l := by
    rw [List.getD_eq_getElem?_getD, List.getElem?_set_ne hne, ← List.getD_eq_getElem?_getD]; rfl
  have e2 := nz_set (l := l.set (amin l l.length) 0) (i := amax l l.length) (by simpa using l1) 0
  rw [hg, if_neg hm, if_pos rfl] at e2
  rw [if_neg (show l.getD (amin l l.length) 0 ≠ 0 by omega), if_pos rfl] at e1
  omega
theorem few_pay {xs : List Int} {k : Nat} (h0 : 0 < xs.length) (h : ∀ i, i ≤ k → StOk xs i (stN i xs)) : k = 0 ∨ k + 1 ≤ nz xs := by
  cases k with
  | zero => exact .inl rfl
  | succ k =>
    have h1 := nz_down h0 h k (by omega)
    have h2 := h k (by omega)
    have h3 := nz_two h2.sum (by rw [h2.len]; exact h0) ((h (k + 1) (Nat.le_refl _)).pos k (by omega))
    right; omega
theorem st_zero {xs : List Int} {k : Nat} (h0 : 0 < xs.length) (h : StOk xs k (stN k xs)) (hm : mxV (stN k xs) = 0) : ∀ x ∈ stN k xs, x = 0 :=
  (settle_signs h.sum (by rw [h.len]; exact h0)).2.1 hm
/-- The debts of the law: numbers below a bound, and what makes their sum nothing. -/
def debts (L : List Int) : List Int := (L.take 19).map fun x => x.tmod 50000000
def debtsAll (L : List Int) : List Int := debts L ++ [-(debts L).sum]
theorem tmod_bd (x : Int) : -50000000 ≤ x.tmod 50000000 ∧ x.tmod 50000000 ≤ 50000000 := by
  have h1 := Int.tmod_lt_of_pos x (b := 50000000) (by decide)
  have h2 := Int.tmod_lt_of_pos (-x) (b := 50000000) (by decide)
  rw [Int.neg_tmod] at h2
  omega
theorem sum_bdC {B : Int} (hB : 0 ≤ B) : ∀ (l : List Int), (∀ y ∈ l, -B ≤ y ∧ y ≤ B) → -B * (l.length : Int) ≤ l.sum ∧ l.sum ≤ B * (l.length : Int)
  | [], _ => by simp
  | x :: l, h => by
    have h1 := h x (by simp)
    have h2 := sum_bdC hB l fun y hy => h y (by simp [hy])
    rw [List.sum_cons, List.length_cons, Int.natCast_add, Int.mul_add, Int.mul_add]
    simp only [Int.natCast_one, Int.mul_one]
    omega
theorem debts_mem {L : List Int} {y : Int} (h : y ∈ debts L) : -50000000 ≤ y ∧ y ≤ 50000000 := by
  obtain ⟨x, _, rfl⟩ := List.mem_map.1 h
  exact tmod_bd x
theorem debts_len (L : List Int) : (debts L).length = min 19 L.length := by simp [debts]
theorem debts_sum (L : List Int) : -950000000 ≤ (debts L).sum ∧ (debts L).sum ≤ 950000000 := by
  have h := sum_bdC (B := 50000000) (by decide) (debts L) fun y hy => debts_mem hy
  have hl := debts_len L
  omega
theorem debtsAll_len (L : List Int) : (debtsAll L).length = min 19 L.length + 1 := by rw [debtsAll, List.length_append, debts_len]; rfl
theorem debtsAll_sum (L : List Int) : (debtsAll L).sum = 0 := by rw [debtsAll, List.sum_append]; simp; omega
theorem debtsAll_bd (L : List Int) : ∀ x ∈ debtsAll L, -1000000000 ≤ x ∧ x ≤ 1000000000 := by
  intro x hx
  rcases List.mem_append.1 hx with hx | hx
  · have := debts_mem hx; omega
  · have := debts_sum L
    simp only [List.mem_singleton] at hx
    omega
theorem debtsAll_err (L : List Int) : setErr (debtsAll L) = 0 := by
  unfold setErr
  have h1 : isIn (debtsAll L).length 1 60 = true := by rw [debtsAll_len]; simp [isIn]; omega
  have h2 : (debtsAll L).any (outB (-1000000000) 1000000000) = false := by
    rw [List.any_eq_false]
    intro x hx
    have := debtsAll_bd L x hx
    simp [outB]; omega
  rw [h1, h2, debtsAll_sum]; simp
/-- All that the law asks of the payments. -/
theorem debtsAll_run (L : List Int) : ∃ k, setRes (debtsAll L) = payTo (debtsAll L) k ∧ (∀ i, i ≤ k → StOk (debtsAll L) i (stN i (debtsAll L))) ∧ (k = 0 ∨ k + 1 ≤ nz (debtsAll L)) ∧ (∀ i, i < k → mxV (stN i (debtsAll L)) ≠ 0) ∧ (∀ x ∈ stN k (debtsAll L), x = 0) := by
  have h0 : 0 < (debtsAll L).length := by rw [debtsAll_len]; omega
  obtain ⟨k, hk, hm⟩ := st_end h0 (debtsAll_sum L) (debtsAll_bd L)
  have hall := st_all h0 (debtsAll_sum L) (debtsAll_bd L) hk
  refine ⟨k, ?_, hall, few_pay h0 hall, hk.pos, st_zero h0 hk hm⟩
  unfold setRes
  rw [if_pos (debtsAll_err L)]
  exact hk.done hm
end Go.Proofs.Ytagfcodpgochjaa

/- append([]T{}, l...) once more: the copy is a row of one's own. -/
namespace Go.Oche
open Go Go.RowKit
section
variable {P : Program} {w : World}
theorem wpList_copyO {ops : Array Oper} {rest : List Oper} {Q : Exit → Act → World → Prop} {o : Oper} {a : Act} (hg : o.guard = none) (s x : Operand) (t : TypeId) (ho : o.op = .call { callee := .builtin .append, args := #[s, x], argTypes := #[t, t] })
    (e : TypeId) (z : Value) (bytes : Nat) (ht : P.underlying t = some (.slice e)) (hi : (P.info? e).map (fun i => (i.zero, i.size, i.bytes)) = some (some z, 1, bytes)) (hzs : z.cells.size = 1)
    (hs : a.eval s = .slice (some ⟨w.heap.size, 0, none⟩) 0 0) {S : Nat → Prop} (v : Value) (xs : List Value) (hx : a.eval x = v) (hsl : Sl S w v xs) (h1 : ∀ u ∈ xs, u.oneCell' = true) (h0 : 0 < xs.length)
    (h63 : xs.length ≤ 100000) (hbytes : bytes ≤ 1000)
    (hK : ∀ v' w', Below w.heap.size w w' → w'.ownsRow w.heap.size e 1 v' xs.length xs → wpList P ops Q rest (a.put o.dst v') w') : wpList P ops Q (o :: rest) a (w.alloc (.cells #[] e)) := by
  obtain ⟨al, cap, rfl, hc1, hc2, hcell⟩ := hsl
  obtain ⟨b, off, rfl, _, _⟩ := hcell 0 xs[0] (List.getElem?_eq_getElem h0)
  refine wpList_opOK hg (opOK_appendN_at s x t ho w.heap.size e z 1 bytes ht hi hzs (by decide) _ 0 [] hs (World.ownsRow_made w #[] 0 (Nat.le_refl _) (Nat.zero_le _) (by simp)) b off xs.length cap xs hx (by omega) (fun j u hj => ?_) h1 (by omega) hbytes (by simp)) ?_
  · obtain ⟨b', off', hal, _, hc⟩ := hcell j u hj
    cases hal
    exact bAt (aB _ _) hc
  · rintro v' w' ⟨hown', hgr, _⟩
    rw [Nat.zero_add, List.nil_append] at hown'
    exact hK v' w' ((aB w _).trans (below_grownBy hgr (by simp) fun k hk => by cases hk; exact Nat.le_refl _)) hown'
end
end Go.Oche

/- Chapter 12: PurseSettled. -/
namespace Go.Proofs.Ytagfcodpgochjaa
open Go.RowKit Go.Oche Go.Proofs

theorem ints_one' (xs : List Int) : ∀ u ∈ ints xs, u.oneCell' = true := by
  intro u hu
  obtain ⟨z, _, rfl⟩ := List.mem_map.1 hu
  rfl
theorem copyIntsO_any {S : Nat → Prop} (xs : List Int) (v : Value) (w : World) (hs : Sl S w v (ints xs)) (h0 : 0 < xs.length) (hl : xs.length ≤ 100000) :
    Calls Try.prog 13 #[v] w fun e w' => ∃ g c, e = .returned (.slice (some ⟨g, 0, none⟩) xs.length c) ∧ Below w.heap.size w w' ∧ w'.ownsRow w.heap.size 3 1 (.slice (some ⟨g, 0, none⟩) xs.length c) xs.length (ints xs) := by
  have HS := Lib.hid hs
  clear hs
  go_enter Try.func13, Try.ntmps13
  go_wp2_with (at_builtin; refine wpList_copyO rfl (.tmp 3) (.tmp 4) 22 rfl 3 (.int .i64 0) 8 Try.underlying22 info3 rfl rfl _ _ rfl HS.out (ints_one' xs) (by simpa using h0) (by simpa using hl) (by decide) ?_)
  intro v1 w1 hb1 ho1
  have HB := Lib.hid hb1
  have HO := Lib.hid ho1
  clear hb1 ho1
  go_wp2
  go_ret
  obtain ⟨g, c, rfl⟩ : ∃ g c, v1 = .slice (some ⟨g, 0, none⟩) xs.length c := by
    rcases HO.out.2 with ⟨_, h⟩ | ⟨g, c, cur, h, _⟩
    · omega
    · exact ⟨g, c, h⟩
  exact ⟨g, c, rfl, HB.out, HO.out⟩
theorem sl_get {S : Nat → Prop} {w : World} {a : Option Addr} {n cap : Nat} {xs : List Value} (h : Sl S w (.slice a n cap) xs) {i : Nat} {u : Value} (hi : xs[i]? = some u) : ∃ b off, a = some ⟨b, off, none⟩ ∧ S b ∧ w.cell? ⟨b, off + i, none⟩ = some u := by
  obtain ⟨a', cap', e, _, _, h4⟩ := h
  cases e
  exact h4 i u hi
theorem nz_take {xs : List Int} {i : Nat} (hi : i < xs.length) : nz (xs.take (i + 1)) = nz (xs.take i) + if xs[i] != 0 then 1 else 0 := by
  rw [List.take_succ_eq_append_getElem hi, nz, List.countP_append, ← nz, List.countP_singleton]
set_option maxRecDepth 100000 in
set_option maxHeartbeats 8000000 in
theorem purseSettled_any {S : Nat → Prop} (L : List Int) (v : Value) (w : World) (hs : Sl S w v (L.map (Value.int .i32))) (hL : ∀ x ∈ L, -2147483648 ≤ x ∧ x ≤ 2147483647) :
    Calls Try.prog 9 #[v] w fun e w' => e = .returned (.bool true) ∧ Below w.heap.size w w' := by
  obtain ⟨a, cap, rfl, h2, h3⟩ := hs.form
  simp only [List.length_map] at *
  unfold maxLen at h3
  obtain ⟨N, hN⟩ : ∃ N, w.heap.size = N := ⟨_, rfl⟩
  obtain ⟨m, hm⟩ : ∃ m, min 19 L.length = m := ⟨_, rfl⟩
  have hdl : (debts L).length = m := by rw [debts_len, hm]
  have HS := Lib.hid hs
  have HLB := Lib.hid hL
  have HM := Lib.hid hm
  have HDL := Lib.hid hdl
  have HN := Lib.hid hN
  clear hs hL hm hdl hN
  obtain ⟨w0, hw0⟩ : ∃ w0, w.alloc (.cells #[] 3) = w0 := ⟨_, rfl⟩
  have hb0 : Below w.heap.size w w0 := by rw [← hw0]; exact aB _ _
  have ho0 : w0.ownsRow w.heap.size 3 1 (.slice (some ⟨w.heap.size, 0, none⟩) 0 0) 0 (ints ((debts L).take 0)) := by
    rw [← hw0]; exact World.ownsRow_made w #[] 0 (Nat.le_refl _) (Nat.zero_le _) rfl
  have HO0 := Lib.hid ho0
  have HW0 := Lib.hid hw0
  have HB0 := Lib.hid hb0
  clear hw0 ho0 hb0
  go_enter Try.func9, Try.ntmps9
  go_wp2_with fail
  rw [HW0.out]
  go_loopw [3, 4, 5] (fun bv sv iv wr => ∃ (i : Nat) (u : Value), u = bv ∧ i ≤ m ∧ iv = .int .i64 i ∧ sv = .int .i64 ((debts L).take i).sum ∧ Hid (wr.ownsRow w.heap.size 3 1 u i (ints ((debts L).take i))) ∧ Below w.heap.size w wr) (fun _ _ iv _ => m - (intOf iv).toNat)
  case atStart => exact ⟨0, _, rfl, Nat.zero_le _, rfl, rfl, HO0, HB0.out⟩
  case round =>
    obtain ⟨i, u, hu, him, rfl, rfl, HO, hb⟩ := hrel
    subst hu
    obtain ⟨wo, rfl⟩ : ∃ wo : World, wo = wr := ⟨_, rfl⟩
    by_cases hlt : i < m
    · have hi1 : i < L.length := by have := HM.out; omega
      have hi2 : i < 19 := by have := HM.out; omega
      have d1 : decide (i < L.length) = true := decide_eq_true hi1
      have d1i : decide ((i : Int) < (L.length : Int)) = true := decide_eq_true (by omega)
      have d2 : decide (i < 19) = true := decide_eq_true hi2
      have d2i : decide ((i : Int) < (19 : Int)) = true := decide_eq_true (by omega)
      obtain ⟨x, hx⟩ : ∃ x, L[i] = x := ⟨_, rfl⟩
      obtain ⟨b, off, hal, _, hc⟩ := sl_get (HS.out.below hb) (i := i) (u := .int .i32 x) (by simp [hi1, hx])
      cases hal
      have hxb := HLB.out x (hx ▸ List.getElem_mem hi1)
      obtain ⟨p, hp⟩ : ∃ p, x.tmod 50000000 = p := ⟨_, rfl⟩
      have hpb : -50000000 ≤ p ∧ p ≤ 50000000 := by rw [← hp]; exact tmod_bd x
      have hdi : (debts L)[i]'(by rw [HDL.out]; exact hlt) = p := by simp [debts, hx, hp]
      have hsb := sum_bdC (B := 50000000) (by decide) ((debts L).take i) fun y hy => debts_mem (List.mem_of_mem_take hy)
      have hl : ((debts L).take i).length = i := by rw [List.length_take, HDL.out]; omega
      rw [hl] at hsb
      obtain ⟨s, hs⟩ : ∃ s, ((debts L).take i).sum = s := ⟨_, rfl⟩
      have hwx : IntKind.i64.wrap x = x := wrap_small _ (by omega) (by omega)
      have hwp : IntKind.i64.wrap p = p := wrap_small _ (by omega) (by omega)
      have hws : IntKind.i64.wrap (s + p) = s + p := by rw [IntKind.wrap_i64]; omega
      have htk : (debts L).take (i + 1) = (debts L).take i ++ [p] := by rw [List.take_succ_eq_append_getElem (by rw [HDL.out]; exact hlt), hdi]
      have HTK := Lib.hid htk
      have HSS := Lib.hid hs
      have HB := Lib.hid hb
      rw [hs]
      clear hs hl htk hdi hx hb
      go_wp2_with (at_builtin; refine wpList_append1 rfl (.tmp 32) (.tmp 34) 22 rfl w.heap.size 3 (.int .i64 0) 8 Try.underlying22 info3 rfl _ i _ rfl (HO.out.alloc _) wo.heap.size 0 1 (.int .i64 p) rfl (cell_new _ _ _) rfl (by omega) (by decide) (by have := HB.out.size; simp; omega) ?_)
      intro g c w2 ho2 hg2 _
      have hb2 : Below w.heap.size w w2 := (bThen HB.out (aB _ _)).trans (below_grownBy hg2 (by have := HB.out.size; simp; omega) fun q hq => (HO.out.lt q hq).1)
      have HO2 := Lib.hid (show w2.ownsRow w.heap.size 3 1 (.slice (some ⟨g, 0, none⟩) (i + 1) c) (i + 1) (ints ((debts L).take (i + 1))) by rw [HTK.out]; simpa [ints] using ho2)
      have HB2 := Lib.hid hb2
      clear ho2 hg2 hb2 d1 d1i d2 d2i hc hp
      go_wp2
      go_roundw
      case rel => exact ⟨i + 1, _, rfl, by omega, by go_num, by rw [HTK.out, List.sum_append, HSS.out]; simp, HO2, HB2.out⟩
      case measure => simp [intOf]; omega
    · obtain rfl : i = m := by omega
      have htk : (debts L).take i = debts L := List.take_of_length_le (by rw [HDL.out]; exact Nat.le_refl _)
      obtain ⟨s, hs⟩ : ∃ s, (debts L).sum = s := ⟨_, rfl⟩
      have hsb := debts_sum L
      rw [hs] at hsb
      have hws : IntKind.i64.wrap (-s) = -s := wrap_small _ (by omega) (by omega)
      rw [htk, hs]
      rw [htk] at HO
      have hia : ints (debtsAll L) = ints (debts L) ++ [.int .i64 (-s)] := by rw [debtsAll, hs]; simp [ints]
      have HIA := Lib.hid hia
      have HB := Lib.hid hb
      obtain ⟨n, hn⟩ : ∃ n, i + 1 = n := ⟨_, rfl⟩
      have hbl : (debtsAll L).length = n := by rw [debtsAll_len, HM.out, hn]
      have HBL := Lib.hid hbl
      have HNI := Lib.hid hn
      have hn20 : 1 ≤ n ∧ n ≤ 20 := by have := HM.out; omega
      clear htk hs hia hb hbl HO0 HB0
      have hex : (decide (i < L.length) = false ∧ decide ((i : Int) < (L.length : Int)) = false) ∨ (decide (i < L.length) = true ∧ decide ((i : Int) < (L.length : Int)) = true ∧ decide (i < 19) = false ∧ decide ((i : Int) < (19 : Int)) = false) := by
        have := HM.out
        by_cases h : i < L.length
        · exact .inr ⟨decide_eq_true h, decide_eq_true (by omega), decide_eq_false (by omega), decide_eq_false (by omega)⟩
        · exact .inl ⟨decide_eq_false h, decide_eq_false (by omega)⟩
      rcases hex with ⟨d1, d2⟩ | ⟨d1, d2, d3, d4⟩
      all_goals
        go_wp2_with (at_builtin; refine wpList_append1 rfl (.tmp 39) (.tmp 42) 22 rfl w.heap.size 3 (.int .i64 0) 8 Try.underlying22 info3 rfl _ i _ rfl (HO.out.alloc _) wo.heap.size 0 1 (.int .i64 (-s)) rfl (cell_new _ _ _) rfl (by omega) (by decide) (by have := HB.out.size; simp; omega) ?_)
        intro g c w2 ho2 hg2 _
        have hb2 : Below w.heap.size w w2 := (bThen HB.out (aB _ _)).trans (below_grownBy hg2 (by have := HB.out.size; simp; omega) fun q hq => (HO.out.lt q hq).1)
        rw [← HIA.out] at ho2
        have HO2 := Lib.hid ho2
        have HB2 := Lib.hid hb2
        clear ho2 hg2 hb2 d1 d2 hws
        go_wp2_with fail
        refine (copyInts_any (debtsAll L) _ w2 (owns_sl HO2.out) (by rw [HBL.out]; omega)).mono ?_
        rintro e w3 ⟨r3, rfl, hb3, hs3⟩
        have HB3 := Lib.hid (HB2.out.trans (hb3.mono HB2.out.size))
        have HO3 := Lib.hid (ownsN_below HO2.out hb3)
        have HR3 := Lib.hid hs3
        clear hb3 hs3
        go_wp2_with fail
        refine (settle_any (debtsAll L) _ w3 HR3.out).mono ?_
        rintro e w4 ⟨r4, rfl, hb4, hs4⟩
        rw [debtsAll_err]
        have HB4 := Lib.hid (HB3.out.trans (hb4.mono HB3.out.size))
        have HO4 := Lib.hid (ownsN_below HO3.out hb4)
        obtain ⟨k, hk1, hk2, hk3, hk4, hk5⟩ := debtsAll_run L
        rw [hk1] at hs4
        have HT4 := Lib.hid ((hs4.lt (by decide)).mono (S' := fun q => q < w4.heap.size) fun q hq => hq.2)
        have K2 := Lib.hid hk2
        have K3 := Lib.hid hk3
        have K4 := Lib.hid hk4
        have K5 := Lib.hid hk5
        have hk60 : k ≤ 20 := by have := (hk2 k (Nat.le_refl _)).nz; rw [HBL.out] at this; omega
        clear hb4 hs4 hk1 hk2 hk3 hk4 hk5 HR3 HO3
        obtain ⟨a4, c4, rfl, k4, m4⟩ := HT4.out.form
        simp only [payRows_length, payTo_length] at *
        unfold maxLen at m4
        go_wp2_with fail
        refine (copyIntsO_any (debtsAll L) _ w4 (owns_sl HO4.out) (by rw [HBL.out]; omega) (by rw [HBL.out]; omega)).mono ?_
        rintro e w5 ⟨g2, c5, rfl, hb5, ho5⟩
        rw [HBL.out] at ho5 ⊢
        have HB5 := Lib.hid (HB4.out.trans (hb5.mono HB4.out.size))
        have HO5 := Lib.hid (ownsN_below HO4.out hb5)
        have HT5 := Lib.hid (HT4.out.below hb5)
        have HP5 := Lib.hid ho5
        have HZ5 := Lib.hid hb5.size
        clear hb5 ho5 HO4 HT4
        go_wp2_with fail
        go_loopw [10, 11] (fun sv iv wr => ∃ j : Nat, j ≤ n ∧ iv = .int .i64 j ∧ sv = .int .i64 (nz ((debtsAll L).take j) : Nat) ∧ Below w5.heap.size w5 wr) (fun _ iv _ => n - (intOf iv).toNat)
        case atStart => exact ⟨0, Nat.zero_le _, rfl, rfl, Below.refl _ _⟩
        case round =>
          obtain ⟨j, hj, rfl, rfl, hbj⟩ := hrel
          obtain ⟨wj, rfl⟩ : ∃ wj : World, wj = wr := ⟨_, rfl⟩
          by_cases hjn : j < n
          · have hjl : j < (debtsAll L).length := by rw [HBL.out]; exact hjn
            have hc := (ownsN_below HO5.out hbj).cellAt j (by omega)
            rw [intsAt hjl] at hc
            obtain ⟨x, hx⟩ : ∃ x, (debtsAll L)[j] = x := ⟨_, rfl⟩
            have hnt := nz_take hjl
            rw [hx] at hc hnt
            obtain ⟨q, hq⟩ : ∃ q, (x != 0) = q := ⟨_, rfl⟩
            rw [hq] at hnt
            obtain ⟨y, hy⟩ : ∃ y, nz ((debtsAll L).take j) = y := ⟨_, rfl⟩
            have hyb : y ≤ 20 := by rw [← hy]; have := nz_le ((debtsAll L).take j); simp at this; omega
            have hwy : IntKind.i64.wrap ((y : Int) + 1) = (y : Int) + 1 := by rw [IntKind.wrap_i64]; omega
            rw [hy] at hnt ⊢
            have HNT := Lib.hid hnt
            have HBJ := Lib.hid hbj
            clear hnt hy hx hbj
            cases q
            · go_wp2
              go_roundw
              case rel => exact ⟨j + 1, by omega, by go_num, by rw [HNT.out]; simp, HBJ.out⟩
              case measure => simp [intOf]; omega
            · go_wp2
              go_roundw
              case rel => exact ⟨j + 1, by omega, by go_num, by rw [HNT.out]; simp, HBJ.out⟩
              case measure => simp [intOf]; omega
          · obtain rfl : j = n := by omega
            have htk : (debtsAll L).take j = debtsAll L := List.take_of_length_le (by rw [HBL.out]; exact Nat.le_refl _)
            rw [htk]
            obtain ⟨y, hy⟩ : ∃ y, nz (debtsAll L) = y := ⟨_, rfl⟩
            have hyb : y ≤ 20 := by rw [← hy]; have := nz_le (debtsAll L); rw [HBL.out] at this; omega
            have hky : k = 0 ∨ k + 1 ≤ y := by rw [← hy]; exact K3.out
            have hwy : IntKind.i64.wrap ((y : Int) - 1) = (y : Int) - 1 := by rw [IntKind.wrap_i64]; omega
            have d5 : decide (max 0 ((y : Int) - 1) < (k : Int)) = false := decide_eq_false (by omega)
            rw [hy]
            have HBJ := Lib.hid hbj
            have HP6 := Lib.hid (ownsN_below HP5.out hbj)
            have HT6 := Lib.hid (HT5.out.below hbj)
            have HB6 := Lib.hid (HB5.out.trans (hbj.mono HB5.out.size))
            have HZ6 := Lib.hid (Nat.le_trans HZ5.out hbj.size)
            clear htk hy hbj HO5 HT5 HP5 HB5 hky
            go_wp2_with fail
            go_loopw [12] (fun iv wr => ∃ i : Nat, i ≤ k ∧ iv = .int .i64 i ∧ Hid (wr.ownsRow w4.heap.size 3 1 (.slice (some ⟨g2, 0, none⟩) j c5) j (ints (stN i (debtsAll L)))) ∧ Below w4.heap.size wj wr) (fun iv _ => k - (intOf iv).toNat)
            case atStart => exact ⟨0, Nat.zero_le _, rfl, HP6, ⟨rfl, rfl, rfl, Nat.le_refl _, fun _ _ => rfl⟩⟩
            case round =>
              obtain ⟨i, hi, rfl, HP, hbi⟩ := hrel
              obtain ⟨wi, rfl⟩ : ∃ wi : World, wi = wr := ⟨_, rfl⟩
              by_cases hik : i < k
              · obtain ⟨_, e1, e2, e3, e4, e5, e6⟩ := (K2.out i (by omega)).next (by rw [HBL.out]; omega) (K4.out i hik)
                have hstl : (stN i (debtsAll L)).length = j := by rw [stN_length, HBL.out]
                have bd := (K2.out i (by omega)).bd
                obtain ⟨l, hl⟩ : ∃ l, stN i (debtsAll L) = l := ⟨_, rfl⟩
                rw [hl] at HP hstl e1 e2 e3 e4 e5 bd
                have p2 := amax_lt l l.length (by omega)
                have p3 := amin_lt l l.length (by omega)
                rw [hstl] at p2 p3 e3 e4 e5
                obtain ⟨F, hF⟩ : ∃ F, amin l j = F := ⟨_, rfl⟩
                obtain ⟨T, hT⟩ : ∃ T, amax l j = T := ⟨_, rfl⟩
                obtain ⟨m', hm⟩ : ∃ x, l.getD F 0 = x := ⟨_, rfl⟩
                obtain ⟨M, hM⟩ : ∃ x, l.getD T 0 = x := ⟨_, rfl⟩
                obtain ⟨A, hA⟩ : ∃ A, payAmt l = A := ⟨_, rfl⟩
                rw [mxV, hstl, hT, hM, hA] at e2
                rw [hA] at e1
                rw [hF, hm, hA] at e3
                rw [hF, hm] at e4
                rw [hF, hT] at e5
                rw [hT] at p2
                rw [hF] at p3
                have bm := getD_bd bd (i := F) (by omega)
                have bM := getD_bd bd (i := T) (by omega)
                rw [hm] at bm
                rw [hM] at bM
                have hpay : stN (i + 1) (debtsAll L) = (l.set F (m' + A)).set T (M - A) := by
                  rw [stN, hl]; unfold payL; simp only [hstl, hF, hT, hm, hM, hA]
                have cF : wi.cell? ⟨g2, F, none⟩ = some (.int .i64 m') := by rw [HP.out.cellAt _ (by omega), intsAt (by omega), ← getD_at (by omega), hm]
                have cT : wi.cell? ⟨g2, T, none⟩ = some (.int .i64 M) := by rw [HP.out.cellAt _ (by omega), intsAt (by omega), ← getD_at (by omega), hM]
                have hTm : SlN 4 (fun q => q < w4.heap.size) wi (.slice a4 k c4) (payRows (payTo (debtsAll L) k)) := HT6.out.cells fun b o hb hs => by
                  obtain ⟨x, hx⟩ := Option.isSome_iff_exists.1 hs
                  rw [hx]
                  exact (World.cell?_of_block (w := wj) (hbi.block b hb)).trans hx
                obtain ⟨bm4, om4, hal4, hbm4, _, hcm⟩ := hTm.cell (i := i) (by simpa using hik)
                cases hal4
                have hrow : (payRows (payTo (debtsAll L) k))[i]'(by simpa using hik) = [.int .i64 i, .int .i64 F, .int .i64 T, .int .i64 A] := by
                  have hF' : amin l (debtsAll L).length = F := by rw [HBL.out]; exact hF
                  have hT' : amax l (debtsAll L).length = T := by rw [HBL.out]; exact hT
                  simp [payRows, payTo, payRow, payT, hl, hF', hT', hA]
                rw [hrow] at hcm
                have x0 := hcm 0 _ rfl
                have x1 := hcm 1 _ rfl
                have x2 := hcm 2 _ rfl
                have x3 := hcm 3 _ rfl
                simp only [Nat.add_zero] at x0
                obtain ⟨w7, hw7⟩ : ∃ w7, wi.alloc (.cells #[.int .i64 i, .int .i64 F, .int .i64 T, .int .i64 A] 44) = w7 := ⟨_, rfl⟩
                have hb7 : Below wi.heap.size wi w7 := by rw [← hw7]; exact aB _ _
                have y0 : w7.cell? ⟨wi.heap.size, 0, none⟩ = some (.int .i64 i) := by rw [← hw7]; simp
                have y1 : w7.cell? ⟨wi.heap.size, 1, none⟩ = some (.int .i64 F) := by rw [← hw7]; simp
                have y2 : w7.cell? ⟨wi.heap.size, 2, none⟩ = some (.int .i64 T) := by rw [← hw7]; simp
                have y3 : w7.cell? ⟨wi.heap.size, 3, none⟩ = some (.int .i64 A) := by rw [← hw7]; simp
                have hgi : g2 < wi.heap.size := (owns_blk HP.out).2
                have z4 : w4.heap.size ≤ wi.heap.size := Nat.le_trans HZ6.out hbi.size
                have HW7 := Lib.hid hw7
                have HP7 := Lib.hid (ownsN_below HP.out hb7)
                have HB7 := Lib.hid (hbi.trans (hb7.mono z4))
                have HZ7 := Lib.hid z4
                replace cF := bAt hb7 cF
                replace cT := bAt hb7 cT
                have HPAY := Lib.hid hpay
                have hwA : IntKind.i64.wrap (-A) = -A := wrap_small _ (by omega) (by omega)
                have hwa : IntKind.i64.wrap (m' + A) = m' + A := wrap_small _ (by omega) (by omega)
                have hws : IntKind.i64.wrap (M - A) = M - A := wrap_small _ (by omega) (by omega)
                have f1 : decide ((F : Int) < 0) = false := decide_eq_false (by omega)
                have f2 : decide ((j : Int) ≤ (F : Int)) = false := decide_eq_false (by omega)
                have f2n : decide (j ≤ F) = false := decide_eq_false (by omega)
                have f3 : decide ((T : Int) < 0) = false := decide_eq_false (by omega)
                have f4 : decide ((j : Int) ≤ (T : Int)) = false := decide_eq_false (by omega)
                have f4n : decide (j ≤ T) = false := decide_eq_false (by omega)
                have f5 : decide (A < 1) = false := decide_eq_false (by omega)
                have f6 : decide (-A < m') = false := decide_eq_false (by omega)
                have f7 : decide (M < A) = false := decide_eq_false (by omega)
                have hFT := Lib.hid e5
                clear hcm hrow hTm hl hF hT hm hM hA hpay hw7 hb7 bd bm bM hstl e1 e2 e3 e4 e5 e6 z4 hbi HP hbm4
                go_wp2_with fail
                rw [HW7.out]
                clear x0 x1 x2 x3
                refine wp_region_seq 54 (.is ?_ :: .is ?_ :: .is ?_ :: .is ?_ :: .is ?_ :: .is ?_ :: .is ?_ :: .is ?_ :: .is ?_ :: .is ?_ :: .is ?_ :: .is ?_ :: .is ?_ :: .is ?_ :: .is ?_ :: .is ?_ :: .is ?_ :: .is ?_ :: .is ?_ :: .is ?_ :: .is ?_ :: .is ?_ :: .is ?_ :: .is ?_ :: .is ?_ :: .is ?_ :: .is ?_ :: .is ?_ :: .is ?_ :: .is ?_ :: .is ?_ :: .is ?_ :: .is ?_ :: .is ?_ :: .is ?_ :: .is ?_ :: .is ?_ :: .is ?_ :: .is ?_ :: .is ?_ :: .is ?_ :: .is ?_ :: .is ?_ :: .is ?_ :: .is ?_ :: .is ?_ :: .is ?_ :: .is ?_ :: .is ?_ :: .is ?_ :: .is ?_ :: .is ?_ :: .is ?_ :: .is ?_ :: []) rfl mix (by kernel_rfl) (by kernel_rfl) ?seqm
                case seqm =>
                  simp only [List.take_succ_cons, List.take_zero]
                  iterate 54
                    first
                      | refine seq_is rfl (fun u1 hb1 _ => ?_) ?_
                      | refine seq_on (by rfl) (fun u1 hb1 _ => ?_) ?_
                    · have y0' := bAt hb1 y0
                      have y1' := bAt hb1 y1
                      have y2' := bAt hb1 y2
                      have y3' := bAt hb1 y3
                      have cF' := bAt hb1 cF
                      have cT' := bAt hb1 cT
                      simp [opOK, go_sem, y0', y1', y2', y3', cF', cT', p2, p3, hwA, f1, f2n, f3, f4n, f5, f6, f7, Below.refl]
                      try exact rfl
                    simp only [Act.put, List.setIfInBounds_toArray, List.set_cons_succ, List.set_cons_zero]
                  refine seq_end fun wa hba _ => ?_
                  simp only [List.drop_succ_cons, List.drop_zero]
                  replace y0 := bAt hba y0
                  replace y1 := bAt hba y1
                  replace y2 := bAt hba y2
                  replace y3 := bAt hba y3
                  replace cF := bAt hba cF
                  replace cT := bAt hba cT
                  have HGA := Lib.hid (ownsN_below HP7.out hba)
                  have HBA := Lib.hid (HB7.out.trans (hba.mono (Nat.le_trans (owns_blk HP7.out).1 (Nat.le_of_lt (owns_blk HP7.out).2))))
                  have hfz := HGA.out.frozenAt F
                  have hg2i : wi.heap.size ≠ g2 := by omega
                  clear hba hwA f1 f2 f2n f3 f4 f4n f5 f6 f7
                  go_wp2_with fail
                  refine wp_region_gen 24 (fun q v _ => match q with
                    | 0 | 3 | 6 | 14 => v = .slice (some ⟨g2, 0, none⟩) j c5
                    | 1 | 7 => v = .pointer (some ⟨wi.heap.size, 1, none⟩)
                    | 4 | 15 => v = .pointer (some ⟨wi.heap.size, 2, none⟩)
                    | 11 | 19 => v = .pointer (some ⟨wi.heap.size, 3, none⟩)
                    | 2 | 8 => v = .int .i64 F
                    | 5 | 16 => v = .int .i64 T
                    | 9 | 22 => v = .pointer (some ⟨g2, F, none⟩)
                    | 10 => v = .int .i64 m'
                    | 12 | 20 => v = .int .i64 A
                    | 13 => v = .int .i64 (m' + A)
                    | 17 => v = .pointer (some ⟨g2, T, none⟩)
                    | 18 => v = .int .i64 M
                    | 21 => v = .int .i64 (M - A)
                    | _ => True) (JSt 23 [10, 18] (fun W => SameW wa W) (fun W => SameW (wa.setCell ⟨g2, F, none⟩ (.int .i64 (m' + A))) W)) mix (by kernel_rfl) (JSt.start (SameW.drew _)) ?_ ?_
                  · refine ⟨?_, ?_, ?_, ?_, ?_, ?_, ?_, ?_, ?_, ?_, ?_, ?_, ?_, ?_, ?_, ?_, ?_, ?_, ?_, ?_, ?_, ?_, ?_, ?_, trivial⟩
                    all_goals refine gen_plain rfl fun a W L hSi hJ hpre ht' => ?_
                    all_goals
                      simp [Region.binds] at hpre
                      have t9 := ht' 9 rfl
                      have t13 := ht' 13 rfl
                      simp at t9 t13
                      have oth : ∀ (o : Nat) (u : Value), wa.cell? ⟨wi.heap.size, o, none⟩ = some u → W.cell? ⟨wi.heap.size, o, none⟩ = some u := fun o u hu => by
                        cases hL : L 23 with
                        | false => exact (hJ.off hL).cell hu
                        | true => exact (hJ.on hL).cell (by rw [World.cell?_setCell_other _ _ _ _ (by simp)]; exact hu)
                      have y1' := oth _ _ y1
                      have y2' := oth _ _ y2
                      have y3' := oth _ _ y3
                    iterate 10
                      (· simp [opOK, go_sem, t9, t13, hpre, y1', y2', p3]
                         exact ⟨hJ.read (by omega), fun j _ _ v h _ => h⟩)
                    · have hA := hJ.look (i := 10) (by simp) hSi
                      have cF' := hA.cell cF
                      simp [opOK, go_sem, hpre, cF']
                      exact ⟨hJ.read (by omega), fun j _ _ v h _ => h⟩
                    iterate 7
                      (· simp [opOK, go_sem, t9, t13, hpre, y2', y3', p2, hwa]
                         exact ⟨hJ.read (by omega), fun j _ _ v h _ => h⟩)
                    · have hA := hJ.look (i := 18) (by simp) hSi
                      have cT' := hA.cell cT
                      simp [opOK, go_sem, hpre, cT']
                      exact ⟨hJ.read (by omega), fun j _ _ v h _ => h⟩
                    iterate 4
                      (· simp [opOK, go_sem, t13, hpre, y3', p3, hws]
                         exact ⟨hJ.read (by omega), fun j _ _ v h _ => h⟩)
                    · have hA := hJ.off hSi
                      have cF' := hA.cell cF
                      have fF' := hA.frozen hfz
                      have h10 : L 10 = true := by simp_all
                      have h18 : L 18 = true := by simp_all
                      simp [opOK, go_sem, hpre, cF', fF']
                      exact ⟨JSt.write (by simp [h10, h18]) (hA.setCell _ _), fun j _ _ v h _ => h⟩
                  intro wb hJ
                  simp only [List.take_succ_cons, List.take_zero, List.drop_succ_cons, List.drop_zero, EndAll]
                  rintro _ rfl _ rfl _ rfl _ rfl _ rfl _ rfl _ rfl _ rfl _ rfl _ rfl _ rfl _ rfl _ rfl _ rfl _ rfl _ rfl _ rfl _ rfl _ rfl _ rfl _ rfl _ rfl _ rfl v23 -
                  simp only [Act.put, List.setIfInBounds_toArray, List.set_cons_succ, List.set_cons_zero]
                  have hS := hJ.on (by decide)
                  have hst := HGA.out.stored F (.int .i64 (m' + A))
                  rw [ints_set] at hst
                  have hGb := ownsN_below hst.1 hS.below
                  have hBb : Below w4.heap.size wj wb := (HBA.out.trans (below_grownBy hst.2 (Nat.le_trans (owns_blk HGA.out).1 (Nat.le_of_lt (owns_blk HGA.out).2)) fun q hq => by cases hq; exact (owns_blk HGA.out).1)).trans (hS.below.mono (by have h1 := owns_blk HGA.out; simp; omega))
                  have cTb : wb.cell? ⟨g2, T, none⟩ = some (.int .i64 M) := hS.cell (by rw [World.cell?_setCell_other _ _ _ _ (by simp; exact hFT.out)]; exact cT)
                  have fTb := hGb.frozenAt T
                  obtain ⟨wc, hwc⟩ : ∃ wc, wb.setCell ⟨g2, T, none⟩ (.int .i64 (M - A)) = wc := ⟨_, rfl⟩
                  have hst2 := hGb.stored T (.int .i64 (M - A))
                  rw [ints_set, ← HPAY.out, hwc] at hst2
                  have hBc : Below w4.heap.size wj wc := hBb.trans (below_grownBy hst2.2 (Nat.le_trans (owns_blk hGb).1 (Nat.le_of_lt (owns_blk hGb).2)) fun q hq => by cases hq; exact (owns_blk hGb).1)
                  have HGC := Lib.hid hst2.1
                  have HBC := Lib.hid hBc
                  have HWC := Lib.hid hwc
                  clear hJ hS hst hGb hBb hwc hst2 hBc v23 cF cT hfz hwa hws HGA y0 y1 y2 y3
                  go_wp2_with fail
                  rw [HWC.out]
                  go_roundw
                  case rel => exact ⟨i + 1, by omega, by go_num, HGC, HBC.out⟩
                  case measure => simp [intOf]; omega
              · obtain rfl : i = k := by omega
                have HPL := Lib.hid HP.out
                have hz : ∀ q, q < j → wi.cell? ⟨g2, q, none⟩ = some (.int .i64 0) := fun q hq => by
                  have hl : q < (stN i (debtsAll L)).length := by rw [stN_length, HBL.out]; exact hq
                  rw [HP.out.cellAt q (by omega), intsAt hl, K5.out _ (List.getElem_mem hl)]
                have HZQ := Lib.hid hz
                have HBI := Lib.hid (HB6.out.trans (hbi.mono (Nat.le_trans HB4.out.size (Nat.le_refl _))))
                clear hz hbi
                go_wp2_with fail
                go_loopw [14] (fun iv wr => ∃ q : Nat, q ≤ j ∧ iv = .int .i64 q ∧ Below wi.heap.size wi wr) (fun iv _ => j - (intOf iv).toNat)
                case atStart => exact ⟨0, Nat.zero_le _, rfl, Below.refl _ _⟩
                case round =>
                  obtain ⟨q, hq, rfl, hbq⟩ := hrel
                  obtain ⟨wq, rfl⟩ : ∃ wq : World, wq = wr := ⟨_, rfl⟩
                  by_cases hqj : q < j
                  · have hc := bAt hbq (HZQ.out q hqj)
                    go_wp2
                    go_roundw
                    case rel => exact ⟨q + 1, by omega, by go_num, hbq⟩
                    case measure => simp [intOf]; omega
                  · obtain rfl : q = j := by omega
                    have HBQ := Lib.hid hbq
                    clear hbq
                    go_wp2_with fail
                    refine (known_any wq).mono ?_
                    rintro e w9 ⟨rfl, hb9⟩
                    have HB9 := Lib.hid hb9
                    clear hb9
                    go_wp2
                    go_ret
                    exact ⟨rfl, bThen (bThen HBI.out HBQ.out) HB9.out⟩
end Go.Proofs.Ytagfcodpgochjaa

/- Chapter 12: an argument of 32-bit integers. -/
namespace Go.Proofs.Ytagfcodpgochjaa
open Go.RowKit Go.Oche Go.Proofs Go.ChangeShapes Go.WideShapes Go.ChangeAt
theorem open_i32s {H : Type} {enc : TypeId × Value → H} {W : World} {base : Nat} {spare : Nat → Bool} {held : Bool} {n : Nat} {v : Value} {x : DataW H × List MemPlace} (h : DataW.trod enc Try.prog W base spare held n 60 [v] = some x) :
    ∃ xs : List Int, Sl (fun _ => True) W v (xs.map (Value.int .i32)) ∧ ∀ b ∈ xs, -2147483648 ≤ b ∧ b ≤ 2147483647 := by
  obtain ⟨xs, h1, h2⟩ := open_rowsN (fun z : Int => [.int .i32 z]) 1 (fun b => -2147483648 ≤ b ∧ b ≤ 2147483647) Try.underlying60 (by kernel_rfl) (by decide) (fun n cs y hy => by
    obtain ⟨z, hz, _, hw⟩ := DataW.trod_int Try.underlying21 hy
    exact ⟨z, hz, wf_i32 hw⟩) (fun b => rfl) h
  refine ⟨xs, SlN.to1 ?_, h2⟩
  have e : (xs.map (Value.int .i32)).map (fun x => [x]) = xs.map (fun z => [.int .i32 z]) := by simp
  rw [e]; exact h1
end Go.Proofs.Ytagfcodpgochjaa
