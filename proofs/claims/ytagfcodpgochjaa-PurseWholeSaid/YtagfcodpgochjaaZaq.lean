/- The texts Law, Opn, AL, QW, QX, in build order. -/
import Derived.Test.YtagfcodpgochjaaZap
import Derived.WalkKit
import Derived.ProofKit
import Derived.OpenShut
import Derived.Below
import Derived.ChangeSame
import Derived.ChangeAgain
import Derived.JoinedCond
import Derived.Test.YtagfcodpgochjaaRows
import Derived.Lib.SmallJoins
import Derived.ChangeSlices
import Derived.JoinedOf
import Derived.JoinedAt
import Derived.Deep.Strs

/- A law that makes new memory alone: what was read before is read again. -/
namespace Go.Oche
open Go Go.RowKit Go.ChangeShapes

/-- The types that a type of the table is made of lie in the table too, and slices have elements of some size. -/
def kidsB (P : Program) (t : TypeId) : Bool := match P.underlying t with
  | some (.slice e) => P.cellsOf e != 0 && decide (e < P.types.size)
  | some (.pointer e) => decide (e < P.types.size)
  | some (.struct fs) => fs.toList.all fun f => decide (f.type < P.types.size)
  | some (.array _ e) => decide (e < P.types.size)
  | some (.map _ e) => decide (e < P.types.size)
  | _ => true
def sizedB (P : Program) : Bool := (List.range P.types.size).all (kidsB P)
theorem kids_of {P : Program} (h : sizedB P = true) {t : TypeId} (hl : t < P.types.size) : kidsB P t = true := List.all_eq_true.1 h t (List.mem_range.2 hl)

theorem mapM_keep {α β : Type} {f g : α → Option β} : ∀ {l : List α} {ys : List β}, l.mapM f = some ys → (∀ x ∈ l, ∀ y ∈ ys, f x = some y → g x = some y) → l.mapM g = some ys
  | [], ys, h, _ => by simpa using h
  | x :: l, ys, h, hk => by
    rw [List.mapM_cons] at h ⊢
    cases hx : f x with
    | none => rw [hx] at h; cases h
    | some y =>
      rw [hx] at h
      cases hl : l.mapM f with
      | none => rw [hl] at h; cases h
      | some zs =>
        rw [hl] at h
        cases h
        rw [hk x (by simp) y (by simp) hx, mapM_keep hl fun x' hx' y' hy' => hk x' (by simp [hx']) y' (by simp [hy'])]
        rfl
theorem mapM_len {α β : Type} {f : α → Option β} : ∀ {l : List α} {ys : List β}, l.mapM f = some ys → ys.length = l.length
  | [], ys, h => by
    have : ys = [] := by simpa using h.symm
    rw [this]; rfl
  | x :: l, ys, h => by
    rw [List.mapM_cons] at h
    cases hx : f x with
    | none => rw [hx] at h; cases h
    | some y =>
      rw [hx] at h
      cases hl : l.mapM f with
      | none => rw [hl] at h; cases h
      | some zs => rw [hl] at h; cases h; simp [mapM_len hl]

section
variable {H : Type} {enc : TypeId × Value → H} {P : Program} {W W' : World} {base : Nat}
theorem cells_keep (hc : ∀ p v, W.cell? p = some v → W'.cell? p = some v) {a : Addr} {n : Nat} {cs : List Value} (h : W.cells? base a n = some cs) : W'.cells? base a n = some cs := by
  unfold World.cells? at h ⊢
  split at h
  · rename_i hb
    rw [if_pos hb]
    exact mapM_keep h fun i _ y _ hy => hc _ _ hy
  · cases h
theorem bind_keep (hc : ∀ p v, W.cell? p = some v → W'.cell? p = some v) {a : Addr} {n : Nat} {f g : List Value → Option (DataW H × List MemPlace)} {x : DataW H × List MemPlace} (h : (W.cells? base a n).bind f = some x) (hk : ∀ cs, f cs = some x → g cs = some x) : (W'.cells? base a n).bind g = some x := by
  cases hcs : W.cells? base a n with
  | none => rw [hcs] at h; cases h
  | some cs => rw [hcs] at h; rw [cells_keep hc hcs]; exact hk cs h

/-- What was read before is read again: memory that there was is as it was. -/
theorem trod_keep (hsz : sizedB P = true) (hc : ∀ p v, W.cell? p = some v → W'.cell? p = some v) (hm : ∀ (b : Nat) es c, W.heap[b]? = some (Obj.map es c) → W'.heap[b]? = some (Obj.map es c)) :
    ∀ (fuel : Nat) (t : TypeId) (cs : List Value) (x : DataW H × List MemPlace), t < P.types.size → DataW.trod enc P W base (fun _ => true) true fuel t cs = some x → ∀ sp : Nat → Bool, (∀ p ∈ x.2, sp p.block = true) →
      DataW.trod enc P W' base sp true fuel t cs = some x := by
  intro fuel
  induction fuel with
  | zero => intro t cs x _ h; cases h
  | succ fuel ih =>
    intro t cs x htl h sp hsp
    have hkid := kids_of hsz htl
    unfold kidsB at hkid
    unfold DataW.trod at h ⊢
    split at h
    all_goals try exact h
    · rename_i e a hu
      rw [hu] at hkid
      have he : e < P.types.size := by simpa using hkid
      obtain ⟨y, hy, rfl⟩ := Option.map_eq_some_iff.1 h
      refine Option.map_eq_some_iff.2 ⟨y, bind_keep hc hy fun cs hcs => ih _ _ _ he hcs sp fun p hp => hsp p (by simp [hp]), rfl⟩
    · rename_i e a len cap hu
      rw [hu] at hkid
      obtain ⟨hz, he⟩ : P.cellsOf e ≠ 0 ∧ e < P.types.size := by simpa using hkid
      simp only at h ⊢
      split at h
      · rename_i hcond
        rw [if_pos hcond]
        obtain ⟨elems, hel, h⟩ := Option.bind_eq_some_iff.1 h
        obtain ⟨rest, hrest, rfl⟩ := Option.map_eq_some_iff.1 h
        simp only [if_true] at hrest
        have hl1 := mapM_len hel
        have hl2 := mapM_len hrest
        simp only [List.length_range] at hl1 hl2
        have hx : ∀ y ∈ elems ++ rest, ∀ p ∈ y.2, sp p.block = true := fun y hy p hp => hsp p (List.mem_append_right _ (List.mem_flatMap.2 ⟨y, hy, hp⟩))
        refine Option.bind_eq_some_iff.2 ⟨elems, mapM_keep hel fun i _ y hy hi => bind_keep hc hi fun cs hcs => ih _ _ _ he hcs sp (hx y (by simp [hy])), Option.map_eq_some_iff.2 ⟨rest, ?_, rfl⟩⟩
        by_cases hs : sp a.block = true
        · rw [if_pos hs]
          exact mapM_keep hrest fun i _ y hy hi => bind_keep hc hi fun cs hcs => ih _ _ _ he hcs sp (hx y (by simp [hy]))
        · rw [if_neg hs]
          have h0 : cap - len = 0 := by
            rcases Nat.eq_zero_or_pos (cap - len) with h | h
            · exact h
            · exfalso
              apply hs
              have hpos : 0 < (elems.length + rest.length) * P.cellsOf e := Nat.mul_pos (by omega) (by omega)
              refine hsp (.cell a.block (a.off + 0)) (List.mem_append_left _ ?_)
              unfold MemPlace.row
              exact List.mem_map.2 ⟨0, List.mem_range.2 hpos, rfl⟩
          have : rest = [] := List.eq_nil_of_length_eq_zero (by omega)
          rw [this]
      · cases h
    · rename_i fs hu
      rw [hu] at hkid
      have he : ∀ f ∈ fs.toList, f.type < P.types.size := fun f hf => by simpa using List.all_eq_true.1 hkid f hf
      split at h
      · rename_i hl
        rw [if_pos hl]
        obtain ⟨xs, hxs, rfl⟩ := Option.map_eq_some_iff.1 h
        exact Option.map_eq_some_iff.2 ⟨xs, mapM_keep hxs fun f hff y hy hf => ih _ _ _ (he f hff) hf sp fun p hp => hsp p (List.mem_flatMap.2 ⟨y, hy, hp⟩), rfl⟩
      · cases h
    · rename_i n e hu
      rw [hu] at hkid
      have he : e < P.types.size := by simpa using hkid
      split at h
      · rename_i hl
        rw [if_pos hl]
        obtain ⟨xs, hxs, rfl⟩ := Option.map_eq_some_iff.1 h
        exact Option.map_eq_some_iff.2 ⟨xs, mapM_keep hxs fun f _ y hy hf => ih _ _ _ he hf sp fun p hp => hsp p (List.mem_flatMap.2 ⟨y, hy, hp⟩), rfl⟩
      · cases h
    · rename_i k e b hu
      rw [hu] at hkid
      have he : e < P.types.size := by simpa using hkid
      split at h
      · rename_i es clock hb
        rw [hm _ _ _ hb]
        simp only
        split at h
        · rename_i hcond
          rw [if_pos hcond]
          obtain ⟨entries, hen, h⟩ := Option.bind_eq_some_iff.1 h
          have hplaces : ∀ y ∈ entries, ∀ p ∈ y.2, sp p.block = true := fun y hy p hp => hsp p (by
            dsimp only at h
            split at h
            · cases h; exact List.mem_cons_of_mem _ (List.mem_flatMap.2 ⟨y, hy, hp⟩)
            · cases h)
          refine Option.bind_eq_some_iff.2 ⟨entries, mapM_keep hen fun z _ y hy hz => ?_, h⟩
          obtain ⟨key, hk, hz⟩ := Option.bind_eq_some_iff.1 hz
          refine Option.bind_eq_some_iff.2 ⟨key, hk, ?_⟩
          split at hz
          · rename_i hfm
            rw [if_pos hfm]
            obtain ⟨y', hy', rfl⟩ := Option.map_eq_some_iff.1 hz
            exact Option.map_eq_some_iff.2 ⟨y', ih _ _ _ he hy' sp (hplaces _ hy), rfl⟩
          · cases hz
        · cases h
      · cases h
theorem trodAll_keep (hsz : sizedB P = true) (hc : ∀ p v, W.cell? p = some v → W'.cell? p = some v) (hm : ∀ (b : Nat) es c, W.heap[b]? = some (Obj.map es c) → W'.heap[b]? = some (Obj.map es c)) :
    ∀ (ts : List TypeId) (vs : List Value) (ds : List (DataW H)) (ps : List MemPlace), (∀ t ∈ ts, t < P.types.size) → DataW.TrodAll enc P W base (fun _ => true) true ts vs ds ps → ∀ sp : Nat → Bool, (∀ p ∈ ps, sp p.block = true) → DataW.TrodAll enc P W' base sp true ts vs ds ps
  | [], [], [], _, _, h, _, _ => h
  | t :: ts, v :: vs, d :: ds, ps, hts, ⟨p, q, ⟨fuel, h1⟩, h2, h3⟩, sp, hsp => by
    subst h3
    exact ⟨p, q, ⟨fuel, trod_keep hsz hc hm fuel t _ _ (hts t (by simp)) h1 sp fun x hx => hsp x (by simp [hx])⟩, trodAll_keep hsz hc hm ts vs ds q (fun t ht => hts t (by simp [ht])) h2 sp fun x hx => hsp x (by simp [hx]), rfl⟩
  | [], [], _ :: _, _, _, h, _, _ => h.elim
  | [], _ :: _, ds, _, _, h, _, _ => by cases ds <;> exact h.elim
  | _ :: _, [], ds, _, _, h, _, _ => by cases ds <;> exact h.elim
  | _ :: _, _ :: _, [], _, _, h, _, _ => h.elim

theorem below_keptBut (hb : Below W.heap.size W W') (may : MemPlace → Prop) : W.keptBut W' may := by
  refine ⟨hb.os, hb.output, fun i hi => ?_⟩
  have := hb.block i hi
  rw [this]
  cases h : W.heap[i]? with
  | none => rfl
  | some o => cases o <;> simp

/-- The post of a law that has answered true and made new memory alone. -/
theorem law_post {f : Func} {s : ChangeSpec} {apart fresh handsOn again : Bool} {args : Array Value} {ds gs : List (DataW H)} {before : List MemPlace}
    (hsz : sizedB P = true) (hts : f.params.toList.all (fun t => decide (t < P.types.size)) = true) (hW : DataW.Whole enc P f.params.toList s.vars apart W args.toList ds gs before) (hv : s.vars = []) (hb : Below W.heap.size W W')
    (hres : (s.fn H ds).results = [.lit (.bool true)]) (hargs : (s.fn H ds).args = ds) (hvars : (s.fn H ds).vars = []) {bt : TypeId} (hrt : f.resultTypes = #[bt]) (hbt : P.underlying bt = some .bool) :
    s.post enc P f apart fresh handsOn again W args (.bool true) W' := by
  have hW0 := hW
  obtain ⟨p, q, hA, hV, hps, hfz, hnd⟩ := hW
  rw [hv] at hV
  have hg : gs = [] ∧ q = [] := by
    cases gs with
    | nil => exact ⟨rfl, hV⟩
    | cons g gs => exact hV.elim
  obtain ⟨rfl, rfl⟩ := hg
  rw [List.append_nil] at hps
  subst hps
  have hc : ∀ p v, W.cell? p = some v → W'.cell? p = some v := fun p v h => (World.cell?_of_block (w := W) (hb.block p.block (World.block_lt_of_cell? W p h))).trans h
  have hm : ∀ (b : Nat) es c, W.heap[b]? = some (Obj.map es c) → W'.heap[b]? = some (Obj.map es c) := fun b es c h => (hb.block b (Array.getElem?_eq_some_iff.1 h).1).trans h
  have hag : ∀ sp : Nat → Bool, (∀ x ∈ before, sp x.block = true) → DataW.TrodAll enc P W' 0 sp true f.params.toList args.toList ds before := fun sp hsp => trodAll_keep hsz hc hm _ _ _ _ (fun t ht => by simpa using List.all_eq_true.1 hts t ht) hA sp hsp
  have hlt : ∀ x ∈ before, x.block < W.heap.size := fun x hx => hW0.lt x hx
  have hold : ∀ x ∈ before, (fun b => decide (b < W.heap.size)) x.block = true := fun x hx => by simpa using hlt x hx
  have hR : ∀ (b : Nat) (sp : Nat → Bool) (hd : Bool), DataW.TrodAll enc P W' b sp hd f.resultTypes.toList ((Value.bool true).resultList f.resultTypes.size) (s.fn H (ds ++ [])).results [] := fun b sp hd => by
    rw [List.append_nil, hres, hrt]
    exact trodAll_cons_mk (shut_bool hbt true) trodAll_mk0
  have hR2 : ∀ sp : Nat → Bool, (∀ x ∈ before, sp x.block = true) → DataW.TrodAll enc P W' 0 sp true f.params.toList args.toList (s.fn H (ds ++ [])).args before := fun sp hsp => by
    rw [List.append_nil, hargs]; exact hag sp hsp
  have hVV : ∀ sp : Nat → Bool, DataW.TrodVars enc P W' sp s.vars (s.fn H (ds ++ [])).vars [] := fun sp => by
    rw [List.append_nil, hvars, hv]; rfl
  refine ⟨ds, [], before, [], before, [], hW0, hR _ _ _, hR2 _ hold, hVV _, below_keptBut hb _, fun _ => ?_⟩
  refine ⟨?_, _, _, ([] ++ before) ++ [], ⟨[] ++ before, [], trodAll_append (hR2 _ (fun _ _ => rfl)) (hR _ _ _), hVV _, rfl, ?_, ?_⟩, ?_⟩
  · exact ok_one hrt rfl (okWide_bool_mk hbt _)
  · intro b off hp
    have hp' : MemPlace.cell b off ∈ before := by simpa using hp
    have hlt' := hlt _ hp'
    have : W'.frozen? ⟨b, off, none⟩ = W.frozen? ⟨b, off, none⟩ := World.frozen?_of_block (w := W) (hb.block b hlt')
    rw [this]
    exact hfz b off hp'
  · intro ha
    simpa using hnd ha
  · intro x hx _
    simpa using hx
end
end Go.Oche

/- What a law's arguments read as: slices of elements of k cells, slices of slices, rows of numbers. -/
namespace Go.Proofs.Ytagfcodpgochjaa
open Go.RowKit Go.Oche Go.Proofs Go.ChangeShapes Go.WideShapes Go.ChangeAt

theorem own : ownKnob Try.prog.godebug = none := by kernel_rfl
theorem sized : sizedB Try.prog = true := by kernel_rfl
/-- An integer of 64 bits. -/
def I64' (n : Int) : Prop := -9223372036854775808 ≤ n ∧ n ≤ 9223372036854775807
theorem wf_i64 {n : Int} (h : (Lit.int .i64 n).wf = true) : I64' n := by
  have := h
  simp [Lit.wf, IntKind.min, IntKind.max, IntKind.signed, IntKind.bits] at this
  exact this
theorem wf_u16 {n : Int} (h : (Lit.int .u16 n).wf = true) : 0 ≤ n ∧ n ≤ 65535 := by
  have := h
  simp [Lit.wf, IntKind.min, IntKind.max, IntKind.signed, IntKind.bits] at this
  exact this
theorem wf_u8 {n : Int} (h : (Lit.int .u8 n).wf = true) : 0 ≤ n ∧ n ≤ 255 := by
  have := h
  simp [Lit.wf, IntKind.min, IntKind.max, IntKind.signed, IntKind.bits] at this
  exact this
theorem wf_u32 {n : Int} (h : (Lit.int .u32 n).wf = true) : 0 ≤ n ∧ n ≤ 4294967295 := by
  have := h
  simp [Lit.wf, IntKind.min, IntKind.max, IntKind.signed, IntKind.bits] at this
  exact this
theorem wf_i32 {n : Int} (h : (Lit.int .i32 n).wf = true) : -2147483648 ≤ n ∧ n ≤ 2147483647 := by
  have := h
  simp [Lit.wf, IntKind.min, IntKind.max, IntKind.signed, IntKind.bits] at this
  exact this
theorem list_two {α : Type} {cs : List α} (h : cs.length = 2) : ∃ a b, cs = [a, b] := by
  cases cs with
  | nil => simp at h
  | cons a cs =>
    cases cs with
    | nil => simp at h
    | cons b cs =>
      cases cs with
      | nil => exact ⟨a, b, rfl⟩
      | cons c cs => simp at h
theorem list_three {α : Type} {cs : List α} (h : cs.length = 3) : ∃ a b c, cs = [a, b, c] := by
  cases cs with
  | nil => simp at h
  | cons a cs =>
    obtain ⟨b, c, rfl⟩ := list_two (cs := cs) (by simpa using h)
    exact ⟨a, b, c, rfl⟩
theorem choose_rows {β : Type} {R : Nat → β → Prop} : ∀ n, (∀ i, i < n → ∃ b, R i b) → ∃ xs : List β, xs.length = n ∧ ∀ i b, xs[i]? = some b → R i b
  | 0, _ => ⟨[], rfl, fun i b h => by simp at h⟩
  | n + 1, h => by
    obtain ⟨xs, h1, h2⟩ := choose_rows n fun i hi => h i (by omega)
    obtain ⟨b, hb⟩ := h n (by omega)
    refine ⟨xs ++ [b], by simp [h1], fun i b' hi => ?_⟩
    by_cases hin : i < xs.length
    · rw [List.getElem?_append_left hin] at hi
      exact h2 i b' hi
    · have hlt := (List.getElem?_eq_some_iff.1 hi).1
      simp at hlt
      obtain rfl : i = xs.length := by omega
      simp at hi
      subst hi
      rw [h1]; exact hb
theorem spot_none {W : World} {a : Addr} {j : Nat} {x : Value} (h : W.cell? (a.add j) = some x) (hj : j = 0) : a.spot = none := by
  subst hj
  unfold World.cell? Addr.add at h
  simp only [if_true] at h
  cases hs : a.spot with
  | none => rfl
  | some s =>
    rw [hs] at h
    split at h <;> simp at h
section
variable {H : Type} {enc : TypeId × Value → H} {W : World} {base : Nat} {spare : Nat → Bool} {held : Bool}
theorem open_rowsN {β : Type} (row : β → List Value) (k : Nat) (Q : β → Prop) {t e : TypeId} (ht : Try.prog.underlying t = some (.slice e)) (hce : Try.prog.cellsOf e = k) (hk : 0 < k)
    (hone : ∀ n cs (y : DataW H × List MemPlace), DataW.trod enc Try.prog W base spare held n e cs = some y → ∃ b, cs = row b ∧ Q b) (hrow : ∀ b, (row b).length = k) {n : Nat} {v : Value} {x : DataW H × List MemPlace} (h : DataW.trod enc Try.prog W base spare held n t [v] = some x) :
    ∃ xs : List β, SlN k (fun _ => True) W v (xs.map row) ∧ ∀ b ∈ xs, Q b := by
  rcases DataW.trod_slice ht h with ⟨hcs, _⟩ | ⟨a, len, cap, elems, rest, m, _, hcs, _, _, hl, hm, hlen, hel, _, _⟩
  · simp only [List.cons.injEq, and_true] at hcs
    subst hcs
    exact ⟨[], SlN.nil _ _ _, by simp⟩
  · simp only [List.cons.injEq, and_true] at hcs
    subst hcs
    have hall : ∀ i, i < len → ∃ b, (∀ j x, (row b)[j]? = some x → W.cell? ((a.add (i * k)).add j) = some x) ∧ Q b := fun i hi => by
      have hy := hel i hi
      rw [List.getElem?_eq_getElem (by omega), hce, Option.bind_eq_some_iff] at hy
      obtain ⟨cs, hcs, hy⟩ := hy
      obtain ⟨b, rfl, hb⟩ := hone _ _ _ hy
      have := (World.cells?_some hcs)
      refine ⟨b, fun j x hx => ?_, hb⟩
      have hj : j < k := by rw [← hrow b]; exact (List.getElem?_eq_some_iff.1 hx).1
      rw [this.2.2 j hj]; exact hx
    obtain ⟨xs, h1, h2⟩ := choose_rows len hall
    refine ⟨xs, ⟨some a, cap, by rw [List.length_map, h1], by rw [List.length_map, h1]; exact hl, hm, fun i r hr => ?_⟩, fun b hb => ?_⟩
    · rw [List.getElem?_map, Option.map_eq_some_iff] at hr
      obtain ⟨b, hb, rfl⟩ := hr
      have hi : i < len := by rw [← h1]; exact (List.getElem?_eq_some_iff.1 hb).1
      have h0 : 0 < xs.length := by omega
      have hsp : a.spot = none := by
        have hr0 := hrow xs[0]
        have := (h2 0 xs[0] (List.getElem?_eq_getElem h0)).1 0 (row xs[0])[0] (List.getElem?_eq_getElem (by omega))
        rw [Nat.zero_mul] at this
        obtain ⟨b, o, s⟩ := a
        cases s with
        | none => rfl
        | some s =>
          simp [Addr.add, World.cell?] at this
          split at this <;> cases this
      obtain ⟨b', o, sp⟩ := a
      simp only at hsp
      subst hsp
      refine ⟨hrow b, b', o, rfl, trivial, fun j x hx => ?_⟩
      have := (h2 i b hb).1 j x hx
      rw [addr_at, addr_at] at this
      exact this
    · obtain ⟨i, hi⟩ := List.getElem?_of_mem hb
      exact (h2 i b hi).2
theorem open_i64c {n : Nat} {v : Value} {y : DataW H × List MemPlace} (h : DataW.trod enc Try.prog W base spare held n 3 [v] = some y) : ∃ z, v = .int .i64 z ∧ I64' z := by
  obtain ⟨z, hz, _, hw⟩ := DataW.trod_int Try.underlying3 h
  simp only [List.cons.injEq, and_true] at hz
  exact ⟨z, hz, wf_i64 hw⟩
theorem open_cellsT {t : TypeId} {v : Value} {d : DataW H} {p : List MemPlace} (h : DataW.Trod enc Try.prog W base spare held t v d p) (hv : v.cells = #[v]) : ∃ n y, DataW.trod enc Try.prog W base spare held n t [v] = some y := by
  obtain ⟨n, h⟩ := h
  rw [hv] at h
  exact ⟨n, _, h⟩
theorem open_intL {n : Nat} {v : Value} {x : DataW H × List MemPlace} (h : DataW.trod enc Try.prog W base spare held n 22 [v] = some x) : ∃ xs : List Int, Sl (fun _ => True) W v (ints xs) ∧ ∀ b ∈ xs, I64' b := by
  obtain ⟨xs, h1, h2⟩ := open_rowsN (fun z : Int => [.int .i64 z]) 1 I64' Try.underlying22 (by kernel_rfl) (by decide) (fun n cs y hy => by
    obtain ⟨z, hz, _, hw⟩ := DataW.trod_int Try.underlying3 hy
    exact ⟨z, hz, wf_i64 hw⟩) (fun b => rfl) h
  refine ⟨xs, SlN.to1 ?_, h2⟩
  have e : (ints xs).map (fun x => [x]) = xs.map (fun z => [.int .i64 z]) := by simp [ints]
  rw [e]; exact h1
theorem open_struct3 {t : TypeId} {f0 f1 f2 : Field} (ht : Try.prog.underlying t = some (.struct #[f0, f1, f2])) (hc : Try.prog.cellsOf t = 3) (e0 : f0.type = 3 ∧ f0.offset = 0) (e1 : f1.type = 3 ∧ f1.offset = 1) (e2 : f2.type = 3 ∧ f2.offset = 2)
    {n : Nat} {cs : List Value} {y : DataW H × List MemPlace} (h : DataW.trod enc Try.prog W base spare held n t cs = some y) : ∃ b : Int × Int × Int, cs = [.int .i64 b.1, .int .i64 b.2.1, .int .i64 b.2.2] ∧ I64' b.1 ∧ I64' b.2.1 ∧ I64' b.2.2 := by
  obtain ⟨y0, y1, y2, m, _, hl, h0, h1, h2⟩ := Go.Deep.trod_struct3 ht h
  rw [hc] at hl
  have c3 : Try.prog.cellsOf 3 = 1 := by kernel_rfl
  obtain ⟨c0, c1, c2, rfl⟩ := list_three hl
  rw [e0.1, e0.2, c3] at h0
  rw [e1.1, e1.2, c3] at h1
  rw [e2.1, e2.2, c3] at h2
  obtain ⟨a, ha', ha⟩ := open_i64c (v := c0) h0
  obtain ⟨b, hb', hb⟩ := open_i64c (v := c1) h1
  obtain ⟨c, hc', hc⟩ := open_i64c (v := c2) h2
  subst ha' hb' hc'
  exact ⟨(a, b, c), rfl, ha, hb, hc⟩
theorem open_struct2 {t : TypeId} {f0 f1 : Field} (ht : Try.prog.underlying t = some (.struct #[f0, f1])) (hc : Try.prog.cellsOf t = 2) (e0 : f0.type = 3 ∧ f0.offset = 0) (e1 : f1.type = 3 ∧ f1.offset = 1)
    {n : Nat} {cs : List Value} {y : DataW H × List MemPlace} (h : DataW.trod enc Try.prog W base spare held n t cs = some y) : ∃ b : Int × Int, cs = [.int .i64 b.1, .int .i64 b.2] ∧ I64' b.1 ∧ I64' b.2 := by
  obtain ⟨y0, y1, m, _, hl, h0, h1⟩ := trod_struct2 ht h
  rw [hc] at hl
  have c3 : Try.prog.cellsOf 3 = 1 := by kernel_rfl
  obtain ⟨c0, c1, rfl⟩ := list_two hl
  rw [e0.1, e0.2, c3] at h0
  rw [e1.1, e1.2, c3] at h1
  obtain ⟨a, ha', ha⟩ := open_i64c (v := c0) h0
  obtain ⟨b, hb', hb⟩ := open_i64c (v := c1) h1
  subst ha' hb'
  exact ⟨(a, b), rfl, ha, hb⟩
theorem open_intLL {n : Nat} {v : Value} {x : DataW H × List MemPlace} (h : DataW.trod enc Try.prog W base spare held n 32 [v] = some x) : ∃ gs : List (List Int), SlSl (fun _ => True) W v gs ∧ ∀ g ∈ gs, ∀ b ∈ g, I64' b := by
  obtain ⟨xs, h1, h2⟩ := open_rowsN (fun z : Value × List Int => [z.1]) 1 (fun z => Sl (fun _ => True) W z.1 (ints z.2) ∧ ∀ b ∈ z.2, I64' b) Try.underlying32 (by kernel_rfl) (by decide) (fun n cs y hy => by
    have hl : ∃ u, cs = [u] := by
      rcases DataW.trod_slice Try.underlying22 hy with ⟨hcs, _⟩ | ⟨a, len, cap, elems, rest, m, _, hcs, _⟩
      · exact ⟨_, hcs⟩
      · exact ⟨_, hcs⟩
    obtain ⟨u, rfl⟩ := hl
    obtain ⟨xs, h1, h2⟩ := open_intL hy
    exact ⟨(u, xs), rfl, h1, h2⟩) (fun b => rfl) h
  have e : (xs.map (·.1)).map (fun x => [x]) = xs.map (fun z => [z.1]) := by simp
  rw [← e] at h1
  refine ⟨xs.map (·.2), ⟨xs.map (·.1), SlN.to1 h1, by simp, fun i hi => ?_⟩, fun g hg => ?_⟩
  · have hi' : i < xs.length := by simpa using hi
    refine ⟨xs[i].1, by simp [hi'], ?_⟩
    simp only [List.getElem_map]
    exact (h2 _ (List.getElem_mem hi')).1
  · obtain ⟨z, hz, rfl⟩ := List.mem_map.1 hg
    exact (h2 z hz).2
end
end Go.Proofs.Ytagfcodpgochjaa

/- Chapter 12: what the claims' texts import: the laws' walks (new ones are appended at the end). -/

/- Chapter 12, PurseWhole: the parts of an amount, in plain Lean. -/
namespace Go.Proofs.Ytagfcodpgochjaa
open Go.RowKit Go.Oche Go.Proofs

theorem upTo_nodup (n : Nat) : (upTo n).Nodup := by
  unfold upTo
  exact List.pairwise_map.2 (List.Pairwise.imp (fun h => by simp; omega) List.pairwise_lt_range)
theorem sorted_ex (r : Int → Int) (n : Nat) : ∃ ys, AllOk r (upTo n) ys := by
  have hp := List.pairwise_mergeSort (le := fun a b : Int => decide (r b < r a) || (decide (r a = r b) && decide (a ≤ b))) (by intro a b c; simp; omega) (by intro a b; simp; omega) (upTo n)
  have hm := List.mergeSort_perm (upTo n) (fun a b : Int => decide (r b < r a) || (decide (r a = r b) && decide (a ≤ b)))
  generalize (upTo n).mergeSort _ = ys at *
  have hn : ys.Nodup := hm.nodup_iff.2 (upTo_nodup n)
  refine ⟨ys, ⟨hm.length_eq, fun p q hpq hq => ?_, hm⟩⟩
  have hq' : q < ys.length := by rw [hm.length_eq]; exact hq
  rw [at0_eq hq', at0_eq (by omega)]
  have h1 := List.pairwise_iff_getElem.1 hp p q (by omega) hq' hpq
  have h2 := List.pairwise_iff_getElem.1 hn p q (by omega) hq' hpq
  simp only [Bool.or_eq_true, Bool.and_eq_true, decide_eq_true_eq] at h1
  unfold befo
  omega
theorem partsK_sum {amount : Int} {ws ys : List Int} (h : AllOk (restOf amount ws.sum ws) (upTo ws.length) ys) : ∀ k, k ≤ ws.length → (partsK amount ws.sum ws ys k).sum = (bases amount ws.sum ws ws.length).sum + (k : Int)
  | 0, _ => by rw [partsK_zero]; simp
  | k + 1, hk => by
    have ih := partsK_sum h k (by omega)
    have hr := h.rng (k := k) (by omega)
    rw [← partsK_succ h (y := (at0 ys k).toNat) (by omega) (by omega), sum_set _ _ (by simp; omega), ih, ← at0]
    omega
theorem shareL_sum {amount : Int} {ws : List Int} (hs : 0 < ws.sum) (hl : 0 < ws.length) : (shareL amount ws).sum = amount := by
  obtain ⟨ys, hy⟩ := sorted_ex (restOf amount ws.sum ws) ws.length
  have hb := leftOf_bd (amount := amount) hs hl
  obtain ⟨k, hk⟩ : ∃ k : Nat, (k : Int) = leftOf amount ws := ⟨(leftOf amount ws).toNat, by omega⟩
  rw [← partsK_end hy hk, partsK_sum hy k (by omega), hk]
  unfold leftOf
  omega
/-- A remainder of nobody's who has no remainder: a penny goes only where there is one. -/
theorem rest_pos {amount : Int} {ws : List Int} (hs : 0 < ws.sum) {i : Nat} (hr : (rankR (restOf amount ws.sum ws) ws.length i : Int) < leftOf amount ws) : 0 < restOf amount ws.sum ws i := by
  obtain ⟨r, hrr⟩ : ∃ r, restOf amount ws.sum ws = r := ⟨_, rfl⟩
  have hnn : ∀ j, 0 ≤ r j := fun j => by rw [← hrr]; exact Int.emod_nonneg _ (by omega)
  have hlt : ∀ j, r j < ws.sum := fun j => by rw [← hrr]; exact Int.emod_lt_of_pos _ hs
  have h1 := bases_sum amount ws.sum ws ws.length (Nat.le_refl _)
  rw [List.take_length] at h1
  have h3 : leftOf amount ws * ws.sum = ((List.range ws.length).map fun (i : Nat) => restOf amount ws.sum ws i).sum := by unfold leftOf; rw [Int.sub_mul]; omega
  rw [hrr] at h3 hr ⊢
  rcases Int.lt_or_le 0 (r i) with h | h
  · exact h
  exfalso
  have h0 : r i = 0 := by have := hnn i; omega
  -- The sum of the remainders is at most their number times the greatest.
  have hsum : ∀ l : List Int, (l.map r).sum ≤ (l.countP (befoB r · i) : Int) * (ws.sum - 1) := fun l => by
    induction l with
    | nil => simp
    | cons a l ih =>
      rw [List.map_cons, List.sum_cons, List.countP_cons]
      by_cases ha : 0 < r a
      · have : befoB r a i = true := (befoB_iff r a i).2 (.inl (by omega))
        rw [if_pos this, Int.natCast_add, Int.add_mul]
        have := hlt a
        omega
      · have := hnn a
        split
        · rw [Int.natCast_add, Int.add_mul]; omega
        · rw [Nat.add_zero]; omega
  have h4 := hsum (upTo ws.length)
  have e : (upTo ws.length).map r = (List.range ws.length).map fun (i : Nat) => r i := by unfold upTo; rw [List.map_map]; rfl
  rw [e, ← h3] at h4
  have h5 : ((upTo ws.length).countP (befoB r · i) : Int) * (ws.sum - 1) ≤ (leftOf amount ws - 1) * (ws.sum - 1) := Int.mul_le_mul_of_nonneg_right (by unfold rankR at hr; omega) (by omega)
  have h6 : (leftOf amount ws - 1) * (ws.sum - 1) = leftOf amount ws * ws.sum - leftOf amount ws - ws.sum + 1 := by
    rw [Int.sub_mul, Int.mul_sub]; omega
  omega
theorem rank_mono {r : Int → Int} {n : Nat} {i k : Int} (h : r k < r i) : rankR r n i ≤ rankR r n k := by
  unfold rankR
  refine List.countP_mono_left fun j _ hj => ?_
  rw [befoB_iff] at hj ⊢
  unfold befo at hj ⊢
  omega
@[simp] theorem shareL_length (amount : Int) (ws : List Int) : (shareL amount ws).length = ws.length := by simp [shareL]
theorem shareL_at {amount : Int} {ws : List Int} {i : Nat} (hi : i < ws.length) : (shareL amount ws).getD i 0 = baseOf amount ws.sum ws i + if (rankR (restOf amount ws.sum ws) ws.length i : Int) < leftOf amount ws then 1 else 0 := by
  rw [List.getD_eq_getElem?_getD, List.getElem?_eq_getElem (by simpa using hi)]; simp [shareL]
theorem base_rest (amount sum : Int) (ws : List Int) (i : Nat) : baseOf amount sum ws i * sum + restOf amount sum ws i = amount * ws.getD i 0 := by
  unfold baseOf restOf; rw [Int.toNat_natCast]; exact Int.ediv_mul_add_emod _ _
/-- Nobody has a penny more or less than the exact part. -/
theorem shareL_off {amount : Int} {ws : List Int} (hs : 0 < ws.sum) {i : Nat} (hi : i < ws.length) : -ws.sum < (shareL amount ws).getD i 0 * ws.sum - amount * ws.getD i 0 ∧ (shareL amount ws).getD i 0 * ws.sum - amount * ws.getD i 0 < ws.sum := by
  have h1 := base_rest amount ws.sum ws i
  have h2 : 0 ≤ restOf amount ws.sum ws i := Int.emod_nonneg _ (by omega)
  have h3 : restOf amount ws.sum ws i < ws.sum := Int.emod_lt_of_pos _ hs
  rw [shareL_at hi, Int.add_mul]
  split
  · rename_i h
    have := rest_pos hs h
    omega
  · omega
/-- A greater weight never has less. -/
theorem shareL_mono {amount : Int} {ws : List Int} (ha : 0 ≤ amount) (hs : 0 < ws.sum) {i k : Nat} (hi : i < ws.length) (hk : k < ws.length) (h : ws.getD k 0 < ws.getD i 0) : (shareL amount ws).getD k 0 ≤ (shareL amount ws).getD i 0 := by
  have hle : amount * ws.getD k 0 ≤ amount * ws.getD i 0 := Int.mul_le_mul_of_nonneg_left (by omega) ha
  have hb : baseOf amount ws.sum ws k ≤ baseOf amount ws.sum ws i := Int.ediv_le_ediv hs hle
  rw [shareL_at hi, shareL_at hk]
  by_cases hbk : (rankR (restOf amount ws.sum ws) ws.length k : Int) < leftOf amount ws
  · rw [if_pos hbk]
    rcases Int.lt_or_le (baseOf amount ws.sum ws k) (baseOf amount ws.sum ws i) with hlt | hge
    · split <;> omega
    · have he : baseOf amount ws.sum ws k = baseOf amount ws.sum ws i := by omega
      have h1 := base_rest amount ws.sum ws i
      have h2 := base_rest amount ws.sum ws k
      rw [← he] at h1
      have hp := rest_pos hs hbk
      have hpos : 0 < amount := by
        rcases Int.lt_or_le 0 amount with h | h
        · exact h
        · obtain rfl : amount = 0 := by omega
          simp [restOf] at hp
      have hlt : amount * ws.getD k 0 < amount * ws.getD i 0 := Int.mul_lt_mul_of_pos_left h hpos
      have := rank_mono (r := restOf amount ws.sum ws) (n := ws.length) (i := i) (k := k) (by omega)
      rw [if_pos (by omega)]
      omega
  · rw [if_neg hbk]
    split <;> omega
end Go.Proofs.Ytagfcodpgochjaa

/- Chapter 12, PurseWhole: prizes of groups one after another, in plain Lean. -/
namespace Go.Proofs.Ytagfcodpgochjaa
open Go.RowKit Go.Oche Go.Proofs

/-- What is left of 1000 after so many shares. -/
def leftK : Nat → Int
  | 0 => 1000
  | k + 1 => leftK k - leftK k / 2
def sharesK (k : Nat) : List Int := (List.range k).map fun j => leftK j / 2
@[simp] theorem sharesK_length (k : Nat) : (sharesK k).length = k := by simp [sharesK]
theorem sharesK_succ (k : Nat) : sharesK (k + 1) = sharesK k ++ [leftK k / 2] := by simp [sharesK, List.range_succ]
theorem leftK_bd : ∀ k, 0 ≤ leftK k ∧ leftK k ≤ 1000
  | 0 => by simp [leftK]
  | k + 1 => by have := leftK_bd k; rw [leftK]; omega
theorem sharesK_sum : ∀ k, (sharesK k).sum = 1000 - leftK k
  | 0 => by simp [sharesK, leftK]
  | k + 1 => by rw [sharesK_succ, List.sum_append, sharesK_sum k]; simp [leftK]; omega
theorem sharesK_bd {k : Nat} : ∀ s ∈ sharesK k, 0 ≤ s ∧ s ≤ 1000 := by
  intro s hs
  obtain ⟨j, _, rfl⟩ := List.mem_map.1 hs
  have := leftK_bd j
  omega
theorem sharesK_getD (k i : Nat) : (sharesK k).getD i 0 = if i < k then leftK i / 2 else 0 := by
  rw [List.getD_eq_getElem?_getD]
  by_cases h : i < k
  · rw [List.getElem?_eq_getElem (by simpa using h), if_pos h]; simp [sharesK]
  · rw [List.getElem?_eq_none (by simpa using h), if_neg h]; rfl
theorem prizeP_eq (money : Int) (shares : List Int) (i : Nat) : prizeP money shares i = money * shares.getD i 0 / 1000 := by
  unfold prizeP
  split
  · rfl
  · rename_i h
    rw [List.getD_eq_getElem?_getD, List.getElem?_eq_none (by omega)]; simp
theorem prizeP_mono {money : Int} (h0 : 0 ≤ money) (k i : Nat) : prizeP money (sharesK k) (i + 1) ≤ prizeP money (sharesK k) i := by
  rw [prizeP_eq, prizeP_eq]
  refine Int.ediv_le_ediv (by omega) (Int.mul_le_mul_of_nonneg_left ?_ h0)
  rw [sharesK_getD, sharesK_getD]
  have := leftK_bd i
  by_cases h : i + 1 < k
  · rw [if_pos h, if_pos (by omega), leftK]; omega
  · rw [if_neg h]; split <;> omega
theorem prizeP_anti {money : Int} (h0 : 0 ≤ money) (k i : Nat) : ∀ d, prizeP money (sharesK k) (i + d) ≤ prizeP money (sharesK k) i
  | 0 => Int.le_refl _
  | d + 1 => Int.le_trans (prizeP_mono h0 k (i + d)) (prizeP_anti h0 k i d)
theorem prizeSum_hi {money : Int} (h0 : 0 ≤ money) (k pl : Nat) : ∀ n, prizeSum money (sharesK k) pl n ≤ n * prizeP money (sharesK k) pl
  | 0 => by simp [prizeSum]
  | n + 1 => by
    have h1 := prizeSum_hi h0 k pl n
    have h2 := prizeP_anti h0 k pl n
    rw [prizeSum, Int.natCast_add, Int.add_mul]
    simp only [Int.natCast_one, Int.one_mul]
    omega
theorem prizeSum_lo {money : Int} (h0 : 0 ≤ money) (k pl : Nat) : ∀ n m, m + 1 ≤ n → (m + 1 : Nat) * prizeP money (sharesK k) (pl + n - 1) ≤ prizeSum money (sharesK k) pl (m + 1)
  | n, 0, h => by
    have h2 := prizeP_anti h0 k pl (n - 1)
    rw [show pl + (n - 1) = pl + n - 1 by omega] at h2
    simp [prizeSum]; exact h2
  | n, m + 1, h => by
    have h1 := prizeSum_lo h0 k pl n m (by omega)
    have h2 := prizeP_anti h0 k (pl + (m + 1)) (n - 1 - (m + 1))
    rw [show pl + (m + 1) + (n - 1 - (m + 1)) = pl + n - 1 by omega] at h2
    rw [prizeSum, Int.natCast_add, Int.add_mul]
    simp only [Int.natCast_one, Int.one_mul]
    omega
theorem prizeSum_add (money : Int) (shares : List Int) (pl a : Nat) : ∀ b, prizeSum money shares pl (a + b) = prizeSum money shares pl a + prizeSum money shares (pl + a) b
  | 0 => by simp [prizeSum]
  | b + 1 => by rw [← Nat.add_assoc, prizeSum, prizeSum_add money shares pl a b, prizeSum, Nat.add_assoc]; omega
theorem prizeSum_all {money : Int} (h0 : 0 ≤ money) (k : Nat) : ∀ n, n ≤ k → 1000 * prizeSum money (sharesK k) 0 n ≤ money * (sharesK n).sum
  | 0, _ => by simp [prizeSum, sharesK]
  | n + 1, h => by
    have h1 := prizeSum_all h0 k n (by omega)
    have h3 := Int.mul_add money (sharesK n).sum (leftK n / 2)
    rw [prizeSum, sharesK_succ, List.sum_append, prizeP_eq, sharesK_getD, Nat.zero_add, if_pos (by omega)]
    simp only [List.sum_cons, List.sum_nil, Int.add_zero]
    rw [h3]
    have : 1000 * (money * (leftK n / 2) / 1000) ≤ money * (leftK n / 2) := Int.mul_ediv_self_le (by omega)
    omega
/-- What each of a group gets, group by group. -/
def pays (money : Int) (shares : List Int) : Nat → List (List Int) → List Int
  | _, [] => []
  | pl, g :: gs => eachP money shares pl g :: pays money shares (pl + g.length) gs
def paidSum (money : Int) (shares : List Int) : Nat → List (List Int) → Int
  | _, [] => 0
  | pl, g :: gs => eachP money shares pl g * g.length + paidSum money shares (pl + g.length) gs
@[simp] theorem pays_length (money : Int) (shares : List Int) : ∀ pl gs, (pays money shares pl gs).length = gs.length
  | _, [] => rfl
  | pl, g :: gs => by rw [pays, List.length_cons, pays_length money shares _ gs, List.length_cons]
theorem each_bd {money : Int} (h0 : 0 ≤ money) (k pl : Nat) {g : List Int} (hg : g ≠ []) : prizeP money (sharesK k) (pl + g.length - 1) ≤ eachP money (sharesK k) pl g ∧ eachP money (sharesK k) pl g ≤ prizeP money (sharesK k) pl ∧ eachP money (sharesK k) pl g * g.length ≤ prizeSum money (sharesK k) pl g.length := by
  obtain ⟨m, hm⟩ : ∃ m, g.length = m + 1 := ⟨g.length - 1, by have := List.length_pos_iff.2 hg; omega⟩
  have h1 := prizeSum_hi h0 k pl (m + 1)
  have h2 := prizeSum_lo h0 k pl (m + 1) m (by omega)
  unfold eachP
  rw [hm]
  refine ⟨?_, ?_, ?_⟩
  · exact Int.le_ediv_of_mul_le (by omega) (by rw [Int.mul_comm]; exact h2)
  · exact Int.ediv_le_of_le_mul (by omega) (by rw [Int.mul_comm]; exact h1)
  · exact Int.ediv_mul_le _ (by omega)
theorem pays_bd {money : Int} (h0 : 0 ≤ money) (k : Nat) : ∀ (gs : List (List Int)) (pl : Nat) (last : Int), (∀ g ∈ gs, g ≠ []) → prizeP money (sharesK k) pl ≤ last → ∀ i, i < gs.length → 0 ≤ (pays money (sharesK k) pl gs).getD i 0 ∧ (pays money (sharesK k) pl gs).getD i 0 ≤ (if i = 0 then last else (pays money (sharesK k) pl gs).getD (i - 1) 0)
  | [], _, _, _, _, i, hi => by simp at hi
  | g :: gs, pl, last, hne, hl, 0, _ => by
    have h1 := each_bd h0 k pl (hne g (by simp))
    have h2 := (prizeP_bd h0 (sharesK_bd (k := k)) (pl + g.length - 1)).1
    simp only [pays, List.getD_cons_zero, if_true]
    omega
  | g :: gs, pl, last, hne, hl, i + 1, hi => by
    have h1 := each_bd h0 k pl (hne g (by simp))
    have hpos := List.length_pos_iff.2 (hne g (by simp))
    have h3 := prizeP_mono h0 k (pl + g.length - 1)
    rw [show pl + g.length - 1 + 1 = pl + g.length by omega] at h3
    have ih := pays_bd h0 k gs (pl + g.length) (eachP money (sharesK k) pl g) (fun g hg => hne g (by simp [hg])) (by omega) i (by simpa using hi)
    simp only [pays, List.getD_cons_succ, Nat.add_sub_cancel, Nat.add_eq_zero_iff, Nat.one_ne_zero, and_false, if_false]
    cases i with
    | zero => simpa using ih
    | succ i => simpa using ih
theorem paidSum_le {money : Int} (h0 : 0 ≤ money) (k : Nat) : ∀ (gs : List (List Int)) (pl : Nat), (∀ g ∈ gs, g ≠ []) → paidSum money (sharesK k) pl gs ≤ prizeSum money (sharesK k) pl gs.flatten.length
  | [], _, _ => by simp [paidSum, prizeSum]
  | g :: gs, pl, hne => by
    have h1 := each_bd h0 k pl (hne g (by simp))
    have h2 := paidSum_le h0 k gs (pl + g.length) (fun g hg => hne g (by simp [hg]))
    rw [paidSum, List.flatten_cons, List.length_append, prizeSum_add]
    omega
theorem payAll_kept (money : Int) (shares : List Int) : ∀ (gs : List (List Int)) (pl : Nat) (out : List Int) (kept : Int), (payAll money shares pl out kept gs).2 = kept - paidSum money shares pl gs
  | [], _, _, _ => by simp [payAll, paidSum]
  | g :: gs, pl, out, kept => by rw [payAll, payAll_kept money shares gs, paidSum]; omega
theorem payAll_len (money : Int) (shares : List Int) : ∀ (gs : List (List Int)) (pl : Nat) (out : List Int) (kept : Int), (payAll money shares pl out kept gs).1.length = out.length
  | [], _, _, _ => rfl
  | g :: gs, pl, out, kept => by rw [payAll, payAll_len money shares gs, foldl_set_length]
theorem payAll_other (money : Int) (shares : List Int) : ∀ (gs : List (List Int)) (pl : Nat) (out : List Int) (kept : Int) (p : Nat), (∀ x ∈ gs.flatten, 0 ≤ x) → p < out.length → (p : Int) ∉ gs.flatten → (payAll money shares pl out kept gs).1.getD p 0 = out.getD p 0
  | [], _, _, _, _, _, _, _ => rfl
  | g :: gs, pl, out, kept, p, h, hp, hn => by
    rw [List.flatten_cons, List.mem_append, not_or] at hn
    rw [payAll, payAll_other money shares gs _ _ _ p (fun x hx => h x (by simp only [List.flatten_cons, List.mem_append]; exact .inr hx)) (by rw [foldl_set_length]; exact hp) hn.2, foldl_set_at _ g out p (fun x hx => h x (by simp only [List.flatten_cons, List.mem_append]; exact .inl hx)) hp, if_neg hn.1]
/-- Each of a group has what its group gets. -/
theorem payAll_at (money : Int) (shares : List Int) : ∀ (gs : List (List Int)) (pl : Nat) (out : List Int) (kept : Int) (i p : Nat), (∀ x ∈ gs.flatten, 0 ≤ x ∧ x < out.length) → gs.flatten.Nodup → i < gs.length → (p : Int) ∈ gs.getD i [] → (payAll money shares pl out kept gs).1.getD p 0 = (pays money shares pl gs).getD i 0
  | [], _, _, _, _, _, _, _, h, _ => by simp at h
  | g :: gs, pl, out, kept, 0, p, h, hn, _, hp => by
    have hp' : (p : Int) ∈ g := by simpa using hp
    rw [List.flatten_cons] at h hn
    have hd := List.nodup_append.1 hn
    have hpo : p < out.length := by have := (h p (List.mem_append_left _ hp')).2; omega
    rw [payAll, payAll_other money shares gs _ _ _ p (fun x hx => (h x (List.mem_append_right _ hx)).1) (by rw [foldl_set_length]; exact hpo) (fun hf => hd.2.2 _ hp' _ hf rfl), foldl_set_at _ g out p (fun x hx => (h x (List.mem_append_left _ hx)).1) hpo, if_pos hp']
    simp [pays]
  | g :: gs, pl, out, kept, i + 1, p, h, hn, hi, hp => by
    rw [List.flatten_cons] at h hn
    have hd := List.nodup_append.1 hn
    rw [payAll, payAll_at money shares gs _ _ _ i p (fun x hx => by rw [foldl_set_length]; exact h x (List.mem_append_right _ hx)) hd.2.1 (by simpa using hi) (by simpa using hp)]
    simp [pays]
theorem grpErr_ok {n : Nat} : ∀ (g tk : List Int), (tk ++ g).Nodup → (∀ x ∈ g, 0 ≤ x ∧ x < n) → grpErr n tk g = 0
  | [], _, _, _ => rfl
  | p :: g, tk, hn, h => by
    have hp := h p (by simp)
    rw [grpErr, if_neg (by simp [isIn]; omega), if_neg (fun hm => (List.nodup_append.1 hn).2.2 p hm p (by simp) rfl)]
    exact grpErr_ok g (tk ++ [p]) (by simpa using hn) (fun x hx => h x (by simp [hx]))
theorem placesErr_ok {n : Nat} : ∀ (gs : List (List Int)) (tk : List Int), (∀ g ∈ gs, g ≠ []) → (tk ++ gs.flatten).Nodup → (∀ x ∈ gs.flatten, 0 ≤ x ∧ x < n) → placesErr n tk gs = 0
  | [], _, _, _, _ => rfl
  | g :: gs, tk, hne, hn, h => by
    rw [List.flatten_cons] at hn h
    rw [← List.append_assoc] at hn
    rw [placesErr, if_neg (hne g (by simp)), if_pos (grpErr_ok g tk (List.nodup_append.1 hn).1 (fun x hx => h x (List.mem_append_left _ hx)))]
    exact placesErr_ok gs (tk ++ g) (fun g hg => hne g (by simp [hg])) hn (fun x hx => h x (List.mem_append_right _ hx))
/-- A player more at the end of the last group. -/
def addLast (gs : List (List Int)) (x : Int) : List (List Int) := gs.dropLast ++ [gs.getLastD [] ++ [x]]
/-- The groups after so many players. -/
def placesK (bys : List Int) (n : Nat) : Nat → List (List Int)
  | 0 => []
  | i + 1 => addLast (if i = 0 ∨ 0 < bys.getD i 0 % 3 then placesK bys n i ++ [[]] else placesK bys n i) (((i : Int) + bys.getD 0 0) % n)
theorem addLast_flatten {gs : List (List Int)} (h : gs ≠ []) (x : Int) : (addLast gs x).flatten = gs.flatten ++ [x] := by
  obtain ⟨l, a, rfl⟩ : ∃ l a, gs = l ++ [a] := ⟨gs.dropLast, gs.getLast h, (List.dropLast_concat_getLast h).symm⟩
  simp [addLast]
theorem placesK_ne {bys : List Int} {n : Nat} : ∀ i, ∀ g ∈ placesK bys n i, g ≠ []
  | 0, g, h => by simp [placesK] at h
  | i + 1, g, h => by
    have ih := placesK_ne (bys := bys) (n := n) i
    rw [placesK, addLast, List.mem_append] at h
    rcases h with h | h
    · split at h
      · rw [List.dropLast_concat] at h; exact ih g h
      · exact ih g (List.dropLast_subset _ h)
    · simp only [List.mem_singleton] at h; rw [h]; simp
theorem placesK_pos {bys : List Int} {n i : Nat} : placesK bys n (i + 1) ≠ [] := by rw [placesK, addLast]; simp
theorem placesK_flat {bys : List Int} {n : Nat} : ∀ i, (placesK bys n i).flatten = (List.range i).map fun (j : Nat) => ((j : Int) + bys.getD 0 0) % (n : Int)
  | 0 => by simp [placesK]
  | i + 1 => by
    have ih := placesK_flat (bys := bys) (n := n) i
    have hne : (if i = 0 ∨ 0 < bys.getD i 0 % 3 then placesK bys n i ++ [[]] else placesK bys n i) ≠ [] := by
      split
      · simp
      · rename_i h
        obtain ⟨j, rfl⟩ : ∃ j, i = j + 1 := ⟨i - 1, by omega⟩
        exact placesK_pos
    rw [placesK, addLast_flatten hne, List.range_succ, List.map_append, ← ih]
    split <;> simp
theorem placesK_len {bys : List Int} {n : Nat} : ∀ i, (placesK bys n i).length ≤ i
  | 0 => by simp [placesK]
  | i + 1 => by
    have ih := placesK_len (bys := bys) (n := n) i
    rw [placesK, addLast]
    have : ∀ gs : List (List Int), gs.length ≤ i + 1 → (gs.dropLast ++ [gs.getLastD [] ++ [((i : Int) + bys.getD 0 0) % n]]).length ≤ i + 1 := fun gs h => by simp; omega
    split
    · exact this _ (by simp; omega)
    · exact this _ (by omega)
theorem placesK_nodup {bys : List Int} {n : Nat} : (placesK bys n n).flatten.Nodup := by
  rw [placesK_flat]
  refine List.pairwise_map.2 (List.Pairwise.imp_of_mem (fun {a b} ha hb hab => ?_) List.pairwise_lt_range)
  have h1 := List.mem_range.1 ha
  have h2 := List.mem_range.1 hb
  intro e
  have h3 := Int.emod_emod_of_dvd ((a : Int) + bys.getD 0 0) (Int.dvd_refl (n : Int))
  have h4 : ((b : Int) + bys.getD 0 0 - ((a : Int) + bys.getD 0 0)) % n = 0 := by rw [Int.sub_emod, e]; simp
  have h5 : (b : Int) + bys.getD 0 0 - ((a : Int) + bys.getD 0 0) = b - a := by omega
  rw [h5, Int.emod_eq_of_lt (by omega) (by omega)] at h4
  omega
theorem placesK_rng {bys : List Int} {n : Nat} (hn : 0 < n) (i : Nat) : ∀ x ∈ (placesK bys n i).flatten, 0 ≤ x ∧ x < n := by
  rw [placesK_flat]
  intro x hx
  obtain ⟨j, _, rfl⟩ := List.mem_map.1 hx
  exact ⟨Int.emod_nonneg _ (by omega), Int.emod_lt_of_pos _ (by omega)⟩
/-- What has gone to the first groups. -/
def paidK (E : List Int) (gs : List (List Int)) (g : Nat) : Int := ((List.range g).map fun j => E.getD j 0 * (gs.getD j []).length).sum
theorem paidK_succ (E : List Int) (gs : List (List Int)) (g : Nat) : paidK E gs (g + 1) = paidK E gs g + E.getD g 0 * (gs.getD g []).length := by
  unfold paidK; rw [List.range_succ, List.map_append, List.sum_append]; simp
theorem paidK_cons (e : Int) (E : List Int) (a : List Int) (gs : List (List Int)) : ∀ g, paidK (e :: E) (a :: gs) (g + 1) = e * a.length + paidK E gs g
  | 0 => by simp [paidK]
  | g + 1 => by rw [paidK_succ, paidK_cons e E a gs g, paidK_succ]; simp only [List.getD_cons_succ]; omega
theorem paidK_all (money : Int) (shares : List Int) : ∀ (gs : List (List Int)) (pl : Nat), paidK (pays money shares pl gs) gs gs.length = paidSum money shares pl gs
  | [], _ => by simp [paidK, paidSum]
  | g :: gs, pl => by rw [pays, List.length_cons, paidK_cons, paidK_all money shares gs, paidSum]
/-- Whole: the prizes of the groups. -/
structure Whole (money : Int) (gs : List (List Int)) (prizes : List Int) (kept : Int) (E : List Int) : Prop where
  kept0 : 0 ≤ kept
  keptL : kept ≤ money
  bd : ∀ i, i < gs.length → 0 ≤ E.getD i 0 ∧ E.getD i 0 ≤ (if i = 0 then money else E.getD (i - 1) 0)
  each : ∀ i j, i < gs.length → j < (gs.getD i []).length → prizes.getD ((gs.getD i []).getD j 0).toNat 0 = E.getD i 0
  sum : paidK E gs gs.length = money - kept
theorem Whole.le {money : Int} {gs : List (List Int)} {prizes : List Int} {kept : Int} {E : List Int} (h : Whole money gs prizes kept E) : ∀ i, i < gs.length → 0 ≤ E.getD i 0 ∧ E.getD i 0 ≤ money
  | 0, hi => by have := h.bd 0 hi; rw [if_pos rfl] at this; exact this
  | i + 1, hi => by
    have h1 := h.bd (i + 1) hi
    have h2 := h.le i (by omega)
    rw [if_neg (by omega), Nat.add_sub_cancel] at h1
    omega
theorem prizes_whole {money : Int} {bys : List Int} (hm : 0 ≤ money ∧ money ≤ 1000000000) (hl : bys.length ≤ 20) :
    ∃ prizes kept E, prizesErr money (max 1 bys.length : Nat) (sharesK bys.length) (placesK bys bys.length bys.length) = 0 ∧ prizesRes money (max 1 bys.length : Nat) (sharesK bys.length) (placesK bys bys.length bys.length) = (prizes, kept) ∧ prizes.length = max 1 bys.length ∧ Whole money (placesK bys bys.length bys.length) prizes kept E := by
  obtain ⟨n, hn⟩ : ∃ n, bys.length = n := ⟨_, rfl⟩
  rw [hn] at hl ⊢
  have hnd := placesK_nodup (bys := bys) (n := n)
  have hrg : ∀ x ∈ (placesK bys n n).flatten, 0 ≤ x ∧ x < n := by
    rcases Nat.eq_zero_or_pos n with h | h
    · subst h; simp [placesK]
    · exact placesK_rng h n
  have hfl : (placesK bys n n).flatten.length = n := by rw [placesK_flat]; simp
  have hne := placesK_ne (bys := bys) (n := n) n
  generalize hgs : placesK bys n n = gs at *
  have he : prizesErr money (max 1 n : Nat) (sharesK n) gs = 0 := by
    have e1 : (sharesK n).any (outB 0 1000) = false := by
      rw [List.any_eq_false]; intro x hx; have := sharesK_bd x hx; simp [outB]; omega
    have e2 := leftK_bd n
    unfold prizesErr
    rw [if_neg (by simp [isIn]; omega), if_neg (by simp [isIn]; omega), if_neg (by simp; omega), if_neg (by rw [e1, sharesK_sum]; simp; omega)]
    exact placesErr_ok gs [] hne (by simpa using hnd) (fun x hx => by have := hrg x hx; omega)
  have hle := paidSum_le hm.1 n gs 0 hne
  have hall := prizeSum_all hm.1 n n (Nat.le_refl _)
  have hs1 : money * (sharesK n).sum ≤ money * 1000 := Int.mul_le_mul_of_nonneg_left (by rw [sharesK_sum]; have := leftK_bd n; omega) hm.1
  rw [hfl] at hle
  have hbd := pays_bd hm.1 n gs 0 money hne (prizeP_bd hm.1 (sharesK_bd (k := n)) 0).2
  have hnn : ∀ (gs : List (List Int)) (pl : Nat), (∀ g ∈ gs, g ≠ []) → 0 ≤ paidSum money (sharesK n) pl gs := fun gs => by
    induction gs with
    | nil => intro pl _; simp [paidSum]
    | cons g gs ih =>
      intro pl hne
      have h1 := each_bd hm.1 n pl (hne g (by simp))
      have h2 := (prizeP_bd hm.1 (sharesK_bd (k := n)) (pl + g.length - 1)).1
      have h3 := ih (pl + g.length) (fun g hg => hne g (by simp [hg]))
      have h4 : 0 ≤ eachP money (sharesK n) pl g * g.length := Int.mul_nonneg (by omega) (by omega)
      rw [paidSum]; omega
  refine ⟨_, _, pays money (sharesK n) 0 gs, he, by rw [prizesRes, if_pos he], by rw [payAll_len]; simp, ⟨?_, ?_, hbd, ?_, ?_⟩⟩
  · rw [payAll_kept]; omega
  · rw [payAll_kept]; have := hnn gs 0 hne; omega
  · intro i j hi hj
    have hm2 : (gs.getD i []).getD j 0 ∈ gs.getD i [] := by
      rw [List.getD_eq_getElem?_getD (l := gs.getD i []), List.getElem?_eq_getElem hj]; exact List.getElem_mem hj
    have hm3 : (gs.getD i []).getD j 0 ∈ gs.flatten := List.mem_flatten.2 ⟨gs.getD i [], by rw [List.getD_eq_getElem?_getD, List.getElem?_eq_getElem hi]; exact List.getElem_mem hi, hm2⟩
    have hr := hrg _ hm3
    refine payAll_at money (sharesK n) gs 0 _ _ i _ (fun x hx => by have := hrg x hx; simp; omega) hnd hi ?_
    rw [Int.toNat_of_nonneg hr.1]; exact hm2
  · rw [payAll_kept, paidK_all]; omega
end Go.Proofs.Ytagfcodpgochjaa
