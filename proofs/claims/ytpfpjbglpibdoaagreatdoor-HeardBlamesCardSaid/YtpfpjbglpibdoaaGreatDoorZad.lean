/- The texts Law, Seq, LibA, Opn, OpA, LibB, in build order. -/
import Derived.Test.YtpfpjbglpibdoaaGreatDoorZac
import Derived.WalkKit
import Derived.ProofKit
import Derived.OpenShut
import Derived.Below
import Derived.ChangeSame
import Derived.ChangeAgain
import Derived.JoinedCond
import Derived.Test.YtpfpjbglpibdoaaGreatDoorProg
import Derived.WalkSpells
import Derived.WalkLawsBesides
import Derived.BigQuiet
import Derived.Deep.QuietTactic
import Derived.Outline
import Derived.LoopTactic
import Derived.Test.YtpfpjbglpibdoaaGreatDoorRows
import Derived.Lib.SmallJoins
import Derived.ChangeSlices
import Derived.JoinedOf
import Derived.JoinedAt
import Derived.Deep.Strs

/- A law that makes new memory alone: what was read before is read again. -/
namespace Go.Oche
open Go Go.RowKit Go.ChangeShapes

def kidsB (P : Program) (t : TypeId) : Bool := match P.underlying t with
  | some (.slice e) => P.cellsOf e != 0 && decide (e < P.types.size)
  | some (.pointer e) => decide (e < P.types.size)
  | some (.struct fs) => fs.toList.all fun f => decide (f.type < P.types.size)
  | some (.array _ e) => decide (e < P.types.size)
  | some (.map _ e) => decide (e < P.types.size)
  | _ => true
def sizedB (P : Program) : Bool := (List.range P.types.size).all (kidsB P)
theorem kids_of {P : Program} (h : sizedB P = true) {t : TypeId} (hl : t < P.types.size) : kidsB P t = true := List.all_eq_true.1 h t (List.mem_range.2 hl)

theorem mapM_keep {α β : Type} {f g : α → Option β} : ∀ {l : List α} {ys : List β}, l.mapM f = some ys → (∀ x ∈ l, ∀ y ∈ ys, f x = some y → g x = some y) → l.mapM g = some ys
  | [], ys, h, _ => by simpa using h
  | x :: l, ys, h, hk => by
    rw [List.mapM_cons] at h ⊢
    cases hx : f x with
    | none => rw [hx] at h; cases h
    | some y =>
      rw [hx] at h
      cases hl : l.mapM f with
      | none => rw [hl] at h; cases h
      | some zs =>
        rw [hl] at h
        cases h
        rw [hk x (by simp) y (by simp) hx, mapM_keep hl fun x' hx' y' hy' => hk x' (by simp [hx']) y' (by simp [hy'])]
        rfl
theorem mapM_len {α β : Type} {f : α → Option β} : ∀ {l : List α} {ys : List β}, l.mapM f = some ys → ys.length = l.length
  | [], ys, h => by
    have : ys = [] := by simpa using h.symm
    rw [this]; rfl
  | x :: l, ys, h => by
    rw [List.mapM_cons] at h
    cases hx : f x with
    | none => rw [hx] at h; cases h
    | some y =>
      rw [hx] at h
      cases hl : l.mapM f with
      | none => rw [hl] at h; cases h
      | some zs => rw [hl] at h; cases h; simp [mapM_len hl]

section
variable {H : Type} {enc : TypeId × Value → H} {P : Program} {W W' : World} {base : Nat}
theorem cells_keep (hc : ∀ p v, W.cell? p = some v → W'.cell? p = some v) {a : Addr} {n : Nat} {cs : List Value} (h : W.cells? base a n = some cs) : W'.cells? base a n = some cs := by
  unfold World.cells? at h ⊢
  split at h
  · rename_i hb
    rw [if_pos hb]
    exact mapM_keep h fun i _ y _ hy => hc _ _ hy
  · cases h
theorem bind_keep (hc : ∀ p v, W.cell? p = some v → W'.cell? p = some v) {a : Addr} {n : Nat} {f g : List Value → Option (DataW H × List MemPlace)} {x : DataW H × List MemPlace} (h : (W.cells? base a n).bind f = some x) (hk : ∀ cs, f cs = some x → g cs = some x) : (W'.cells? base a n).bind g = some x := by
  cases hcs : W.cells? base a n with
  | none => rw [hcs] at h; cases h
  | some cs => rw [hcs] at h; rw [cells_keep hc hcs]; exact hk cs h

theorem trod_keep (hsz : sizedB P = true) (hc : ∀ p v, W.cell? p = some v → W'.cell? p = some v) (hm : ∀ (b : Nat) es c, W.heap[b]? = some (Obj.map es c) → W'.heap[b]? = some (Obj.map es c)) :
    ∀ (fuel : Nat) (t : TypeId) (cs : List Value) (x : DataW H × List MemPlace), t < P.types.size → DataW.trod enc P W base (fun _ => true) true fuel t cs = some x → ∀ sp : Nat → Bool, (∀ p ∈ x.2, sp p.block = true) →
      DataW.trod enc P W' base sp true fuel t cs = some x := by
  intro fuel
  induction fuel with
  | zero => intro t cs x _ h; cases h
  | succ fuel ih =>
    intro t cs x htl h sp hsp
    have hkid := kids_of hsz htl
    unfold kidsB at hkid
    unfold DataW.trod at h ⊢
    split at h
    all_goals try exact h
    · rename_i e a hu
      rw [hu] at hkid
      have he : e < P.types.size := by simpa using hkid
      obtain ⟨y, hy, rfl⟩ := Option.map_eq_some_iff.1 h
      refine Option.map_eq_some_iff.2 ⟨y, bind_keep hc hy fun cs hcs => ih _ _ _ he hcs sp fun p hp => hsp p (by simp [hp]), rfl⟩
    · rename_i e a len cap hu
      rw [hu] at hkid
      obtain ⟨hz, he⟩ : P.cellsOf e ≠ 0 ∧ e < P.types.size := by simpa using hkid
      simp only at h ⊢
      split at h
      · rename_i hcond
        rw [if_pos hcond]
        obtain ⟨elems, hel, h⟩ := Option.bind_eq_some_iff.1 h
        obtain ⟨rest, hrest, rfl⟩ := Option.map_eq_some_iff.1 h
        simp only [if_true] at hrest
        have hl1 := mapM_len hel
        have hl2 := mapM_len hrest
        simp only [List.length_range] at hl1 hl2
        have hx : ∀ y ∈ elems ++ rest, ∀ p ∈ y.2, sp p.block = true := fun y hy p hp => hsp p (List.mem_append_right _ (List.mem_flatMap.2 ⟨y, hy, hp⟩))
        refine Option.bind_eq_some_iff.2 ⟨elems, mapM_keep hel fun i _ y hy hi => bind_keep hc hi fun cs hcs => ih _ _ _ he hcs sp (hx y (by simp [hy])), Option.map_eq_some_iff.2 ⟨rest, ?_, rfl⟩⟩
        by_cases hs : sp a.block = true
        · rw [if_pos hs]
          exact mapM_keep hrest fun i _ y hy hi => bind_keep hc hi fun cs hcs => ih _ _ _ he hcs sp (hx y (by simp [hy]))
        · rw [if_neg hs]
          have h0 : cap - len = 0 := by
            rcases Nat.eq_zero_or_pos (cap - len) with h | h
            · exact h
            · exfalso
              apply hs
              have hpos : 0 < (elems.length + rest.length) * P.cellsOf e := Nat.mul_pos (by omega) (by omega)
              refine hsp (.cell a.block (a.off + 0)) (List.mem_append_left _ ?_)
              unfold MemPlace.row
              exact List.mem_map.2 ⟨0, List.mem_range.2 hpos, rfl⟩
          have : rest = [] := List.eq_nil_of_length_eq_zero (by omega)
          rw [this]
      · cases h
    · rename_i fs hu
      rw [hu] at hkid
      have he : ∀ f ∈ fs.toList, f.type < P.types.size := fun f hf => by simpa using List.all_eq_true.1 hkid f hf
      split at h
      · rename_i hl
        rw [if_pos hl]
        obtain ⟨xs, hxs, rfl⟩ := Option.map_eq_some_iff.1 h
        exact Option.map_eq_some_iff.2 ⟨xs, mapM_keep hxs fun f hff y hy hf => ih _ _ _ (he f hff) hf sp fun p hp => hsp p (List.mem_flatMap.2 ⟨y, hy, hp⟩), rfl⟩
      · cases h
    · rename_i n e hu
      rw [hu] at hkid
      have he : e < P.types.size := by simpa using hkid
      split at h
      · rename_i hl
        rw [if_pos hl]
        obtain ⟨xs, hxs, rfl⟩ := Option.map_eq_some_iff.1 h
        exact Option.map_eq_some_iff.2 ⟨xs, mapM_keep hxs fun f _ y hy hf => ih _ _ _ he hf sp fun p hp => hsp p (List.mem_flatMap.2 ⟨y, hy, hp⟩), rfl⟩
      · cases h
    · rename_i k e b hu
      rw [hu] at hkid
      have he : e < P.types.size := by simpa using hkid
      split at h
      · rename_i es clock hb
        rw [hm _ _ _ hb]
        simp only
        split at h
        · rename_i hcond
          rw [if_pos hcond]
          obtain ⟨entries, hen, h⟩ := Option.bind_eq_some_iff.1 h
          have hplaces : ∀ y ∈ entries, ∀ p ∈ y.2, sp p.block = true := fun y hy p hp => hsp p (by
            dsimp only at h
            split at h
            · cases h; exact List.mem_cons_of_mem _ (List.mem_flatMap.2 ⟨y, hy, hp⟩)
            · cases h)
          refine Option.bind_eq_some_iff.2 ⟨entries, mapM_keep hen fun z _ y hy hz => ?_, h⟩
          obtain ⟨key, hk, hz⟩ := Option.bind_eq_some_iff.1 hz
          refine Option.bind_eq_some_iff.2 ⟨key, hk, ?_⟩
          split at hz
          · rename_i hfm
            rw [if_pos hfm]
            obtain ⟨y', hy', rfl⟩ := Option.map_eq_some_iff.1 hz
            exact Option.map_eq_some_iff.2 ⟨y', ih _ _ _ he hy' sp (hplaces _ hy), rfl⟩
          · cases hz
        · cases h
      · cases h
theorem trodAll_keep (hsz : sizedB P = true) (hc : ∀ p v, W.cell? p = some v → W'.cell? p = some v) (hm : ∀ (b : Nat) es c, W.heap[b]? = some (Obj.map es c) → W'.heap[b]? = some (Obj.map es c)) :
    ∀ (ts : List TypeId) (vs : List Value) (ds : List (DataW H)) (ps : List MemPlace), (∀ t ∈ ts, t < P.types.size) → DataW.TrodAll enc P W base (fun _ => true) true ts vs ds ps → ∀ sp : Nat → Bool, (∀ p ∈ ps, sp p.block = true) → DataW.TrodAll enc P W' base sp true ts vs ds ps
  | [], [], [], _, _, h, _, _ => h
  | t :: ts, v :: vs, d :: ds, ps, hts, ⟨p, q, ⟨fuel, h1⟩, h2, h3⟩, sp, hsp => by
    subst h3
    exact ⟨p, q, ⟨fuel, trod_keep hsz hc hm fuel t _ _ (hts t (by simp)) h1 sp fun x hx => hsp x (by simp [hx])⟩, trodAll_keep hsz hc hm ts vs ds q (fun t ht => hts t (by simp [ht])) h2 sp fun x hx => hsp x (by simp [hx]), rfl⟩
  | [], [], _ :: _, _, _, h, _, _ => h.elim
  | [], _ :: _, ds, _, _, h, _, _ => by cases ds <;> exact h.elim
  | _ :: _, [], ds, _, _, h, _, _ => by cases ds <;> exact h.elim
  | _ :: _, _ :: _, [], _, _, h, _, _ => h.elim

theorem below_keptBut (hb : Below W.heap.size W W') (may : MemPlace → Prop) : W.keptBut W' may := by
  refine ⟨hb.os, hb.output, fun i hi => ?_⟩
  have := hb.block i hi
  rw [this]
  cases h : W.heap[i]? with
  | none => rfl
  | some o => cases o <;> simp

theorem law_post {f : Func} {s : ChangeSpec} {apart fresh handsOn again : Bool} {args : Array Value} {ds gs : List (DataW H)} {before : List MemPlace}
    (hsz : sizedB P = true) (hts : f.params.toList.all (fun t => decide (t < P.types.size)) = true) (hW : DataW.Whole enc P f.params.toList s.vars apart W args.toList ds gs before) (hv : s.vars = []) (hb : Below W.heap.size W W')
    (hres : (s.fn H ds).results = [.lit (.bool true)]) (hargs : (s.fn H ds).args = ds) (hvars : (s.fn H ds).vars = []) {bt : TypeId} (hrt : f.resultTypes = #[bt]) (hbt : P.underlying bt = some .bool) :
    s.post enc P f apart fresh handsOn again W args (.bool true) W' := by
  have hW0 := hW
  obtain ⟨p, q, hA, hV, hps, hfz, hnd⟩ := hW
  rw [hv] at hV
  have hg : gs = [] ∧ q = [] := by
    cases gs with
    | nil => exact ⟨rfl, hV⟩
    | cons g gs => exact hV.elim
  obtain ⟨rfl, rfl⟩ := hg
  rw [List.append_nil] at hps
  subst hps
  have hc : ∀ p v, W.cell? p = some v → W'.cell? p = some v := fun p v h => (World.cell?_of_block (w := W) (hb.block p.block (World.block_lt_of_cell? W p h))).trans h
  have hm : ∀ (b : Nat) es c, W.heap[b]? = some (Obj.map es c) → W'.heap[b]? = some (Obj.map es c) := fun b es c h => (hb.block b (Array.getElem?_eq_some_iff.1 h).1).trans h
  have hag : ∀ sp : Nat → Bool, (∀ x ∈ before, sp x.block = true) → DataW.TrodAll enc P W' 0 sp true f.params.toList args.toList ds before := fun sp hsp => trodAll_keep hsz hc hm _ _ _ _ (fun t ht => by simpa using List.all_eq_true.1 hts t ht) hA sp hsp
  have hlt : ∀ x ∈ before, x.block < W.heap.size := fun x hx => hW0.lt x hx
  have hold : ∀ x ∈ before, (fun b => decide (b < W.heap.size)) x.block = true := fun x hx => by simpa using hlt x hx
  have hR : ∀ (b : Nat) (sp : Nat → Bool) (hd : Bool), DataW.TrodAll enc P W' b sp hd f.resultTypes.toList ((Value.bool true).resultList f.resultTypes.size) (s.fn H (ds ++ [])).results [] := fun b sp hd => by
    rw [List.append_nil, hres, hrt]
    exact trodAll_cons_mk (shut_bool hbt true) trodAll_mk0
  have hR2 : ∀ sp : Nat → Bool, (∀ x ∈ before, sp x.block = true) → DataW.TrodAll enc P W' 0 sp true f.params.toList args.toList (s.fn H (ds ++ [])).args before := fun sp hsp => by
    rw [List.append_nil, hargs]; exact hag sp hsp
  have hVV : ∀ sp : Nat → Bool, DataW.TrodVars enc P W' sp s.vars (s.fn H (ds ++ [])).vars [] := fun sp => by
    rw [List.append_nil, hvars, hv]; rfl
  refine ⟨ds, [], before, [], before, [], hW0, hR _ _ _, hR2 _ hold, hVV _, below_keptBut hb _, fun _ => ?_⟩
  refine ⟨?_, _, _, ([] ++ before) ++ [], ⟨[] ++ before, [], trodAll_append (hR2 _ (fun _ _ => rfl)) (hR _ _ _), hVV _, rfl, ?_, ?_⟩, ?_⟩
  · exact ok_one hrt rfl (okWide_bool_mk hbt _)
  · intro b off hp
    have hp' : MemPlace.cell b off ∈ before := by simpa using hp
    have hlt' := hlt _ hp'
    have : W'.frozen? ⟨b, off, none⟩ = W.frozen? ⟨b, off, none⟩ := World.frozen?_of_block (w := W) (hb.block b hlt')
    rw [this]
    exact hfz b off hp'
  · intro ha
    simpa using hnd ha
  · intro x hx _
    simpa using hx
end
end Go.Oche

/- A region whose order is drawn, walked in the text's order: each operation at any world that has grown since. -/
namespace Go.Oche
open Go Go.RowKit

structure Kn where
  s : Value → Prop
  p : Value → World → Prop
  m : ∀ v w w', Below w.heap.size w w' → p v w → p v w'
def Kn.is (c : Value) : Kn := ⟨fun v => v = c, fun _ _ => True, fun _ _ _ _ h => h⟩
def pres (ops : Array Oper) (ks : List Kn) (i : Nat) (o : Oper) (a : Act) (w w' : World) : Prop := ∀ j k, ks[j]? = some k → j ≠ i → ∀ v, k.s v →
  ((∃ e ∈ o.after.toList, Region.binds .any e = true ∧ e.on = j) → ∀ oj d, ops[j]? = some oj → oj.dst = some d → a.tmps[d]? = some v) → k.p v w → k.p v w'
theorem pres_below {ops : Array Oper} {ks : List Kn} {i : Nat} {o : Oper} {a : Act} {w w' : World} (h : Below w.heap.size w w') : pres ops ks i o a w w' := fun _ k _ _ v _ _ hp => k.m v w w' h hp
def knΦ (ks : List Kn) (i : Nat) (v : Value) (w : World) : Prop := ∀ k, ks[i]? = some k → k.s v ∧ k.p v w
def guardOn (ops : Array Oper) (o : Oper) (a : Act) : Bool := Region.wanted o (yielded ops a.tmps)
def addH (H : Nat → World → Prop) (i : Nat) (p : World → Prop) : Nat → World → Prop := fun j w => if j = i then p w else H j w

def SeqVC (P : Program) (ops : Array Oper) (w₀ : World) (ks₀ : List Kn) (i : Nat) (k : Kn) (o : Oper) (a : Act) (H : Nat → World → Prop) : Prop :=
  (∃ v, k.s v) ∧
  (∀ w, Below w₀.heap.size w₀ w → (∀ e ∈ o.after.toList, Region.binds .any e = true → H e.on w) →
    if guardOn ops o a then opOK P o a w (fun v w' => Below w₀.heap.size w w' ∧ pres ops ks₀ i o a w w' ∧ k.s v ∧ k.p v w') else k.s undef ∧ k.p undef w)

def SeqAll (P : Program) (ops : Array Oper) (w₀ : World) (ks₀ : List Kn) (K : Act → (Nat → World → Prop) → Prop) : List Kn → List Oper → Act → (Nat → World → Prop) → Nat → Prop
  | _, [], a, H, _ => K a H
  | [], _ :: _, _, _, _ => False
  | k :: ks, o :: l, a, H, i => SeqVC P ops w₀ ks₀ i k o a H ∧ ∀ v, k.s v → SeqAll P ops w₀ ks₀ K ks l (a.put o.dst v) (addH H i (k.p v)) (i + 1)

def readsB (ops : Array Oper) (n : Nat) : Bool :=
  (ops.toList.take n).zipIdx.all fun (o, i) => (match o.op with | .select _ _ => false | _ => true) &&
    (o.looksAt ops).all fun t => (o.after.toList.any fun e => Region.binds .any e && ((ops[e.on]?).bind (·.dst) == some t)) ||
      (ops.toList.all fun oj => oj.dst != some t || oj.after.toList.any fun e => Region.binds .any e && e.on == i)

section
variable {P : Program} {ops : Array Oper} {w₀ : World} {ks₀ : List Kn} {K : Act → (Nat → World → Prop) → Prop}

theorem seqAll_ks : ∀ {ks : List Kn} {l : List Oper} {a : Act} {H : Nat → World → Prop} {i : Nat} (vs : Nat → Value), SeqAll P ops w₀ ks₀ K ks l a H i → ∀ j, j < l.length → (∀ m k, m < j → ks[m]? = some k → k.s (vs (i + m))) →
    ∃ k o H', ks[j]? = some k ∧ l[j]? = some o ∧ SeqVC P ops w₀ ks₀ (i + j) k o (putAll vs (l.take j) i a) H' ∧ (∀ q w, i ≤ q → q < i + j → (∀ k, ks[q - i]? = some k → k.p (vs q) w) → H' q w) ∧ (∀ q w, q < i → H q w → H' q w)
  | [], _ :: _, _, _, _, _, h, _, _, _ => h.elim
  | _, [], _, _, _, _, _, j, hj, _ => by simp at hj
  | k :: ks, o :: l, a, H, i, vs, h, 0, _, _ => ⟨k, o, H, rfl, rfl, by simpa [putAll] using h.1, fun q w h1 h2 => by omega, fun q w _ h => h⟩
  | k :: ks, o :: l, a, H, i, vs, h, j + 1, hj, hs => by
    have h0 : k.s (vs i) := by simpa using hs 0 k (by omega) rfl
    obtain ⟨k', o', H', e1, e2, e3, e4, e5⟩ := seqAll_ks vs (h.2 _ h0) j (by simp at hj; omega) (fun m k hm hk => by
      have := hs (m + 1) k (by omega) (by simpa using hk)
      rwa [show i + (m + 1) = i + 1 + m by omega] at this)
    refine ⟨k', o', H', by simpa using e1, by simpa using e2, by rw [show i + (j + 1) = i + 1 + j by omega]; simpa [putAll] using e3, fun q w h1 h2 hq => ?_, fun q w h1 hq => ?_⟩
    · by_cases hqi : q = i
      · subst hqi
        exact e5 q w (by omega) (by unfold addH; rw [if_pos rfl]; exact hq k (by simp))
      · refine e4 q w (by omega) (by omega) fun k hk => hq k ?_
        rw [show q - i = (q - (i + 1)) + 1 by omega]; simpa using hk
    · exact e5 q w (by omega) (by unfold addH; rw [if_neg (by omega)]; exact hq)

theorem seqAll_has : ∀ {ks : List Kn} {l : List Oper} {a : Act} {H : Nat → World → Prop} {i : Nat}, SeqAll P ops w₀ ks₀ K ks l a H i → ∀ j, j < l.length → ∃ k v, ks[j]? = some k ∧ k.s v
  | [], _ :: _, _, _, _, h, _, _ => h.elim
  | _, [], _, _, _, _, j, hj => by simp at hj
  | k :: ks, o :: l, a, H, i, h, 0, _ => let ⟨⟨v, hv⟩, _⟩ := h.1; ⟨k, v, rfl, hv⟩
  | k :: ks, o :: l, a, H, i, h, j + 1, hj => by
    obtain ⟨⟨v, hv⟩, _⟩ := h.1
    obtain ⟨k', v', e⟩ := seqAll_has (h.2 v hv) j (by simp at hj; omega)
    exact ⟨k', v', by simpa using e⟩

theorem seqAll_end {w : World} : ∀ {kk ks : List Kn} {l : List Oper} {a : Act} {H : Nat → World → Prop} {i : Nat}, SeqAll P ops w₀ ks₀ K ks l a H i → (∀ j, ks[j]? = kk[i + j]?) → (∀ j, j < i → H j w) →
    EndAll (knΦ kk) w (fun a => ∃ H, (∀ j, j < i + l.length → H j w) ∧ K a H) l i a
  | _, _, [], a, H, i, h, _, hH => ⟨H, by simpa using hH, by cases ‹List Kn› <;> exact h⟩
  | _, [], _ :: _, _, _, _, h, _, _ => h.elim
  | kk, k :: ks, o :: l, a, H, i, h, hk, hH => fun v hv => by
    have h0 := hv k (by rw [← Nat.add_zero i, ← hk 0]; rfl)
    have := seqAll_end (kk := kk) (w := w) (h.2 v h0.1) (fun j => by rw [show i + 1 + j = i + (j + 1) by omega, ← hk (j + 1)]; simp) (fun j hj => by
      unfold addH
      by_cases hji : j = i
      · rw [if_pos hji]; exact h0.2
      · rw [if_neg hji]; exact hH j (by omega))
    rw [List.length_cons, show i + (l.length + 1) = i + 1 + l.length by omega]
    exact this

theorem seqAll_free {n : Nat} {a₀ : Act} {ks : List Kn} (hB : freeB ops n a₀.tmps.size = true) (hR : readsB ops n = true) (_hlk : ks.length = n) (h : SeqAll P ops w₀ ks K ks (ops.toList.take n) a₀ (fun _ _ => True) 0) :
    GenAll P ops (knΦ ks) (fun _ w => Below w₀.heap.size w₀ w) a₀ (ops.toList.take n) 0 := by
  simp only [freeB, Bool.and_eq_true, Bool.or_eq_true, beq_iff_eq, decide_eq_true_eq] at hB
  obtain ⟨⟨⟨⟨⟨hn, hback⟩, hdist⟩, hin⟩, -⟩, -⟩ := hB
  have hlen : (ops.toList.take n).length = n := by simp; omega
  have key : ∀ i o, (ops.toList.take n)[i]? = some o → GenVC P ops (knΦ ks) (fun _ w => Below w₀.heap.size w₀ w) a₀ i o := by
    intro i o ho
    have hi : i < n := by have := (List.getElem?_eq_some_iff.1 ho).1; omega
    have hoi : ops[i]? = some o := by rw [List.getElem?_take, if_pos hi] at ho; simpa using ho
    intro a w L _ hb hp ht
    classical
    obtain ⟨vs, hvs⟩ : ∃ vs : Nat → Value, ∀ j, j < n → ((∃ v, knΦ ks j v w ∧ ∀ oj d, ops[j]? = some oj → oj.dst = some d → a.tmps[d]? = some v) → knΦ ks j (vs j) w ∧ ∀ oj d, ops[j]? = some oj → oj.dst = some d → a.tmps[d]? = some (vs j)) ∧ ∀ k, ks[j]? = some k → k.s (vs j) := by
      refine ⟨fun j => if hj : ∃ v, knΦ ks j v w ∧ ∀ oj d, ops[j]? = some oj → oj.dst = some d → a.tmps[d]? = some v then Classical.choose hj else if hj2 : ∃ v, ∃ k, ks[j]? = some k ∧ k.s v then Classical.choose hj2 else undef, fun j hj => ?_⟩
      by_cases hj1 : ∃ v, knΦ ks j v w ∧ ∀ oj d, ops[j]? = some oj → oj.dst = some d → a.tmps[d]? = some v
      · simp only [dif_pos hj1]
        have hc := Classical.choose_spec hj1
        exact ⟨fun _ => hc, fun k hk => (hc.1 k hk).1⟩
      · simp only [dif_neg hj1]
        refine ⟨fun hx => (hj1 hx).elim, fun k hk => ?_⟩
        obtain ⟨k', v', hk', hv'⟩ := seqAll_has h j (by omega)
        have hj2 : ∃ v, ∃ k, ks[j]? = some k ∧ k.s v := ⟨v', k', hk', hv'⟩
        rw [dif_pos hj2]
        obtain ⟨k2, hk2, hs2⟩ := Classical.choose_spec hj2
        rw [hk] at hk2
        cases hk2
        exact hs2
    obtain ⟨k, o', H', e1, e2, ⟨_, hop⟩, e4, -⟩ := seqAll_ks vs h i (by omega) (fun m k hm hk => by rw [Nat.zero_add]; exact (hvs m (by omega)).2 k hk)
    rw [ho] at e2
    cases e2
    have hlt : ∀ e ∈ o.after.toList, Region.binds .any e = true → e.on < i := fun e he hbe => by
      have h1 := List.all_eq_true.1 hback (o, i) (List.mem_iff_getElem?.2 ⟨i, by simp only [List.getElem?_zipIdx, Array.getElem?_toList, hoi, Option.map_some, Nat.zero_add]⟩)
      have h2 := List.all_eq_true.1 h1 e (by simpa using he)
      simpa [hbe] using h2
    have hdep : ∀ e ∈ o.after.toList, Region.binds .any e = true → knΦ ks e.on (vs e.on) w ∧ ∀ oj d, ops[e.on]? = some oj → oj.dst = some d → a.tmps[d]? = some (vs e.on) := fun e he hbe => by
      obtain ⟨oj, v, h1, _, h2, h3⟩ := hp e he hbe
      refine (hvs e.on (by have := hlt e he hbe; omega)).1 ⟨v, h2, fun oj' d hoj hd => ?_⟩
      rw [h1] at hoj
      cases hoj
      exact h3 d hd
    have hop := hop w hb (fun e he hbe => e4 e.on w (Nat.zero_le _) (by have := hlt e he hbe; omega) fun k hk => ((hdep e he hbe).1 k (by simpa using hk)).2)
    have hread : ((match o.op with | .select _ _ => false | _ => true) = true) ∧ ∀ t ∈ o.looksAt ops, (∃ e ∈ o.after.toList, Region.binds .any e = true ∧ (ops[e.on]?).bind (·.dst) = some t) ∨
        (ops.toList.all fun oj => oj.dst != some t || oj.after.toList.any fun e => Region.binds .any e && e.on == i) = true := by
      have h1 := List.all_eq_true.1 hR (o, i) (List.mem_iff_getElem?.2 ⟨i, by rw [List.getElem?_zipIdx, ho]; simp⟩)
      simp only [Bool.and_eq_true] at h1
      refine ⟨h1.1, fun t ht => ?_⟩
      have h2 := List.all_eq_true.1 h1.2 t ht
      simp only [Bool.or_eq_true] at h2
      rcases h2 with h2 | h2
      · left
        obtain ⟨e, he, h3⟩ := List.any_eq_true.1 h2
        simp only [Bool.and_eq_true, beq_iff_eq] at h3
        exact ⟨e, he, h3.1, h3.2⟩
      · exact .inr h2
    have hsel : ∀ cs b, o.op ≠ .select cs b := fun cs b hc => by have := hread.1; rw [hc] at this; cases this
    have hsz : ∀ d oj j, ops[j]? = some oj → j < n → oj.dst = some d → d < a₀.tmps.size := fun d oj j hj hjn hd => by
      have hmem : oj ∈ ops.toList.take n := List.mem_of_getElem? (i := j) (by rw [List.getElem?_take, if_pos hjn]; simpa using hj)
      have := List.all_eq_true.1 hin oj hmem
      rw [hd] at this
      simpa using this
    have hdval : ∀ e ∈ o.after.toList, Region.binds .any e = true → ∀ oj d, ops[e.on]? = some oj → oj.dst = some d → (putAll vs ((ops.toList.take n).take i) 0 a₀).tmps[d]? = some (vs e.on) := by
      intro e he hbe oj t hoj hdj
      have hei := hlt e he hbe
      have hd2 : distB ((ops.toList.take n).take i) = true := by
        have : ∀ (l : List Oper) (m : Nat), distB l = true → distB (l.take m) = true := by
          intro l
          induction l with
          | nil => intro m _; simp [distB]
          | cons x l ih =>
            intro m hx
            cases m with
            | zero => rfl
            | succ m =>
              simp only [distB, Bool.and_eq_true, List.take_succ_cons] at hx ⊢
              refine ⟨?_, ih m hx.2⟩
              cases hxd : x.dst with
              | none => rfl
              | some d =>
                have h1 := hx.1
                rw [hxd] at h1
                exact List.all_eq_true.2 fun y hy => List.all_eq_true.1 h1 y (List.mem_of_mem_take hy)
        exact this _ _ hdist
      have := putAll_some vs t ((ops.toList.take n).take i) 0 a₀ e.on oj hd2 (by rw [List.getElem?_take, if_pos hei, List.getElem?_take, if_pos (by omega)]; simpa using hoj) hdj (hsz t oj e.on hoj (by omega) hdj)
      rw [this, Nat.zero_add]
    have heq : ∀ t ∈ o.looksAt ops, a.tmps[t]? = (putAll vs ((ops.toList.take n).take i) 0 a₀).tmps[t]? := by
      intro t hmem
      rcases hread.2 t hmem with ⟨e, he, hbe, hd⟩ | hall
      · obtain ⟨oj, hoj, hdj⟩ := Option.bind_eq_some_iff.1 hd
        rw [(hdep e he hbe).2 oj t hoj hdj, hdval e he hbe oj t hoj hdj]
      · rw [ht t hall, putAll_none]
        intro oj hoj hd
        obtain ⟨j, hj⟩ := List.getElem?_of_mem hoj
        rw [List.getElem?_take] at hj
        split at hj
        · rename_i hji
          rw [List.getElem?_take, if_pos (by omega)] at hj
          have hj' : ops[j]? = some oj := by simpa using hj
          have h1 := List.all_eq_true.1 hall oj (by simpa using Array.mem_of_getElem? hj')
          simp only [Bool.or_eq_true, List.any_eq_true, Bool.and_eq_true, beq_iff_eq, bne_iff_ne, ne_eq] at h1
          rcases h1 with h1 | ⟨e, he, hbe, hei⟩
          · exact h1 hd
          · have h2 := List.all_eq_true.1 hback (oj, j) (List.mem_iff_getElem?.2 ⟨j, by simp only [List.getElem?_zipIdx, Array.getElem?_toList, hj', Option.map_some, Nat.zero_add]⟩)
            have h3 := List.all_eq_true.1 h2 e (by simpa using he)
            simp only [hbe, Bool.not_true, Bool.false_or, decide_eq_true_eq] at h3
            omega
        · cases hj
    have hev : execOp a.eval o = execOp (putAll vs ((ops.toList.take n).take i) 0 a₀).eval o := execOp_congr o hsel fun x hx => by
      cases x with
      | tmp t =>
        have := heq t (List.mem_append_left _ (List.mem_filterMap.2 ⟨.tmp t, by simpa using hx, rfl⟩))
        simp only [Act.eval, Array.getD_eq_getD_getElem?, this]
      | const v => rfl
      | global g => rfl
      | func f => rfl
    have hgd : Region.wanted o (yielded ops a.tmps) = guardOn ops o (putAll vs ((ops.toList.take n).take i) 0 a₀) := by
      unfold guardOn Region.wanted
      cases hg : o.guard with
      | none => rfl
      | some jb =>
        obtain ⟨j, b⟩ := jb
        have : yielded ops a.tmps j = yielded ops (putAll vs ((ops.toList.take n).take i) 0 a₀).tmps j := by
          unfold yielded
          cases hd : (ops[j]?).bind (·.dst) with
          | none => rfl
          | some t =>
            simp only [Option.bind_some]
            rw [heq t (List.mem_append_right _ (by rw [hg]; simp [hd]))]
        simp only [this]
    rw [hgd]
    have hok : ∀ R, opOK P o (putAll vs ((ops.toList.take n).take i) 0 a₀) w R → opOK P o a w R := fun R hR => by
      unfold opOK at *
      rw [hev]; exact hR
    split at hop
    · rename_i hg
      rw [if_pos hg]
      refine hok _ (opOK_mono hop fun v w' ⟨h1, hpr, h2, h3⟩ => ⟨hb.trans h1, fun j hj _ u hu hut kj hkj => ?_, fun k' hk' => ?_⟩)
      · have := hu kj hkj
        refine ⟨this.1, hpr j kj hkj (by omega) u this.1 (fun ⟨e, he, hbe, hej⟩ oj d hoj hd => ?_) this.2⟩
        subst hej
        have h1 := (hdep e he hbe).2 oj d hoj hd
        rw [hut oj d hoj hd] at h1
        rw [hdval e he hbe oj d hoj hd, h1]
      · rw [e1] at hk'
        cases hk'
        exact ⟨h2, h3⟩
    · rename_i hg
      rw [if_neg hg]
      refine ⟨hb, fun k' hk' => ?_⟩
      rw [e1] at hk'
      cases hk'
      exact hop
  have all : ∀ (l : List Oper) (i : Nat), (∀ j o, l[j]? = some o → GenVC P ops (knΦ ks) (fun _ w => Below w₀.heap.size w₀ w) a₀ (i + j) o) → GenAll P ops (knΦ ks) (fun _ w => Below w₀.heap.size w₀ w) a₀ l i := by
    intro l
    induction l with
    | nil => intro i _; trivial
    | cons o l ih =>
      intro i hl
      refine ⟨by simpa using hl 0 o rfl, ih (i + 1) fun j o' hj => ?_⟩
      have := hl (j + 1) o' (by simpa using hj)
      rwa [show i + (j + 1) = i + 1 + j by omega] at this
  exact all _ 0 fun j o ho => by rw [Nat.zero_add]; exact key j o ho
end

def seqK (w : World) (K : Act → World → Prop) (n : Nat) : Act → (Nat → World → Prop) → Prop := fun a H => ∀ w', Below w.heap.size w w' → (∀ j, j < n → H j w') → K a w'

section
variable {P : Program} {id : Nat} {l : List Oper} {a : Act} {w : World} {Q : Exit → Act → World → Prop} {ks : List Kn}
theorem genAll_drew {ops : Array Oper} {Φ : Nat → Value → World → Prop} {a₀ : Act} : ∀ {l : List Oper} {i : Nat}, GenAll P ops Φ (fun _ w' => Below w.heap.size w w') a₀ l i → GenAll P ops Φ (fun _ w' => Below w.drew.heap.size w.drew w') a₀ l i
  | [], _, _ => trivial
  | _ :: _, _, h => ⟨fun a w1 L hL hb hp ht => by
      have := h.1 a w1 L hL ⟨hb.os, hb.tape, hb.output, hb.size, hb.block⟩ hp ht
      split at this
      · rename_i hw
        rw [if_pos hw]
        exact opOK_mono this fun v w' ⟨h1, h2⟩ => ⟨⟨h1.os, h1.tape, h1.output, h1.size, h1.block⟩, h2⟩
      · rename_i hw
        rw [if_neg hw]
        exact ⟨hb, this.2⟩, genAll_drew h.2⟩
theorem seq_parts (n : Nat) (hlk : ks.length = n) (hB : freeB l.toArray n a.tmps.size = true) (hR : readsB l.toArray n = true) {K : Act → World → Prop} (h : SeqAll P l.toArray w ks (seqK w K n) ks (l.take n) a (fun _ _ => True) 0) :
    GenAll P l.toArray (knΦ ks) (fun _ w' => Below w.drew.heap.size w.drew w') a (l.take n) 0 ∧ ∀ w', Below w.heap.size w w' → EndAll (knΦ ks) w' (fun a => K a w') (l.take n) 0 a := by
  have hn : n ≤ l.length := by simp only [freeB, Bool.and_eq_true, decide_eq_true_eq] at hB; simpa using hB.1.1.1.1.1
  have hlen : (l.take n).length = n := by simp; omega
  refine ⟨genAll_drew (seqAll_free (ops := l.toArray) hB hR hlk h), fun w' hb => ?_⟩
  have := seqAll_end (w := w') (kk := ks) h (fun j => by simp) (fun j hj => by omega)
  rw [hlen] at this
  have mono : ∀ (l : List Oper) (i : Nat) (a : Act) (X Y : Act → Prop), (∀ a, X a → Y a) → EndAll (knΦ ks) w' X l i a → EndAll (knΦ ks) w' Y l i a := by
    intro l
    induction l with
    | nil => intro i a X Y hXY hx; exact hXY _ hx
    | cons o l ih => intro i a X Y hXY hx v hv; exact ih _ _ _ _ hXY (hx v hv)
  exact mono _ _ _ _ _ (fun a ⟨H, hH, hK⟩ => hK w' hb (by simpa using hH)) this

theorem wp_region_seq (n : Nat) (ks : List Kn) (hlk : ks.length = n) (hmix : P.follows .mixedOrders = true) (hB : freeB l.toArray n a.tmps.size = true) (hR : readsB l.toArray n = true)
    (h : SeqAll P l.toArray w ks (seqK w (fun a w' => wpList P l.toArray Q (l.drop n) a w') n) ks (l.take n) a (fun _ _ => True) 0) : (Code.region id l.toArray true).wp P Q a w :=
  have ⟨h1, h2⟩ := seq_parts n hlk hB hR h
  wp_region_gen n (knΦ ks) (fun _ w' => Below w.drew.heap.size w.drew w') hmix hB (Below.refl _ _) h1 fun w' hb => h2 w' ⟨hb.os, hb.tape, hb.output, hb.size, hb.block⟩

end

section
variable {P : Program} {ops : Array Oper} {w₀ : World} {ks₀ : List Kn} {K : Act → (Nat → World → Prop) → Prop} {ks : List Kn} {o : Oper} {l : List Oper} {a : Act} {H : Nat → World → Prop} {i : Nat}
theorem seq_is {c : Value} (hg : o.guard = none) (h : ∀ w, Below w₀.heap.size w₀ w → (∀ e ∈ o.after.toList, Region.binds .any e = true → H e.on w) → opOK P o a w (fun v w' => v = c ∧ Below w.heap.size w w'))
    (hr : SeqAll P ops w₀ ks₀ K ks l (a.put o.dst c) (addH H i (fun _ => True)) (i + 1)) : SeqAll P ops w₀ ks₀ K (.is c :: ks) (o :: l) a H i := by
  refine ⟨⟨⟨c, rfl⟩, fun w hb hd => ?_⟩, fun v hv => by cases hv; exact hr⟩
  rw [if_pos (by simp [guardOn, Region.wanted, hg])]
  exact opOK_mono (h w hb hd) fun v w' ⟨h1, h2⟩ => ⟨h2.mono hb.size, pres_below h2, h1, trivial⟩
theorem seq_on {c : Value} (hg : guardOn ops o a = true) (h : ∀ w, Below w₀.heap.size w₀ w → (∀ e ∈ o.after.toList, Region.binds .any e = true → H e.on w) → opOK P o a w (fun v w' => v = c ∧ Below w.heap.size w w'))
    (hr : SeqAll P ops w₀ ks₀ K ks l (a.put o.dst c) (addH H i (fun _ => True)) (i + 1)) : SeqAll P ops w₀ ks₀ K (.is c :: ks) (o :: l) a H i := by
  refine ⟨⟨⟨c, rfl⟩, fun w hb hd => ?_⟩, fun v hv => by cases hv; exact hr⟩
  rw [if_pos hg]
  exact opOK_mono (h w hb hd) fun v w' ⟨h1, h2⟩ => ⟨h2.mono hb.size, pres_below h2, h1, trivial⟩
theorem seq_off (hg : guardOn ops o a = false) (hr : SeqAll P ops w₀ ks₀ K ks l (a.put o.dst undef) (addH H i (fun _ => True)) (i + 1)) : SeqAll P ops w₀ ks₀ K (.is undef :: ks) (o :: l) a H i := by
  refine ⟨⟨⟨undef, rfl⟩, fun w hb hd => ?_⟩, fun v hv => by cases hv; exact hr⟩
  rw [if_neg (by simp [hg])]
  exact ⟨rfl, trivial⟩
theorem seq_new {k : Kn} (hs : ∃ v, k.s v) (hg : guardOn ops o a = true)
    (h : ∀ w, Below w₀.heap.size w₀ w → (∀ e ∈ o.after.toList, Region.binds .any e = true → H e.on w) → opOK P o a w (fun v w' => Below w.heap.size w w' ∧ k.s v ∧ k.p v w'))
    (hr : ∀ v, k.s v → SeqAll P ops w₀ ks₀ K ks l (a.put o.dst v) (addH H i (k.p v)) (i + 1)) : SeqAll P ops w₀ ks₀ K (k :: ks) (o :: l) a H i := by
  refine ⟨⟨hs, fun w hb hd => ?_⟩, hr⟩
  rw [if_pos hg]
  exact opOK_mono (h w hb hd) fun v w' ⟨h1, h2⟩ => ⟨h1.mono hb.size, pres_below h1, h2⟩
theorem seq_end (h : K a H) : SeqAll P ops w₀ ks₀ K ks [] a H i := by cases ks <;> exact h
end
end Go.Oche

/- What every seat's texts begin with. -/
namespace Go.Proofs.YtpfpjbglpibdoaaGreatDoor
open Go.RowKit Go.Oche Go.Proofs
theorem mix : Tryz.prog.follows .mixedOrders = true := by kernel_rfl
theorem ret_int {k : IntKind} {a b : Int} (h : a = b) : Ending.returned (.int k a) = .returned (.int k b) := by rw [h]
theorem ret_bool {a b : Bool} (h : a = b) : Ending.returned (.bool a) = .returned (.bool b) := by rw [h]
theorem wrap_small (x : Int) (h1 : -9223372036854775808 ≤ x) (h2 : x ≤ 9223372036854775807) : IntKind.i64.wrap x = x := IntWalk.i64_in _ ⟨h1, h2⟩
theorem bThen {w w1 w2 : World} (h : Below w.heap.size w w1) (h' : Below w1.heap.size w1 w2) : Below w.heap.size w w2 := h.trans (h'.mono h.size)
def isIn (n lo hi : Int) : Bool := decide (lo ≤ n) && decide (n ≤ hi)
end Go.Proofs.YtpfpjbglpibdoaaGreatDoor

/- What a law's arguments read as: slices of elements of k cells, slices of slices, rows of numbers. -/
namespace Go.Proofs.YtpfpjbglpibdoaaGreatDoor
open Go.RowKit Go.Oche Go.Proofs Go.ChangeShapes Go.WideShapes Go.ChangeAt

theorem own : ownKnob Tryz.prog.godebug = none := by kernel_rfl
theorem sized : sizedB Tryz.prog = true := by kernel_rfl
def I64' (n : Int) : Prop := -9223372036854775808 ≤ n ∧ n ≤ 9223372036854775807
theorem wf_i64 {n : Int} (h : (Lit.int .i64 n).wf = true) : I64' n := by
  have := h
  simp [Lit.wf, IntKind.min, IntKind.max, IntKind.signed, IntKind.bits] at this
  exact this
theorem list_two {α : Type} {cs : List α} (h : cs.length = 2) : ∃ a b, cs = [a, b] := by
  cases cs with
  | nil => simp at h
  | cons a cs =>
    cases cs with
    | nil => simp at h
    | cons b cs =>
      cases cs with
      | nil => exact ⟨a, b, rfl⟩
      | cons c cs => simp at h
theorem list_three {α : Type} {cs : List α} (h : cs.length = 3) : ∃ a b c, cs = [a, b, c] := by
  cases cs with
  | nil => simp at h
  | cons a cs =>
    obtain ⟨b, c, rfl⟩ := list_two (cs := cs) (by simpa using h)
    exact ⟨a, b, c, rfl⟩
theorem choose_rows {β : Type} {R : Nat → β → Prop} : ∀ n, (∀ i, i < n → ∃ b, R i b) → ∃ xs : List β, xs.length = n ∧ ∀ i b, xs[i]? = some b → R i b
  | 0, _ => ⟨[], rfl, fun i b h => by simp at h⟩
  | n + 1, h => by
    obtain ⟨xs, h1, h2⟩ := choose_rows n fun i hi => h i (by omega)
    obtain ⟨b, hb⟩ := h n (by omega)
    refine ⟨xs ++ [b], by simp [h1], fun i b' hi => ?_⟩
    by_cases hin : i < xs.length
    · rw [List.getElem?_append_left hin] at hi
      exact h2 i b' hi
    · have hlt := (List.getElem?_eq_some_iff.1 hi).1
      simp at hlt
      obtain rfl : i = xs.length := by omega
      simp at hi
      subst hi
      rw [h1]; exact hb
section
variable {H : Type} {enc : TypeId × Value → H} {W : World} {base : Nat} {spare : Nat → Bool} {held : Bool}
theorem open_rowsN {β : Type} (row : β → List Value) (k : Nat) (Q : β → Prop) {t e : TypeId} (ht : Tryz.prog.underlying t = some (.slice e)) (hce : Tryz.prog.cellsOf e = k) (hk : 0 < k)
    (hone : ∀ n cs (y : DataW H × List MemPlace), DataW.trod enc Tryz.prog W base spare held n e cs = some y → ∃ b, cs = row b ∧ Q b) (hrow : ∀ b, (row b).length = k) {n : Nat} {v : Value} {x : DataW H × List MemPlace} (h : DataW.trod enc Tryz.prog W base spare held n t [v] = some x) :
    ∃ xs : List β, SlN k (fun _ => True) W v (xs.map row) ∧ ∀ b ∈ xs, Q b := by
  rcases DataW.trod_slice ht h with ⟨hcs, _⟩ | ⟨a, len, cap, elems, rest, m, _, hcs, _, _, hl, hm, hlen, hel, _, _⟩
  · simp only [List.cons.injEq, and_true] at hcs
    subst hcs
    exact ⟨[], SlN.nil _ _ _, by simp⟩
  · simp only [List.cons.injEq, and_true] at hcs
    subst hcs
    have hall : ∀ i, i < len → ∃ b, (∀ j x, (row b)[j]? = some x → W.cell? ((a.add (i * k)).add j) = some x) ∧ Q b := fun i hi => by
      have hy := hel i hi
      rw [List.getElem?_eq_getElem (by omega), hce, Option.bind_eq_some_iff] at hy
      obtain ⟨cs, hcs, hy⟩ := hy
      obtain ⟨b, rfl, hb⟩ := hone _ _ _ hy
      have := (World.cells?_some hcs)
      refine ⟨b, fun j x hx => ?_, hb⟩
      have hj : j < k := by rw [← hrow b]; exact (List.getElem?_eq_some_iff.1 hx).1
      rw [this.2.2 j hj]; exact hx
    obtain ⟨xs, h1, h2⟩ := choose_rows len hall
    refine ⟨xs, ⟨some a, cap, by rw [List.length_map, h1], by rw [List.length_map, h1]; exact hl, hm, fun i r hr => ?_⟩, fun b hb => ?_⟩
    · rw [List.getElem?_map, Option.map_eq_some_iff] at hr
      obtain ⟨b, hb, rfl⟩ := hr
      have hi : i < len := by rw [← h1]; exact (List.getElem?_eq_some_iff.1 hb).1
      have h0 : 0 < xs.length := by omega
      have hsp : a.spot = none := by
        have hr0 := hrow xs[0]
        have := (h2 0 xs[0] (List.getElem?_eq_getElem h0)).1 0 (row xs[0])[0] (List.getElem?_eq_getElem (by omega))
        rw [Nat.zero_mul] at this
        obtain ⟨b, o, s⟩ := a
        cases s with
        | none => rfl
        | some s =>
          simp [Addr.add, World.cell?] at this
          split at this <;> cases this
      obtain ⟨b', o, sp⟩ := a
      simp only at hsp
      subst hsp
      refine ⟨hrow b, b', o, rfl, trivial, fun j x hx => ?_⟩
      have := (h2 i b hb).1 j x hx
      rw [addr_at, addr_at] at this
      exact this
    · obtain ⟨i, hi⟩ := List.getElem?_of_mem hb
      exact (h2 i b hi).2
theorem open_i64c {n : Nat} {v : Value} {y : DataW H × List MemPlace} (h : DataW.trod enc Tryz.prog W base spare held n 3 [v] = some y) : ∃ z, v = .int .i64 z ∧ I64' z := by
  obtain ⟨z, hz, _, hw⟩ := DataW.trod_int Tryz.underlying3 h
  simp only [List.cons.injEq, and_true] at hz
  exact ⟨z, hz, wf_i64 hw⟩
theorem open_cellsT {t : TypeId} {v : Value} {d : DataW H} {p : List MemPlace} (h : DataW.Trod enc Tryz.prog W base spare held t v d p) (hv : v.cells = #[v]) : ∃ n y, DataW.trod enc Tryz.prog W base spare held n t [v] = some y := by
  obtain ⟨n, h⟩ := h
  rw [hv] at h
  exact ⟨n, _, h⟩
theorem open_struct3 {t : TypeId} {f0 f1 f2 : Field} (ht : Tryz.prog.underlying t = some (.struct #[f0, f1, f2])) (hc : Tryz.prog.cellsOf t = 3) (e0 : f0.type = 3 ∧ f0.offset = 0) (e1 : f1.type = 3 ∧ f1.offset = 1) (e2 : f2.type = 3 ∧ f2.offset = 2)
    {n : Nat} {cs : List Value} {y : DataW H × List MemPlace} (h : DataW.trod enc Tryz.prog W base spare held n t cs = some y) : ∃ b : Int × Int × Int, cs = [.int .i64 b.1, .int .i64 b.2.1, .int .i64 b.2.2] ∧ I64' b.1 ∧ I64' b.2.1 ∧ I64' b.2.2 := by
  obtain ⟨y0, y1, y2, m, _, hl, h0, h1, h2⟩ := Go.Deep.trod_struct3 ht h
  rw [hc] at hl
  have c3 : Tryz.prog.cellsOf 3 = 1 := by kernel_rfl
  obtain ⟨c0, c1, c2, rfl⟩ := list_three hl
  rw [e0.1, e0.2, c3] at h0
  rw [e1.1, e1.2, c3] at h1
  rw [e2.1, e2.2, c3] at h2
  obtain ⟨a, ha', ha⟩ := open_i64c (v := c0) h0
  obtain ⟨b, hb', hb⟩ := open_i64c (v := c1) h1
  obtain ⟨c, hc', hc⟩ := open_i64c (v := c2) h2
  subst ha' hb' hc'
  exact ⟨(a, b, c), rfl, ha, hb, hc⟩
end
end Go.Proofs.YtpfpjbglpibdoaaGreatDoor

/- What a law's arguments read as: arrays of numbers, slices of them. -/
namespace Go.Proofs.YtpfpjbglpibdoaaGreatDoor
open Go.RowKit Go.Oche Go.Proofs Go.ChangeShapes Go.WideShapes Go.ChangeAt
def row2 (kd : IntKind) (x : Int × Int) : List Value := [.int kd x.1, .int kd x.2]
def row3 (kd : IntKind) (x : Int × Int × Int) : List Value := [.int kd x.1, .int kd x.2.1, .int kd x.2.2]
def row4 (kd : IntKind) (x : Int × Int × Int × Int) : List Value := [.int kd x.1, .int kd x.2.1, .int kd x.2.2.1, .int kd x.2.2.2]
section
variable {H : Type} {enc : TypeId × Value → H} {W : World} {base : Nat} {spare : Nat → Bool} {held : Bool}
set_option maxRecDepth 100000 in
theorem open_nums {kd : IntKind} {t e : TypeId} (ht : Tryz.prog.underlying t = some (.slice e)) (he : Tryz.prog.underlying e = some (.int kd)) (hce : Tryz.prog.cellsOf e = 1) {n : Nat} {v : Value} {x : DataW H × List MemPlace} (h : DataW.trod enc Tryz.prog W base spare held n t [v] = some x) :
    ∃ xs : List Int, Sl (fun _ => True) W v (xs.map (Value.int kd)) ∧ ∀ b ∈ xs, (Lit.int kd b).wf = true := by
  obtain ⟨xs, h1, h2⟩ := open_rowsN (fun z : Int => [.int kd z]) 1 (fun b => (Lit.int kd b).wf = true) ht hce (by decide) (fun n cs y hy => by
    obtain ⟨z, hz, _, hw⟩ := DataW.trod_int he hy
    exact ⟨z, hz, hw⟩) (fun b => rfl) h
  refine ⟨xs, SlN.to1 ?_, h2⟩
  have e : (xs.map (Value.int kd)).map (fun x => [x]) = xs.map (fun z => [.int kd z]) := by simp
  rw [e]; exact h1
end
end Go.Proofs.YtpfpjbglpibdoaaGreatDoor

/- within(least, most, l...), as every package has it. -/
namespace Go.Proofs.YtpfpjbglpibdoaaGreatDoor
open Go.RowKit Go.Oche Go.Proofs

def outB (lo hi n : Int) : Bool := decide (n < lo) || decide (hi < n)
def idxOut (lo hi : Int) (xs : List Int) : Int := if xs.any (outB lo hi) then (xs.findIdx (outB lo hi) : Nat) else -1

theorem within1_any (n lo hi : Int) (pl ph : Addr) (w : World) (hl : w.cell? pl = some (.int .i64 lo)) (hh : w.cell? ph = some (.int .i64 hi)) :
    Calls Tryz.prog 81 #[.int .i64 n, .pointer (some pl), .pointer (some ph)] w fun e w' => e = .returned (.bool (outB lo hi n)) ∧ w = w' := by
  go_enter Tryz.func81, Tryz.ntmps81
  go_wp2
  all_goals (go_ret; refine ⟨ret_bool ?_, rfl⟩; simp [outB]; try omega)

theorem idxOut_hit {lo hi : Int} {xs : List Int} {k : Nat} (hk : k < xs.length) (hp : ∀ j, j < k → ∀ h : j < xs.length, outB lo hi xs[j] = false) (h : outB lo hi xs[k] = true) : idxOut lo hi xs = k := by
  have h1 : xs.any (outB lo hi) = true := List.any_eq_true.2 ⟨xs[k], List.getElem_mem hk, h⟩
  have h2 : xs.findIdx (outB lo hi) = k := by
    refine (List.findIdx_eq hk).2 ⟨h, fun j hj => ?_⟩
    simpa using hp j hj (by omega)
  simp [idxOut, h1, h2]
theorem idxOut_miss {lo hi : Int} {xs : List Int} (hp : ∀ j, j < xs.length → ∀ h : j < xs.length, outB lo hi xs[j] = false) : idxOut lo hi xs = -1 := by
  have h1 : xs.any (outB lo hi) = false := by
    rw [List.any_eq_false]
    intro x hx
    obtain ⟨j, hj, rfl⟩ := List.mem_iff_getElem.1 hx
    simp [hp j hj hj]
  simp [idxOut, h1]

theorem indexFunc_any {S : Nat → Prop} (lo hi : Int) (xs : List Int) (v : Value) (pl ph : Addr) (w : World) (hs : Sl S w v (ints xs)) (hl : w.cell? pl = some (.int .i64 lo)) (hh : w.cell? ph = some (.int .i64 hi)) :
    Calls Tryz.prog 103 #[v, .func (.func 81) #[] #[.pointer (some pl), .pointer (some ph)]] w fun e w' => e = .returned (.int .i64 (idxOut lo hi xs)) ∧ w = w' := by
  obtain ⟨a, cap, rfl, h2, h3, h4⟩ := hs
  simp only [ints_length] at *
  unfold maxLen at h3
  go_enter Tryz.func103, Tryz.ntmps103
  go_wp2

  go_loop [5, 8] (fun _ i => ∃ k : Nat, k ≤ xs.length ∧ i = .int .i64 k ∧ ∀ j, j < k → ∀ h : j < xs.length, outB lo hi xs[j] = false) (fun _ i => xs.length - (intOf i).toNat)
  case atStart => exact ⟨0, Nat.zero_le _, rfl, fun j hj => by omega⟩
  case round =>
    obtain ⟨k, hk, rfl, hp⟩ := hrel
    by_cases hlt : k < xs.length
    · obtain ⟨b, off, rfl, _, hc⟩ := h4 k _ (intsAt hlt)
      clear h4
      cases ho : outB lo hi xs[k]
      all_goals
        have HO := Lib.hid ho
        have HP := Lib.hid hp
        clear ho hp
        go_wp2_with (go_at_call 81; refine (within1_any xs[k] lo hi _ _ _ hl hh).mono ?_; rintro e w' ⟨rfl, rfl⟩; rw [HO.out])
      · go_round
        case rel => exact ⟨k + 1, by omega, by go_num, fun j hj h => by
          by_cases hjk : j = k
          · subst hjk; exact HO.out
          · exact HP.out j (by omega) h⟩
        case measure => simp [intOf]; omega
      · go_ret
        exact ⟨ret_int (idxOut_hit hlt HP.out HO.out).symm, rfl⟩
    · obtain rfl : k = xs.length := by omega
      have HP := Lib.hid hp
      clear hp h4
      go_wp2
      go_ret
      exact ⟨ret_int (idxOut_miss fun j hj h => HP.out j hj h).symm, rfl⟩

theorem containsFunc_any {S : Nat → Prop} (lo hi : Int) (xs : List Int) (v : Value) (pl ph : Addr) (w : World) (hs : Sl S w v (ints xs)) (hl : w.cell? pl = some (.int .i64 lo)) (hh : w.cell? ph = some (.int .i64 hi)) :
    Calls Tryz.prog 80 #[v, .func (.func 81) #[] #[.pointer (some pl), .pointer (some ph)]] w fun e w' => e = .returned (.bool (xs.any (outB lo hi))) ∧ w = w' := by
  go_enter Tryz.func80, Tryz.ntmps80
  go_wp2_with (go_at_call 103; refine (indexFunc_any lo hi xs _ _ _ _ hs hl hh).mono ?_; rintro e w' ⟨rfl, rfl⟩)
  go_ret
  refine ⟨ret_bool ?_, rfl⟩
  unfold idxOut
  cases xs.any (outB lo hi) <;> simp <;> omega

theorem within_any {S : Nat → Prop} (lo hi : Int) (xs : List Int) (v : Value) (w : World) (hs : Sl S w v (ints xs)) :
    Calls Tryz.prog 49 #[.int .i64 lo, .int .i64 hi, v] w fun e w' => e = .returned (.bool (!xs.any (outB lo hi))) ∧ Below w.heap.size w w' := by
  have hb : Below w.heap.size w ((w.alloc (.cells #[.int .i64 lo] 3)).alloc (.cells #[.int .i64 hi] 3)) := ((Below.refl _ _).alloc (Nat.le_refl _) _).alloc (by simp) _
  have hs' := hs.below hb
  have H := Lib.hid hs'
  clear hs hs'
  obtain ⟨a, cap, hv⟩ : ∃ a cap, v = .slice a xs.length cap := by obtain ⟨a, cap, h, _⟩ := H.out; exact ⟨a, cap, by simpa using h⟩
  subst hv
  go_enter Tryz.func49, Tryz.ntmps49
  go_wp2_with (go_at_call 80; refine (containsFunc_any lo hi xs _ _ _ _ H.out (by simp) (by simp)).mono ?_; rintro e w' ⟨rfl, rfl⟩)
  go_ret
  exact ⟨rfl, hb⟩

theorem out_one (lo hi n : Int) : (!([n] : List Int).any (outB lo hi)) = isIn n lo hi := by
  simp [outB, isIn]; rw [Bool.eq_iff_iff]; simp
end Go.Proofs.YtpfpjbglpibdoaaGreatDoor
