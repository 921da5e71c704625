/- The texts Range, Free, in build order. -/
import Derived.RangeFuncNested
import Derived.RangeFuncCalls
import Derived.RangeFuncLeaves
import Derived.Below
import Derived.StillTail

/- A range over a function, at the wide fence: the consumer owns a set of blocks; the iterator keeps off them, and the consumer keeps off the iterator's. -/
namespace Go.Oche
open Go Go.RowKit

structure Rel (O : Nat → Prop) (W : World) (O' : Nat → Prop) (W' : World) : Prop where
  os : W'.os = W.os
  tape : W'.tape = W.tape
  output : W'.output = W.output
  size : W.heap.size ≤ W'.heap.size
  block : ∀ k, k < W.heap.size → ¬ O k → W'.heap[k]? = W.heap[k]?
  own : ∀ k, O' k → O k ∨ W.heap.size ≤ k
  lt : ∀ k, O' k → k < W'.heap.size

theorem Rel.refl {O : Nat → Prop} {W : World} (h : ∀ k, O k → k < W.heap.size) : Rel O W O W := ⟨rfl, rfl, rfl, Nat.le_refl _, fun _ _ _ => rfl, fun _ h => .inl h, h⟩
theorem Rel.trans {O O' O'' : Nat → Prop} {W W' W'' : World} (h : Rel O W O' W') (k : Rel O' W' O'' W'') : Rel O W O'' W'' :=
  ⟨k.os.trans h.os, k.tape.trans h.tape, k.output.trans h.output, Nat.le_trans h.size k.size,
   fun i hi hn => (k.block i (Nat.lt_of_lt_of_le hi h.size) (fun ho => by rcases h.own i ho with h1 | h1; exact hn h1; omega)).trans (h.block i hi hn),
   fun i hi => by rcases k.own i hi with h1 | h1; exact h.own i h1; exact .inr (Nat.le_trans h.size h1), k.lt⟩
theorem Rel.of_below {O : Nat → Prop} {W W' : World} (h : Below W.heap.size W W') (hO : ∀ k, O k → k < W.heap.size) : Rel O W O W' :=
  ⟨h.os, h.tape, h.output, h.size, fun k hk _ => h.block k hk, fun _ h => .inl h, fun k hk => Nat.lt_of_lt_of_le (hO k hk) h.size⟩
theorem Rel.below {O O' : Nat → Prop} {W W' : World} {B : Nat} (h : Rel O W O' W') (hB : B ≤ W.heap.size) (hO : ∀ k, k < B → ¬ O k) : Below B W W' :=
  ⟨h.os, h.tape, h.output, h.size, fun k hk => h.block k (by omega) (hO k hk)⟩
theorem Rel.cell {O O' : Nat → Prop} {W W' : World} (h : Rel O W O' W') {p : Addr} {v : Value} (hv : W.cell? p = some v) (hO : ¬ O p.block) : W'.cell? p = some v :=
  (World.cell?_of_block (w := W) (h.block p.block (World.block_lt_of_cell? W p hv) hO)).trans hv

def Row (t : TypeId) (W : World) (k : Nat) : Prop := ∃ c fz, W.heap[k]? = some (.cells c t fz)
theorem Row.loop {t : TypeId} {W : World} {k : Nat} {r : Loop} (h : Row t W k) (hl : W.heap[k]? = some (.loop r)) : False := by
  obtain ⟨c, fz, h⟩ := h; rw [hl] at h; cases h
theorem Row.keep {t : TypeId} {W W' : World} {k : Nat} (h : Row t W k) (hk : W'.heap[k]? = W.heap[k]?) : Row t W' k := by obtain ⟨c, fz, h⟩ := h; exact ⟨c, fz, hk.trans h⟩
def Stab {β : Type} (t : TypeId) (N : Nat) (J : List β → (Nat → Prop) → World → Prop) : Prop :=
  ∀ pre O W W', J pre O W → W'.os = W.os → W'.tape = W.tape → W'.output = W.output → W.heap.size ≤ W'.heap.size →
    (∀ k, k < W.heap.size → (O k ∨ k < N ∨ Row t W k) → W'.heap[k]? = W.heap[k]?) → J pre O W'

structure OnlyAt (l : Nat) (W W' : World) : Prop where
  os : W'.os = W.os
  tape : W'.tape = W.tape
  output : W'.output = W.output
  size : W'.heap.size = W.heap.size
  block : ∀ k, k ≠ l → W'.heap[k]? = W.heap[k]?
  cell : ∀ p, W'.cell? p = W.cell? p
  frozen : ∀ p, W'.frozen? p = W.frozen? p

theorem OnlyAt.putObj {l : Nat} {W : World} {r r' : Loop} (h : W.heap[l]? = some (.loop r)) : OnlyAt l W (W.putObj l (.loop r')) := by
  have hlt : l < W.heap.size := (Array.getElem?_eq_some_iff.1 h).1
  have h2 : (W.putObj l (.loop r')).heap[l]? = some (.loop r') := World.putObj_heap_same hlt
  refine ⟨rfl, rfl, rfl, by simp, fun k hk => World.putObj_heap_other hk, fun p => ?_, fun p => ?_⟩
  · by_cases hp : p.block = l
    · unfold World.cell?; rw [hp, h, h2]
    · exact World.cell?_of_block (w := W) (World.putObj_heap_other hp)
  · by_cases hp : p.block = l
    · unfold World.frozen?; rw [hp, h, h2]
    · exact World.frozen?_of_block (w := W) (World.putObj_heap_other hp)

theorem OnlyAt.cells {l : Nat} {W W' : World} (h : OnlyAt l W W') {k : Nat} {o : Obj} (hl : k ≠ l) (ho : W.heap[k]? = some o) : W'.heap[k]? = some o := (h.block k hl).trans ho

def IterIn {β : Type} (t : TypeId) (P : Program) (gf : Nat) (fa lb : Array Value) (enc : β → Array Value → (Nat → Prop) → World → Prop) (L : List β) (Rs : Nat → Prop) (w : World) : Prop :=
  ∀ (l : Nat) (J Jx : List β → (Nat → Prop) → World → Prop) (O : Nat → Prop) (W : World),
    Below w.heap.size w W → (∀ k, O k → k < W.heap.size) → (∀ k, Rs k → k < w.heap.size ∧ ¬ O k) → Stab t W.heap.size J → Stab t W.heap.size Jx →
    (∀ pre b post args O₁ W₁, L = pre ++ b :: post → Rel O W O₁ W₁ → J pre O₁ W₁ → enc b args O₁ W₁ → YieldAt Fence.wide 0 P l args W₁ fun e W' =>
      ∃ O', Rel O₁ W₁ O' W' ∧ ((e = .returned (.bool true) ∧ J (pre ++ [b]) O' W') ∨ (e = .returned (.bool false) ∧ Jx (pre ++ [b]) O' W'))) →
    J [] O W →
    CallsIn Fence.wide 0 P gf (fa ++ #[.func (.yield l) #[] #[]] ++ lb) W fun e W' => (∃ v, e = .returned v) ∧
      ∃ O', Rel O W O' W' ∧ (J L O' W' ∨ ∃ pre, pre <+: L ∧ Jx pre O' W')

def rPost {β : Type} (I : List β → (Nat → Prop) → World → Prop) (Ix : Code → List β → (Nat → Prop) → World → Prop) (xs : List β) (O : Nat → Prop) (W : World) : Exit → Act → World → Prop
  | .normal, _, W' => ∃ O', Rel O W O' W' ∧ I xs O' W'
  | .ret, _, W' => ∃ O', Rel O W O' W' ∧ Ix .ret xs O' W'
  | .exit id, _, W' => ∃ O', Rel O W O' W' ∧ Ix (.exit id) xs O' W'
  | .goto t, _, W' => ∃ O', Rel O W O' W' ∧ Ix (.goto t) xs O' W'
  | .panic _, _, _ => False
  | .outgrown, _, _ => False

theorem endOne {P : Program} {l : Nat} {r : Loop} {W : World} (h : W.heap[l]? = some (.loop r)) (hb : r.state ≠ .busy) :
    ∃ W', (Instr.endLoop l).run P W = .ok r.pending W' ∧ OnlyAt l W W' := ⟨_, run_endLoop h hb, OnlyAt.putObj h⟩

theorem wpIn_range {β : Type} {t : TypeId} {P : Program} {g : Operand} {ps : Array Tmp} {assign body : Code} {Q : Exit → Act → World → Prop} {a : Act} {w : World}
    {gf : Nat} {fa lb : Array Value} (hg : a.eval g = .func (.func gf) fa lb) (eg : ∀ args w, (callFunc gf args).run P w = .ok (.enter gf args) w)
    {enc : β → Array Value → (Nat → Prop) → World → Prop} {L : List β} {Rs : Nat → Prop} (hseq : IterIn t P gf fa lb enc L Rs w)
    (I : List β → (Nat → Prop) → World → Prop) (Ix : Code → List β → (Nat → Prop) → World → Prop) (hI : Stab t w.heap.size I) (hIx : ∀ c, Stab t w.heap.size (Ix c))
    (O : Nat → Prop) (hO : ∀ k, O k → k < w.heap.size) (hRs : ∀ k, Rs k → k < w.heap.size ∧ ¬ O k) (h0 : I [] O w)
    (hps : ∀ b args O W, enc b args O W → args.size = ps.size)
    (hround : ∀ (l : Nat) pre b post args O₁ W₁, L = pre ++ b :: post → w.heap.size < l → l < W₁.heap.size → ¬ O₁ l → ¬ O₁ (l - 1) → Rel O w O₁ W₁ → I pre O₁ W₁ → enc b args (fun k => O₁ k ∨ k = l ∨ k = l - 1) W₁ →
      assign.wpIn (Fence.wide.inRound l) 0 P (Exit.then (fun a₁ W₂ => Below W₁.heap.size W₁ W₂ ∧ ∀ W₃, OnlyAt l W₂ W₃ → I pre O₁ W₃ → body.wpIn (Fence.wide.inRound l) 0 P (rPost I Ix (pre ++ [b]) O₁ W₃) a₁ W₃) (fun _ _ _ => False))
        { tmps := (ps.zip args).foldl (fun t (p, v) => t.setIfInBounds p v) a.tmps, defers := [] } W₁)
    (hdone : ∀ (D : Nat) (O₁ : Nat → Prop) (W : World), w.heap.size ≤ D → ¬ O₁ D → Rel O w O₁ W → I L O₁ W → W.heap[D]? = some (.deferred (some [])) → Q .normal { a with defers := { target := .collected D, args := #[] } :: a.defers } W)
    (hstop : ∀ (D : Nat) (c : Code) (pre : List β) (O₁ : Nat → Prop) (W : World), w.heap.size ≤ D → ¬ O₁ D → pre <+: L → Rel O w O₁ W → Ix c pre O₁ W → W.heap[D]? = some (.deferred (some [])) → c.wpIn Fence.wide 0 P Q { a with defers := { target := .collected D, args := #[] } :: a.defers } W) :
    (Code.rangeFunc g ps assign body).wpIn Fence.wide 0 P Q a w := by
  refine wpIn_rangeFunc ?_
  intro fn hfn
  obtain ⟨rec, hrec⟩ : ∃ rec : LoopState → Option Code → Loop, rec = fun st pe => { state := st, pending := pe, fn, tmps := a.tmps, params := ps, assign, body, defers := w.heap.size } := ⟨_, rfl⟩
  obtain ⟨W1, hW1⟩ : ∃ W1, (w.alloc (.deferred (some []))).alloc (.loop (rec .ready none)) = W1 := ⟨_, rfl⟩
  have hsz : W1.heap.size = w.heap.size + 2 := by rw [← hW1]; simp
  have hb1 : Below w.heap.size w W1 := by rw [← hW1]; exact ((Below.refl _ w).alloc (Nat.le_refl _) _).alloc (by simp) _
  have hL1 : W1.heap[w.heap.size + 1]? = some (.loop (rec .ready none)) := by
    rw [← hW1]; have := World.alloc_heap_new (w.alloc (.deferred (some []))) (.loop (rec .ready none)); simpa using this
  have hK1 : W1.heap[w.heap.size]? = some (.deferred (some [])) := by
    rw [← hW1]; exact (Below.heap_alloc _ _ _ (by simp)).trans (World.alloc_heap_new w _)
  refine ⟨w.heap.size + 1, [{ target := .collected w.heap.size, args := #[] }], W1, { target := .fn (.func gf) lb, args := fa ++ #[.func (.yield (w.heap.size + 1)) #[] #[]] }, W1, gf,
    fa ++ #[.func (.yield (w.heap.size + 1)) #[] #[]] ++ lb, W1, ?_, ?_, fun _ _ => trivial, ?_, fun h => by simp [Fence.wide] at h, ?_⟩
  · rw [← hW1, hrec]; exact run_enterLoop_outer _ _ _ _ _
  · simp only [resolve, hg]
    simp [go_sem]
  · simp [invoke, go_sem, eg]
  · obtain ⟨l, hl⟩ : ∃ l, l = w.heap.size + 1 := ⟨_, rfl⟩
    have hlD : l - 1 = w.heap.size := by omega
    have J0 : ∀ (st : LoopState) (pe : Option Code) (X : List β → (Nat → Prop) → World → Prop), Stab t w.heap.size X →
        Stab t W1.heap.size (fun pre O₂ W => ∃ Ou, (∀ k, O₂ k ↔ Ou k ∨ k = l ∨ k = w.heap.size) ∧ ¬ Ou l ∧ ¬ Ou w.heap.size ∧ Rel O w Ou W ∧ X pre Ou W ∧ W.heap[l]? = some (.loop (rec st pe)) ∧ W.heap[w.heap.size]? = some (.deferred (some []))) := by
      intro st pe X hX pre O₂ W W' ⟨Ou, hiff, hnl, hnD, hr, hx, hll, hDD⟩ e1 e2 e3 e4 e5
      have hlt : l < W.heap.size := (Array.getElem?_eq_some_iff.1 hll).1
      refine ⟨Ou, hiff, hnl, hnD, ⟨e1.trans hr.os, e2.trans hr.tape, e3.trans hr.output, Nat.le_trans hr.size e4, fun k hk hn => ?_, hr.own, fun k hk => Nat.lt_of_lt_of_le (hr.lt k hk) e4⟩, ?_, ?_, ?_⟩
      · exact (e5 k (Nat.lt_of_lt_of_le hk hr.size) (.inr (.inl (by omega)))).trans (hr.block k hk hn)
      · exact hX pre Ou W W' hx e1 e2 e3 e4 fun k hk h => e5 k hk (by rcases h with h | h | h; exact .inl ((hiff k).2 (.inl h)); exact .inr (.inl (by omega)); exact .inr (.inr h))
      · exact (e5 l hlt (.inr (.inl (by omega)))).trans hll
      · exact (e5 _ (by omega) (.inr (.inl (by omega)))).trans hDD
    have H := hseq l
      (fun pre O₂ W => ∃ Ou, (∀ k, O₂ k ↔ Ou k ∨ k = l ∨ k = w.heap.size) ∧ ¬ Ou l ∧ ¬ Ou w.heap.size ∧ Rel O w Ou W ∧ I pre Ou W ∧ W.heap[l]? = some (.loop (rec .ready none)) ∧ W.heap[w.heap.size]? = some (.deferred (some [])))
      (fun pre O₂ W => ∃ c, ∃ Ou, (∀ k, O₂ k ↔ Ou k ∨ k = l ∨ k = w.heap.size) ∧ ¬ Ou l ∧ ¬ Ou w.heap.size ∧ Rel O w Ou W ∧ Ix c pre Ou W ∧ W.heap[l]? = some (.loop (rec .done (some c))) ∧ W.heap[w.heap.size]? = some (.deferred (some [])))
      (fun k => O k ∨ k = l ∨ k = w.heap.size) W1 hb1
      (fun k hk => by rcases hk with hk | hk | hk; (have := hO k hk; omega); omega; omega)
      (fun k hk => ⟨(hRs k hk).1, fun h => by rcases h with h | h | h; exact (hRs k hk).2 h; (have := (hRs k hk).1; omega); (have := (hRs k hk).1; omega)⟩)
      (J0 .ready none I hI)
      (fun pre O₂ W W' ⟨c, hc⟩ e1 e2 e3 e4 e5 => ⟨c, J0 .done (some c) (Ix c) (hIx c) pre O₂ W W' hc e1 e2 e3 e4 e5⟩)
    rw [← hl]
    rw [← hl] at hL1
    refine (H ?_ ?_).mono ?_
    · rintro pre b post args O₁ W hL _ ⟨Ou, hiff, hnl, hnD, hr, hi, hll, hDD⟩ henc
      have hlt : l < W.heap.size := (Array.getElem?_eq_some_iff.1 hll).1
      have hlt2 : w.heap.size < W.heap.size := (Array.getElem?_eq_some_iff.1 hDD).1
      have henc' : enc b args (fun k => Ou k ∨ k = l ∨ k = l - 1) W := by
        have : O₁ = fun k => Ou k ∨ k = l ∨ k = l - 1 := by funext k; rw [hlD]; exact propext (hiff k)
        rw [← this]; exact henc
      have hy := run_yield (P := P) (args := args) hll (by rw [hrec]; exact hps b args _ W henc')
      rw [hrec] at hy
      refine ⟨fn, _, assign, body, hy, roundIn_of_wpIn trivial (wpIn_mono (hround l pre b post args Ou W hL (by omega) hlt hnl (by rw [hlD]; exact hnD) hr hi henc') ?_)⟩
      clear hy
      rintro e a₁ W₂ hq
      cases e with
      | normal =>
        obtain ⟨hb2, hcont⟩ := hq
        have hl2 : W₂.heap[l]? = some (.loop (rec .ready none)) := (hb2.block l hlt).trans hll
        have hD2 : W₂.heap[w.heap.size]? = some (.deferred (some [])) := (hb2.block _ hlt2).trans hDD
        have hlt' : l < W₂.heap.size := (Array.getElem?_eq_some_iff.1 hl2).1
        have hbr := run_beginRound (P := P) hl2 (by rw [hrec])
        obtain ⟨W₃, hW₃⟩ : ∃ W₃, W₂.putObj l (.loop { rec .ready none with state := .busy }) = W₃ := ⟨_, rfl⟩
        have hon : OnlyAt l W₂ W₃ := by rw [← hW₃]; exact OnlyAt.putObj hl2
        have hl3 : W₃.heap[l]? = some (.loop { rec .ready none with state := .busy }) := by rw [← hW₃]; exact World.putObj_heap_same hlt'
        have hi3 : I pre Ou W₃ := hI pre Ou W W₃ hi (hon.os.trans hb2.os) (hon.tape.trans hb2.tape) (hon.output.trans hb2.output) (by rw [hon.size]; exact hb2.size)
          fun k hk h => (hon.block k (fun e => by subst e; rcases h with h | h | h; exact hnl h; omega; exact h.loop hll)).trans (hb2.block k hk)
        have hD3 : W₃.heap[w.heap.size]? = some (.deferred (some [])) := (hon.block _ (by omega)).trans hD2
        have hsz3 : W.heap.size ≤ W₃.heap.size := by rw [hon.size]; exact hb2.size
        have hlt3 : l < W₃.heap.size := (Array.getElem?_eq_some_iff.1 hl3).1
        rw [hW₃] at hbr
        refine ⟨W₃, hbr, wpIn_mono (hcont W₃ hon hi3) ?_⟩
        have fin : ∀ (jump : Option Code) (X : List β → (Nat → Prop) → World → Prop), Stab t w.heap.size X → ∀ (Ou' : Nat → Prop) (W4 : World), Rel Ou W₃ Ou' W4 → X (pre ++ [b]) Ou' W4 →
            ∃ v W5, (Instr.endRound l jump).run P W4 = .ok v W5 ∧ v = .bool jump.isNone ∧ Rel O₁ W (fun k => Ou' k ∨ k = l ∨ k = w.heap.size) W5 ∧
              ¬ Ou' l ∧ ¬ Ou' w.heap.size ∧ Rel O w Ou' W5 ∧ X (pre ++ [b]) Ou' W5 ∧ W5.heap[l]? = some (.loop (rec (if jump.isNone then .ready else .done) jump)) ∧ W5.heap[w.heap.size]? = some (.deferred (some [])) := by
          intro jump X hX Ou' W4 hr4 hx
          have hl4 : W4.heap[l]? = some (.loop { rec .ready none with state := .busy }) := (hr4.block l hlt3 hnl).trans hl3
          have hlt4 : l < W4.heap.size := (Array.getElem?_eq_some_iff.1 hl4).1
          have hD4 : W4.heap[w.heap.size]? = some (.deferred (some [])) := (hr4.block _ (by omega) hnD).trans hD3
          have hend := run_endRound (P := P) jump hl4
          obtain ⟨W5, hW5⟩ : ∃ W5, W4.putObj l (.loop (rec (if jump.isNone then .ready else .done) jump)) = W5 := ⟨_, rfl⟩
          have hon5 : OnlyAt l W4 W5 := by rw [← hW5]; exact OnlyAt.putObj hl4
          have hnl' : ¬ Ou' l := fun h => by rcases hr4.own l h with h | h; exact hnl h; omega
          have hnD' : ¬ Ou' w.heap.size := fun h => by rcases hr4.own _ h with h | h; exact hnD h; omega
          have hWW5 : ∀ k, k < W.heap.size → ¬ Ou k → k ≠ l → W5.heap[k]? = W.heap[k]? := fun k hk hn hne =>
            (hon5.block k hne).trans ((hr4.block k (by omega) hn).trans ((hon.block k hne).trans (hb2.block k hk)))
          have hs5 : W.heap.size ≤ W5.heap.size := by rw [hon5.size]; have := hr4.size; omega
          refine ⟨_, W5, ?_, rfl, ⟨?_, ?_, ?_, hs5, ?_, ?_, ?_⟩, hnl', hnD', ⟨?_, ?_, ?_, Nat.le_trans hr.size hs5, ?_, ?_, ?_⟩, ?_, ?_, ?_⟩
          · rw [hend, ← hW5, hrec]
          · exact hon5.os.trans (hr4.os.trans (hon.os.trans hb2.os))
          · exact hon5.tape.trans (hr4.tape.trans (hon.tape.trans hb2.tape))
          · exact hon5.output.trans (hr4.output.trans (hon.output.trans hb2.output))
          · intro k hk hn
            have hn' : ¬ Ou k ∧ k ≠ l := ⟨fun h => hn ((hiff k).2 (.inl h)), fun h => hn ((hiff k).2 (.inr (.inl h)))⟩
            exact hWW5 k hk hn'.1 hn'.2
          · intro k hk
            rcases hk with hk | hk | hk
            · rcases hr4.own k hk with h | h
              · exact .inl ((hiff k).2 (.inl h))
              · exact .inr (by omega)
            · exact .inl ((hiff k).2 (.inr (.inl hk)))
            · exact .inl ((hiff k).2 (.inr (.inr hk)))
          · intro k hk
            rw [hon5.size]
            rcases hk with hk | hk | hk
            · exact hr4.lt k hk
            · omega
            · have := hr4.size; omega
          · exact (hon5.os.trans (hr4.os.trans (hon.os.trans hb2.os))).trans hr.os
          · exact (hon5.tape.trans (hr4.tape.trans (hon.tape.trans hb2.tape))).trans hr.tape
          · exact (hon5.output.trans (hr4.output.trans (hon.output.trans hb2.output))).trans hr.output
          · intro k hk hn
            have hkW : k < W.heap.size := Nat.lt_of_lt_of_le hk hr.size
            exact (hWW5 k hkW (fun h => by rcases hr.own k h with h | h; exact hn h; omega) (by omega)).trans (hr.block k hk hn)
          · intro k hk
            rcases hr4.own k hk with h | h
            · exact hr.own k h
            · exact .inr (by have := hr.size; omega)
          · intro k hk; rw [hon5.size]; exact hr4.lt k hk
          · exact hX _ _ W4 W5 hx hon5.os hon5.tape hon5.output (by rw [hon5.size]; exact Nat.le_refl _) fun k _ h => hon5.block k (fun e => by subst e; rcases h with h | h | h; exact hnl' h; omega; exact h.loop hl4)
          · rw [← hW5]; exact World.putObj_heap_same hlt4
          · exact (hon5.block _ (by omega)).trans hD4
        rintro e a3 W4 hp
        cases e with
        | normal =>
          obtain ⟨Ou', hr4, hi4⟩ := hp
          obtain ⟨v, W5, hend, rfl, hrel, h1, h2, h3, h4, h5, h6⟩ := fin none I hI Ou' W4 hr4 hi4
          exact ⟨_, W5, hend, _, hrel, .inl ⟨rfl, Ou', fun _ => Iff.rfl, h1, h2, h3, h4, h5, h6⟩⟩
        | ret =>
          obtain ⟨Ou', hr4, hi4⟩ := hp
          obtain ⟨v, W5, hend, rfl, hrel, h1, h2, h3, h4, h5, h6⟩ := fin (some .ret) (Ix .ret) (hIx _) Ou' W4 hr4 hi4
          exact ⟨_, W5, hend, _, hrel, .inr ⟨rfl, .ret, Ou', fun _ => Iff.rfl, h1, h2, h3, h4, h5, h6⟩⟩
        | exit id =>
          obtain ⟨Ou', hr4, hi4⟩ := hp
          obtain ⟨v, W5, hend, rfl, hrel, h1, h2, h3, h4, h5, h6⟩ := fin (some (.exit id)) (Ix (.exit id)) (hIx _) Ou' W4 hr4 hi4
          exact ⟨_, W5, hend, _, hrel, .inr ⟨rfl, .exit id, Ou', fun _ => Iff.rfl, h1, h2, h3, h4, h5, h6⟩⟩
        | goto t =>
          obtain ⟨Ou', hr4, hi4⟩ := hp
          obtain ⟨v, W5, hend, rfl, hrel, h1, h2, h3, h4, h5, h6⟩ := fin (some (.goto t)) (Ix (.goto t)) (hIx _) Ou' W4 hr4 hi4
          exact ⟨_, W5, hend, _, hrel, .inr ⟨rfl, .goto t, Ou', fun _ => Iff.rfl, h1, h2, h3, h4, h5, h6⟩⟩
        | panic ch => exact hp.elim
        | outgrown => exact hp.elim
      | exit id => exact hq.elim
      | goto t => exact hq.elim
      | ret => exact hq.elim
      | panic ch => exact hq.elim
      | outgrown => exact hq.elim
    · refine ⟨O, fun _ => Iff.rfl, fun h => by have := hO l h; omega, fun h => by have := hO _ h; omega, Rel.of_below hb1 hO, ?_, hL1, hK1⟩
      exact hI [] O w W1 h0 hb1.os hb1.tape hb1.output hb1.size fun k hk _ => hb1.block k hk
    · rintro e W2 ⟨⟨v, rfl⟩, O₂, hrel, (⟨Ou, hiff, hnl, hnD, hr, hi, hll, hDD⟩ | ⟨pre, hpre, c, Ou, hiff, hnl, hnD, hr, hi, hll, hDD⟩)⟩
      all_goals
        obtain ⟨W3, hend, hon⟩ := endOne (P := P) hll (by rw [hrec]; simp)
        have hr3 : Rel O w Ou W3 := ⟨hon.os.trans hr.os, hon.tape.trans hr.tape, hon.output.trans hr.output, by rw [hon.size]; exact hr.size,
          fun k hk hn => (hon.block k (by omega)).trans (hr.block k hk hn), hr.own, fun k hk => by rw [hon.size]; exact hr.lt k hk⟩
        have hD3 : W3.heap[w.heap.size]? = some (.deferred (some [])) := (hon.block _ (by omega)).trans hDD
      · have hi3 := hI L Ou W2 W3 hi hon.os hon.tape hon.output (by rw [hon.size]; exact Nat.le_refl _) fun k _ h => hon.block k (fun e => by subst e; rcases h with h | h | h; exact hnl h; omega; exact h.loop hll)
        refine ⟨none, W3, ?_, hdone _ Ou W3 (Nat.le_refl _) hnD hr3 hi3 hD3⟩
        rw [hend, hrec]
      · have hi3 := hIx c pre Ou W2 W3 hi hon.os hon.tape hon.output (by rw [hon.size]; exact Nat.le_refl _) fun k _ h => hon.block k (fun e => by subst e; rcases h with h | h | h; exact hnl h; omega; exact h.loop hll)
        refine ⟨some c, W3, ?_, hstop _ c pre Ou W3 (Nat.le_refl _) hnD hpre hr3 hi3 hD3⟩
        rw [hend, hrec]

theorem Stab.ext {β : Type} {t : TypeId} {N : Nat} {J : List β → (Nat → Prop) → World → Prop} (h : Stab t N J) {pre : List β} {O : Nat → Prop} {W W' : World} (hj : J pre O W) (hb : Below W.heap.size W W') : J pre O W' :=
  h pre O W W' hj hb.os hb.tape hb.output hb.size fun k hk _ => hb.block k hk
theorem Rel.ext {O O' : Nat → Prop} {W W' W'' : World} (h : Rel O W O' W') (hb : Below W'.heap.size W' W'') : Rel O W O' W'' := h.trans (Rel.of_below hb h.lt)
theorem rAt {O O' : Nat → Prop} {W W' : World} (h : Rel O W O' W') {b o : Nat} {v : Value} (hv : W.cell? ⟨b, o, none⟩ = some v) (hO : ¬ O b) : W'.cell? ⟨b, o, none⟩ = some v := h.cell hv hO
theorem bAt {W W' : World} (h : Below W.heap.size W W') {b o : Nat} {v : Value} (hv : W.cell? ⟨b, o, none⟩ = some v) : W'.cell? ⟨b, o, none⟩ = some v :=
  (h.cell (p := ⟨b, o, none⟩) (World.block_lt_of_cell? W _ hv)).trans hv

/-! The marks that ranges over functions leave among an activation's deferred calls. -/
def mk (D : Nat) : Deferred := { target := .collected D, args := #[] }
structure Passed (Ds : List Nat) (W W' : World) : Prop where
  os : W'.os = W.os
  tape : W'.tape = W.tape
  output : W'.output = W.output
  size : W'.heap.size = W.heap.size
  block : ∀ k, k ∉ Ds → W'.heap[k]? = W.heap[k]?
  cell : ∀ p, W'.cell? p = W.cell? p
  frozen : ∀ p, W'.frozen? p = W.frozen? p
theorem Passed.refl (Ds : List Nat) (W : World) : Passed Ds W W := ⟨rfl, rfl, rfl, rfl, fun _ _ => rfl, fun _ => rfl, fun _ => rfl⟩
theorem Passed.below {Ds : List Nat} {W W' : World} (h : Passed Ds W W') {B : Nat} (hD : ∀ D ∈ Ds, B ≤ D) : Below B W W' :=
  ⟨h.os, h.tape, h.output, Nat.le_of_eq h.size.symm, fun k hk => h.block k fun hm => by have := hD k hm; omega⟩
structure Marks (B : Nat) (W : World) (Ds : List Nat) : Prop where
  nodup : Ds.Nodup
  open_ : ∀ D ∈ Ds, W.heap[D]? = some (.deferred (some []))
  low : ∀ D ∈ Ds, B ≤ D
theorem Marks.nil (B : Nat) (W : World) : Marks B W [] := ⟨List.nodup_nil, fun _ h => (by cases h), fun _ h => (by cases h)⟩
theorem Marks.cons {B D : Nat} {W : World} {Ds : List Nat} (h : Marks B W Ds) (hD : W.heap[D]? = some (.deferred (some []))) (hB : B ≤ D) (hn : D ∉ Ds) : Marks B W (D :: Ds) :=
  ⟨List.nodup_cons.2 ⟨hn, h.nodup⟩, fun d hd => by rcases List.mem_cons.1 hd with rfl | hd; exact hD; exact h.open_ d hd, fun d hd => by rcases List.mem_cons.1 hd with rfl | hd; exact hB; exact h.low d hd⟩
theorem Marks.lt {B : Nat} {W : World} {Ds : List Nat} (h : Marks B W Ds) : ∀ D ∈ Ds, D < W.heap.size := fun D hD => (Array.getElem?_eq_some_iff.1 (h.open_ D hD)).1
theorem Marks.keep {B : Nat} {W W' : World} {Ds : List Nat} (h : Marks B W Ds) (hk : ∀ k, k < W.heap.size → k ∈ Ds → W'.heap[k]? = W.heap[k]?) : Marks B W' Ds :=
  ⟨h.nodup, fun D hD => (hk D (h.lt D hD) hD).trans (h.open_ D hD), h.low⟩
theorem Marks.below {B : Nat} {W W' : World} {Ds : List Nat} (h : Marks B W Ds) (hb : Below W.heap.size W W') : Marks B W' Ds := h.keep fun k hk _ => hb.block k hk
theorem Marks.rel {B : Nat} {O O' : Nat → Prop} {W W' : World} {Ds : List Nat} (h : Marks B W Ds) (hr : Rel O W O' W') (hO : ∀ D ∈ Ds, ¬ O D) : Marks B W' Ds := h.keep fun k hk hD => hr.block k hk (hO k hD)
theorem Marks.setCell {B : Nat} {W : World} {Ds : List Nat} (h : Marks B W Ds) (p : Addr) (v : Value) (hp : p.block ∉ Ds) : Marks B (W.setCell p v) Ds :=
  ⟨h.nodup, fun D hD => (Below.heap_setCell _ _ _ _ (fun e => hp (by rw [← e]; exact hD))).trans (h.open_ D hD), h.low⟩

theorem leave_marks {B : Nat} {P : Program} {fn : Func} {tmps : Array Value} {R : Ending → World → Prop} : ∀ (Ds : List Nat) (W : World), Marks B W Ds →
    (∀ W', Passed Ds W W' → ∃ v, (results fn tmps).run P W' = .ok v W' ∧ R (.returned v) W') → LeavesInM Fence.wide 0 P fn tmps R (Ds.map mk) .returning W
  | [], W, _, h => h W (Passed.refl _ _)
  | D :: Ds, W, hM, h => by
    have hD := hM.open_ D (by simp)
    have hlt := hM.lt D (by simp)
    have hnd := List.nodup_cons.1 hM.nodup
    refine ⟨by simp, .inl ⟨D, _, rfl, run_takeDeferred hD, ?_⟩⟩
    have hpc : ∀ p, (W.putObj D (.deferred none)).cell? p = W.cell? p := fun p => by
      by_cases hp : p.block = D
      · unfold World.cell?; rw [hp, hD, World.putObj_heap_same hlt]
      · exact World.cell?_of_block (w := W) (World.putObj_heap_other hp)
    have hpf : ∀ p, (W.putObj D (.deferred none)).frozen? p = W.frozen? p := fun p => by
      by_cases hp : p.block = D
      · unfold World.frozen?; rw [hp, hD, World.putObj_heap_same hlt]
      · exact World.frozen?_of_block (w := W) (World.putObj_heap_other hp)
    refine leave_marks Ds _ ⟨hnd.2, fun d hd => (World.putObj_heap_other (fun e => hnd.1 (by rw [← e]; exact hd))).trans (hM.open_ d (by simp [hd])), fun d hd => hM.low d (by simp [hd])⟩ fun W' hp => h W' ?_
    exact ⟨hp.os, hp.tape, hp.output, by rw [hp.size]; simp, fun k hk => by
      have : k ≠ D ∧ k ∉ Ds := by simpa using hk
      rw [hp.block k this.2, World.putObj_heap_other this.1], fun p => (hp.cell p).trans (hpc p), fun p => (hp.frozen p).trans (hpf p)⟩
theorem Rel.setCell {O O' : Nat → Prop} {W W' : World} (h : Rel O W O' W') {p : Addr} (hp : O' p.block) (v : Value) : Rel O W O' (W'.setCell p v) :=
  h.trans ⟨rfl, rfl, rfl, by simp, fun k _ hn => Below.heap_setCell _ _ _ _ (fun e => hn (by rw [e]; exact hp)), fun _ h => .inl h, fun k hk => by simpa using h.lt k hk⟩
theorem heap_setCell_at {W : World} {b o : Nat} {c : Array Value} {t : TypeId} {fz : Nat × Nat} (h : W.heap[b]? = some (.cells c t fz)) (v : Value) : (W.setCell ⟨b, o, none⟩ v).heap[b]? = some (.cells (c.setIfInBounds o v) t fz) := by
  simp [World.setCell, Array.getElem?_modify, h]
theorem cell_of_heap {W : World} {b o : Nat} {c : Array Value} {t : TypeId} {fz : Nat × Nat} (h : W.heap[b]? = some (.cells c t fz)) : W.cell? ⟨b, o, none⟩ = c[o]? := by simp [World.cell?, h]
theorem frozen_of_heap {W : World} {b o : Nat} {c : Array Value} {t : TypeId} (h : W.heap[b]? = some (.cells c t (0, 0))) : W.frozen? ⟨b, o, none⟩ = false := by simp [World.frozen?, h]
theorem aB (w : World) (o : Obj) : Below w.heap.size w (w.alloc o) := (Below.refl _ _).alloc (Nat.le_refl _) o
theorem cell_new (w : World) (x : Value) (t : TypeId) : (w.alloc (.cells #[x] t)).cell? ⟨w.heap.size, 0, none⟩ = some x := by
  unfold World.cell?; rw [World.alloc_heap_new]; rfl
end Go.Oche

/- A region whose order is drawn: one condition an operation, whatever the order; then a tail in order. -/
namespace Go.Oche
open Go Go.RowKit

def opOK (P : Program) (o : Oper) (a : Act) (w : World) (R : Value → World → Prop) : Prop :=
  match (execOp a.eval o).run P w with
  | .ok (.value v) w' => R v w'
  | .ok .skip w' => R undef w'
  | .ok (.enter f args) w' => Calls P f args w' fun e w'' => ∃ v, e = .returned v ∧ R v w''
  | _ => False

theorem wp_of_opOK {P : Program} {o : Oper} {a : Act} {w : World} {R : Value → World → Prop} {K : Act → World → Prop} {Q : Exit → Act → World → Prop}
    (h : opOK P o a w R) (hK : ∀ v w', R v w' → K (a.put o.dst v) w') : o.wp P a w K Q := by
  unfold opOK at h
  unfold Oper.wp
  generalize (execOp a.eval o).run P w = r at *
  cases r with
  | ok n w' =>
    cases n <;> simp only at h <;> simp only [Oper.upon]
    case value u => exact hK _ _ h
    case skip => exact hK _ _ h
    case enter f args => exact h.mono fun e w'' ⟨v, he, hr⟩ => by subst he; exact hK _ _ hr
  | halt x w' => simp only at h

section
variable (P : Program) (ops : Array Oper) (Φ : Nat → Value → World → Prop) (J : (Nat → Bool) → World → Prop) (a₀ : Act)
def setB (L : Nat → Bool) (i : Nat) : Nat → Bool := fun j => if j = i then true else L j

def GenVC (i : Nat) (o : Oper) : Prop :=
  ∀ (a : Act) (w : World) (L : Nat → Bool), L i = false → J L w →
    (∀ e ∈ o.after.toList, Region.binds .any e = true → ∃ oj v, ops[e.on]? = some oj ∧ L e.on = true ∧ Φ e.on v w ∧ ∀ d, oj.dst = some d → a.tmps[d]? = some v) →
    (∀ t : Nat, (ops.toList.all fun oj => oj.dst != some t || oj.after.toList.any fun e => Region.binds .any e && e.on == i) = true → a.tmps[t]? = a₀.tmps[t]?) →
    if Region.wanted o (yielded ops a.tmps) then opOK P o a w (fun v w' => J (setB L i) w' ∧ (∀ j, j ≠ i → L j = true → ∀ v, Φ j v w → (∀ oj d, ops[j]? = some oj → oj.dst = some d → a.tmps[d]? = some v) → Φ j v w') ∧ Φ i v w') else J (setB L i) w ∧ Φ i undef w

def GenAll : List Oper → Nat → Prop
  | [], _ => True
  | o :: l, i => GenVC P ops Φ J a₀ i o ∧ GenAll l (i + 1)

def EndAll (w : World) (K : Act → Prop) : List Oper → Nat → Act → Prop
  | [], _, a => K a
  | o :: l, i, a => ∀ v, Φ i v w → EndAll w K l (i + 1) (a.put o.dst v)
end

def backB (ops : Array Oper) : Bool := ops.toList.zipIdx.all fun (o, i) => o.after.toList.all fun e => !Region.binds .any e || decide (e.on < i)
def distB : List Oper → Bool
  | [] => true
  | o :: l => (match o.dst with | some d => l.all fun o' => o'.dst != some d | none => true) && distB l
def inB (n : Nat) (l : List Oper) : Bool := l.all fun o => match o.dst with | some d => decide (d < n) | none => true
def headArr (n N : Nat) : Array Bool := (Array.replicate n true) ++ Array.replicate (N - n) false
def freeB (ops : Array Oper) (n m : Nat) : Bool :=
  decide (n ≤ ops.size) && backB ops && distB (ops.toList.take n) && inB m (ops.toList.take n) && (n == ops.size || (decide (n < ops.size) && Region.sinkB .any ops n && Region.chainB .any ops n)) &&
    Region.seqB .any ops (ops.size - n) n (headArr n ops.size)

theorem wpAny_more {P : Program} {md : Region.Mode} {ops : Array Oper} {Q : Exit → Act → World → Prop} : ∀ (f : Nat) (listed : Array Bool) (a : Act) (w : World),
    wpAny P md ops Q f listed a w → wpAny P md ops Q (f + 1) listed a w
  | 0, _, _, _, h => ⟨fun _ => h.2, fun i hi => by rw [h.1] at hi; cases hi⟩
  | f + 1, _, _, _, h => ⟨h.1, fun i hi => wpOp_mono (fun _ _ => wpAny_more f _ _ _) (h.2 i hi)⟩

def left (n : Nat) (listed : Array Bool) : Nat := (List.range n).countP fun j => !listed.getD j false

theorem left_set {n i : Nat} {listed : Array Bool} (hi : i < n) (hin : i < listed.size) (hun : listed.getD i true = false) : left n (listed.setIfInBounds i true) + 1 ≤ left n listed := by
  unfold left
  induction n with
  | zero => omega
  | succ n ih =>
    rw [List.range_succ, List.countP_append, List.countP_append]
    by_cases h : i = n
    · subst h
      have hsame : (List.range i).countP (fun j => !(listed.setIfInBounds i true).getD j false) = (List.range i).countP (fun j => !listed.getD j false) := by
        refine List.countP_congr fun j hj => ?_
        have : i ≠ j := by have := List.mem_range.1 hj; omega
        rw [getD_set_ne false this]
      rw [hsame]
      have h1 : (listed.setIfInBounds i true).getD i false = true := by simp [hin]
      have h2 : listed.getD i false = false := getD_both hun
      simp only [List.countP_singleton, h1, h2]; simp
    · have h1 : (listed.setIfInBounds i true).getD n false = listed.getD n false := getD_set_ne false h
      have := ih (by omega)
      simp only [List.countP_singleton, h1]
      omega

theorem left_zero {n : Nat} {listed : Array Bool} (h : left n listed = 0) : ∀ j, j < n → listed.getD j false = true := by
  intro j hj
  have := List.countP_eq_zero.1 h j (List.mem_range.2 hj)
  simpa using this

theorem exists_unlisted {n : Nat} {listed : Array Bool} (h : left n listed ≠ 0) : ∃ j, j < n ∧ listed.getD j false = false ∧ ∀ k, k < j → listed.getD k false = true := by
  have hex : ∃ j, j < n ∧ listed.getD j false = false := by
    by_cases hne : ∃ j, j < n ∧ listed.getD j false = false
    · exact hne
    · exfalso
      apply h
      refine List.countP_eq_zero.2 fun j hj => ?_
      have hj' := List.mem_range.1 hj
      cases hg : listed.getD j false with
      | true => simp
      | false => exact absurd ⟨j, hj', hg⟩ hne
  obtain ⟨j, hj, hg⟩ := hex
  induction j using Nat.strongRecOn with
  | _ j ih =>
    by_cases hk : ∃ k, k < j ∧ listed.getD k false = false
    · obtain ⟨k, hk1, hk2⟩ := hk
      exact ih k hk1 (by omega) hk2
    · refine ⟨j, hj, hg, fun k hkj => ?_⟩
      cases hgk : listed.getD k false with
      | true => rfl
      | false => exact absurd ⟨k, hkj, hgk⟩ hk

structure FreeInv (ops : Array Oper) (Φ : Nat → Value → World → Prop) (J : (Nat → Bool) → World → Prop) (a₀ : Act) (vs : Nat → Value) (listed : Array Bool) (a : Act) (w : World) : Prop where
  inv : J (fun j => listed.getD j false) w
  vals : ∀ j o, ops[j]? = some o → listed.getD j false = true → Φ j (vs j) w ∧ ∀ d, o.dst = some d → a.tmps[d]? = some (vs j)
  rest : ∀ t, (∀ j o, ops[j]? = some o → listed.getD j false = true → o.dst ≠ some t) → a.tmps[t]? = a₀.tmps[t]?
  size : a.tmps.size = a₀.tmps.size
  defers : a.defers = a₀.defers

theorem distB_ne : ∀ {l : List Oper} {i j : Nat} {oi oj : Oper} {d : Nat}, distB l = true → l[i]? = some oi → l[j]? = some oj → i ≠ j → oi.dst = some d → oj.dst ≠ some d
  | [], i, _, _, _, _, _, hi, _, _, _ => by simp at hi
  | o :: l, 0, 0, _, _, _, _, _, _, hne, _ => absurd rfl hne
  | o :: l, 0, j + 1, oi, oj, d, h, hi, hj, _, hd => by
    simp only [distB, Bool.and_eq_true] at h
    simp only [List.getElem?_cons_zero, Option.some.injEq] at hi
    subst hi
    have h1 := h.1
    rw [hd] at h1
    have := List.all_eq_true.1 h1 oj (List.mem_of_getElem? (by simpa using hj))
    simpa using this
  | o :: l, i + 1, 0, oi, oj, d, h, hi, hj, _, hd => by
    simp only [distB, Bool.and_eq_true] at h
    simp only [List.getElem?_cons_zero, Option.some.injEq] at hj
    subst hj
    intro he
    have h1 := h.1
    rw [he] at h1
    have := List.all_eq_true.1 h1 oi (List.mem_of_getElem? (by simpa using hi))
    simp [hd] at this
  | o :: l, i + 1, j + 1, oi, oj, d, h, hi, hj, hne, hd => by
    simp only [distB, Bool.and_eq_true] at h
    exact distB_ne h.2 (by simpa using hi) (by simpa using hj) (by omega) hd

theorem genAll_at {P : Program} {ops : Array Oper} {Φ : Nat → Value → World → Prop} {J : (Nat → Bool) → World → Prop} {a₀ : Act} : ∀ {l : List Oper} {i j : Nat} {o : Oper},
    GenAll P ops Φ J a₀ l i → l[j]? = some o → GenVC P ops Φ J a₀ (i + j) o
  | [], _, _, _, _, h => by simp at h
  | o' :: l, i, 0, o, h, hj => by simp at hj; subst hj; exact h.1
  | o' :: l, i, j + 1, o, h, hj => by
    have := genAll_at h.2 (j := j) (o := o) (by simpa using hj)
    rwa [show i + 1 + j = i + (j + 1) by omega] at this

def putAll (vs : Nat → Value) : List Oper → Nat → Act → Act
  | [], _, a => a
  | o :: l, i, a => putAll vs l (i + 1) (a.put o.dst (vs i))

theorem endAll_at {Φ : Nat → Value → World → Prop} {w : World} {K : Act → Prop} {vs : Nat → Value} : ∀ (l : List Oper) (i : Nat) (a : Act), EndAll Φ w K l i a →
    (∀ j, j < l.length → Φ (i + j) (vs (i + j)) w) → K (putAll vs l i a)
  | [], _, _, h, _ => h
  | o :: l, i, a, h, hv => by
    refine endAll_at l (i + 1) _ (h _ (by simpa using hv 0 (by simp))) fun j hj => ?_
    have := hv (j + 1) (by simp; omega)
    rwa [show i + (j + 1) = i + 1 + j by omega] at this

theorem put_size (a : Act) (d : Option Tmp) (v : Value) : (a.put d v).tmps.size = a.tmps.size := by cases d <;> simp [Act.put]
theorem put_defers (a : Act) (d : Option Tmp) (v : Value) : (a.put d v).defers = a.defers := by cases d <;> rfl
theorem put_at (a : Act) (d : Option Tmp) (v : Value) (t : Nat) : (a.put d v).tmps[t]? = if d = some t ∧ t < a.tmps.size then some v else a.tmps[t]? := by
  cases d with
  | none => simp [Act.put]
  | some d =>
    simp only [Act.put, Array.getElem?_setIfInBounds]
    by_cases h : d = t
    · subst h
      by_cases h' : d < a.tmps.size
      · simp [h']
      · simp [h']
    · simp [h]

theorem putAll_defers (vs : Nat → Value) : ∀ (l : List Oper) (i : Nat) (a : Act), (putAll vs l i a).defers = a.defers
  | [], _, _ => rfl
  | o :: l, i, a => by rw [putAll, putAll_defers vs l, put_defers]
theorem putAll_none (vs : Nat → Value) (t : Nat) : ∀ (l : List Oper) (i : Nat) (a : Act), (∀ o ∈ l, o.dst ≠ some t) → (putAll vs l i a).tmps[t]? = a.tmps[t]?
  | [], _, _, _ => rfl
  | o :: l, i, a, h => by
    rw [putAll, putAll_none vs t l _ _ (fun o' ho => h o' (by simp [ho])), put_at, if_neg]
    intro h'; exact h o (by simp) h'.1
theorem putAll_some (vs : Nat → Value) (t : Nat) : ∀ (l : List Oper) (i : Nat) (a : Act) (j : Nat) (o : Oper), distB l = true → l[j]? = some o → o.dst = some t → t < a.tmps.size →
    (putAll vs l i a).tmps[t]? = some (vs (i + j))
  | [], _, _, _, _, _, h, _, _ => by simp at h
  | o' :: l, i, a, 0, o, hd, hj, ht, hs => by
    simp at hj; subst hj
    simp only [distB, Bool.and_eq_true] at hd
    rw [putAll, putAll_none vs t l _ _ (fun o'' ho => by
      have h1 := hd.1
      rw [ht] at h1
      have := List.all_eq_true.1 h1 o'' ho
      simpa using this), put_at, if_pos ⟨ht, hs⟩]; rfl
  | o' :: l, i, a, j + 1, o, hd, hj, ht, hs => by
    simp only [distB, Bool.and_eq_true] at hd
    rw [putAll, putAll_some vs t l (i + 1) _ j o hd.2 (by simpa using hj) ht (by rw [put_size]; exact hs), show i + 1 + j = i + (j + 1) by omega]

theorem act_ext {a b : Act} (h : ∀ t : Nat, a.tmps[t]? = b.tmps[t]?) (hd : a.defers = b.defers) : a = b := by
  cases a; cases b
  simp only at h hd
  subst hd
  congr 1
  exact Array.ext_getElem? h

section law
variable {P : Program} {ops : Array Oper} {Φ : Nat → Value → World → Prop} {J : (Nat → Bool) → World → Prop} {a₀ : Act} {Q : Exit → Act → World → Prop} {n : Nat}

theorem free_head (hB : freeB ops n a₀.tmps.size = true) (hv : GenAll P ops Φ J a₀ (ops.toList.take n) 0)
    (he : ∀ w, J (fun j => decide (j < n)) w → EndAll Φ w (fun a => wpList P ops Q (ops.toList.drop n) a w) (ops.toList.take n) 0 a₀) :
    ∀ (f : Nat) (vs : Nat → Value) (listed : Array Bool) (a : Act) (w : World), left n listed ≤ f → HeadInv .any ops n listed → FreeInv ops Φ J a₀ vs listed a w → wpAny P .any ops Q (f + (ops.size - n)) listed a w := by
  simp only [freeB, Bool.and_eq_true, Bool.or_eq_true, beq_iff_eq, decide_eq_true_eq] at hB
  obtain ⟨⟨⟨⟨⟨hn, hback⟩, hdist⟩, hin⟩, htail⟩, hseq⟩ := hB
  have hin' : ∀ j o d, ops[j]? = some o → j < n → o.dst = some d → d < a₀.tmps.size := fun j o d ho hj hd => by
    have hmem : o ∈ ops.toList.take n := List.mem_of_getElem? (i := j) (by rw [List.getElem?_take, if_pos hj]; simpa using ho)
    have := List.all_eq_true.1 hin o hmem
    rw [hd] at this
    simpa using this
  have hld : ∀ j o, ops[j]? = some o → j < n → (ops.toList.take n)[j]? = some o := fun j o ho hj => by rw [List.getElem?_take, if_pos hj]; simpa using ho
  intro f
  induction f with
  | zero =>
    intro vs listed a w hl inv fi
    have hall := left_zero (Nat.le_zero.1 hl)
    have harr : listed = headArr n ops.size := by
      refine Array.ext (by simp [inv.size, headArr]; omega) fun j h1 h2 => ?_
      by_cases hj : j < n
      · have := hall j hj
        simp [h1] at this
        rw [this]
        simp only [headArr]
        rw [Array.getElem_append_left (by simpa using hj)]
        simp
      · have := inv.tail j (by omega) (by rw [inv.size] at h1; exact h1)
        simp [h1] at this
        rw [this]
        simp only [headArr]
        rw [Array.getElem_append_right (by simpa using hj)]
        simp
    have hnl : ∀ j o, ops[j]? = some o → listed.getD j false = true → j < n := fun j o ho hl => by
      rcases Nat.lt_or_ge j n with h | h
      · exact h
      · have := inv.tail j h (Array.getElem?_eq_some_iff.1 ho).1
        rw [getD_both this] at hl; cases hl
    have hK := endAll_at (vs := vs) _ _ _ (he w (by have h1 := fi.inv; rwa [show (fun j => listed.getD j false) = (fun j => decide (j < n)) from funext fun j => by
      by_cases hj : j < n
      · rw [hall j hj]; simp [hj]
      · have : listed.getD j false = false := by
          rcases Nat.lt_or_ge j ops.size with h | h
          · exact getD_both (inv.tail j (by omega) h)
          · simp [Array.getElem?_eq_none (show listed.size ≤ j by rw [inv.size]; exact h)]
        rw [this]; simp [hj]] at h1)) (fun j hj => by
      have hj' : j < n := by simp at hj; omega
      have hjs : j < ops.size := by omega
      have := (fi.vals j ops[j] (by simp [hjs]) (hall j hj')).1
      simpa using this)
    have ha : a = putAll vs (ops.toList.take n) 0 a₀ := by
      refine act_ext (fun t => ?_) (by rw [putAll_defers]; exact fi.defers)
      by_cases ht : ∃ j o, ops[j]? = some o ∧ j < n ∧ o.dst = some t
      · obtain ⟨j, o, ho, hj, hd⟩ := ht
        rw [(fi.vals j o ho (hall j hj)).2 t hd, putAll_some vs t _ 0 a₀ j o hdist (hld j o ho hj) hd (hin' j o t ho hj hd)]
        simp
      · rw [fi.rest t (fun j o ho hl hd => ht ⟨j, o, ho, hnl j o ho hl, hd⟩), putAll_none]
        intro o ho hd
        obtain ⟨j, hj⟩ := List.getElem?_of_mem ho
        rw [List.getElem?_take] at hj
        split at hj
        · exact ht ⟨j, o, by simpa using hj, by assumption, hd⟩
        · cases hj
    rw [← ha] at hK
    rw [Nat.zero_add]
    have hlen : (ops.toList.drop n).length = ops.size - n := by simp
    have := wpAny_of_seq (P := P) (md := .any) (Q' := Q) (ops.toList.drop n) n listed a w (fun j => by simp [List.getElem?_drop]) (by rw [hlen, harr]; exact hseq) hK
    rwa [hlen] at this
  | succ f ih =>
    intro vs listed a w hl inv fi
    by_cases h0 : left n listed = 0
    · have := ih vs listed a w (by omega) inv fi
      rw [show f + 1 + (ops.size - n) = f + (ops.size - n) + 1 by omega]
      exact wpAny_more _ _ _ _ this
    · obtain ⟨j₀, hj₀, hun₀, hbefore⟩ := exists_unlisted h0
      have hj₀s : j₀ < ops.size := by omega
      rw [show f + 1 + (ops.size - n) = f + (ops.size - n) + 1 by omega]
      refine ⟨fun hr => ?_, fun i hi => ?_⟩
      · exfalso
        have : j₀ ∈ Region.ready .any ops listed := mem_ready.2 ⟨getD_in (by rw [inv.size]; omega) hun₀, ops[j₀], by simp [hj₀s], fun e he hb => by
          have h1 := List.all_eq_true.1 hback (ops[j₀], j₀) (List.mem_iff_getElem?.2 ⟨j₀, by simp [hj₀s]⟩)
          have h2 := List.all_eq_true.1 h1 e (by simpa using he)
          simp only [hb, Bool.not_true, Bool.false_or, decide_eq_true_eq] at h2
          exact hbefore _ h2⟩
        rw [hr] at this; cases this
      · have hin0 : i < n := by
          rcases Nat.lt_or_ge i n with h | h
          · exact h
          · exfalso
            rcases htail with h1 | ⟨⟨h1, h2⟩, h3⟩
            · obtain ⟨_, oi, hoi, _⟩ := mem_ready.1 hi
              have := (Array.getElem?_eq_some_iff.1 hoi).1
              omega
            · exact tail_waits h2 h3 h1 inv (n - j₀) j₀ rfl hj₀ (getD_in (by rw [inv.size]; omega) hun₀) i h hi
        obtain ⟨hiun, oi, hoi, hready⟩ := mem_ready.1 hi
        have his : i < ops.size := (Array.getElem?_eq_some_iff.1 hoi).1
        have hvc := genAll_at hv (hld i oi hoi hin0)
        rw [Nat.zero_add] at hvc
        have hvc := hvc a w (fun j => listed.getD j false) (getD_both hiun) fi.inv (fun e he hb => by
            have hl' := hready e (by simpa using he) hb
            have hes : e.on < ops.size := by
              have : e.on < listed.size := by
                rcases Nat.lt_or_ge e.on listed.size with h | h
                · exact h
                · rw [show listed.getD e.on false = false from by simp [Array.getElem?_eq_none h]] at hl'; cases hl'
              rw [inv.size] at this; exact this
            have := fi.vals e.on ops[e.on] (by simp [hes]) hl'
            exact ⟨ops[e.on], vs e.on, by simp [hes], hl', this.1, this.2⟩)
          (fun t ht => fi.rest t fun j o ho hlj => by
            have h1 := List.all_eq_true.1 ht o (by simpa using Array.mem_of_getElem? ho)
            simp only [Bool.or_eq_true, List.any_eq_true, Bool.and_eq_true, beq_iff_eq] at h1
            rcases h1 with h1 | ⟨e, he, hb, hei⟩
            · simpa using h1
            · exfalso
              have h2 := inv.closed j o ho hlj e (by simpa using he) hb
              rw [hei, getD_both hiun] at h2
              cases h2)
        have hset : (fun j => (listed.setIfInBounds i true).getD j false) = setB (fun j => listed.getD j false) i := funext fun j => by
          unfold setB
          by_cases hji : j = i
          · subst hji; simp [inv.size, his]
          · rw [if_neg hji, getD_set_ne false (Ne.symm hji)]
        have next : ∀ v w', J (setB (fun j => listed.getD j false) i) w' → (∀ j, j ≠ i → listed.getD j false = true → ∀ v, Φ j v w → (∀ oj d, ops[j]? = some oj → oj.dst = some d → a.tmps[d]? = some v) → Φ j v w') → Φ i v w' → wpAny P .any ops Q (f + (ops.size - n)) (listed.setIfInBounds i true) (a.put oi.dst v) w' := fun v w' hj' hb hφ => by
          refine ih (fun j => if j = i then v else vs j) _ _ _ (by have := left_set hin0 (by rw [inv.size]; exact his) hiun; omega) (inv.set hi hin0) ⟨?_, ?_, ?_, ?_, ?_⟩
          · rw [hset]; exact hj'
          · intro j o ho hl'
            by_cases hji : j = i
            · subst hji
              have : o = oi := Option.some.inj (ho.symm.trans hoi)
              subst this
              refine ⟨by simpa using hφ, fun d hd => ?_⟩
              rw [put_at, if_pos ⟨hd, by rw [fi.size]; exact hin' _ _ _ ho hin0 hd⟩]; simp
            · rw [getD_set_ne false (Ne.symm hji)] at hl'
              have h1 := fi.vals j o ho hl'
              have hjn : j < n := by
                rcases Nat.lt_or_ge j n with h | h
                · exact h
                · have := inv.tail j h (Array.getElem?_eq_some_iff.1 ho).1
                  rw [getD_both this] at hl'; cases hl'
              refine ⟨by simpa [hji] using hb j hji hl' _ h1.1 (fun oj d hoj hd => by rw [ho] at hoj; cases hoj; exact h1.2 d hd), fun d hd => ?_⟩
              rw [put_at, if_neg (fun h' => distB_ne hdist (hld j o ho hjn) (hld i oi hoi hin0) hji hd h'.1)]
              simpa [hji] using h1.2 d hd
          · intro t ht
            have h1 : oi.dst ≠ some t := ht i oi hoi (by simp [inv.size, his])
            rw [put_at, if_neg (fun h' => h1 h'.1)]
            refine fi.rest t fun j o ho hl' => ht j o ho ?_
            exact getD_set_true hl'
          · rw [put_size]; exact fi.size
          · rw [put_defers]; exact fi.defers
        unfold wpOp
        simp only [hoi]
        split
        · rename_i hwd
          rw [if_pos hwd] at hvc
          exact .inl (wp_of_opOK hvc fun v w' ⟨hj', hb, hφ⟩ => next v w' hj' hb hφ)
        · rename_i hwd
          rw [if_neg hwd] at hvc
          exact next _ _ hvc.1 (fun _ _ _ _ h _ => h) hvc.2

theorem wp_region_gen {id : Nat} {l : List Oper} {a : Act} {w : World} (n : Nat) (Φ : Nat → Value → World → Prop) (J : (Nat → Bool) → World → Prop) (hmix : P.follows .mixedOrders = true) (hB : freeB l.toArray n a.tmps.size = true)
    (hJ : J (fun _ => false) w.drew) (hv : GenAll P l.toArray Φ J a (l.take n) 0)
    (he : ∀ w', J (fun j => decide (j < n)) w' → EndAll Φ w' (fun a => wpList P l.toArray Q (l.drop n) a w') (l.take n) 0 a) : (Code.region id l.toArray true).wp P Q a w := by
  refine wp_region_any hmix ?_
  have := free_head (Q := Q) (a₀ := a) hB hv he n (fun _ => undef) (Array.replicate l.toArray.size false) a w.drew (by
      unfold left; exact Nat.le_trans List.countP_le_length (by simp))
    ⟨by simp, fun j oj _ hl => (by rw [getD_replicate_false] at hl; cases hl), fun t _ ht => getD_in (by simpa using ht) (getD_replicate_false _ _)⟩
    ⟨by rw [show (fun j => (Array.replicate l.toArray.size false).getD j false) = (fun _ => false) from funext fun j => getD_replicate_false _ _]; exact hJ, fun j o _ hl => (by rw [getD_replicate_false] at hl; cases hl), fun _ _ => rfl, rfl, rfl⟩
  have hn : n ≤ l.toArray.size := by simp only [freeB, Bool.and_eq_true, decide_eq_true_eq] at hB; exact hB.1.1.1.1.1
  rw [show n + (l.toArray.size - n) = l.toArray.size by omega] at this
  exact this
end law

theorem gen_plain {P : Program} {ops : Array Oper} {Φ : Nat → Value → World → Prop} {J : (Nat → Bool) → World → Prop} {a₀ : Act} {i : Nat} {o : Oper} (hg : o.guard = none)
    (h : ∀ (a : Act) (w : World) (L : Nat → Bool), L i = false → J L w →
      (∀ e ∈ o.after.toList, Region.binds .any e = true → ∃ oj v, ops[e.on]? = some oj ∧ L e.on = true ∧ Φ e.on v w ∧ ∀ d, oj.dst = some d → a.tmps[d]? = some v) →
      (∀ t : Nat, (ops.toList.all fun oj => oj.dst != some t || oj.after.toList.any fun e => Region.binds .any e && e.on == i) = true → a.tmps[t]? = a₀.tmps[t]?) →
      opOK P o a w (fun v w' => J (setB L i) w' ∧ (∀ j, j ≠ i → L j = true → ∀ v, Φ j v w → (∀ oj d, ops[j]? = some oj → oj.dst = some d → a.tmps[d]? = some v) → Φ j v w') ∧ Φ i v w')) :
    GenVC P ops Φ J a₀ i o := fun a w L h1 h2 hp ht => by
  rw [if_pos (by simp [Region.wanted, hg])]
  exact h a w L h1 h2 hp ht

/-! Where each operation but makes new blocks. -/
section
variable (P : Program) (ops : Array Oper) (Φ : Nat → Value → World → Prop) (a₀ : Act) (w₀ : World)
def FreeVC (i : Nat) (o : Oper) : Prop :=
  ∀ (a : Act) (w : World), Below w₀.heap.size w₀ w →
    (∀ e ∈ o.after.toList, Region.binds .any e = true → ∃ oj v, ops[e.on]? = some oj ∧ Φ e.on v w ∧ ∀ d, oj.dst = some d → a.tmps[d]? = some v) →
    (∀ t : Nat, (ops.toList.all fun oj => oj.dst != some t || oj.after.toList.any fun e => Region.binds .any e && e.on == i) = true → a.tmps[t]? = a₀.tmps[t]?) →
    if Region.wanted o (yielded ops a.tmps) then opOK P o a w (fun v w' => Below w.heap.size w w' ∧ Φ i v w') else Φ i undef w
def FreeAll : List Oper → Nat → Prop
  | [], _ => True
  | o :: l, i => FreeVC P ops Φ a₀ w₀ i o ∧ FreeAll l (i + 1)
end
theorem opOK_call {P : Program} {o : Oper} {a : Act} {w : World} {R : Value → World → Prop} {f : FuncId} {args : Array Value} (hr : (execOp a.eval o).run P w = .ok (.enter f args) w)
    (h : Calls P f args w fun e w' => ∃ v, e = .returned v ∧ R v w') : opOK P o a w R := by unfold opOK; rw [hr]; exact h
theorem opOK_val {P : Program} {o : Oper} {a : Act} {w w' : World} {R : Value → World → Prop} {v : Value} (hr : (execOp a.eval o).run P w = .ok (.value v) w') (h : R v w') : opOK P o a w R := by unfold opOK; rw [hr]; exact h
theorem opOK_mono {P : Program} {o : Oper} {a : Act} {w : World} {R R' : Value → World → Prop} (h : opOK P o a w R) (hr : ∀ v w', R v w' → R' v w') : opOK P o a w R' := by
  unfold opOK at *
  generalize (execOp a.eval o).run P w = r at *
  cases r with
  | ok n w' =>
    cases n <;> simp only at h ⊢
    case value u => exact hr _ _ h
    case skip => exact hr _ _ h
    case enter f args => exact h.mono (fun _ _ ⟨v, he, hR⟩ => ⟨v, he, hr _ _ hR⟩)
  | halt x w' => simp only at h
end Go.Oche
