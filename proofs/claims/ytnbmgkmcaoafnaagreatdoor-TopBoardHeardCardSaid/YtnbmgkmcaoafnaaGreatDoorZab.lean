/- The texts Range, FreeIn, Sl, O2B, O2C, in build order. -/
import Derived.Test.YtnbmgkmcaoafnaaGreatDoorZaa
import Derived.RangeFuncNested
import Derived.RangeFuncCalls
import Derived.RangeFuncLeaves
import Derived.Below
import Derived.OrdersIn
import Derived.OwnWalkIn
import Derived.WalkKit
import Derived.Lib.Hide
import Derived.Outline

/- A range over a function, at the wide fence: the consumer owns a set of blocks; the iterator keeps off them, and the consumer keeps off the iterator's. -/
namespace Go.Oche
open Go Go.RowKit

structure Rel (O : Nat → Prop) (W : World) (O' : Nat → Prop) (W' : World) : Prop where
 os : W'.os = W.os
 tape : W'.tape = W.tape
 output : W'.output = W.output
 size : W.heap.size ≤ W'.heap.size
 block : ∀ k,k < W.heap.size → ¬ O k → W'.heap[k]? = W.heap[k]?
 own : ∀ k,O' k → O k ∨ W.heap.size ≤ k
 lt : ∀ k,O' k → k < W'.heap.size

theorem Rel.refl {O : Nat → Prop} {W : World} (h : ∀ k,O k → k < W.heap.size) : Rel O W O W:=⟨rfl,rfl,rfl,Nat.le_refl _,fun _ _ _ => rfl,fun _ h => .inl h,h⟩
theorem Rel.trans {O O' O'' : Nat → Prop} {W W' W'' : World} (h : Rel O W O' W') (k : Rel O' W' O'' W'') : Rel O W O'' W'' :=
 ⟨k.os.trans h.os,k.tape.trans h.tape,k.output.trans h.output,Nat.le_trans h.size k.size,
  fun i hi hn => (k.block i (Nat.lt_of_lt_of_le hi h.size) (fun ho => by rcases h.own i ho with h1 | h1; exact hn h1; omega)).trans (h.block i hi hn),
  fun i hi => by rcases k.own i hi with h1 | h1; exact h.own i h1; exact .inr (Nat.le_trans h.size h1),k.lt⟩
theorem Rel.of_below {O : Nat → Prop} {W W' : World} (h : Below W.heap.size W W') (hO : ∀ k,O k → k < W.heap.size) : Rel O W O W' :=
 ⟨h.os,h.tape,h.output,h.size,fun k hk _ => h.block k hk,fun _ h => .inl h,fun k hk => Nat.lt_of_lt_of_le (hO k hk) h.size⟩
theorem Rel.below {O O' : Nat → Prop} {W W' : World} {B : Nat} (h : Rel O W O' W') (hB : B ≤ W.heap.size) (hO : ∀ k,k < B → ¬ O k) : Below B W W' :=
 ⟨h.os,h.tape,h.output,h.size,fun k hk => h.block k (by omega) (hO k hk)⟩
theorem Rel.cell {O O' : Nat → Prop} {W W' : World} (h : Rel O W O' W') {p : Addr} {v : Value} (hv : W.cell? p = some v) (hO : ¬ O p.block) : W'.cell? p = some v :=
 (World.cell?_of_block (w:=W) (h.block p.block (World.block_lt_of_cell? W p hv) hO)).trans hv

def Row (t : TypeId) (W : World) (k : Nat) : Prop := ∃ c fz,W.heap[k]? = some (.cells c t fz)
theorem Row.loop {t : TypeId} {W : World} {k : Nat} {r : Loop} (h : Row t W k) (hl : W.heap[k]? = some (.loop r)) : False:=by
 obtain ⟨c,fz,h⟩ := h; rw [hl] at h; cases h
theorem Row.keep {t : TypeId} {W W' : World} {k : Nat} (h : Row t W k) (hk : W'.heap[k]? = W.heap[k]?) : Row t W' k:=by obtain ⟨c,fz,h⟩ := h; exact ⟨c,fz,hk.trans h⟩
def Stab {β : Type} (t : TypeId) (N : Nat) (J : List β → (Nat → Prop) → World → Prop) : Prop :=
 ∀ pre O W W',J pre O W → W'.os = W.os → W'.tape = W.tape → W'.output = W.output → W.heap.size ≤ W'.heap.size →
  (∀ k,k < W.heap.size → (O k ∨ k < N ∨ Row t W k) → W'.heap[k]? = W.heap[k]?) → J pre O W'

structure OnlyAt (l : Nat) (W W' : World) : Prop where
 os : W'.os = W.os
 tape : W'.tape = W.tape
 output : W'.output = W.output
 size : W'.heap.size = W.heap.size
 block : ∀ k,k ≠ l → W'.heap[k]? = W.heap[k]?
 cell : ∀ p,W'.cell? p = W.cell? p
 frozen : ∀ p,W'.frozen? p = W.frozen? p

theorem OnlyAt.putObj {l : Nat} {W : World} {r r' : Loop} (h : W.heap[l]? = some (.loop r)) : OnlyAt l W (W.putObj l (.loop r')):=by
 have hlt : l < W.heap.size:=(Array.getElem?_eq_some_iff.1 h).1
 have h2 : (W.putObj l (.loop r')).heap[l]? = some (.loop r'):=World.putObj_heap_same hlt;refine ⟨rfl,rfl,rfl,by simp,fun k hk => World.putObj_heap_other hk,fun p => ?_,fun p => ?_⟩
 ·by_cases hp : p.block = l
  ·unfold World.cell?; rw [hp,h,h2]
  ·exact World.cell?_of_block (w:=W) (World.putObj_heap_other hp)
 ·by_cases hp : p.block = l
  ·unfold World.frozen?; rw [hp,h,h2]
  ·exact World.frozen?_of_block (w:=W) (World.putObj_heap_other hp)

theorem OnlyAt.cells {l : Nat} {W W' : World} (h : OnlyAt l W W') {k : Nat} {o : Obj} (hl : k ≠ l) (ho : W.heap[k]? = some o) : W'.heap[k]? = some o:=(h.block k hl).trans ho

def IterIn {β : Type} (t : TypeId) (P : Program) (gf : Nat) (fa lb : Array Value) (enc : β → Array Value → (Nat → Prop) → World → Prop) (L : List β) (Rs : Nat → Prop) (w : World) : Prop :=
 ∀ (l : Nat) (J Jx : List β → (Nat → Prop) → World → Prop) (O : Nat → Prop) (W : World),
  Below w.heap.size w W → (∀ k,O k → k < W.heap.size) → (∀ k,Rs k → k < w.heap.size ∧ ¬ O k) → Stab t W.heap.size J → Stab t W.heap.size Jx →
  (∀ pre b post args O₁ W₁,L = pre ++ b :: post → Rel O W O₁ W₁ → J pre O₁ W₁ → enc b args O₁ W₁ → YieldAt Fence.wide 0 P l args W₁ fun e W' =>
   ∃ O',Rel O₁ W₁ O' W' ∧ ((e = .returned (.bool true) ∧ J (pre ++ [b]) O' W') ∨ (e = .returned (.bool false) ∧ Jx (pre ++ [b]) O' W'))) →
  J [] O W →
  CallsIn Fence.wide 0 P gf (fa ++ #[.func (.yield l) #[] #[]] ++ lb) W fun e W' => (∃ v,e = .returned v) ∧
   ∃ O',Rel O W O' W' ∧ (J L O' W' ∨ ∃ pre,pre <+: L ∧ Jx pre O' W')

def rPost {β : Type} (I : List β → (Nat → Prop) → World → Prop) (Ix : Code → List β → (Nat → Prop) → World → Prop) (xs : List β) (O : Nat → Prop) (W : World) : Exit → Act → World → Prop
 | .normal,_,W' => ∃ O',Rel O W O' W' ∧ I xs O' W'
 | .ret,_,W' => ∃ O',Rel O W O' W' ∧ Ix .ret xs O' W'
 | .exit id,_,W' => ∃ O',Rel O W O' W' ∧ Ix (.exit id) xs O' W'
 | .goto t,_,W' => ∃ O',Rel O W O' W' ∧ Ix (.goto t) xs O' W'
 | .panic _,_,_ => False
 | .outgrown,_,_ => False

theorem endOne {P : Program} {l : Nat} {r : Loop} {W : World} (h : W.heap[l]? = some (.loop r)) (hb : r.state ≠ .busy) :
  ∃ W',(Instr.endLoop l).run P W = .ok r.pending W' ∧ OnlyAt l W W':=⟨_,run_endLoop h hb,OnlyAt.putObj h⟩

theorem wpIn_range {β : Type} {t : TypeId} {P : Program} {g : Operand} {ps : Array Tmp} {assign body : Code} {Q : Exit → Act → World → Prop} {a : Act} {w : World}
  {gf : Nat} {fa lb : Array Value} (hg : a.eval g = .func (.func gf) fa lb) (eg : ∀ args w,(callFunc gf args).run P w = .ok (.enter gf args) w)
  {enc : β → Array Value → (Nat → Prop) → World → Prop} {L : List β} {Rs : Nat → Prop} (hseq : IterIn t P gf fa lb enc L Rs w)
  (I : List β → (Nat → Prop) → World → Prop) (Ix : Code → List β → (Nat → Prop) → World → Prop) (hI : Stab t w.heap.size I) (hIx : ∀ c,Stab t w.heap.size (Ix c))
  (O : Nat → Prop) (hO : ∀ k,O k → k < w.heap.size) (hRs : ∀ k,Rs k → k < w.heap.size ∧ ¬ O k) (h0 : I [] O w)
  (hps : ∀ b args O W,enc b args O W → args.size = ps.size)
  (hround : ∀ (l : Nat) pre b post args O₁ W₁,L = pre ++ b :: post → w.heap.size < l → l < W₁.heap.size → ¬ O₁ l → ¬ O₁ (l - 1) → Rel O w O₁ W₁ → I pre O₁ W₁ → enc b args (fun k => O₁ k ∨ k = l ∨ k = l - 1) W₁ →
   assign.wpIn (Fence.wide.inRound l) 0 P (Exit.then (fun a₁ W₂ => Below W₁.heap.size W₁ W₂ ∧ ∀ W₃,OnlyAt l W₂ W₃ → I pre O₁ W₃ → body.wpIn (Fence.wide.inRound l) 0 P (rPost I Ix (pre ++ [b]) O₁ W₃) a₁ W₃) (fun _ _ _ => False))
    { tmps:=(ps.zip args).foldl (fun t (p,v) => t.setIfInBounds p v) a.tmps,defers:=[] } W₁)
  (hdone : ∀ (D : Nat) (O₁ : Nat → Prop) (W : World),w.heap.size ≤ D → ¬ O₁ D → Rel O w O₁ W → I L O₁ W → W.heap[D]? = some (.deferred (some [])) → Q .normal { a with defers:={ target:=.collected D,args:=#[] } :: a.defers } W)
  (hstop : ∀ (D : Nat) (c : Code) (pre : List β) (O₁ : Nat → Prop) (W : World),w.heap.size ≤ D → ¬ O₁ D → pre <+: L → Rel O w O₁ W → Ix c pre O₁ W → W.heap[D]? = some (.deferred (some [])) → c.wpIn Fence.wide 0 P Q { a with defers:={ target:=.collected D,args:=#[] } :: a.defers } W) :
  (Code.rangeFunc g ps assign body).wpIn Fence.wide 0 P Q a w:=by
 refine wpIn_rangeFunc ?_
 intro fn hfn
 obtain ⟨rec,hrec⟩ : ∃ rec : LoopState → Option Code → Loop,rec = fun st pe => { state:=st,pending:=pe,fn,tmps:=a.tmps,params:=ps,assign,body,defers:=w.heap.size }:=⟨_,rfl⟩
 obtain ⟨W1,hW1⟩ : ∃ W1,(w.alloc (.deferred (some []))).alloc (.loop (rec .ready none)) = W1:=⟨_,rfl⟩;have hsz : W1.heap.size = w.heap.size + 2:=by rw [← hW1]; simp
 have hb1 : Below w.heap.size w W1:=by rw [← hW1]; exact ((Below.refl _ w).alloc (Nat.le_refl _) _).alloc (by simp) _
 have hL1 : W1.heap[w.heap.size + 1]? = some (.loop (rec .ready none)):=by
  rw [← hW1]; have:=World.alloc_heap_new (w.alloc (.deferred (some []))) (.loop (rec .ready none)); simpa using this
 have hK1 : W1.heap[w.heap.size]? = some (.deferred (some [])):=by
  rw [← hW1]; exact (Below.heap_alloc _ _ _ (by simp)).trans (World.alloc_heap_new w _)
 refine ⟨w.heap.size + 1,[{ target:=.collected w.heap.size,args:=#[] }],W1, { target:=.fn (.func gf) lb,args:=fa ++ #[.func (.yield (w.heap.size + 1)) #[] #[]] },W1,gf,
  fa ++ #[.func (.yield (w.heap.size + 1)) #[] #[]] ++ lb,W1, ?_, ?_,fun _ _ => trivial, ?_,fun h => by simp [Fence.wide] at h, ?_⟩
 ·rw [← hW1,hrec]; exact run_enterLoop_outer _ _ _ _ _
 ·simp only [resolve,hg]
  simp [go_sem]
 ·simp [invoke,go_sem,eg]
 ·obtain ⟨l,hl⟩ : ∃ l,l = w.heap.size + 1:=⟨_,rfl⟩
  have hlD : l - 1 = w.heap.size:=by omega
  have J0 : ∀ (st : LoopState) (pe : Option Code) (X : List β → (Nat → Prop) → World → Prop),Stab t w.heap.size X →
    Stab t W1.heap.size (fun pre O₂ W => ∃ Ou,(∀ k,O₂ k ↔ Ou k ∨ k = l ∨ k = w.heap.size) ∧ ¬ Ou l ∧ ¬ Ou w.heap.size ∧ Rel O w Ou W ∧ X pre Ou W ∧ W.heap[l]? = some (.loop (rec st pe)) ∧ W.heap[w.heap.size]? = some (.deferred (some []))):=by
   intro st pe X hX pre O₂ W W' ⟨Ou,hiff,hnl,hnD,hr,hx,hll,hDD⟩ e1 e2 e3 e4 e5
   have hlt : l < W.heap.size:=(Array.getElem?_eq_some_iff.1 hll).1
   refine ⟨Ou,hiff,hnl,hnD,⟨e1.trans hr.os,e2.trans hr.tape,e3.trans hr.output,Nat.le_trans hr.size e4,fun k hk hn => ?_,hr.own,fun k hk => Nat.lt_of_lt_of_le (hr.lt k hk) e4⟩, ?_, ?_, ?_⟩
   ·exact (e5 k (Nat.lt_of_lt_of_le hk hr.size) (.inr (.inl (by omega)))).trans (hr.block k hk hn)
   ·exact hX pre Ou W W' hx e1 e2 e3 e4 fun k hk h => e5 k hk (by rcases h with h | h | h; exact .inl ((hiff k).2 (.inl h)); exact .inr (.inl (by omega)); exact .inr (.inr h))
   ·exact (e5 l hlt (.inr (.inl (by omega)))).trans hll
   ·exact (e5 _ (by omega) (.inr (.inl (by omega)))).trans hDD
  have H:=hseq l
   (fun pre O₂ W => ∃ Ou,(∀ k,O₂ k ↔ Ou k ∨ k = l ∨ k = w.heap.size) ∧ ¬ Ou l ∧ ¬ Ou w.heap.size ∧ Rel O w Ou W ∧ I pre Ou W ∧ W.heap[l]? = some (.loop (rec .ready none)) ∧ W.heap[w.heap.size]? = some (.deferred (some [])))
   (fun pre O₂ W => ∃ c, ∃ Ou,(∀ k,O₂ k ↔ Ou k ∨ k = l ∨ k = w.heap.size) ∧ ¬ Ou l ∧ ¬ Ou w.heap.size ∧ Rel O w Ou W ∧ Ix c pre Ou W ∧ W.heap[l]? = some (.loop (rec .done (some c))) ∧ W.heap[w.heap.size]? = some (.deferred (some [])))
   (fun k => O k ∨ k = l ∨ k = w.heap.size) W1 hb1
   (fun k hk => by rcases hk with hk | hk | hk; (have:=hO k hk; omega); omega; omega)
   (fun k hk => ⟨(hRs k hk).1,fun h => by rcases h with h | h | h; exact (hRs k hk).2 h; (have:=(hRs k hk).1; omega); (have:=(hRs k hk).1; omega)⟩)
   (J0 .ready none I hI)
   (fun pre O₂ W W' ⟨c,hc⟩ e1 e2 e3 e4 e5 => ⟨c,J0 .done (some c) (Ix c) (hIx c) pre O₂ W W' hc e1 e2 e3 e4 e5⟩)
  rw [← hl];rw [← hl] at hL1;refine (H ?_ ?_).mono ?_
  ·rintro pre b post args O₁ W hL _ ⟨Ou,hiff,hnl,hnD,hr,hi,hll,hDD⟩ henc
   have hlt : l < W.heap.size:=(Array.getElem?_eq_some_iff.1 hll).1
   have hlt2 : w.heap.size < W.heap.size:=(Array.getElem?_eq_some_iff.1 hDD).1
   have henc' : enc b args (fun k => Ou k ∨ k = l ∨ k = l - 1) W:=by
    have : O₁ = fun k => Ou k ∨ k = l ∨ k = l - 1:=by funext k; rw [hlD]; exact propext (hiff k)
    rw [← this]; exact henc
   have hy:=run_yield (P:=P) (args:=args) hll (by rw [hrec]; exact hps b args _ W henc')
   rw [hrec] at hy;refine ⟨fn,_,assign,body,hy,roundIn_of_wpIn trivial (wpIn_mono (hround l pre b post args Ou W hL (by omega) hlt hnl (by rw [hlD]; exact hnD) hr hi henc') ?_)⟩
   clear hy;rintro e a₁ W₂ hq;cases e with
   | normal =>
    obtain ⟨hb2,hcont⟩ := hq;have hl2 : W₂.heap[l]? = some (.loop (rec .ready none)):=(hb2.block l hlt).trans hll;have hD2 : W₂.heap[w.heap.size]? = some (.deferred (some [])):=(hb2.block _ hlt2).trans hDD;have hlt' : l < W₂.heap.size:=(Array.getElem?_eq_some_iff.1 hl2).1
    have hbr:=run_beginRound (P:=P) hl2 (by rw [hrec])
    obtain ⟨W₃,hW₃⟩ : ∃ W₃,W₂.putObj l (.loop { rec .ready none with state:=.busy }) = W₃ := ⟨_,rfl⟩
    have hon : OnlyAt l W₂ W₃ := by rw [← hW₃]; exact OnlyAt.putObj hl2
    have hl3 : W₃.heap[l]? = some (.loop { rec .ready none with state:=.busy }):=by rw [← hW₃]; exact World.putObj_heap_same hlt'
    have hi3 : I pre Ou W₃ := hI pre Ou W W₃ hi (hon.os.trans hb2.os) (hon.tape.trans hb2.tape) (hon.output.trans hb2.output) (by rw [hon.size]; exact hb2.size)
     fun k hk h => (hon.block k (fun e => by subst e; rcases h with h | h | h; exact hnl h; omega; exact h.loop hll)).trans (hb2.block k hk)
    have hD3 : W₃.heap[w.heap.size]? = some (.deferred (some [])):=(hon.block _ (by omega)).trans hD2
    have hsz3 : W.heap.size ≤ W₃.heap.size:=by rw [hon.size]; exact hb2.size
    have hlt3 : l < W₃.heap.size:=(Array.getElem?_eq_some_iff.1 hl3).1
    rw [hW₃] at hbr;refine ⟨W₃,hbr,wpIn_mono (hcont W₃ hon hi3) ?_⟩
    have fin : ∀ (jump : Option Code) (X : List β → (Nat → Prop) → World → Prop),Stab t w.heap.size X → ∀ (Ou' : Nat → Prop) (W4 : World),Rel Ou W₃ Ou' W4 → X (pre ++ [b]) Ou' W4 →
      ∃ v W5,(Instr.endRound l jump).run P W4 = .ok v W5 ∧ v = .bool jump.isNone ∧ Rel O₁ W (fun k => Ou' k ∨ k = l ∨ k = w.heap.size) W5 ∧
       ¬ Ou' l ∧ ¬ Ou' w.heap.size ∧ Rel O w Ou' W5 ∧ X (pre ++ [b]) Ou' W5 ∧ W5.heap[l]? = some (.loop (rec (if jump.isNone then .ready else .done) jump)) ∧ W5.heap[w.heap.size]? = some (.deferred (some [])):=by
     intro jump X hX Ou' W4 hr4 hx
     have hl4 : W4.heap[l]? = some (.loop { rec .ready none with state:=.busy }):=(hr4.block l hlt3 hnl).trans hl3
     have hlt4 : l < W4.heap.size:=(Array.getElem?_eq_some_iff.1 hl4).1
     have hD4 : W4.heap[w.heap.size]? = some (.deferred (some [])):=(hr4.block _ (by omega) hnD).trans hD3
     have hend:=run_endRound (P:=P) jump hl4;obtain ⟨W5,hW5⟩ : ∃ W5,W4.putObj l (.loop (rec (if jump.isNone then .ready else .done) jump)) = W5:=⟨_,rfl⟩
     have hon5 : OnlyAt l W4 W5:=by rw [← hW5]; exact OnlyAt.putObj hl4
     have hnl' : ¬ Ou' l:=fun h => by rcases hr4.own l h with h | h; exact hnl h; omega
     have hnD' : ¬ Ou' w.heap.size:=fun h => by rcases hr4.own _ h with h | h; exact hnD h; omega
     have hWW5 : ∀ k,k < W.heap.size → ¬ Ou k → k ≠ l → W5.heap[k]? = W.heap[k]? := fun k hk hn hne =>
      (hon5.block k hne).trans ((hr4.block k (by omega) hn).trans ((hon.block k hne).trans (hb2.block k hk)))
     have hs5 : W.heap.size ≤ W5.heap.size:=by rw [hon5.size]; have:=hr4.size; omega
     refine ⟨_,W5, ?_,rfl,⟨?_, ?_, ?_,hs5, ?_, ?_, ?_⟩,hnl',hnD',⟨?_, ?_, ?_,Nat.le_trans hr.size hs5, ?_, ?_, ?_⟩, ?_, ?_, ?_⟩
     ·rw [hend,← hW5,hrec]
     ·exact hon5.os.trans (hr4.os.trans (hon.os.trans hb2.os))
     ·exact hon5.tape.trans (hr4.tape.trans (hon.tape.trans hb2.tape))
     ·exact hon5.output.trans (hr4.output.trans (hon.output.trans hb2.output))
     ·intro k hk hn
      have hn' : ¬ Ou k ∧ k ≠ l:=⟨fun h => hn ((hiff k).2 (.inl h)),fun h => hn ((hiff k).2 (.inr (.inl h)))⟩
      exact hWW5 k hk hn'.1 hn'.2
     ·intro k hk
      rcases hk with hk | hk | hk
      ·rcases hr4.own k hk with h | h
       ·exact .inl ((hiff k).2 (.inl h))
       ·exact .inr (by omega)
      ·exact .inl ((hiff k).2 (.inr (.inl hk)))
      ·exact .inl ((hiff k).2 (.inr (.inr hk)))
     ·intro k hk
      rw [hon5.size];rcases hk with hk | hk | hk
      ·exact hr4.lt k hk
      ·omega
      ·have:=hr4.size; omega
     ·exact (hon5.os.trans (hr4.os.trans (hon.os.trans hb2.os))).trans hr.os
     ·exact (hon5.tape.trans (hr4.tape.trans (hon.tape.trans hb2.tape))).trans hr.tape
     ·exact (hon5.output.trans (hr4.output.trans (hon.output.trans hb2.output))).trans hr.output
     ·intro k hk hn
      have hkW : k < W.heap.size:=Nat.lt_of_lt_of_le hk hr.size;exact (hWW5 k hkW (fun h => by rcases hr.own k h with h | h; exact hn h; omega) (by omega)).trans (hr.block k hk hn)
     ·intro k hk
      rcases hr4.own k hk with h | h
      ·exact hr.own k h
      ·exact .inr (by have:=hr.size; omega)
     ·intro k hk; rw [hon5.size]; exact hr4.lt k hk
     ·exact hX _ _ W4 W5 hx hon5.os hon5.tape hon5.output (by rw [hon5.size]; exact Nat.le_refl _) fun k _ h => hon5.block k (fun e => by subst e; rcases h with h | h | h; exact hnl' h; omega; exact h.loop hl4)
     ·rw [← hW5]; exact World.putObj_heap_same hlt4
     ·exact (hon5.block _ (by omega)).trans hD4
    rintro e a3 W4 hp;cases e with
    | normal =>
     obtain ⟨Ou',hr4,hi4⟩ := hp;obtain ⟨v,W5,hend,rfl,hrel,h1,h2,h3,h4,h5,h6⟩ := fin none I hI Ou' W4 hr4 hi4;exact ⟨_,W5,hend,_,hrel,.inl ⟨rfl,Ou',fun _ => Iff.rfl,h1,h2,h3,h4,h5,h6⟩⟩
    | ret =>
     obtain ⟨Ou',hr4,hi4⟩ := hp;obtain ⟨v,W5,hend,rfl,hrel,h1,h2,h3,h4,h5,h6⟩ := fin (some .ret) (Ix .ret) (hIx _) Ou' W4 hr4 hi4;exact ⟨_,W5,hend,_,hrel,.inr ⟨rfl,.ret,Ou',fun _ => Iff.rfl,h1,h2,h3,h4,h5,h6⟩⟩
    | exit id =>
     obtain ⟨Ou',hr4,hi4⟩ := hp;obtain ⟨v,W5,hend,rfl,hrel,h1,h2,h3,h4,h5,h6⟩ := fin (some (.exit id)) (Ix (.exit id)) (hIx _) Ou' W4 hr4 hi4;exact ⟨_,W5,hend,_,hrel,.inr ⟨rfl,.exit id,Ou',fun _ => Iff.rfl,h1,h2,h3,h4,h5,h6⟩⟩
    | goto t =>
     obtain ⟨Ou',hr4,hi4⟩ := hp;obtain ⟨v,W5,hend,rfl,hrel,h1,h2,h3,h4,h5,h6⟩ := fin (some (.goto t)) (Ix (.goto t)) (hIx _) Ou' W4 hr4 hi4;exact ⟨_,W5,hend,_,hrel,.inr ⟨rfl,.goto t,Ou',fun _ => Iff.rfl,h1,h2,h3,h4,h5,h6⟩⟩
    | panic ch => exact hp.elim
    | outgrown => exact hp.elim
   | exit id => exact hq.elim
   | goto t => exact hq.elim
   | ret => exact hq.elim
   | panic ch => exact hq.elim
   | outgrown => exact hq.elim
  ·refine ⟨O,fun _ => Iff.rfl,fun h => by have:=hO l h; omega,fun h => by have:=hO _ h; omega,Rel.of_below hb1 hO, ?_,hL1,hK1⟩
   exact hI [] O w W1 h0 hb1.os hb1.tape hb1.output hb1.size fun k hk _ => hb1.block k hk
  ·rintro e W2 ⟨⟨v,rfl⟩,O₂,hrel,(⟨Ou,hiff,hnl,hnD,hr,hi,hll,hDD⟩ | ⟨pre,hpre,c,Ou,hiff,hnl,hnD,hr,hi,hll,hDD⟩)⟩
   all_goals
    obtain ⟨W3,hend,hon⟩ := endOne (P:=P) hll (by rw [hrec]; simp)
    have hr3 : Rel O w Ou W3:=⟨hon.os.trans hr.os,hon.tape.trans hr.tape,hon.output.trans hr.output,by rw [hon.size]; exact hr.size,
     fun k hk hn => (hon.block k (by omega)).trans (hr.block k hk hn),hr.own,fun k hk => by rw [hon.size]; exact hr.lt k hk⟩
    have hD3 : W3.heap[w.heap.size]? = some (.deferred (some [])):=(hon.block _ (by omega)).trans hDD
   ·have hi3:=hI L Ou W2 W3 hi hon.os hon.tape hon.output (by rw [hon.size]; exact Nat.le_refl _) fun k _ h => hon.block k (fun e => by subst e; rcases h with h | h | h; exact hnl h; omega; exact h.loop hll)
    refine ⟨none,W3, ?_,hdone _ Ou W3 (Nat.le_refl _) hnD hr3 hi3 hD3⟩
    rw [hend,hrec]
   ·have hi3:=hIx c pre Ou W2 W3 hi hon.os hon.tape hon.output (by rw [hon.size]; exact Nat.le_refl _) fun k _ h => hon.block k (fun e => by subst e; rcases h with h | h | h; exact hnl h; omega; exact h.loop hll)
    refine ⟨some c,W3, ?_,hstop _ c pre Ou W3 (Nat.le_refl _) hnD hpre hr3 hi3 hD3⟩
    rw [hend,hrec]

theorem Stab.ext {β : Type} {t : TypeId} {N : Nat} {J : List β → (Nat → Prop) → World → Prop} (h : Stab t N J) {pre : List β} {O : Nat → Prop} {W W' : World} (hj : J pre O W) (hb : Below W.heap.size W W') : J pre O W' :=
 h pre O W W' hj hb.os hb.tape hb.output hb.size fun k hk _ => hb.block k hk
theorem Rel.ext {O O' : Nat → Prop} {W W' W'' : World} (h : Rel O W O' W') (hb : Below W'.heap.size W' W'') : Rel O W O' W'':=h.trans (Rel.of_below hb h.lt)
theorem rAt {O O' : Nat → Prop} {W W' : World} (h : Rel O W O' W') {b o : Nat} {v : Value} (hv : W.cell? ⟨b,o,none⟩ = some v) (hO : ¬ O b) : W'.cell? ⟨b,o,none⟩ = some v:=h.cell hv hO
theorem bAt {W W' : World} (h : Below W.heap.size W W') {b o : Nat} {v : Value} (hv : W.cell? ⟨b,o,none⟩ = some v) : W'.cell? ⟨b,o,none⟩ = some v :=
 (h.cell (p:=⟨b,o,none⟩) (World.block_lt_of_cell? W _ hv)).trans hv

/-! The marks that ranges over functions leave among an activation's deferred calls. -/
def mk (D : Nat) : Deferred:={ target:=.collected D,args:=#[] }
structure Passed (Ds : List Nat) (W W' : World) : Prop where
 os : W'.os = W.os
 tape : W'.tape = W.tape
 output : W'.output = W.output
 size : W'.heap.size = W.heap.size
 block : ∀ k,k ∉ Ds → W'.heap[k]? = W.heap[k]?
 cell : ∀ p,W'.cell? p = W.cell? p
 frozen : ∀ p,W'.frozen? p = W.frozen? p
theorem Passed.refl (Ds : List Nat) (W : World) : Passed Ds W W:=⟨rfl,rfl,rfl,rfl,fun _ _ => rfl,fun _ => rfl,fun _ => rfl⟩
theorem Passed.below {Ds : List Nat} {W W' : World} (h : Passed Ds W W') {B : Nat} (hD : ∀ D ∈ Ds,B ≤ D) : Below B W W' :=
 ⟨h.os,h.tape,h.output,Nat.le_of_eq h.size.symm,fun k hk => h.block k fun hm => by have:=hD k hm; omega⟩
structure Marks (B : Nat) (W : World) (Ds : List Nat) : Prop where
 nodup : Ds.Nodup
 open_ : ∀ D ∈ Ds,W.heap[D]? = some (.deferred (some []))
 low : ∀ D ∈ Ds,B ≤ D
theorem Marks.nil (B : Nat) (W : World) : Marks B W []:=⟨List.nodup_nil,fun _ h => (by cases h),fun _ h => (by cases h)⟩
theorem Marks.cons {B D : Nat} {W : World} {Ds : List Nat} (h : Marks B W Ds) (hD : W.heap[D]? = some (.deferred (some []))) (hB : B ≤ D) (hn : D ∉ Ds) : Marks B W (D :: Ds) :=
 ⟨List.nodup_cons.2 ⟨hn,h.nodup⟩,fun d hd => by rcases List.mem_cons.1 hd with rfl | hd; exact hD; exact h.open_ d hd,fun d hd => by rcases List.mem_cons.1 hd with rfl | hd; exact hB; exact h.low d hd⟩
theorem Marks.lt {B : Nat} {W : World} {Ds : List Nat} (h : Marks B W Ds) : ∀ D ∈ Ds,D < W.heap.size:=fun D hD => (Array.getElem?_eq_some_iff.1 (h.open_ D hD)).1
theorem Marks.keep {B : Nat} {W W' : World} {Ds : List Nat} (h : Marks B W Ds) (hk : ∀ k,k < W.heap.size → k ∈ Ds → W'.heap[k]? = W.heap[k]?) : Marks B W' Ds :=
 ⟨h.nodup,fun D hD => (hk D (h.lt D hD) hD).trans (h.open_ D hD),h.low⟩
theorem Marks.below {B : Nat} {W W' : World} {Ds : List Nat} (h : Marks B W Ds) (hb : Below W.heap.size W W') : Marks B W' Ds:=h.keep fun k hk _ => hb.block k hk
theorem Marks.rel {B : Nat} {O O' : Nat → Prop} {W W' : World} {Ds : List Nat} (h : Marks B W Ds) (hr : Rel O W O' W') (hO : ∀ D ∈ Ds, ¬ O D) : Marks B W' Ds:=h.keep fun k hk hD => hr.block k hk (hO k hD)
theorem Marks.setCell {B : Nat} {W : World} {Ds : List Nat} (h : Marks B W Ds) (p : Addr) (v : Value) (hp : p.block ∉ Ds) : Marks B (W.setCell p v) Ds :=
 ⟨h.nodup,fun D hD => (Below.heap_setCell _ _ _ _ (fun e => hp (by rw [← e]; exact hD))).trans (h.open_ D hD),h.low⟩

theorem leave_marks {B : Nat} {P : Program} {fn : Func} {tmps : Array Value} {R : Ending → World → Prop} : ∀ (Ds : List Nat) (W : World),Marks B W Ds →
  (∀ W',Passed Ds W W' → ∃ v,(results fn tmps).run P W' = .ok v W' ∧ R (.returned v) W') → LeavesInM Fence.wide 0 P fn tmps R (Ds.map mk) .returning W
 | [],W,_,h => h W (Passed.refl _ _)
 | D :: Ds,W,hM,h => by
  have hD:=hM.open_ D (by simp)
  have hlt:=hM.lt D (by simp)
  have hnd:=List.nodup_cons.1 hM.nodup;refine ⟨by simp,.inl ⟨D,_,rfl,run_takeDeferred hD, ?_⟩⟩
  have hpc : ∀ p,(W.putObj D (.deferred none)).cell? p = W.cell? p:=fun p => by
   by_cases hp : p.block = D
   ·unfold World.cell?; rw [hp,hD,World.putObj_heap_same hlt]
   ·exact World.cell?_of_block (w:=W) (World.putObj_heap_other hp)
  have hpf : ∀ p,(W.putObj D (.deferred none)).frozen? p = W.frozen? p:=fun p => by
   by_cases hp : p.block = D
   ·unfold World.frozen?; rw [hp,hD,World.putObj_heap_same hlt]
   ·exact World.frozen?_of_block (w:=W) (World.putObj_heap_other hp)
  refine leave_marks Ds _ ⟨hnd.2,fun d hd => (World.putObj_heap_other (fun e => hnd.1 (by rw [← e]; exact hd))).trans (hM.open_ d (by simp [hd])),fun d hd => hM.low d (by simp [hd])⟩ fun W' hp => h W' ?_
  exact ⟨hp.os,hp.tape,hp.output,by rw [hp.size]; simp,fun k hk => by
   have : k ≠ D ∧ k ∉ Ds:=by simpa using hk
   rw [hp.block k this.2,World.putObj_heap_other this.1],fun p => (hp.cell p).trans (hpc p),fun p => (hp.frozen p).trans (hpf p)⟩
theorem Rel.setCell {O O' : Nat → Prop} {W W' : World} (h : Rel O W O' W') {p : Addr} (hp : O' p.block) (v : Value) : Rel O W O' (W'.setCell p v) :=
 h.trans ⟨rfl,rfl,rfl,by simp,fun k _ hn => Below.heap_setCell _ _ _ _ (fun e => hn (by rw [e]; exact hp)),fun _ h => .inl h,fun k hk => by simpa using h.lt k hk⟩
theorem heap_setCell_at {W : World} {b o : Nat} {c : Array Value} {t : TypeId} {fz : Nat × Nat} (h : W.heap[b]? = some (.cells c t fz)) (v : Value) : (W.setCell ⟨b,o,none⟩ v).heap[b]? = some (.cells (c.setIfInBounds o v) t fz):=by
 simp [World.setCell,Array.getElem?_modify,h]
theorem cell_of_heap {W : World} {b o : Nat} {c : Array Value} {t : TypeId} {fz : Nat × Nat} (h : W.heap[b]? = some (.cells c t fz)) : W.cell? ⟨b,o,none⟩ = c[o]? := by simp [World.cell?,h]
theorem frozen_of_heap {W : World} {b o : Nat} {c : Array Value} {t : TypeId} (h : W.heap[b]? = some (.cells c t (0,0))) : W.frozen? ⟨b,o,none⟩ = false:=by simp [World.frozen?,h]
theorem aB (w : World) (o : Obj) : Below w.heap.size w (w.alloc o):=(Below.refl _ _).alloc (Nat.le_refl _) o
theorem cell_new (w : World) (x : Value) (t : TypeId) : (w.alloc (.cells #[x] t)).cell? ⟨w.heap.size,0,none⟩ = some x:=by
 unfold World.cell?; rw [World.alloc_heap_new]; rfl
open Go Go.RowKit

def Open (F : Fence) : Prop:=F = Fence.wide ∨ ∃ l,F = Fence.wide.inRound l
theorem open_wide : Open Fence.wide:=.inl rfl
theorem open_round (l : Nat) : Open (Fence.wide.inRound l):=.inr ⟨l,rfl⟩
theorem Open.fn {F : Fence} (hF : Open F) (f : FuncId) : F.fn f:=by rcases hF with rfl | ⟨l,rfl⟩ <;> trivial
theorem Open.depth {F : Fence} (hF : Open F) : F.depth.isSome = true → 1 ≤ 0:=by rcases hF with rfl | ⟨l,rfl⟩ <;> intro h <;> simp [Fence.wide,Fence.inRound] at h
theorem callsIn_open {F : Fence} (hF : Open F) {n : Nat} {P : Program} {f : FuncId} {args : Array Value} {w : World} {R : Ending → World → Prop} (h : Calls P f args w R) : CallsIn F n P f args w R:=by
 rcases hF with rfl | ⟨l,rfl⟩
 ·exact callsIn_wide.2 h
 ·exact CallsIn.inRound l (callsIn_wide.2 h)

def noDefer (ops : Array Oper) : Bool:=ops.toList.all fun o => match o.op with | .defer _ => false | _ => true

theorem wpIn_of_opOK {F : Fence} (hF : Open F) {P : Program} {o : Oper} {a : Act} {w : World} {R : Value → World → Prop} {K : Act → World → Prop} {Q : Exit → Act → World → Prop}
  (hnd : ∀ c,o.op ≠ .defer c) (h : opOK P o a w R) (hK : ∀ v w',R v w' → K (a.put o.dst v) w') : o.wpIn F 0 P a w K Q:=by
 refine ⟨fun f _ => hF.fn f, ?_⟩
 rw [Oper.semAt_eq _ _ _ hnd];unfold opOK at h;generalize (execOp a.eval o).run P w = r at *;cases r with
 | ok n w' =>
  cases n <;> simp only at h <;> simp only [Oper.uponIn]
  case value u => exact hK _ _ h
  case skip => exact hK _ _ h
  case enter f args => exact ⟨hF.depth,callsIn_open hF (h.mono fun e w'' ⟨v,he,hr⟩ => by subst he; exact hK _ _ hr)⟩
 | halt x w' => simp only at h

theorem wpAnyIn_more {F : Fence} {n : Nat} {P : Program} {md : Region.Mode} {ops : Array Oper} {Q : Exit → Act → World → Prop} : ∀ (f : Nat) (listed : Array Bool) (a : Act) (w : World),
  wpAnyIn F n P md ops Q f listed a w → wpAnyIn F n P md ops Q (f + 1) listed a w
 | 0,_,_,_,h => ⟨fun _ => h.2,fun i hi => by rw [h.1] at hi; cases hi⟩
 | f + 1,_,_,_,h => ⟨h.1,fun i hi => wpOpIn_mono (fun _ _ => wpAnyIn_more f _ _ _) (h.2 i hi)⟩

theorem wpAnyIn_of_seq {F : Fence} {n : Nat} {P : Program} {md : Region.Mode} {ops : Array Oper} {Q' : Exit → Act → World → Prop} : ∀ (l : List Oper) (k : Nat) (listed : Array Bool) (a : Act) (w : World),(∀ j,l[j]? = ops[k + j]?) →
  Region.seqB md ops l.length k listed = true → wpListIn F n P ops Q' l a w → wpAnyIn F n P md ops Q' l.length listed a w
 | [],_,_,_,_,_,hB,h => ⟨by simpa [Region.seqB] using hB,h⟩
 | o :: l,k,listed,a,w,hl,hB,h => by
  have h0 : ops[k]? = some o:=by simpa using (hl 0).symm
  simp only [List.length_cons,Region.seqB,Bool.and_eq_true,decide_eq_true_eq] at hB;refine ⟨fun h1 => (by rw [hB.1] at h1; cases h1),fun i hi => ?_⟩
  rw [hB.1] at hi;have hik : i = k:=by simpa using hi
  subst hik;have hw : wpOpIn F n P ops Q' i (wpListIn F n P ops Q' l) a w:=by unfold wpOpIn; simp only [h0]; exact h
  exact wpOpIn_mono (fun a' w' h' => wpAnyIn_of_seq l (i + 1) _ a' w' (fun j => by have:=hl (j + 1); simpa [Nat.add_assoc,Nat.add_comm 1 j] using this) hB.2 h') hw

section law
variable {F : Fence} {P : Program} {ops : Array Oper} {Φ : Nat → Value → World → Prop} {J : (Nat → Bool) → World → Prop} {a₀ : Act} {Q : Exit → Act → World → Prop} {n : Nat}

theorem free_headIn (hF : Open F) (hnd : noDefer ops = true) (hB : freeB ops n a₀.tmps.size = true) (hv : GenAll P ops Φ J a₀ (ops.toList.take n) 0)
  (he : ∀ w,J (fun j => decide (j < n)) w → EndAll Φ w (fun a => wpListIn F 0 P ops Q (ops.toList.drop n) a w) (ops.toList.take n) 0 a₀) :
  ∀ (f : Nat) (vs : Nat → Value) (listed : Array Bool) (a : Act) (w : World),left n listed ≤ f → HeadInv .any ops n listed → FreeInv ops Φ J a₀ vs listed a w → wpAnyIn F 0 P .any ops Q (f + (ops.size - n)) listed a w:=by
 simp only [freeB,Bool.and_eq_true,Bool.or_eq_true,beq_iff_eq,decide_eq_true_eq] at hB;obtain ⟨⟨⟨⟨⟨hn,hback⟩,hdist⟩,hin⟩,htail⟩,hseq⟩ := hB;have hnd' : ∀ o,o ∈ ops.toList → ∀ c,o.op ≠ .defer c:=fun o ho c hc => by
  have:=List.all_eq_true.1 hnd o ho;rw [hc] at this; cases this
 have hin' : ∀ j o d,ops[j]? = some o → j < n → o.dst = some d → d < a₀.tmps.size:=fun j o d ho hj hd => by
  have hmem : o ∈ ops.toList.take n:=List.mem_of_getElem? (i:=j) (by rw [List.getElem?_take,if_pos hj]; simpa using ho)
  have:=List.all_eq_true.1 hin o hmem;rw [hd] at this
  simpa using this
 have hld : ∀ j o,ops[j]? = some o → j < n → (ops.toList.take n)[j]? = some o:=fun j o ho hj => by rw [List.getElem?_take,if_pos hj]; simpa using ho
 intro f
 induction f with
 | zero =>
  intro vs listed a w hl inv fi
  have hall:=left_zero (Nat.le_zero.1 hl);have harr : listed = headArr n ops.size:=by
   refine Array.ext (by simp [inv.size,headArr]; omega) fun j h1 h2 => ?_
   by_cases hj : j < n
   ·have:=hall j hj
    simp [h1] at this
    rw [this];simp only [headArr];rw [Array.getElem_append_left (by simpa using hj)]
    simp
   ·have:=inv.tail j (by omega) (by rw [inv.size] at h1; exact h1)
    simp [h1] at this
    rw [this];simp only [headArr];rw [Array.getElem_append_right (by simpa using hj)]
    simp
  have hnl : ∀ j o,ops[j]? = some o → listed.getD j false = true → j < n:=fun j o ho hl => by
   rcases Nat.lt_or_ge j n with h | h
   ·exact h
   ·have:=inv.tail j h (Array.getElem?_eq_some_iff.1 ho).1
    rw [getD_both this] at hl; cases hl
  have hK:=endAll_at (vs:=vs) _ _ _ (he w (by have h1:=fi.inv; rwa [show (fun j => listed.getD j false) = (fun j => decide (j < n)) from funext fun j => by
   by_cases hj : j < n
   ·rw [hall j hj]; simp [hj]
   ·have : listed.getD j false = false:=by
     rcases Nat.lt_or_ge j ops.size with h | h
     ·exact getD_both (inv.tail j (by omega) h)
     ·simp [Array.getElem?_eq_none (show listed.size ≤ j by rw [inv.size]; exact h)]
    rw [this]; simp [hj]] at h1)) (fun j hj => by
   have hj' : j < n:=by simp at hj; omega
   have hjs : j < ops.size:=by omega
   have:=(fi.vals j ops[j] (by simp [hjs]) (hall j hj')).1
   simpa using this)
  have ha : a = putAll vs (ops.toList.take n) 0 a₀ := by
   refine act_ext (fun t => ?_) (by rw [putAll_defers]; exact fi.defers)
   by_cases ht : ∃ j o,ops[j]? = some o ∧ j < n ∧ o.dst = some t
   ·obtain ⟨j,o,ho,hj,hd⟩ := ht
    rw [(fi.vals j o ho (hall j hj)).2 t hd,putAll_some vs t _ 0 a₀ j o hdist (hld j o ho hj) hd (hin' j o t ho hj hd)];simp
   ·rw [fi.rest t (fun j o ho hl hd => ht ⟨j,o,ho,hnl j o ho hl,hd⟩),putAll_none]
    intro o ho hd
    obtain ⟨j,hj⟩ := List.getElem?_of_mem ho
    rw [List.getElem?_take] at hj
    split at hj
    ·exact ht ⟨j,o,by simpa using hj,by assumption,hd⟩
    ·cases hj
  rw [← ha] at hK;rw [Nat.zero_add];have hlen : (ops.toList.drop n).length = ops.size - n:=by simp
  have:=wpAnyIn_of_seq (F:=F) (n:=0) (P:=P) (md:=.any) (Q':=Q) (ops.toList.drop n) n listed a w (fun j => by simp [List.getElem?_drop]) (by rw [hlen,harr]; exact hseq) hK
  rwa [hlen] at this
 | succ f ih =>
  intro vs listed a w hl inv fi
  by_cases h0 : left n listed = 0
  ·have:=ih vs listed a w (by omega) inv fi
   rw [show f + 1 + (ops.size - n) = f + (ops.size - n) + 1 by omega]
   exact wpAnyIn_more _ _ _ _ this
  ·obtain ⟨j₀,hj₀,hun₀,hbefore⟩ := exists_unlisted h0
   have hj₀s : j₀ < ops.size:=by omega
   rw [show f + 1 + (ops.size - n) = f + (ops.size - n) + 1 by omega]
   refine ⟨fun hr => ?_,fun i hi => ?_⟩
   ·exfalso
    have : j₀ ∈ Region.ready .any ops listed:=mem_ready.2 ⟨getD_in (by rw [inv.size]; omega) hun₀,ops[j₀],by simp [hj₀s],fun e he hb => by
     have h1:=List.all_eq_true.1 hback (ops[j₀],j₀) (List.mem_iff_getElem?.2 ⟨j₀,by simp [hj₀s]⟩)
     have h2:=List.all_eq_true.1 h1 e (by simpa using he)
     simp only [hb,Bool.not_true,Bool.false_or,decide_eq_true_eq] at h2;exact hbefore _ h2⟩
    rw [hr] at this; cases this
   ·have hin0 : i < n:=by
     rcases Nat.lt_or_ge i n with h | h
     ·exact h
     ·exfalso
      rcases htail with h1 | ⟨⟨h1,h2⟩,h3⟩
      ·obtain ⟨_,oi,hoi,_⟩ := mem_ready.1 hi
       have:=(Array.getElem?_eq_some_iff.1 hoi).1
       omega
      ·exact tail_waits h2 h3 h1 inv (n - j₀) j₀ rfl hj₀ (getD_in (by rw [inv.size]; omega) hun₀) i h hi
    obtain ⟨hiun,oi,hoi,hready⟩ := mem_ready.1 hi;have his : i < ops.size:=(Array.getElem?_eq_some_iff.1 hoi).1
    have hvc:=genAll_at hv (hld i oi hoi hin0);rw [Nat.zero_add] at hvc;have hvc:=hvc a w (fun j => listed.getD j false) (getD_both hiun) fi.inv (fun e he hb => by
      have hl':=hready e (by simpa using he) hb
      have hes : e.on < ops.size:=by
       have : e.on < listed.size:=by
        rcases Nat.lt_or_ge e.on listed.size with h | h
        ·exact h
        ·rw [show listed.getD e.on false = false from by simp [Array.getElem?_eq_none h]] at hl'; cases hl'
       rw [inv.size] at this; exact this
      have:=fi.vals e.on ops[e.on] (by simp [hes]) hl'
      exact ⟨ops[e.on],vs e.on,by simp [hes],hl',this.1,this.2⟩)
     (fun t ht => fi.rest t fun j o ho hlj => by
      have h1:=List.all_eq_true.1 ht o (by simpa using Array.mem_of_getElem? ho)
      simp only [Bool.or_eq_true,List.any_eq_true,Bool.and_eq_true,beq_iff_eq] at h1;rcases h1 with h1 | ⟨e,he,hb,hei⟩
      ·simpa using h1
      ·exfalso
       have h2:=inv.closed j o ho hlj e (by simpa using he) hb
       rw [hei,getD_both hiun] at h2;cases h2)
    have hset : (fun j => (listed.setIfInBounds i true).getD j false) = setB (fun j => listed.getD j false) i:=funext fun j => by
     unfold setB;by_cases hji : j = i
     ·subst hji; simp [inv.size,his]
     ·rw [if_neg hji,getD_set_ne false (Ne.symm hji)]
    have next : ∀ v w',J (setB (fun j => listed.getD j false) i) w' → (∀ j,j ≠ i → listed.getD j false = true → ∀ v, Φ j v w → (∀ oj d,ops[j]? = some oj → oj.dst = some d → a.tmps[d]? = some v) → Φ j v w') → Φ i v w' → wpAnyIn F 0 P .any ops Q (f + (ops.size - n)) (listed.setIfInBounds i true) (a.put oi.dst v) w':=fun v w' hj' hb hφ => by
     refine ih (fun j => if j = i then v else vs j) _ _ _ (by have:=left_set hin0 (by rw [inv.size]; exact his) hiun; omega) (inv.set hi hin0) ⟨?_, ?_, ?_, ?_, ?_⟩
     ·rw [hset]; exact hj'
     ·intro j o ho hl'
      by_cases hji : j = i
      ·subst hji
       have : o = oi:=Option.some.inj (ho.symm.trans hoi);subst this;refine ⟨by simpa using hφ,fun d hd => ?_⟩
       rw [put_at,if_pos ⟨hd,by rw [fi.size]; exact hin' _ _ _ ho hin0 hd⟩]; simp
      ·rw [getD_set_ne false (Ne.symm hji)] at hl'
       have h1:=fi.vals j o ho hl';have hjn : j < n:=by
        rcases Nat.lt_or_ge j n with h | h
        ·exact h
        ·have:=inv.tail j h (Array.getElem?_eq_some_iff.1 ho).1
         rw [getD_both this] at hl'; cases hl'
       refine ⟨by simpa [hji] using hb j hji hl' _ h1.1 (fun oj d hoj hd => by rw [ho] at hoj; cases hoj; exact h1.2 d hd),fun d hd => ?_⟩
       rw [put_at,if_neg (fun h' => distB_ne hdist (hld j o ho hjn) (hld i oi hoi hin0) hji hd h'.1)]
       simpa [hji] using h1.2 d hd
     ·intro t ht
      have h1 : oi.dst ≠ some t:=ht i oi hoi (by simp [inv.size,his])
      rw [put_at,if_neg (fun h' => h1 h'.1)]
      refine fi.rest t fun j o ho hl' => ht j o ho ?_
      exact getD_set_true hl'
     ·rw [put_size]; exact fi.size
     ·rw [put_defers]; exact fi.defers
    unfold wpOpIn;simp only [hoi];split
    ·rename_i hwd
     rw [if_pos hwd] at hvc;exact (wpIn_of_opOK hF (hnd' oi (by simpa using Array.mem_of_getElem? hoi)) hvc fun v w' ⟨hj',hb,hφ⟩ => next v w' hj' hb hφ)
    ·rename_i hwd
     rw [if_neg hwd] at hvc;exact ⟨fun f _ => hF.fn f,next _ _ hvc.1 (fun _ _ _ _ h _ => h) hvc.2⟩

theorem wpIn_region_gen {id : Nat} {l : List Oper} {a : Act} {w : World} (n : Nat) (Φ : Nat → Value → World → Prop) (J : (Nat → Bool) → World → Prop) (hmix : P.follows .mixedOrders = true) (hF : Open F) (hnd : noDefer l.toArray = true) (hB : freeB l.toArray n a.tmps.size = true)
  (hJ : J (fun _ => false) w.drew) (hv : GenAll P l.toArray Φ J a (l.take n) 0)
  (he : ∀ w',J (fun j => decide (j < n)) w' → EndAll Φ w' (fun a => wpListIn F 0 P l.toArray Q (l.drop n) a w') (l.take n) 0 a) : (Code.region id l.toArray true).wpIn F 0 P Q a w:=by
 refine wpIn_region_any hmix ?_
 have:=free_headIn hF hnd (Q:=Q) (a₀ := a) hB hv he n (fun _ => undef) (Array.replicate l.toArray.size false) a w.drew (by
   unfold left; exact Nat.le_trans List.countP_le_length (by simp))
  ⟨by simp,fun j oj _ hl => (by rw [getD_replicate_false] at hl; cases hl),fun t _ ht => getD_in (by simpa using ht) (getD_replicate_false _ _)⟩
  ⟨by rw [show (fun j => (Array.replicate l.toArray.size false).getD j false) = (fun _ => false) from funext fun j => getD_replicate_false _ _]; exact hJ,fun j o _ hl => (by rw [getD_replicate_false] at hl; cases hl),fun _ _ => rfl,rfl,rfl⟩
 have hn : n ≤ l.toArray.size:=by simp only [freeB,Bool.and_eq_true,decide_eq_true_eq] at hB; exact hB.1.1.1.1.1
 rw [show n + (l.toArray.size - n) = l.toArray.size by omega] at this
 exact this
end law

theorem wpIn_region_free {F : Fence} {P : Program} {Q : Exit → Act → World → Prop} {id : Nat} {l : List Oper} {a : Act} {w : World} (n : Nat) (Φ : Nat → Value → World → Prop) (hmix : P.follows .mixedOrders = true) (hF : Open F) (hnd : noDefer l.toArray = true) (hB : freeB l.toArray n a.tmps.size = true)
  (hm : ∀ i v w w',Below w.heap.size w w' → Φ i v w → Φ i v w')
  (hv : FreeAll P l.toArray Φ a w.drew (l.take n) 0)
  (he : ∀ w',Below w.heap.size w w' → EndAll Φ w' (fun a => wpListIn F 0 P l.toArray Q (l.drop n) a w') (l.take n) 0 a) : (Code.region id l.toArray true).wpIn F 0 P Q a w :=
 wpIn_region_gen n Φ (fun _ w' => Below w.drew.heap.size w.drew w') hmix hF hnd hB (Below.refl _ _) (genAll_of hm hv) fun w' hb => he w' ⟨hb.os,hb.tape,hb.output,hb.size,hb.block⟩

/-! The law where each operation's value is known ahead. -/
def fixΦ (cs : List Value) : Nat → Value → World → Prop:=fun i v _ => cs[i]? = some v
def putL : List Oper → List Value → Act → Act
 | o :: l,c :: cs,a => putL l cs (a.put o.dst c)
 | _,_,a => a
theorem endAll_fix {w : World} {K : Act → Prop} {cs : List Value} : ∀ (l : List Oper) (i : Nat) (a : Act),K (putL l (cs.drop i) a) → l.length + i ≤ cs.length → EndAll (fixΦ cs) w K l i a
 | [],_,a,h,_ => by simpa [putL,EndAll] using h
 | o :: l,i,a,h,hl => fun v hv => by
  simp only [fixΦ] at hv;simp only [List.length_cons] at hl;refine endAll_fix l (i + 1) _ ?_ (by omega)
  have hi : i < cs.length:=by omega
  rw [List.drop_eq_getElem_cons hi] at h;have hv' : cs[i] = v:=by simpa [hi] using hv
  rw [hv'] at h;exact h

theorem wp_region_fix {P : Program} {id : Nat} {l : List Oper} {a : Act} {w : World} {Q : Exit → Act → World → Prop} (n : Nat) (cs : List Value) (hmix : P.follows .mixedOrders = true) (hB : freeB l.toArray n a.tmps.size = true)
  (hlen : n ≤ cs.length) (hv : FreeAll P l.toArray (fixΦ cs) a w.drew (l.take n) 0)
  (he : ∀ w',Below w.heap.size w w' → wpList P l.toArray Q (l.drop n) (putL (l.take n) cs a) w') : (Code.region id l.toArray true).wp P Q a w :=
 wp_region_free n (fixΦ cs) hmix hB (fun _ _ _ _ _ h => h) hv fun w' hb => endAll_fix _ 0 _ (he w' hb) (by simp; omega)

theorem wpIn_region_fix {F : Fence} {P : Program} {id : Nat} {l : List Oper} {a : Act} {w : World} {Q : Exit → Act → World → Prop} (n : Nat) (cs : List Value) (hmix : P.follows .mixedOrders = true) (hF : Open F) (hnd : noDefer l.toArray = true) (hB : freeB l.toArray n a.tmps.size = true)
  (hlen : n ≤ cs.length) (hv : FreeAll P l.toArray (fixΦ cs) a w.drew (l.take n) 0)
  (he : ∀ w',Below w.heap.size w w' → wpListIn F 0 P l.toArray Q (l.drop n) (putL (l.take n) cs a) w') : (Code.region id l.toArray true).wpIn F 0 P Q a w :=
 wpIn_region_free n (fixΦ cs) hmix hF hnd hB (fun _ _ _ _ _ h => h) hv fun w' hb => endAll_fix _ 0 _ (he w' hb) (by simp; omega)
open Go Go.RowKit

def Sl (S : Nat → Prop) (w : World) (v : Value) (xs : List Value) : Prop :=
 ∃ (a : Option Addr) (cap : Nat),v = .slice a xs.length cap ∧ xs.length ≤ cap ∧ cap ≤ maxLen ∧
  ∀ i x,xs[i]? = some x → ∃ b off,a = some ⟨b,off,none⟩ ∧ S b ∧ w.cell? ⟨b,off + i,none⟩ = some x

def ints (l : List Int) : List Value:=l.map (Value.int .i64)
def bools (l : List Bool) : List Value:=l.map Value.bool
@[simp] theorem ints_length (l : List Int) : (ints l).length = l.length:=by simp [ints]
@[simp] theorem bools_length (l : List Bool) : (bools l).length = l.length:=by simp [bools]
theorem intsAt {l : List Int} {i : Nat} (h : i < l.length) : (ints l)[i]? = some (.int .i64 l[i]):=by simp [ints,h]
@[simp] theorem ints_nil : ints [] = []:=rfl
theorem ints_append (a b : List Int) : ints (a ++ b) = ints a ++ ints b:=by simp [ints]

section
variable {S S' : Nat → Prop} {w w' : World} {v : Value} {xs : List Value}
theorem Sl.mono (h : Sl S w v xs) (hS : ∀ k,S k → S' k) : Sl S' w v xs:=by
 obtain ⟨a,cap,h1,h2,h3,h4⟩ := h;exact ⟨a,cap,h1,h2,h3,fun i x hx => let ⟨b,off,e,s,c⟩ := h4 i x hx; ⟨b,off,e,hS b s,c⟩⟩
theorem Sl.below (h : Sl S w v xs) (hb : Below w.heap.size w w') : Sl S w' v xs:=by
 obtain ⟨a,cap,h1,h2,h3,h4⟩ := h;exact ⟨a,cap,h1,h2,h3,fun i x hx => let ⟨b,off,e,s,c⟩ := h4 i x hx; ⟨b,off,e,s,(hb.cell (p:=⟨b,off + i,none⟩) (World.block_lt_of_cell? w _ c)).trans c⟩⟩
theorem Sl.cells (h : Sl S w v xs) (hc : ∀ b o,S b → (w.cell? ⟨b,o,none⟩).isSome → w'.cell? ⟨b,o,none⟩ = w.cell? ⟨b,o,none⟩) : Sl S w' v xs:=by
 obtain ⟨a,cap,h1,h2,h3,h4⟩ := h;exact ⟨a,cap,h1,h2,h3,fun i x hx => let ⟨b,off,e,s,c⟩ := h4 i x hx; ⟨b,off,e,s,(hc b _ s (by rw [c]; rfl)).trans c⟩⟩
theorem Sl.rel {O O' : Nat → Prop} (h : Sl S w v xs) (hr : Rel O w O' w') (hS : ∀ k,S k → ¬ O k) : Sl S w' v xs :=
 h.cells fun b o s hs => by
  obtain ⟨x,hx⟩ := Option.isSome_iff_exists.1 hs;rw [hx]; exact hr.cell hx (hS b s)
theorem Sl.lt (h : Sl S w v xs) : Sl (fun k => S k ∧ k < w.heap.size) w v xs:=by
 obtain ⟨a,cap,h1,h2,h3,h4⟩ := h;exact ⟨a,cap,h1,h2,h3,fun i x hx => let ⟨b,off,e,s,c⟩ := h4 i x hx; ⟨b,off,e,⟨s,World.block_lt_of_cell? w _ c⟩,c⟩⟩
theorem Sl.nil (S : Nat → Prop) (w : World) : Sl S w (.slice none 0 0) []:=⟨none,0,rfl,Nat.le_refl _,Nat.zero_le _,fun i x hx => by simp at hx⟩
theorem Sl.of_owns {base : Nat} {e : TypeId} {n : Nat} (h : w.ownsRow base e 1 v n xs) : Sl (fun k => base ≤ k) w v xs:=by
 obtain ⟨hl,h | ⟨g,cap,cur,rfl,hb,hg,hn,hm,hs,ht⟩⟩ := h
 ·obtain ⟨rfl,rfl⟩ := h
  have : xs = []:=List.eq_nil_of_length_eq_zero (by simpa using hl)
  subst this;exact Sl.nil _ _
 ·refine ⟨some ⟨g,0,none⟩,cap,by simp [hl],by omega,hm,fun i x hx => ⟨g,0,rfl,hb, ?_⟩⟩
  have hi : i < xs.length:=(List.getElem?_eq_some_iff.1 hx).1
  simp only [World.cell?,hg,Nat.zero_add];rw [← ht,List.getElem?_take] at hx
  split at hx
  ·simpa using hx
  ·cases hx
theorem Sl.new (S : Nat → Prop) (w : World) (hS : S w.heap.size) (t : TypeId) (l : List Value) (hl : l.length ≤ maxLen) : Sl S (w.alloc (.cells l.toArray t)) (.slice (some ⟨w.heap.size,0,none⟩) l.length l.length) l :=
 ⟨_,_,rfl,Nat.le_refl _,hl,fun i x hx => ⟨_,0,rfl,hS,by unfold World.cell?; rw [World.alloc_heap_new]; simpa using hx⟩⟩
theorem Sl.new1 (S : Nat → Prop) (w : World) (hS : S w.heap.size) (t : TypeId) (x : Value) : Sl S (w.alloc (.cells #[x] t)) (.slice (some ⟨w.heap.size,0,none⟩) 1 1) [x] :=
 Sl.new S w hS t [x] (by simp [maxLen])
theorem Sl.len (h : Sl S w v xs) : xs.length ≤ maxLen:=let ⟨_,_,_,h2,h3,_⟩ := h; Nat.le_trans h2 h3
end
theorem Sl.form {S : Nat → Prop} {w : World} {v : Value} {xs : List Value} (h : Sl S w v xs) : ∃ a cap,v = .slice a xs.length cap ∧ xs.length ≤ cap ∧ cap ≤ maxLen:=by
 obtain ⟨a,cap,h1,h2,h3,_⟩ := h;exact ⟨a,cap,h1,h2,h3⟩
end Go.Oche

/- Chapter 2: within. -/
namespace Go.Proofs.YtnbmgkmcaoafnaaGreatDoor.O2
open Go.RowKit Go.Oche Go.Oche.O2 Go.Proofs

def outB (lo hi n : Int) : Bool:=decide (n < lo) || decide (hi < n)
def idxOut (lo hi : Int) (xs : List Int) : Int:=if xs.any (outB lo hi) then (xs.findIdx (outB lo hi) : Nat) else -1

set_option maxRecDepth 100000 in
theorem within1_any (n lo hi : Int) (pl ph : Addr) (w : World) (hl : w.cell? pl = some (.int .i64 lo)) (hh : w.cell? ph = some (.int .i64 hi)) :
  Calls Tryz.prog 138 #[.int .i64 n,.pointer (some pl),.pointer (some ph)] w fun e w' => e = .returned (.bool (outB lo hi n)) ∧ w = w':=by
 go_enter Tryz.func138,Tryz.ntmps138
 go_wp2
 all_goals (go_ret; refine ⟨ret_bool ?_,rfl⟩; simp [outB]; try omega)

theorem idxOut_hit {lo hi : Int} {xs : List Int} {k : Nat} (hk : k < xs.length) (hp : ∀ j,j < k → ∀ h : j < xs.length,outB lo hi xs[j] = false) (h : outB lo hi xs[k] = true) : idxOut lo hi xs = k:=by
 have h1 : xs.any (outB lo hi) = true:=List.any_eq_true.2 ⟨xs[k],List.getElem_mem hk,h⟩;have h2 : xs.findIdx (outB lo hi) = k:=by
  refine (List.findIdx_eq hk).2 ⟨h,fun j hj => ?_⟩
  simpa using hp j hj (by omega)
 simp [idxOut,h1,h2]
set_option maxRecDepth 100000 in
theorem idxOut_miss {lo hi : Int} {xs : List Int} (hp : ∀ j,j < xs.length → ∀ h : j < xs.length,outB lo hi xs[j] = false) : idxOut lo hi xs = -1:=by
 have h1 : xs.any (outB lo hi) = false:=by
  rw [List.any_eq_false];intro x hx;obtain ⟨j,hj,rfl⟩ := List.mem_iff_getElem.1 hx;simp [hp j hj hj]
 simp [idxOut,h1]

theorem indexFunc_any {S : Nat → Prop} (lo hi : Int) (xs : List Int) (v : Value) (pl ph : Addr) (w : World) (hs : Sl S w v (ints xs)) (hl : w.cell? pl = some (.int .i64 lo)) (hh : w.cell? ph = some (.int .i64 hi)) :
  Calls Tryz.prog 119 #[v,.func (.func 138) #[] #[.pointer (some pl),.pointer (some ph)]] w fun e w' => e = .returned (.int .i64 (idxOut lo hi xs)) ∧ w = w':=by
 obtain ⟨a,cap,rfl,h2,h3,h4⟩ := hs;simp only [ints_length] at *;unfold maxLen at h3
 go_enter Tryz.func119,Tryz.ntmps119
 go_wp2

 go_loop [5,8] (fun _ i => ∃ k : Nat,k ≤ xs.length ∧ i = .int .i64 k ∧ ∀ j,j < k → ∀ h : j < xs.length,outB lo hi xs[j] = false) (fun _ i => xs.length - (intOf i).toNat)
 case atStart => exact ⟨0,Nat.zero_le _,rfl,fun j hj => by omega⟩
 case round =>
  obtain ⟨k,hk,rfl,hp⟩ := hrel;by_cases hlt : k < xs.length
  ·obtain ⟨b,off,rfl,_,hc⟩ := h4 k _ (intsAt hlt)
   clear h4;cases ho : outB lo hi xs[k]
   all_goals
    have HO:=Lib.hid ho;have HP:=Lib.hid hp;clear ho hp
    go_wp2_with (go_at_call 138; refine (within1_any xs[k] lo hi _ _ _ hl hh).mono ?_; rintro e w' ⟨rfl,rfl⟩; rw [HO.out])
   ·go_round
    case rel => exact ⟨k + 1,by omega,by go_num,fun j hj h => by
     by_cases hjk : j = k
     ·subst hjk; exact HO.out
     ·exact HP.out j (by omega) h⟩
    case measure => simp [intOf]; omega
   ·go_ret
    exact ⟨ret_int (idxOut_hit hlt HP.out HO.out).symm,rfl⟩
  ·obtain rfl : k = xs.length:=by omega
   have HP:=Lib.hid hp;clear hp h4;go_wp2
   go_ret
   exact ⟨ret_int (idxOut_miss fun j hj h => HP.out j hj h).symm,rfl⟩

set_option maxRecDepth 100000 in
theorem containsFunc_any {S : Nat → Prop} (lo hi : Int) (xs : List Int) (v : Value) (pl ph : Addr) (w : World) (hs : Sl S w v (ints xs)) (hl : w.cell? pl = some (.int .i64 lo)) (hh : w.cell? ph = some (.int .i64 hi)) :
  Calls Tryz.prog 73 #[v,.func (.func 138) #[] #[.pointer (some pl),.pointer (some ph)]] w fun e w' => e = .returned (.bool (xs.any (outB lo hi))) ∧ w = w':=by
 go_enter Tryz.func73,Tryz.ntmps73
 go_wp2_with (go_at_call 119; refine (indexFunc_any lo hi xs _ _ _ _ hs hl hh).mono ?_; rintro e w' ⟨rfl,rfl⟩)
 go_ret
 refine ⟨ret_bool ?_,rfl⟩
 unfold idxOut;cases xs.any (outB lo hi) <;> simp <;> omega

set_option maxRecDepth 100000 in
theorem within_any {S : Nat → Prop} (lo hi : Int) (xs : List Int) (v : Value) (w : World) (hs : Sl S w v (ints xs)) :
  Calls Tryz.prog 100 #[.int .i64 lo,.int .i64 hi,v] w fun e w' => e = .returned (.bool (!xs.any (outB lo hi))) ∧ Below w.heap.size w w':=by
 have hb : Below w.heap.size w ((w.alloc (.cells #[.int .i64 lo] 3)).alloc (.cells #[.int .i64 hi] 3)):=((Below.refl _ _).alloc (Nat.le_refl _) _).alloc (by simp) _
 have hs':=hs.below hb;have H:=Lib.hid hs';clear hs hs';obtain ⟨a,cap,hv⟩ : ∃ a cap,v = .slice a xs.length cap:=by obtain ⟨a,cap,h,_⟩ := H.out; exact ⟨a,cap,by simpa using h⟩
 subst hv
 go_enter Tryz.func100,Tryz.ntmps100
 go_wp2_with (go_at_call 73; refine (containsFunc_any lo hi xs _ _ _ _ H.out (by simp) (by simp)).mono ?_; rintro e w' ⟨rfl,rfl⟩)
 go_ret
 exact ⟨rfl,hb⟩

theorem out_one (lo hi n : Int) : (!([n] : List Int).any (outB lo hi)) = isIn n lo hi:=by
 simp [outB,isIn]; rw [Bool.eq_iff_iff]; simp
open Go.RowKit Go.Oche Go.Oche.O2 Go.Proofs

set_option maxRecDepth 100000 in
theorem within_one {S : Nat → Prop} (lo hi n : Int) (v : Value) (w : World) (hs : Sl S w v (ints [n])) :
  Calls Tryz.prog 100 #[.int .i64 lo,.int .i64 hi,v] w fun e w' => e = .returned (.bool (isIn n lo hi)) ∧ Below w.heap.size w w' :=
 (within_any lo hi [n] v w hs).mono fun e w' ⟨h,hb⟩ => ⟨by rw [h,out_one],hb⟩
set_option maxRecDepth 100000 in
theorem within_one' {S : Nat → Prop} (lo hi n : Int) (r : Bool) (hr : Hid (isIn n lo hi = r)) (v : Value) (w : World) (hs : Sl S w v (ints [n])) :
  Calls Tryz.prog 100 #[.int .i64 lo,.int .i64 hi,v] w fun e w' => e = .returned (.bool r) ∧ Below w.heap.size w w':=by
 rw [← hr.out]; exact within_one lo hi n v w hs

theorem isBed_any (b : Int) (w : World) (h : I64 b) : Calls Tryz.prog 151 #[.agg #[.int .i64 b]] w fun e w' => e = .returned (.bool (bedOk b)) ∧ Below w.heap.size w w':=by
 by_cases e1 : b = 125
 ·subst e1
  go_enter Tryz.func151,Tryz.ntmps151
  go_wp2
  go_ret
  exact ⟨ret_bool (by simp [bedOk]),(Below.refl _ _).alloc (Nat.le_refl _) _⟩
 by_cases e2 : b = 225
 ·subst e2
  go_enter Tryz.func151,Tryz.ntmps151
  go_wp2
  go_ret
  exact ⟨ret_bool (by simp [bedOk]),(Below.refl _ _).alloc (Nat.le_refl _) _⟩
 have f1 : (b == 125) = false:=by simp [e1]
 have f2 : (b == 225) = false:=by simp [e2]
 have hfin : bedOk b = (isIn (fac b) 1 4 && isIn (num b) 1 20):=by simp [bedOk,f1,f2]
 have HF:=Lib.hid hfin;have HB:=Lib.hid h;clear e1 e2 hfin h;cases hf : isIn (fac b) 1 4
 ·have H1:=Lib.hid hf
  clear hf
  go_enter Tryz.func151,Tryz.ntmps151
  go_wp2_with fail;refine (fac_any _ _ HB.out).mono ?_
  rintro e w1 ⟨rfl,hb1⟩;go_wp2_with fail;refine (within_one' (S:=fun _ => True) 1 4 (fac b) _ H1 _ _ (Sl.new1 _ _ trivial _ _)).mono ?_
  rintro e w2 ⟨rfl,hb2⟩;go_wp2
  go_ret
  refine ⟨ret_bool ?_, ?_⟩
  ·rw [HF.out,H1.out]; rfl
  ·exact (((Below.refl _ _).alloc (Nat.le_refl _) _).trans (hb1.mono (by simp))).trans ((((Below.refl _ _).alloc (Nat.le_refl _) _).trans (hb2.mono (by simp))).mono (by have:=hb1.size; simp at this; omega))
 ·have H1:=Lib.hid hf
  clear hf
  go_enter Tryz.func151,Tryz.ntmps151
  go_wp2_with fail;refine (fac_any _ _ HB.out).mono ?_
  rintro e w1 ⟨rfl,hb1⟩;go_wp2_with fail;refine (within_one' (S:=fun _ => True) 1 4 (fac b) _ H1 _ _ (Sl.new1 _ _ trivial _ _)).mono ?_
  rintro e w2 ⟨rfl,hb2⟩;have c1:=hb1.cell (p:=⟨w.heap.size,0,none⟩) (by simp)
  have c2:=hb2.cell (p:=⟨w.heap.size,0,none⟩) (by have:=hb1.size; simp at this ⊢; omega)
  have z1 : w.heap.size + 1 ≤ w1.heap.size:=by have:=hb1.size; simpa using this
  have c3 : (w1.alloc (.cells #[.int .i64 (fac b)] 3)).cell? ⟨w.heap.size,0,none⟩ = w1.cell? ⟨w.heap.size,0,none⟩ := World.cell?_of_block (Below.heap_alloc _ _ _ (by simp; omega))
  have c4 : w2.cell? ⟨w.heap.size,0,none⟩ = some (.int .i64 b):=by rw [c2,c3,c1]; simp
  clear c1 c2 c3;go_wp2_with fail;refine (num_any _ _).mono ?_
  rintro e w3 ⟨rfl,hb3⟩;go_wp2_with fail;refine (within_one (S:=fun _ => True) 1 20 (num b) _ _ (Sl.new1 _ _ trivial _ _)).mono ?_
  rintro e w4 ⟨rfl,hb4⟩;go_wp2
  go_ret
  refine ⟨ret_bool ?_, ?_⟩
  ·rw [HF.out,H1.out]; rfl
  ·have s2 : w1.heap.size + 1 ≤ w2.heap.size:=by have:=hb2.size; simpa using this
   have s3:=hb3.size;exact ((((Below.refl _ _).alloc (Nat.le_refl _) _).trans (hb1.mono (by simp))).trans ((((Below.refl _ _).alloc (Nat.le_refl _) _).trans (hb2.mono (by simp))).mono (by omega))).trans
    ((hb3.mono (by omega)).trans ((((Below.refl _ _).alloc (Nat.le_refl _) _).trans (hb4.mono (by simp))).mono (by omega)))

end Go.Proofs.YtnbmgkmcaoafnaaGreatDoor.O2
