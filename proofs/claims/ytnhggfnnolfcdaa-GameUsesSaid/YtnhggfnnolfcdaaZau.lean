/- The texts JTwo, JBox2, KJ, KG, KE, in build order. -/
import Derived.Test.YtnhggfnnolfcdaaZat
import Derived.Lib.MinMax
import Derived.Deep.DeepCutAuto
import Derived.Deep.CutRange

/- A region that draws its order, with an append to each of two rows of one's own. -/
namespace Go.Oche
open Go Go.RowKit
structure JTwoA (w0 : World) (v1 v2 : Value) (i1 i2 : Nat) (L : Nat → Bool) (W : World) : Prop where
 os : W.os = w0.os
 tape : W.tape = w0.tape
 output : W.output = w0.output
 size : w0.heap.size ≤ W.heap.size
 block : ∀ k,k < w0.heap.size → (L i1 = false ∨ v1.ownBlock ≠ some k) → (L i2 = false ∨ v2.ownBlock ≠ some k) → W.heap[k]? = w0.heap[k]?
section
variable {w0 W W' : World} {v1 v2 : Value} {i1 i2 : Nat} {L : Nat → Bool}
theorem JTwoA.start : JTwoA w0 v1 v2 i1 i2 (fun _ => false) w0.drew:=⟨rfl,rfl,rfl,Nat.le_refl _,fun _ _ _ _ => rfl⟩
theorem setB_or {i j : Nat} (h : setB L i j = false) : L j = false:=by
 unfold setB at h
 split at h
 ·cases h
 ·exact h
theorem JTwoA.read (h : JTwoA w0 v1 v2 i1 i2 L W) {i : Nat} : JTwoA w0 v1 v2 i1 i2 (setB L i) W :=
 ⟨h.os,h.tape,h.output,h.size,fun k hk h1 h2 => h.block k hk (h1.imp setB_or id) (h2.imp setB_or id)⟩
theorem JTwoA.grow (h : JTwoA w0 v1 v2 i1 i2 L W) {i : Nat} (hb : Below W.heap.size W W') : JTwoA w0 v1 v2 i1 i2 (setB L i) W' :=
 ⟨hb.os.trans h.os,hb.tape.trans h.tape,hb.output.trans h.output,Nat.le_trans h.size hb.size,fun k hk h1 h2 => (hb.block k (Nat.lt_of_lt_of_le hk h.size)).trans (h.block k hk (h1.imp setB_or id) (h2.imp setB_or id))⟩
theorem JTwoA.app1 (h : JTwoA w0 v1 v2 i1 i2 L W) (hg : W.grownBy W' v1.ownBlock) : JTwoA w0 v1 v2 i1 i2 (setB L i1) W' :=
 ⟨hg.os.trans h.os,hg.tape.trans h.tape,hg.output.trans h.output,Nat.le_trans h.size hg.size,fun k hk h1 h2 => by
  rcases h1 with h1 | h1
  ·rw [setB_eq] at h1; cases h1
  ·exact (hg.block k (Nat.lt_of_lt_of_le hk h.size) (Ne.symm h1)).trans (h.block k hk (.inr h1) (h2.imp setB_or id))⟩
theorem JTwoA.app2 (h : JTwoA w0 v1 v2 i1 i2 L W) (hg : W.grownBy W' v2.ownBlock) : JTwoA w0 v1 v2 i1 i2 (setB L i2) W' :=
 ⟨hg.os.trans h.os,hg.tape.trans h.tape,hg.output.trans h.output,Nat.le_trans h.size hg.size,fun k hk h1 h2 => by
  rcases h2 with h2 | h2
  ·rw [setB_eq] at h2; cases h2
  ·exact (hg.block k (Nat.lt_of_lt_of_le hk h.size) (Ne.symm h2)).trans (h.block k hk (h1.imp setB_or id) (.inr h2))⟩
theorem JTwoA.heap (h : JTwoA w0 v1 v2 i1 i2 L W) {b : Nat} {o : Obj} (hb : w0.heap[b]? = some o) (h1 : v1.ownBlock ≠ some b) (h2 : v2.ownBlock ≠ some b) : W.heap[b]? = some o :=
 (h.block b (Array.getElem?_eq_some_iff.1 hb).1 (.inr h1) (.inr h2)).trans hb
end
structure JTwoV (w0 : World) (v1 v2 : Value) (l1 i1 l2 i2 : Nat) (base : Nat) (e1 e2 : TypeId) (n1 n2 : Nat) (xs1 xs2 : List Value) (u1 u2 : Value) (L : Nat → Bool) (vs : Nat → Value) (W : World) : Prop where
 b : JTwoA w0 v1 v2 i1 i2 L W
 lit1 : L l1 = true → ∃ q,vs l1 = .slice (some ⟨q,0,none⟩) 1 1 ∧ w0.heap.size ≤ q ∧ W.cell? ⟨q,0,none⟩ = some u1
 lit2 : L l2 = true → ∃ q,vs l2 = .slice (some ⟨q,0,none⟩) 1 1 ∧ w0.heap.size ≤ q ∧ W.cell? ⟨q,0,none⟩ = some u2
 row1 : L i1 = true → W.ownsRow base e1 1 (vs i1) (n1 + 1) (xs1 ++ [u1]) ∧ ((vs i1).ownBlock = v1.ownBlock ∨ ∃ g,(vs i1).ownBlock = some g ∧ w0.heap.size ≤ g)
 row2 : L i2 = true → W.ownsRow base e2 1 (vs i2) (n2 + 1) (xs2 ++ [u2]) ∧ ((vs i2).ownBlock = v2.ownBlock ∨ ∃ g,(vs i2).ownBlock = some g ∧ w0.heap.size ≤ g)
 ne : L i1 = true → L i2 = true → (vs i1).ownBlock ≠ (vs i2).ownBlock
 ord : L i2 = true → L i1 = true
section
variable {w0 W W' : World} {v1 v2 : Value} {l1 i1 l2 i2 base : Nat} {e1 e2 : TypeId} {n1 n2 : Nat} {xs1 xs2 : List Value} {u1 u2 : Value} {L : Nat → Bool} {vs vs' : Nat → Value}
theorem JTwoV.congr (hc : ∀ j,L j = true → vs j = vs' j) (h : JTwoV w0 v1 v2 l1 i1 l2 i2 base e1 e2 n1 n2 xs1 xs2 u1 u2 L vs W) : JTwoV w0 v1 v2 l1 i1 l2 i2 base e1 e2 n1 n2 xs1 xs2 u1 u2 L vs' W :=
 ⟨h.b,fun hl => hc _ hl ▸ h.lit1 hl,fun hl => hc _ hl ▸ h.lit2 hl,fun hl => hc _ hl ▸ h.row1 hl,fun hl => hc _ hl ▸ h.row2 hl,fun ha hb => hc _ ha ▸ hc _ hb ▸ h.ne ha hb,h.ord⟩
theorem JTwoV.start : JTwoV w0 v1 v2 l1 i1 l2 i2 base e1 e2 n1 n2 xs1 xs2 u1 u2 (fun _ => false) vs w0.drew :=
 ⟨.start,fun h => (by cases h),fun h => (by cases h),fun h => (by cases h),fun h => (by cases h),fun h => (by cases h),fun h => (by cases h)⟩
theorem updV_ne {i j : Nat} {v : Value} (h : j ≠ i) : updV vs i v j = vs j:=by unfold updV; rw [if_neg h]
theorem updV_eq {i : Nat} {v : Value} : updV vs i v i = v:=by unfold updV; rw [if_pos rfl]
theorem JTwoV.grow (h : JTwoV w0 v1 v2 l1 i1 l2 i2 base e1 e2 n1 n2 xs1 xs2 u1 u2 L vs W) (hb : Below W.heap.size W W') {i : Nat} {v : Value} (h1 : l1 ≠ i) (h2 : i1 ≠ i) (h3 : l2 ≠ i) (h4 : i2 ≠ i) :
  JTwoV w0 v1 v2 l1 i1 l2 i2 base e1 e2 n1 n2 xs1 xs2 u1 u2 (setB L i) (updV vs i v) W':=by
 refine ⟨h.b.grow hb, ?_, ?_, ?_, ?_, ?_, ?_⟩
 ·rw [setB_ne h1,updV_ne h1]; exact fun hl => let ⟨q,a,b,c⟩ := h.lit1 hl; ⟨q,a,b,bAt hb c⟩
 ·rw [setB_ne h3,updV_ne h3]; exact fun hl => let ⟨q,a,b,c⟩ := h.lit2 hl; ⟨q,a,b,bAt hb c⟩
 ·rw [setB_ne h2,updV_ne h2]; exact fun hl => let ⟨a,b⟩ := h.row1 hl; ⟨ownsN_below a hb,b⟩
 ·rw [setB_ne h4,updV_ne h4]; exact fun hl => let ⟨a,b⟩ := h.row2 hl; ⟨ownsN_below a hb,b⟩
 ·rw [setB_ne h2,setB_ne h4,updV_ne h2,updV_ne h4]; exact h.ne
 ·rw [setB_ne h2,setB_ne h4]; exact h.ord
theorem JTwoV.read (h : JTwoV w0 v1 v2 l1 i1 l2 i2 base e1 e2 n1 n2 xs1 xs2 u1 u2 L vs W) {i : Nat} {v : Value} (h1 : l1 ≠ i) (h2 : i1 ≠ i) (h3 : l2 ≠ i) (h4 : i2 ≠ i) :
  JTwoV w0 v1 v2 l1 i1 l2 i2 base e1 e2 n1 n2 xs1 xs2 u1 u2 (setB L i) (updV vs i v) W:=h.grow (Below.refl _ _) h1 h2 h3 h4
theorem litKeep {g : Option Nat} {Z : Nat} {v u : Value} (hg : W.grownBy W' g) (hlt : ∀ q,g = some q → q < Z) (h : ∃ q,v = .slice (some ⟨q,0,none⟩) 1 1 ∧ Z ≤ q ∧ W.cell? ⟨q,0,none⟩ = some u) : ∃ q,v = .slice (some ⟨q,0,none⟩) 1 1 ∧ Z ≤ q ∧ W'.cell? ⟨q,0,none⟩ = some u:=by
 obtain ⟨q,a,b,c⟩ := h
 exact ⟨q,a,b,(World.cell?_of_block (w:=W) (hg.block q (World.block_lt_of_cell? W _ c) (fun e => by have:=hlt q e.symm; omega))).trans c⟩
theorem JTwoV.app1 (h : JTwoV w0 v1 v2 l1 i1 l2 i2 base e1 e2 n1 n2 xs1 xs2 u1 u2 L vs W) (hL : L i1 = false) (hg : W.grownBy W' v1.ownBlock) (hv1 : ∀ q,v1.ownBlock = some q → q < w0.heap.size) {v : Value} (ho : W'.ownsRow base e1 1 v (n1 + 1) (xs1 ++ [u1]))
  (hat : v.ownBlock = v1.ownBlock ∨ ∃ g,v.ownBlock = some g ∧ w0.heap.size ≤ g) (h1 : l1 ≠ i1) (h3 : l2 ≠ i1) (h4 : i2 ≠ i1) : JTwoV w0 v1 v2 l1 i1 l2 i2 base e1 e2 n1 n2 xs1 xs2 u1 u2 (setB L i1) (updV vs i1 v) W':=by
 have h2L : L i2 = false:=by
  cases hq : L i2 with
  | false => rfl
  | true => rw [h.ord hq] at hL; cases hL
 refine ⟨h.b.app1 hg, ?_, ?_, ?_, ?_, ?_, ?_⟩
 ·rw [setB_ne h1,updV_ne h1]; exact fun hl => litKeep hg hv1 (h.lit1 hl)
 ·rw [setB_ne h3,updV_ne h3]; exact fun hl => litKeep hg hv1 (h.lit2 hl)
 ·rw [updV_eq]; exact fun _ => ⟨ho,hat⟩
 ·rw [setB_ne h4,h2L]; exact fun hl => by cases hl
 ·rw [setB_ne h4,h2L]; exact fun _ hl => by cases hl
 ·rw [setB_eq]; exact fun _ => rfl
theorem JTwoV.app2 (h : JTwoV w0 v1 v2 l1 i1 l2 i2 base e1 e2 n1 n2 xs1 xs2 u1 u2 L vs W) (hL1 : L i1 = true) (hg : W.grownBy W' v2.ownBlock) (hv2 : ∀ q,v2.ownBlock = some q → q < w0.heap.size) (hne : v1.ownBlock = none ∨ v1.ownBlock ≠ v2.ownBlock)
  {v : Value} {g : Nat} (ho : W'.ownsRow base e2 1 v (n2 + 1) (xs2 ++ [u2])) (hv : v.ownBlock = some g) (hat : v2.ownBlock = some g ∨ g = W.heap.size) (h1 : l1 ≠ i2) (h2 : i1 ≠ i2) (h3 : l2 ≠ i2) : JTwoV w0 v1 v2 l1 i1 l2 i2 base e1 e2 n1 n2 xs1 xs2 u1 u2 (setB L i2) (updV vs i2 v) W':=by
 obtain ⟨hr1,hr2⟩ := h.row1 hL1
 have key : ∀ q,(vs i1).ownBlock = some q → v2.ownBlock ≠ some q:=fun q hq e => by
  rcases hr2 with hr2 | ⟨q',hr2,hr3⟩
  ·rw [hr2] at hq
   rcases hne with hn | hn
   ·rw [hn] at hq; cases hq
   ·exact hn (hq.trans e.symm)
  ·rw [hq] at hr2; cases hr2; have:=hv2 q e; omega
 refine ⟨h.b.app2 hg, ?_, ?_, ?_, ?_, ?_, ?_⟩
 ·rw [setB_ne h1,updV_ne h1]; exact fun hl => litKeep hg hv2 (h.lit1 hl)
 ·rw [setB_ne h3,updV_ne h3]; exact fun hl => litKeep hg hv2 (h.lit2 hl)
 ·rw [setB_ne h2,updV_ne h2]; exact fun _ => ⟨ownsN_kept hr1 fun q hq => hg.block q (hr1.lt q hq).2 (Ne.symm (key q hq)),hr2⟩
 ·rw [updV_eq]; exact fun _ => ⟨ho,hat.elim (fun e => .inl (hv.trans e.symm)) (fun e => .inr ⟨g,hv,by rw [e]; exact h.b.size⟩)⟩
 ·rw [updV_eq,updV_ne h2]
  intro _ _ e
  rw [hv] at e
  rcases hat with hat | hat
  ·exact key g e hat
  ·have:=(hr1.lt g e).2; omega
 ·rw [setB_ne h2]; exact fun _ => hL1
end
end Go.Oche

/- A region that draws its order, with two new blocks and a store into each, among operations that only read. -/
namespace Go.Oche
open Go Go.RowKit
structure JBox2 (w0 : World) (ia ib sa sb : Nat) (t1 t2 : TypeId) (za A zb B : Array Value) (L : Nat → Bool) (vs : Nat → Value) (W : World) : Prop where
 below : Below w0.heap.size w0 W
 a : L ia = true → ∃ p,vs ia = .pointer (some ⟨p,0,none⟩) ∧ w0.heap.size ≤ p ∧ W.heap[p]? = some (.cells (if L sa = true then A else za) t1 (0,0))
 b : L ib = true → ∃ p,vs ib = .pointer (some ⟨p,0,none⟩) ∧ w0.heap.size ≤ p ∧ W.heap[p]? = some (.cells (if L sb = true then B else zb) t2 (0,0))
 ne : L ia = true → L ib = true → vs ia ≠ vs ib
 na : L ia = false → L sa = false
 nb : L ib = false → L sb = false
section
variable {w0 W W' : World} {ia ib sa sb : Nat} {t1 t2 : TypeId} {za A zb B : Array Value} {L : Nat → Bool} {vs vs' : Nat → Value}
theorem JBox2.congr (hc : ∀ j,L j = true → vs j = vs' j) (h : JBox2 w0 ia ib sa sb t1 t2 za A zb B L vs W) : JBox2 w0 ia ib sa sb t1 t2 za A zb B L vs' W :=
 ⟨h.below,fun hl => hc _ hl ▸ h.a hl,fun hl => hc _ hl ▸ h.b hl,fun h1 h2 => by rw [← hc _ h1,← hc _ h2]; exact h.ne h1 h2,h.na,h.nb⟩
theorem JBox2.start : JBox2 w0 ia ib sa sb t1 t2 za A zb B (fun _ => false) vs w0.drew :=
 ⟨⟨rfl,rfl,rfl,Nat.le_refl _,fun _ _ => rfl⟩,fun h => (by cases h),fun h => (by cases h),fun h => (by cases h),fun _ => rfl,fun _ => rfl⟩
theorem JBox2.read (h : JBox2 w0 ia ib sa sb t1 t2 za A zb B L vs W) {i : Nat} {v : Value} (h1 : ia ≠ i) (h2 : ib ≠ i) (h3 : sa ≠ i) (h4 : sb ≠ i) : JBox2 w0 ia ib sa sb t1 t2 za A zb B (setB L i) (updV vs i v) W:=by
 refine ⟨h.below, ?_, ?_, ?_, ?_, ?_⟩ <;> simp only [setB_ne h1,setB_ne h2,setB_ne h3,setB_ne h4,updV_ne h1,updV_ne h2]
 ·exact h.a
 ·exact h.b
 ·exact h.ne
 ·exact h.na
 ·exact h.nb
theorem JBox2.mkA (h : JBox2 w0 ia ib sa sb t1 t2 za A zb B L vs W) (hL : L ia = false) (h2 : ib ≠ ia) (h3 : sa ≠ ia) (h4 : sb ≠ ia) : JBox2 w0 ia ib sa sb t1 t2 za A zb B (setB L ia) (updV vs ia (.pointer (some ⟨W.heap.size,0,none⟩))) (W.alloc (.cells za t1)):=by
 have hb : Below W.heap.size W (W.alloc (.cells za t1)):=aB _ _
 refine ⟨h.below.trans (hb.mono h.below.size), ?_, ?_, ?_, ?_, ?_⟩
 ·intro _
  rw [setB_ne h3,h.na hL,updV_eq]
  exact ⟨_,rfl,h.below.size,World.alloc_heap_new _ _⟩
 ·rw [setB_ne h2,setB_ne h4,updV_ne h2]
  intro hl
  obtain ⟨p,e1,e2,e3⟩ := h.b hl
  exact ⟨p,e1,e2,(hb.block p (Array.getElem?_eq_some_iff.1 e3).1).trans e3⟩
 ·rw [setB_ne h2,updV_ne h2,updV_eq]
  intro _ hl e
  obtain ⟨p,e1,e2,e3⟩ := h.b hl
  rw [e1] at e
  simp only [Value.pointer.injEq,Option.some.injEq,Addr.mk.injEq] at e
  have:=(Array.getElem?_eq_some_iff.1 e3).1
  omega
 ·rw [setB_eq]; intro h; cases h
 ·rw [setB_ne h2,setB_ne h4]; exact h.nb
theorem JBox2.mkB (h : JBox2 w0 ia ib sa sb t1 t2 za A zb B L vs W) (hL : L ib = false) (h2 : ia ≠ ib) (h3 : sa ≠ ib) (h4 : sb ≠ ib) : JBox2 w0 ia ib sa sb t1 t2 za A zb B (setB L ib) (updV vs ib (.pointer (some ⟨W.heap.size,0,none⟩))) (W.alloc (.cells zb t2)):=by
 have hb : Below W.heap.size W (W.alloc (.cells zb t2)):=aB _ _
 refine ⟨h.below.trans (hb.mono h.below.size), ?_, ?_, ?_, ?_, ?_⟩
 ·rw [setB_ne h2,setB_ne h3,updV_ne h2]
  intro hl
  obtain ⟨p,e1,e2,e3⟩ := h.a hl
  exact ⟨p,e1,e2,(hb.block p (Array.getElem?_eq_some_iff.1 e3).1).trans e3⟩
 ·intro _
  rw [setB_ne h4,h.nb hL,updV_eq]
  exact ⟨_,rfl,h.below.size,World.alloc_heap_new _ _⟩
 ·rw [setB_ne h2,updV_ne h2,updV_eq]
  intro hl _ e
  obtain ⟨p,e1,e2,e3⟩ := h.a hl
  rw [e1] at e
  simp only [Value.pointer.injEq,Option.some.injEq,Addr.mk.injEq] at e
  have:=(Array.getElem?_eq_some_iff.1 e3).1
  omega
 ·rw [setB_ne h2,setB_ne h3]; exact h.na
 ·rw [setB_eq]; intro h; cases h
theorem JBox2.stA (h : JBox2 w0 ia ib sa sb t1 t2 za A zb B L vs W) (hL : L ia = true) {p : Nat} (hp : vs ia = .pointer (some ⟨p,0,none⟩)) {v : Value} (h1 : ia ≠ sa) (h2 : ib ≠ sa) (h4 : sb ≠ sa) : JBox2 w0 ia ib sa sb t1 t2 za A zb B (setB L sa) (updV vs sa v) (W.setRow p A):=by
 obtain ⟨p',e1,e2,e3⟩ := h.a hL
 have hpp : p' = p:=by rw [hp] at e1; simp at e1; exact e1.symm
 subst hpp
 refine ⟨below_setRow h.below e2 _, ?_, ?_, ?_, ?_, ?_⟩
 ·rw [setB_ne h1,setB_eq,updV_ne h1]
  exact fun _ => ⟨p',hp,e2,setRow_heap _ _ _ _ _ _ e3⟩
 ·rw [setB_ne h2,setB_ne h4,updV_ne h2]
  intro hl
  obtain ⟨q,f1,f2,f3⟩ := h.b hl
  refine ⟨q,f1,f2,(setRow_other _ _ _ _ fun e => ?_).trans f3⟩
  subst e
  exact h.ne hL hl (by rw [hp,f1])
 ·rw [setB_ne h1,setB_ne h2,updV_ne h1,updV_ne h2]; exact h.ne
 ·rw [setB_ne h1]; intro hf; rw [hL] at hf; cases hf
 ·rw [setB_ne h2,setB_ne h4]; exact h.nb
theorem JBox2.stB (h : JBox2 w0 ia ib sa sb t1 t2 za A zb B L vs W) (hL : L ib = true) {p : Nat} (hp : vs ib = .pointer (some ⟨p,0,none⟩)) {v : Value} (h1 : ia ≠ sb) (h2 : ib ≠ sb) (h3 : sa ≠ sb) : JBox2 w0 ia ib sa sb t1 t2 za A zb B (setB L sb) (updV vs sb v) (W.setRow p B):=by
 obtain ⟨p',e1,e2,e3⟩ := h.b hL
 have hpp : p' = p:=by rw [hp] at e1; simp at e1; exact e1.symm
 subst hpp
 refine ⟨below_setRow h.below e2 _, ?_, ?_, ?_, ?_, ?_⟩
 ·rw [setB_ne h1,setB_ne h3,updV_ne h1]
  intro hl
  obtain ⟨q,f1,f2,f3⟩ := h.a hl
  refine ⟨q,f1,f2,(setRow_other _ _ _ _ fun e => ?_).trans f3⟩
  subst e
  exact h.ne hl hL (by rw [hp,f1])
 ·rw [setB_ne h2,setB_eq,updV_ne h2]
  exact fun _ => ⟨p',hp,e2,setRow_heap _ _ _ _ _ _ e3⟩
 ·rw [setB_ne h1,setB_ne h2,updV_ne h1,updV_ne h2]; exact h.ne
 ·rw [setB_ne h1,setB_ne h3]; exact h.na
 ·rw [setB_ne h2]; intro hf; rw [hL] at hf; cases hf
end
end Go.Oche

/- Chapter 4, the reference: whether a player is better. -/
namespace Go.Proofs.Ytnhggfnnolfcdaa
open Go.RowKit Go.Oche Go.Proofs
theorem plrRow_oneK (p : Plr) : (plrRow p).toArray.all (·.oneCell') = true:=by
 rw [Array.all_eq_true']
 intro x hx
 have hx' : x ∈ plrRow p:=by simpa using hx
 unfold plrRow at hx'
 rcases List.mem_cons.1 hx' with rfl | hx'
 ·rfl
 rcases List.mem_append.1 hx' with hx' | hx'
 ·obtain ⟨z,_,rfl⟩ := List.mem_map.1 hx'; rfl
 ·rw [List.mem_singleton] at hx'; subst hx'; rfl
theorem plrRow_sizeK {p : Plr} (h : p.mks.length = 7) : (plrRow p).toArray.size = 9:=by rw [List.size_toArray,plrRow_len h]
set_option maxRecDepth 100000 in
set_option maxHeartbeats 4000000 in
theorem refBetter_any {S : Nat → Prop} (r : Rul) (g : Gam) (na : Option Addr) (nl nc : Nat) (pa : Option Addr) (n pc : Nat) (wa : Option Addr) (wl wc : Nat) (w : World) (hG : GamS S w r g na nl nc pa n pc wa wl wc) (hmk : ∀ p ∈ g.pls, ∀ m ∈ p.mks,0 ≤ m ∧ m ≤ 3) (a b : Nat) (ha : a < n) (hb : b < n) :
  Calls Try.prog 45 #[.agg #[.int .i64 r.kind,.int .i64 r.players,.int .i64 r.last,.bool r.bull,.bool r.jump,.int .i64 r.rounds,.bool r.cut,.slice na nl nc,.int .i64 r.lives,.bool r.own,.int .i64 g.round,.int .i64 g.player,.int .i64 g.darts,.slice pa n pc,.slice wa wl wc,.bool (hitB g 0),.bool (hitB g 1),.bool (hitB g 2),.bool (hitB g 3),.bool (hitB g 4)],.int .i64 a,.int .i64 b] w fun e w' => e = .returned (.bool (betterR r (plr g a) (plr g b))) ∧ Below w.heap.size w w':=by
 have ha' : a < g.pls.length:=by rw [hG.ln]; exact ha
 have hb' : b < g.pls.length:=by rw [hG.ln]; exact hb
 obtain ⟨N,hN⟩ : ∃ N,w.heap.size = N:=⟨_,rfl⟩
 obtain ⟨w0,hw0⟩ : ∃ w0,w.alloc (.cells #[.int .i64 r.kind,.int .i64 r.players,.int .i64 r.last,.bool r.bull,.bool r.jump,.int .i64 r.rounds,.bool r.cut,.slice na nl nc,.int .i64 r.lives,.bool r.own,.int .i64 g.round,.int .i64 g.player,.int .i64 g.darts,.slice pa n pc,.slice wa wl wc,.bool (hitB g 0),.bool (hitB g 1),.bool (hitB g 2),.bool (hitB g 3),.bool (hitB g 4)] 41) = w0:=⟨_,rfl⟩
 have hb0 : Below w.heap.size w w0:=by rw [← hw0]; exact aB _ _
 have k0 : w0.heap[N]? = some (.cells #[.int .i64 r.kind,.int .i64 r.players,.int .i64 r.last,.bool r.bull,.bool r.jump,.int .i64 r.rounds,.bool r.cut,.slice na nl nc,.int .i64 r.lives,.bool r.own,.int .i64 g.round,.int .i64 g.player,.int .i64 g.darts,.slice pa n pc,.slice wa wl wc,.bool (hitB g 0),.bool (hitB g 1),.bool (hitB g 2),.bool (hitB g 3),.bool (hitB g 4)] 41 (0,0)):=by rw [← hw0,← hN]; exact World.alloc_heap_new _ _
 have r13 : w0.cell? ⟨N,13,none⟩ = some (.slice pa n pc):=by rw [cell_of_heap k0]; rfl
 obtain ⟨ab,ao,hpa,hca⟩ := slN_cell9 (hG.pls.below hb0) ha'
 obtain ⟨ab2,ao2,hpa2,hcb⟩ := slN_cell9 (hG.pls.below hb0) hb'
 rw [hpa] at hpa2
 simp only [Option.some.injEq,Addr.mk.injEq,and_true] at hpa2
 obtain ⟨rfl,rfl⟩ := hpa2
 subst hpa
 rw [plr_at ha'] at hca
 rw [plr_at hb'] at hcb
 have h7a : (plr g a).mks.length = 7:=by have:=hG.sev _ (List.getElem_mem ha'); rw [plr_at ha'] at this; exact this
 have h7b : (plr g b).mks.length = 7:=by have:=hG.sev _ (List.getElem_mem hb'); rw [plr_at hb'] at this; exact this
 have hma:=hmk _ (plr_mem ha')
 have hmb:=hmk _ (plr_mem hb')
 obtain ⟨X,hX⟩ : ∃ X,plr g a = X:=⟨_,rfl⟩
 obtain ⟨Y,hY⟩ : ∃ Y,plr g b = Y:=⟨_,rfl⟩
 rw [hX] at hca h7a hma ⊢
 rw [hY] at hcb h7b hmb ⊢
 have hsx:=refSum_any X h7a hma
 have hsy:=refSum_any Y h7b hmb
 obtain ⟨P,hP⟩ : ∃ P,X.pts = P:=⟨_,rfl⟩
 obtain ⟨Q,hQ⟩ : ∃ P,Y.pts = P:=⟨_,rfl⟩
 obtain ⟨SX,hSX⟩ : ∃ P,sumM X = P:=⟨_,rfl⟩
 obtain ⟨SY,hSY⟩ : ∃ P,sumM Y = P:=⟨_,rfl⟩
 rw [hSX] at hsx
 rw [hSY] at hsy
 obtain ⟨res,hres⟩ : ∃ x,betterR r X Y = x:=⟨_,rfl⟩
 rw [hres]
 have HRES : Hid (res = if P ≠ Q then decide (Q < P) != (decide (r.kind = 2) && r.cut) else decide (SY < SX)):=Lib.hid (by rw [← hres,← hP,← hQ,← hSX,← hSY]; rfl)
 have hai : (a : Int) < (n : Int):=by omega
 have hbi : (b : Int) < (n : Int):=by omega
 obtain ⟨cu,hcu⟩ : ∃ x,r.cut = x:=⟨_,rfl⟩
 obtain ⟨kk,hkk⟩ : ∃ x,(r.kind == 2) = x:=⟨_,rfl⟩
 have HKC : Hid ((decide (r.kind = 2) && r.cut) = (kk && cu)):=Lib.hid (by rw [← hkk,hcu]; rfl)
 have hr0 : w0.cell? ⟨N,0,none⟩ = some (.int .i64 r.kind):=by rw [cell_of_heap k0]; rfl
 have hr6 : w0.cell? ⟨N,6,none⟩ = some (.bool cu):=by rw [cell_of_heap k0,← hcu]; rfl
 have H7:=Lib.hid (And.intro h7a h7b)
 have HCA:=Lib.hid hca
 have HCB:=Lib.hid hcb
 have HSX:=Lib.hid hsx
 have HSY:=Lib.hid hsy
 have HPQ:=Lib.hid (And.intro hP hQ)
 have HB0:=Lib.hid hb0
 have HN:=Lib.hid hN
 have HW0:=Lib.hid hw0
 have hs0 : N < w0.heap.size:=(Array.getElem?_eq_some_iff.1 k0).1
 clear hca hcb h7a h7b hma hmb hsx hsy hX hY hP hQ hSX hSY hres hb0 hw0 k0 hG hmk ha' hb' hcu hN
 go_enter Try.func45,Try.ntmps45
 go_upto_region 1 with fail
 rw [HW0.out,HN.out]
 refine wp_region_seqV 16 ((fun v => v = .pointer (some ⟨N,10,none⟩)) :: (fun v => v = .pointer (some ⟨N,13,none⟩)) :: (fun v => v = .slice (some ⟨ab,ao,none⟩) n pc) :: (fun v => v = .int .i64 a) :: (fun v => v = .pointer (some ⟨ab,ao + a * 9,none⟩)) :: (fun v => v = plrV X) :: (fun v => v = .pointer (some ⟨N,10,none⟩)) :: (fun v => v = .pointer (some ⟨N,13,none⟩)) :: (fun v => v = .slice (some ⟨ab,ao,none⟩) n pc) :: (fun v => v = .int .i64 b) :: (fun v => v = .pointer (some ⟨ab,ao + b * 9,none⟩)) :: (fun v => v = plrV Y) :: (fun v => ∃ q,v = .pointer (some ⟨q,0,none⟩)) :: (fun v => ∃ q,v = .pointer (some ⟨q,0,none⟩)) :: (fun _ => True) :: (fun _ => True) :: []) (JBox2 w0 12 13 14 15 62 62 #[.int .i64 0,.int .i64 0,.int .i64 0,.int .i64 0,.int .i64 0,.int .i64 0,.int .i64 0,.int .i64 0,.bool false] (plrRow X).toArray #[.int .i64 0,.int .i64 0,.int .i64 0,.int .i64 0,.int .i64 0,.int .i64 0,.int .i64 0,.int .i64 0,.bool false] (plrRow Y).toArray) rfl mix (by kernel_rfl) (by kernel_rfl) (fun _ _ _ _ hc h => h.congr hc) (fun _ => .start) ?_
 simp only [List.take_succ_cons,List.take_zero]
 iterate 5
  refine sv_rd rfl (fun _ _ _ h => h.read (by simp) (by simp) (by simp) (by simp)) (fun u1 L1 vs1 hvs1 hL1 hJ1 => ?_) ?_
  ·have y1:=bAt hJ1.below r13
   simp [opOK,go_sem,y1,hai]
  simp only [Act.put,List.setIfInBounds_toArray,List.set_cons_succ,List.set_cons_zero,List.nil_append,List.cons_append]
 refine sv_rd rfl (fun _ _ _ h => h.read (by simp) (by simp) (by simp) (by simp)) (fun u1 L1 vs1 hvs1 hL1 hJ1 => ?_) ?_
 ·exact opOK_load_plr9 (.tmp 13) rfl ab (ao + a * 9) X H7.out.1 (by simp [Act.eval]) (fun j y hy => bAt hJ1.below (HCA.out j y hy)) ⟨rfl,rfl⟩
 simp only [Act.put,List.setIfInBounds_toArray,List.set_cons_succ,List.set_cons_zero,List.nil_append,List.cons_append]
 iterate 5
  refine sv_rd rfl (fun _ _ _ h => h.read (by simp) (by simp) (by simp) (by simp)) (fun u1 L1 vs1 hvs1 hL1 hJ1 => ?_) ?_
  ·have y1:=bAt hJ1.below r13
   simp [opOK,go_sem,y1,hbi]
  simp only [Act.put,List.setIfInBounds_toArray,List.set_cons_succ,List.set_cons_zero,List.nil_append,List.cons_append]
 refine sv_rd rfl (fun _ _ _ h => h.read (by simp) (by simp) (by simp) (by simp)) (fun u1 L1 vs1 hvs1 hL1 hJ1 => ?_) ?_
 ·exact opOK_load_plr9 (.tmp 19) rfl ab (ao + b * 9) Y H7.out.2 (by simp [Act.eval]) (fun j y hy => bAt hJ1.below (HCB.out j y hy)) ⟨rfl,rfl⟩
 simp only [Act.put,List.setIfInBounds_toArray,List.set_cons_succ,List.set_cons_zero,List.nil_append,List.cons_append]
 refine sv_new ⟨_,0,rfl⟩ rfl (fun u1 L1 vs1 hvs1 hL1 hJ1 hd => ?_) ?_
 ·exact opOK_val (v:=.pointer (some ⟨u1.heap.size,0,none⟩)) (w':=u1.alloc (.cells #[.int .i64 0,.int .i64 0,.int .i64 0,.int .i64 0,.int .i64 0,.int .i64 0,.int .i64 0,.int .i64 0,.bool false] 62)) (by kernel_rfl) ⟨⟨_,rfl⟩,hJ1.mkA hL1 (by decide) (by decide) (by decide)⟩
 rintro _ ⟨xa,rfl⟩
 simp only [Act.put,List.setIfInBounds_toArray,List.set_cons_succ,List.set_cons_zero,List.nil_append,List.cons_append]
 refine sv_new ⟨_,0,rfl⟩ rfl (fun u1 L1 vs1 hvs1 hL1 hJ1 hd => ?_) ?_
 ·exact opOK_val (v:=.pointer (some ⟨u1.heap.size,0,none⟩)) (w':=u1.alloc (.cells #[.int .i64 0,.int .i64 0,.int .i64 0,.int .i64 0,.int .i64 0,.int .i64 0,.int .i64 0,.int .i64 0,.bool false] 62)) (by kernel_rfl) ⟨⟨_,rfl⟩,hJ1.mkB hL1 (by decide) (by decide) (by decide)⟩
 rintro _ ⟨xb,rfl⟩
 simp only [Act.put,List.setIfInBounds_toArray,List.set_cons_succ,List.set_cons_zero,List.nil_append,List.cons_append]
 refine sv_new ⟨undef,trivial⟩ rfl (fun u1 L1 vs1 hvs1 hL1 hJ1 hd => ?_) ?_
 ·have hl:=hd ⟨12,.data⟩ (by simp) rfl
  obtain ⟨pq,e1,e2,e3⟩ := hJ1.a hl
  rw [hvs1 12 _ rfl] at e1
  cases e1
  exact opOK_store_row 62 (.tmp 7) (.tmp 14) rfl xa (plrRow X).toArray (by simp [Act.eval]) (by simp [Act.eval,plrV]) 62 _ e3 (by rw [plrRow_sizeK H7.out.1]; exact size_plr) (by rw [plrRow_sizeK H7.out.1]; split <;> first | exact plrRow_sizeK H7.out.1 | rfl) (plrRow_oneK X) ⟨trivial,hJ1.stA hl (hvs1 12 _ rfl) (by decide) (by decide) (by decide)⟩
 rintro _ -
 simp only [Act.put,List.nil_append,List.cons_append]
 refine sv_new ⟨undef,trivial⟩ rfl (fun u1 L1 vs1 hvs1 hL1 hJ1 hd => ?_) ?_
 ·have hl:=hd ⟨13,.data⟩ (by simp) rfl
  obtain ⟨pq,e1,e2,e3⟩ := hJ1.b hl
  rw [hvs1 13 _ rfl] at e1
  cases e1
  exact opOK_store_row 62 (.tmp 8) (.tmp 20) rfl xb (plrRow Y).toArray (by simp [Act.eval]) (by simp [Act.eval,plrV]) 62 _ e3 (by rw [plrRow_sizeK H7.out.2]; exact size_plr) (by rw [plrRow_sizeK H7.out.2]; split <;> first | exact plrRow_sizeK H7.out.2 | rfl) (plrRow_oneK Y) ⟨trivial,hJ1.stB hl (hvs1 13 _ rfl) (by decide) (by decide) (by decide)⟩
 rintro _ -
 simp only [Act.put,List.nil_append,List.cons_append]
 refine sv_end fun vs8 w8 hvs8 hJ8 => ?_
 simp only [List.drop_succ_cons,List.drop_zero]
 obtain ⟨xa',ea,la,kxa⟩ := hJ8.a (by decide)
 obtain ⟨xb',eb,lb,kxb⟩ := hJ8.b (by decide)
 rw [hvs8 12 _ rfl] at ea
 rw [hvs8 13 _ rfl] at eb
 cases ea
 cases eb
 rw [if_pos (by decide)] at kxa kxb
 have KX : Hid (∀ j v,(plrRow X)[j]? = some v → w8.cell? ⟨xa,j,none⟩ = some v):=Lib.hid (fun j v hv => by rw [cell_of_heap kxa,List.getElem?_toArray]; exact hv)
 have KY : Hid (∀ j v,(plrRow Y)[j]? = some v → w8.cell? ⟨xb,j,none⟩ = some v):=Lib.hid (fun j v hv => by rw [cell_of_heap kxb,List.getElem?_toArray]; exact hv)
 have HB8:=Lib.hid (HB0.out.trans (hJ8.below.mono HB0.out.size))
 have x0 : w8.cell? ⟨xa,0,none⟩ = some (.int .i64 P):=KX.out 0 _ (by rw [← HPQ.out.1]; rfl)
 have y0 : w8.cell? ⟨xb,0,none⟩ = some (.int .i64 Q):=KY.out 0 _ (by rw [← HPQ.out.2]; rfl)
 have r0:=bAt hJ8.below hr0
 have r6:=bAt hJ8.below hr6
 clear hJ8 hvs8 la lb kxa kxb hr0 hr6 r13 hs0
 by_cases hpq : P = Q
 ·have z1 : (P != Q) = false:=by rw [hpq]; simp
  obtain ⟨bz,hbz⟩ : ∃ b,decide (SY < SX) = b:=⟨_,rfl⟩
  have HR2 : Hid (res = bz):=Lib.hid (by rw [HRES.out,if_neg (by simpa using hpq),hbz])
  clear hpq
  go_upto_region 4 with fail
  refine wp_region_seq 6 [.is (plrV X),.is (.int .i64 SX),.is (plrV Y),.is (.int .i64 SY),.is (.bool bz),.is (.bool bz)] rfl mix (by kernel_rfl) (by kernel_rfl) ?seqm
  case seqm =>
   simp only [List.take_succ_cons,List.take_zero]
   refine seq_on (by rfl) (fun w3 hb3 hH => ?_) ?_
   ·exact opOK_load_plr9 (.tmp 7) rfl xa 0 X H7.out.1 (by simp [Act.eval]) (fun j v hv => bAt hb3 (by rw [Nat.zero_add]; exact KX.out j v hv)) ⟨rfl,Below.refl _ _⟩
   simp only [Act.put,List.setIfInBounds_toArray,List.set_cons_succ,List.set_cons_zero]
   refine seq_on (by rfl) (fun w3 hb3 hH => ?_) ?_
   ·refine opOK_call (f:=62) (args:=#[plrV X]) (by simp [go_sem]) ?_
    exact (HSX.out w3).mono fun e W' ⟨he,hb⟩ => ⟨_,he,rfl,hb⟩
   simp only [Act.put,List.setIfInBounds_toArray,List.set_cons_succ,List.set_cons_zero]
   refine seq_on (by rfl) (fun w3 hb3 hH => ?_) ?_
   ·exact opOK_load_plr9 (.tmp 8) rfl xb 0 Y H7.out.2 (by simp [Act.eval]) (fun j v hv => bAt hb3 (by rw [Nat.zero_add]; exact KY.out j v hv)) ⟨rfl,Below.refl _ _⟩
   simp only [Act.put,List.setIfInBounds_toArray,List.set_cons_succ,List.set_cons_zero]
   refine seq_on (by rfl) (fun w3 hb3 hH => ?_) ?_
   ·refine opOK_call (f:=62) (args:=#[plrV Y]) (by simp [go_sem]) ?_
    exact (HSY.out w3).mono fun e W' ⟨he,hb⟩ => ⟨_,he,rfl,hb⟩
   simp only [Act.put,List.setIfInBounds_toArray,List.set_cons_succ,List.set_cons_zero]
   iterate 2
    refine seq_on (by rfl) (fun w3 hb3 _ => ?_) ?_
    ·simp [opOK,go_sem,hbz,Below.refl]
     try exact rfl
    simp only [Act.put,List.setIfInBounds_toArray,List.set_cons_succ,List.set_cons_zero]
   refine seq_end fun w9 hb9 _ => ?_
   simp only [List.drop_succ_cons,List.drop_zero]
   have HB9:=Lib.hid (bThen HB8.out hb9)
   clear hb9
   go_wp2
   go_ret
   exact ⟨ret_bool HR2.out.symm,HB9.out⟩
 ·have z1 : (P != Q) = true:=by simpa using hpq
  obtain ⟨bz,hbz⟩ : ∃ b,decide (Q < P) = b:=⟨_,rfl⟩
  have HR2 : Hid (res = (bz != (kk && cu))):=Lib.hid (by rw [HRES.out,if_pos hpq,hbz,HKC.out])
  clear hpq
  cases kk
  all_goals
   cases cu
   all_goals
    cases bz
    all_goals
     go_wp2
     go_ret
     exact ⟨ret_bool (by rw [HR2.out]; rfl),HB8.out⟩
end Go.Proofs.Ytnhggfnnolfcdaa

/- Chapter 4, the reference: whether a player of a game in a block is out, whether it is over. -/
namespace Go.Proofs.Ytnhggfnnolfcdaa
open Go.RowKit Go.Oche Go.Proofs
theorem GamAt.gamS {w : World} {t pb cap : Nat} {r : Rul} {g : Gam} {wv nv : Value} (h : GamAt w t pb r g cap wv nv) :
  ∃ na nc wa wc,nv = .slice na r.nums.length nc ∧ wv = .slice wa g.win.length wc ∧ GamS (fun _ => True) w r g na r.nums.length nc (some ⟨pb,0,none⟩) g.pls.length cap wa g.win.length wc:=by
 have h1:=h.num.mono (S':=fun _ => True) fun _ _ => trivial
 have h2:=h.win.mono (S':=fun _ => True) fun _ _ => trivial
 obtain ⟨na,nc,e1, -, -⟩ := h1.form
 obtain ⟨wa,wc,e2, -, -⟩ := h2.form
 rw [ints_length] at e1 e2
 subst e1 e2
 exact ⟨na,nc,wa,wc,rfl,rfl,(h.pls.slN rfl h.cap).mono fun _ _ => trivial,h.pls.1,h2,h1,rfl,rfl,rfl⟩
theorem refOut_g (t pb cap : Nat) (r : Rul) (g : Gam) (wv nv : Value) (w : World) (h : GamAt w t pb r g cap wv nv) (p : Nat) (hp : p < g.pls.length) (b : Bool) (hb : Hid (isOutG r g p = b)) :
  Calls Try.prog 54 #[.agg (gamA r g nv (.slice (some ⟨pb,0,none⟩) g.pls.length cap) wv),.int .i64 p] w fun e w' => e = .returned (.bool b) ∧ Below w.heap.size w w':=by
 obtain ⟨na,nc,wa,wc,rfl,rfl,hG⟩ := h.gamS
 rw [← hb.out]
 exact refOut_any r g na _ nc _ _ cap wa _ wc w hG p hp
theorem refOver_g (t pb cap : Nat) (r : Rul) (g : Gam) (wv nv : Value) (w : World) (h : GamAt w t pb r g cap wv nv) :
  Calls Try.prog 23 #[.agg (gamA r g nv (.slice (some ⟨pb,0,none⟩) g.pls.length cap) wv)] w fun e w' => e = .returned (.bool (!g.win.isEmpty)) ∧ Below w.heap.size w w':=by
 obtain ⟨na,nc,wa,wc,rfl,rfl,hG⟩ := h.gamS
 exact refOver_any r g na _ nc _ _ cap wa _ wc rfl w
end Go.Proofs.Ytnhggfnnolfcdaa

/- Chapter 4, the reference: a dart of round. -/
namespace Go.Proofs.Ytnhggfnnolfcdaa
open Go.RowKit Go.Oche Go.Proofs
def RefPost (t pb : Nat) (r : Rul) (cap : Nat) (nv wv : Value) (w : World) (d : Gam × List Int) (e : Ending) (w' : World) : Prop :=
 (∃ v,e = .returned v) ∧ (∃ wv',((d.2 = [] ∧ wv' = wv) ∨ (d.2 ≠ [] ∧ Sl (fun q => w.heap.size ≤ q) w' wv' (ints d.2))) ∧ GamAt w' t pb r { d.1 with win:=d.2 } cap wv' nv) ∧ Rel (TO t pb) w (TO t pb) w'
theorem noWin {x : Gam} (h : x.win = []) : x = { x with win:=[] }:=by cases x; cases h; rfl
set_option maxRecDepth 100000 in
set_option maxHeartbeats 4000000 in
theorem refRound_any (t pb cap : Nat) (r : Rul) (g : Gam) (wv nv : Value) (f n M : Int) (w : World) (h : GamAt w t pb r g cap wv nv) (hi : Run r M g) (k : r.kind = 1) (hM : M ≤ 1000000) (hf : 0 ≤ f ∧ f ≤ 4) :
  Calls Try.prog 51 #[.pointer (some ⟨t,0,none⟩),.int .i64 f,.int .i64 n,.int .i64 g.player] w (RefPost t pb r cap nv wv w (dartRound r g f n)):=by
 have htw : t < w.heap.size:=h.lt t (.inl rfl)
 have hc:=ok1 hi.ok k
 have hme:=hi.each _ (plr_mem hi.pl)
 have hls:=hi.less k _ (plr_mem hi.pl)
 obtain ⟨P,hP⟩ : ∃ P,(plr g g.player).pts = P:=⟨_,rfl⟩
 obtain ⟨L,hL⟩ : ∃ L,r.last = L:=⟨_,rfl⟩
 obtain ⟨TT,hTT⟩ : ∃ T,targetsR r = T:=⟨_,rfl⟩
 obtain ⟨ST,hST⟩ : ∃ T,(if r.jump = true then f else 1) = T:=⟨_,rfl⟩
 rw [hP,hTT] at hls
 have hPb : 0 ≤ P ∧ P ≤ 1000000:=by have:=hme.1.nn; have:=hme.2; omega
 have hLb : 1 ≤ L ∧ L ≤ 20:=by omega
 have hTb : L ≤ TT ∧ TT ≤ L + 1:=by rw [← hTT,← hL]; unfold targetsR; split <;> omega
 have hSb : 0 ≤ ST ∧ ST ≤ 4:=by rw [← hST]; split <;> omega
 obtain ⟨d,hd⟩ : ∃ d,dartRound r g f n = d:=⟨_,rfl⟩
 have HD : Hid (d = if n = (if decide (L < P + 1) = true then 25 else P + 1) then (setP g g.player { plr g g.player with pts:=min (if decide (L < P + 1) = true then TT else L) (P + ST) },if min (if decide (L < P + 1) = true then TT else L) (P + ST) = TT then [(g.player : Int)] else []) else (g,[])):=Lib.hid (by
  rw [← hd]; unfold dartRound; dsimp only; rw [hP,hL,hTT,hST])
 rw [hd]
 clear hd
 obtain ⟨np,hnp⟩ : ∃ x,g.pls.length = x:=⟨_,rfl⟩
 obtain ⟨bu,hbu⟩ : ∃ x,r.bull = x:=⟨_,rfl⟩
 obtain ⟨ju,hju⟩ : ∃ x,r.jump = x:=⟨_,rfl⟩
 have hpl : g.player < np:=by rw [← hnp]; exact hi.pl
 have hpli : (g.player : Int) < (np : Int):=by omega
 have c2 : w.cell? ⟨t,2,none⟩ = some (.int .i64 L):=by rw [← hL]; exact h.at_ rfl
 have c3 : w.cell? ⟨t,3,none⟩ = some (.bool bu):=by rw [← hbu]; exact h.at_ rfl
 have c4 : w.cell? ⟨t,4,none⟩ = some (.bool ju):=by rw [← hju]; exact h.at_ rfl
 have c13 : w.cell? ⟨t,13,none⟩ = some (.slice (some ⟨pb,0,none⟩) np cap):=by rw [← hnp]; exact h.at_ rfl
 have p0 : w.cell? ⟨pb,g.player * 9,none⟩ = some (.int .i64 P):=by rw [← hP,← plr_at hi.pl]; exact h.pls.pts hi.pl
 have HT:=Lib.hid h
 have HR : Hid (Rel (TO t pb) w (TO t pb) w):=Lib.hid (Rel.of_below (Below.refl _ _) h.lt)
 have HP:=Lib.hid hP
 have HPL:=Lib.hid hi.pl
 have HWIN:=Lib.hid hi.win
 have zL : bu = true → IntKind.i64.wrap (L + 1) = TT:=fun e => by rw [wrap_small _ (by omega) (by omega),← hTT]; unfold targetsR; rw [hbu,e,hL]; rfl
 have zL2 : bu = false → L = TT:=fun e => by rw [← hTT]; unfold targetsR; rw [hbu,e,hL]; rfl
 have zJ : (if ju = true then f else 1) = ST:=by rw [← hST,hju]
 have zP : IntKind.i64.wrap (P + 1) = P + 1:=wrap_small _ (by omega) (by omega)
 have zS : IntKind.i64.wrap (P + ST) = P + ST:=wrap_small _ (by omega) (by omega)
 have HZL:=Lib.hid (And.intro zL (And.intro zL2 zJ))
 clear hP hL hTT hST h hi hme hc k hnp hbu hju zL zL2 zJ hM
 go_enter Try.func51,Try.ntmps51
 go_upto_region 0 with fail
 refine wp_region_seq 14 [.is (.pointer (some ⟨t,0,none⟩)),.is (.pointer (some ⟨t,0,none⟩)),.is (.pointer (some ⟨t,0,none⟩)),.is (.pointer (some ⟨t,2,none⟩)),.is (.int .i64 L),.is (.pointer (some ⟨t,0,none⟩)),.is (.pointer (some ⟨t,0,none⟩)),.is (.pointer (some ⟨t,10,none⟩)),.is (.pointer (some ⟨t,13,none⟩)),.is (.slice (some ⟨pb,0,none⟩) np cap),.is (.int .i64 g.player),.is (.pointer (some ⟨pb,g.player * 9,none⟩)),.is (.int .i64 L),.is (.pointer (some ⟨pb,g.player * 9,none⟩))] rfl mix (by kernel_rfl) (by kernel_rfl) ?seqm
 case seqm =>
  simp only [List.take_succ_cons,List.take_zero]
  iterate 14
   refine seq_on (by rfl) (fun w3 hb3 _ => ?_) ?_
   ·have y1:=bAt hb3 c2
    have y2:=bAt hb3 c13
    have y3:=bAt hb3 p0
    simp [opOK,go_sem,y1,y2,hpli,Below.refl]
    try exact rfl
   simp only [Act.put,List.setIfInBounds_toArray,List.set_cons_succ,List.set_cons_zero]
  refine seq_end fun w1 hb_w1 _ => ?_
  simp only [List.drop_succ_cons,List.drop_zero]
  replace c2:=bAt hb_w1 c2
  replace c13:=bAt hb_w1 c13
  replace p0:=bAt hb_w1 p0
  replace HT:=Lib.hid (HT.out.below hb_w1)
  replace HR:=Lib.hid (HR.out.ext hb_w1)
  have HB1:=Lib.hid hb_w1
  clear hb_w1
  replace c3:=bAt HB1.out c3
  replace c4:=bAt HB1.out c4
  clear HB1
  go_upto_if 27 with fail
  go_cut [8] from 23 to 29 (fun cv wx => cv = .int .i64 TT ∧ Hid (wx = w1))
  case first =>
   cases bu with
   | false =>
    have z:=Lib.hid (HZL.out.2.1 rfl)
    go_wp2_with fail
    go_meet
    case rel => exact ⟨congrArg _ z.out,Lib.hid rfl⟩
   | true =>
    have z:=HZL.out.1 rfl
    go_wp2_with fail
    go_meet
    case rel => exact ⟨rfl,Lib.hid rfl⟩
  case rest =>
   obtain ⟨rfl,hwx⟩ := hcut
   obtain rfl:=hwx.out
   obtain ⟨w1,rfl⟩ : ∃ x : World,x = wc:=⟨_,rfl⟩
   clear hwx c3
   go_upto_if 34 with fail
   go_cut [10] from 30 to 35 (fun cv wx => cv = .int .i64 ST ∧ Hid (wx = w1))
   case first =>
    cases ju with
    | false =>
     have z:=Lib.hid HZL.out.2.2
     go_wp2_with fail
     go_meet
     case rel => exact ⟨congrArg _ (by rw [← z.out]; rfl),Lib.hid rfl⟩
    | true =>
     have z:=Lib.hid HZL.out.2.2
     go_wp2_with fail
     go_meet
     case rel => exact ⟨congrArg _ (by rw [← z.out]; rfl),Lib.hid rfl⟩
   case rest =>
    obtain ⟨rfl,hwx⟩ := hcut
    obtain rfl:=hwx.out
    obtain ⟨w1,rfl⟩ : ∃ x : World,x = wc:=⟨_,rfl⟩
    clear hwx c4
    go_upto_region 6 with fail
    by_cases g1 : P < L
    ·have h1 : decide (P < L) = true:=decide_eq_true g1
     by_cases g2 : n = P + 1
     ·have h2 : (n == P + 1) = true:=by rw [g2]; simp
      have h2b : decide (n = P + 1) = true:=decide_eq_true g2
      refine wp_region_seq 19 [.is (.pointer (some ⟨pb,g.player * 9,none⟩)),.is (.pointer (some ⟨pb,g.player * 9,none⟩)),.is (.pointer (some ⟨pb,g.player * 9,none⟩)),.is (.int .i64 P),.is (.pointer (some ⟨t,0,none⟩)),.is (.pointer (some ⟨t,0,none⟩)),.is (.pointer (some ⟨t,0,none⟩)),.is (.pointer (some ⟨t,2,none⟩)),.is (.int .i64 L),.is (.bool true),.is (.bool true),.is (.int .i64 n),.is (.pointer (some ⟨pb,g.player * 9,none⟩)),.is (.pointer (some ⟨pb,g.player * 9,none⟩)),.is (.pointer (some ⟨pb,g.player * 9,none⟩)),.is (.int .i64 P),.is (.int .i64 (P + 1)),.is (.bool true),.is (.bool true)] rfl mix (by kernel_rfl) (by kernel_rfl) ?seqm
      case seqm =>
       simp only [List.take_succ_cons,List.take_zero]
       iterate 19
        refine seq_on (by rfl) (fun w3 hb3 _ => ?_) ?_
        ·have y1:=bAt hb3 c2
         have y2:=bAt hb3 c13
         have y3:=bAt hb3 p0
         simp [opOK,go_sem,y1,y3,h1,h2,zP,Below.refl]
         try exact rfl
        simp only [Act.put,List.setIfInBounds_toArray,List.set_cons_succ,List.set_cons_zero]
       refine seq_end fun w2 hb_w2 _ => ?_
       simp only [List.drop_succ_cons,List.drop_zero]
       replace c2:=bAt hb_w2 c2
       replace c13:=bAt hb_w2 c13
       replace p0:=bAt hb_w2 p0
       replace HT:=Lib.hid (HT.out.below hb_w2)
       replace HR:=Lib.hid (HR.out.ext hb_w2)
       clear hb_w2
       obtain ⟨Z,hZ⟩ : ∃ Z,min L (P + ST) = Z:=⟨_,rfl⟩
       have HD2 : Hid (d = (setP g g.player { plr g g.player with pts:=Z },if Z = TT then [(g.player : Int)] else [])):=Lib.hid (by
        rw [HD.out,decide_eq_false (show ¬ L < P + 1 by omega)]
        simp only [Bool.false_eq_true,if_false]
        rw [if_pos g2,hZ])
       clear g1 g2 h1 h2 h2b zP
       go_upto_region 7 with fail
       refine wp_region_seq 15 [.is (.pointer (some ⟨pb,g.player * 9,none⟩)),.is (.pointer (some ⟨t,0,none⟩)),.is (.pointer (some ⟨t,0,none⟩)),.is (.pointer (some ⟨t,0,none⟩)),.is (.pointer (some ⟨t,2,none⟩)),.is (.int .i64 L),.is (.pointer (some ⟨pb,g.player * 9,none⟩)),.is (.pointer (some ⟨pb,g.player * 9,none⟩)),.is (.pointer (some ⟨pb,g.player * 9,none⟩)),.is (.int .i64 P),.is (.int .i64 ST),.is (.int .i64 (P + ST)),.is (.int .i64 Z),.is (.pointer (some ⟨pb,g.player * 9,none⟩)),.is (.pointer (some ⟨pb,g.player * 9,none⟩))] rfl mix (by kernel_rfl) (by kernel_rfl) ?seqm
       case seqm =>
        simp only [List.take_succ_cons,List.take_zero]
        iterate 15
         refine seq_on (by rfl) (fun w3 hb3 _ => ?_) ?_
         ·have y1:=bAt hb3 c2
          have y2:=bAt hb3 c13
          have y3:=bAt hb3 p0
          simp [opOK,go_sem,y1,y3,zS,hZ,Below.refl]
          try exact rfl
         simp only [Act.put,List.setIfInBounds_toArray,List.set_cons_succ,List.set_cons_zero]
        refine seq_end fun w4 hb_w4 _ => ?_
        simp only [List.drop_succ_cons,List.drop_zero]
        replace c2:=bAt hb_w4 c2
        replace c13:=bAt hb_w4 c13
        replace p0:=bAt hb_w4 p0
        replace HT:=Lib.hid (HT.out.below hb_w4)
        replace HR:=Lib.hid (HR.out.ext hb_w4)
        clear hb_w4
        have fz:=HT.out.pls.free (g.player * 9)
        go_upto_region 10 with fail
        obtain ⟨w5,hw5⟩ : ∃ x,w4.setCell ⟨pb,g.player * 9,none⟩ (.int .i64 Z) = x:=⟨_,rfl⟩
        have HT5:=Lib.hid (HT.out.setPts HPL.out Z)
        have HR5:=Lib.hid (HR.out.setCell (p:=⟨pb,g.player * 9,none⟩) (.inr rfl) (.int .i64 Z))
        rw [hw5] at HT5 HR5
        have HW5:=Lib.hid hw5
        have p5 : w5.cell? ⟨pb,g.player * 9,none⟩ = some (.int .i64 Z):=by
         have h5 : g.player < (setP g g.player { plr g g.player with pts:=Z }).pls.length:=by rw [setP_len]; exact HPL.out
         have:=HT5.out.pls.pts h5
         rw [plr_at h5,plr_setP HPL.out,if_pos rfl] at this
         exact this
        clear hw5 p0 fz zS hZ c2 c13
        rw [HW5.out]
        by_cases g5 : Z = TT
        ·have z0 : (Z == TT) = true:=by rw [g5]; simp
         have HD3 : Hid (d = (setP g g.player { plr g g.player with pts:=Z },[(g.player : Int)])):=Lib.hid (by rw [HD2.out,if_pos g5])
         clear g5
         go_upto_region 11 with fail
         have fz : (w5.alloc (.cells #[.int .i64 g.player] 3)).frozen? ⟨t,14,none⟩ = false:=(HT5.out.below (aB _ _)).free 14
         have c14 : (w5.alloc (.cells #[.int .i64 g.player] 3)).cell? ⟨t,14,none⟩ = some wv:=(HT5.out.below (aB _ _)).at_ rfl
         go_wp2
         go_end0
         refine ⟨⟨_,rfl⟩,⟨.slice (some ⟨w5.heap.size,0,none⟩) 1 1,(.inr ⟨by rw [HD3.out]; simp,by rw [HD3.out]; exact sl_set (Sl.new1 (fun q => w.heap.size ≤ q) _ HR5.out.size 3 _) _ (fun q hq e => by (dsimp only at e; omega))⟩), ?_⟩, ?_⟩
         ·rw [HD3.out]
          exact (HT5.out.below (aB w5 (.cells #[.int .i64 g.player] 3))).setWin (Sl.new1 _ _ ⟨HT5.out.lt t (.inl rfl),by have:=HT5.out.lt pb (.inr rfl); omega⟩ 3 _)
         ·exact (HR5.out.ext (aB w5 (.cells #[.int .i64 g.player] 3))).setCell (.inl rfl) _
        ·have z0 : (Z == TT) = false:=by simpa using g5
         have HD3 : Hid (d = (setP g g.player { plr g g.player with pts:=Z },[])):=Lib.hid (by rw [HD2.out,if_neg g5])
         clear g5
         go_wp2
         go_end0
         refine ⟨⟨_,rfl⟩,⟨wv,(.inl ⟨by rw [HD3.out],rfl⟩), ?_⟩,HR5.out⟩
         rw [HD3.out]
         exact noWin (x:=setP g g.player { plr g g.player with pts:=Z }) HWIN.out ▸ HT5.out
     ·have h2 : (n == P + 1) = false:=by simpa using g2
      have h2b : decide (n = P + 1) = false:=decide_eq_false g2
      have h3 : (P == L) = false:=by simp; omega
      have h3b : decide (P = L) = false:=decide_eq_false (by omega)
      refine wp_region_seq 19 [.is (.pointer (some ⟨pb,g.player * 9,none⟩)),.is (.pointer (some ⟨pb,g.player * 9,none⟩)),.is (.pointer (some ⟨pb,g.player * 9,none⟩)),.is (.int .i64 P),.is (.pointer (some ⟨t,0,none⟩)),.is (.pointer (some ⟨t,0,none⟩)),.is (.pointer (some ⟨t,0,none⟩)),.is (.pointer (some ⟨t,2,none⟩)),.is (.int .i64 L),.is (.bool true),.is (.bool true),.is (.int .i64 n),.is (.pointer (some ⟨pb,g.player * 9,none⟩)),.is (.pointer (some ⟨pb,g.player * 9,none⟩)),.is (.pointer (some ⟨pb,g.player * 9,none⟩)),.is (.int .i64 P),.is (.int .i64 (P + 1)),.is (.bool false),.is (.bool false)] rfl mix (by kernel_rfl) (by kernel_rfl) ?seqm
      case seqm =>
       simp only [List.take_succ_cons,List.take_zero]
       iterate 19
        refine seq_on (by rfl) (fun w3 hb3 _ => ?_) ?_
        ·have y1:=bAt hb3 c2
         have y2:=bAt hb3 c13
         have y3:=bAt hb3 p0
         simp [opOK,go_sem,y1,y3,h1,h2,zP,Below.refl]
         try exact rfl
        simp only [Act.put,List.setIfInBounds_toArray,List.set_cons_succ,List.set_cons_zero]
       refine seq_end fun w2 hb_w2 _ => ?_
       simp only [List.drop_succ_cons,List.drop_zero]
       replace c2:=bAt hb_w2 c2
       replace c13:=bAt hb_w2 c13
       replace p0:=bAt hb_w2 p0
       replace HT:=Lib.hid (HT.out.below hb_w2)
       replace HR:=Lib.hid (HR.out.ext hb_w2)
       clear hb_w2
       have HD2 : Hid (d = (g,[])):=Lib.hid (by
        rw [HD.out,decide_eq_false (show ¬ L < P + 1 by omega)]
        simp only [Bool.false_eq_true,if_false]
        rw [if_neg g2])
       have z0 : (P == TT) = false:=by simp; omega
       clear g1 g2 h1 h2 h2b zP zS
       go_upto_region 8 with fail
       refine wp_region_seq 14 [.is (.pointer (some ⟨pb,g.player * 9,none⟩)),.is (.pointer (some ⟨pb,g.player * 9,none⟩)),.is (.pointer (some ⟨pb,g.player * 9,none⟩)),.is (.int .i64 P),.is (.pointer (some ⟨t,0,none⟩)),.is (.pointer (some ⟨t,0,none⟩)),.is (.pointer (some ⟨t,0,none⟩)),.is (.pointer (some ⟨t,2,none⟩)),.is (.int .i64 L),.is (.bool false),.is (.bool false),.is undef,.is undef,.is (.bool false)] rfl mix (by kernel_rfl) (by kernel_rfl) ?seqm
       case seqm =>
        simp only [List.take_succ_cons,List.take_zero]
        iterate 11
         refine seq_on (by rfl) (fun w3 hb3 _ => ?_) ?_
         ·have y1:=bAt hb3 c2
          have y2:=bAt hb3 c13
          have y3:=bAt hb3 p0
          simp [opOK,go_sem,y1,y3,h3,Below.refl]
          try exact rfl
         simp only [Act.put,List.setIfInBounds_toArray,List.set_cons_succ,List.set_cons_zero]
        iterate 2
         refine seq_off (by rfl) ?_
         simp only [Act.put,List.setIfInBounds_toArray,List.set_cons_succ,List.set_cons_zero]
        refine seq_on (by rfl) (fun w3 hb3 _ => ?_) ?_
        ·have y1:=bAt hb3 c2
         have y2:=bAt hb3 c13
         have y3:=bAt hb3 p0
         simp [opOK,go_sem,Below.refl]
         try exact rfl
        simp only [Act.put,List.setIfInBounds_toArray,List.set_cons_succ,List.set_cons_zero]
        refine seq_end fun w3 hb_w3 _ => ?_
        simp only [List.drop_succ_cons,List.drop_zero]
        replace c2:=bAt hb_w3 c2
        replace c13:=bAt hb_w3 c13
        replace p0:=bAt hb_w3 p0
        replace HT:=Lib.hid (HT.out.below hb_w3)
        replace HR:=Lib.hid (HR.out.ext hb_w3)
        clear hb_w3
        clear h3 h3b
        go_wp2
        go_end0
        refine ⟨⟨_,rfl⟩,⟨wv,(.inl ⟨by rw [HD2.out],rfl⟩), ?_⟩,HR.out⟩
        rw [HD2.out]
        exact noWin HWIN.out ▸ HT.out
    ·have h1 : decide (P < L) = false:=decide_eq_false g1
     have gPL : P = L:=by omega
     have h3 : (P == L) = true:=by rw [gPL]; simp
     have h3b : decide (P = L) = true:=decide_eq_true gPL
     have HPLe:=Lib.hid gPL
     clear gPL
     refine wp_region_seq 19 [.is (.pointer (some ⟨pb,g.player * 9,none⟩)),.is (.pointer (some ⟨pb,g.player * 9,none⟩)),.is (.pointer (some ⟨pb,g.player * 9,none⟩)),.is (.int .i64 P),.is (.pointer (some ⟨t,0,none⟩)),.is (.pointer (some ⟨t,0,none⟩)),.is (.pointer (some ⟨t,0,none⟩)),.is (.pointer (some ⟨t,2,none⟩)),.is (.int .i64 L),.is (.bool false),.is (.bool false),.is undef,.is undef,.is undef,.is undef,.is undef,.is undef,.is undef,.is (.bool false)] rfl mix (by kernel_rfl) (by kernel_rfl) ?seqm
     case seqm =>
      simp only [List.take_succ_cons,List.take_zero]
      iterate 11
       refine seq_on (by rfl) (fun w3 hb3 _ => ?_) ?_
       ·have y1:=bAt hb3 c2
        have y2:=bAt hb3 c13
        have y3:=bAt hb3 p0
        simp [opOK,go_sem,y1,y3,h1,Below.refl]
        try exact rfl
       simp only [Act.put,List.setIfInBounds_toArray,List.set_cons_succ,List.set_cons_zero]
      iterate 7
       refine seq_off (by rfl) ?_
       simp only [Act.put,List.setIfInBounds_toArray,List.set_cons_succ,List.set_cons_zero]
      refine seq_on (by rfl) (fun w3 hb3 _ => ?_) ?_
      ·have y1:=bAt hb3 c2
       have y2:=bAt hb3 c13
       have y3:=bAt hb3 p0
       simp [opOK,go_sem,Below.refl]
       try exact rfl
      simp only [Act.put,List.setIfInBounds_toArray,List.set_cons_succ,List.set_cons_zero]
      refine seq_end fun w2 hb_w2 _ => ?_
      simp only [List.drop_succ_cons,List.drop_zero]
      replace c2:=bAt hb_w2 c2
      replace c13:=bAt hb_w2 c13
      replace p0:=bAt hb_w2 p0
      replace HT:=Lib.hid (HT.out.below hb_w2)
      replace HR:=Lib.hid (HR.out.ext hb_w2)
      clear hb_w2
      clear h1 zP
      go_upto_region 8 with fail
      by_cases g4 : n = 25
      ·have h4 : (n == 25) = true:=by rw [g4]; rfl
       obtain ⟨Z,hZ⟩ : ∃ Z,min TT (P + ST) = Z:=⟨_,rfl⟩
       have HD2 : Hid (d = (setP g g.player { plr g g.player with pts:=Z },if Z = TT then [(g.player : Int)] else [])):=Lib.hid (by
        rw [HD.out,decide_eq_true (show L < P + 1 by omega)]
        simp only [if_true]
        rw [if_pos g4,hZ])
       clear g1 g4
       refine wp_region_seq 14 [.is (.pointer (some ⟨pb,g.player * 9,none⟩)),.is (.pointer (some ⟨pb,g.player * 9,none⟩)),.is (.pointer (some ⟨pb,g.player * 9,none⟩)),.is (.int .i64 P),.is (.pointer (some ⟨t,0,none⟩)),.is (.pointer (some ⟨t,0,none⟩)),.is (.pointer (some ⟨t,0,none⟩)),.is (.pointer (some ⟨t,2,none⟩)),.is (.int .i64 L),.is (.bool true),.is (.bool true),.is (.int .i64 n),.is (.bool true),.is (.bool true)] rfl mix (by kernel_rfl) (by kernel_rfl) ?seqm
       case seqm =>
        simp only [List.take_succ_cons,List.take_zero]
        iterate 14
         refine seq_on (by rfl) (fun w3 hb3 _ => ?_) ?_
         ·have y1:=bAt hb3 c2
          have y2:=bAt hb3 c13
          have y3:=bAt hb3 p0
          simp [opOK,go_sem,y1,y3,h3,h4,Below.refl]
          try exact rfl
         simp only [Act.put,List.setIfInBounds_toArray,List.set_cons_succ,List.set_cons_zero]
        refine seq_end fun w4 hb_w4 _ => ?_
        simp only [List.drop_succ_cons,List.drop_zero]
        replace c2:=bAt hb_w4 c2
        replace c13:=bAt hb_w4 c13
        replace p0:=bAt hb_w4 p0
        replace HT:=Lib.hid (HT.out.below hb_w4)
        replace HR:=Lib.hid (HR.out.ext hb_w4)
        clear hb_w4
        have fz:=HT.out.pls.free (g.player * 9)
        clear h3 h3b h4
        go_upto_region 10 with fail
        obtain ⟨w5,hw5⟩ : ∃ x,w4.setCell ⟨pb,g.player * 9,none⟩ (.int .i64 Z) = x:=⟨_,rfl⟩
        have HT5:=Lib.hid (HT.out.setPts HPL.out Z)
        have HR5:=Lib.hid (HR.out.setCell (p:=⟨pb,g.player * 9,none⟩) (.inr rfl) (.int .i64 Z))
        rw [hw5] at HT5 HR5
        have HW5:=Lib.hid hw5
        have p5 : w5.cell? ⟨pb,g.player * 9,none⟩ = some (.int .i64 Z):=by
         have h5 : g.player < (setP g g.player { plr g g.player with pts:=Z }).pls.length:=by rw [setP_len]; exact HPL.out
         have:=HT5.out.pls.pts h5
         rw [plr_at h5,plr_setP HPL.out,if_pos rfl] at this
         exact this
        clear hw5 p0 fz zS hZ c2 c13
        rw [HW5.out]
        by_cases g5 : Z = TT
        ·have z0 : (Z == TT) = true:=by rw [g5]; simp
         have HD3 : Hid (d = (setP g g.player { plr g g.player with pts:=Z },[(g.player : Int)])):=Lib.hid (by rw [HD2.out,if_pos g5])
         clear g5
         go_upto_region 11 with fail
         have fz : (w5.alloc (.cells #[.int .i64 g.player] 3)).frozen? ⟨t,14,none⟩ = false:=(HT5.out.below (aB _ _)).free 14
         have c14 : (w5.alloc (.cells #[.int .i64 g.player] 3)).cell? ⟨t,14,none⟩ = some wv:=(HT5.out.below (aB _ _)).at_ rfl
         go_wp2
         go_end0
         refine ⟨⟨_,rfl⟩,⟨.slice (some ⟨w5.heap.size,0,none⟩) 1 1,(.inr ⟨by rw [HD3.out]; simp,by rw [HD3.out]; exact sl_set (Sl.new1 (fun q => w.heap.size ≤ q) _ HR5.out.size 3 _) _ (fun q hq e => by (dsimp only at e; omega))⟩), ?_⟩, ?_⟩
         ·rw [HD3.out]
          exact (HT5.out.below (aB w5 (.cells #[.int .i64 g.player] 3))).setWin (Sl.new1 _ _ ⟨HT5.out.lt t (.inl rfl),by have:=HT5.out.lt pb (.inr rfl); omega⟩ 3 _)
         ·exact (HR5.out.ext (aB w5 (.cells #[.int .i64 g.player] 3))).setCell (.inl rfl) _
        ·have z0 : (Z == TT) = false:=by simpa using g5
         have HD3 : Hid (d = (setP g g.player { plr g g.player with pts:=Z },[])):=Lib.hid (by rw [HD2.out,if_neg g5])
         clear g5
         go_wp2
         go_end0
         refine ⟨⟨_,rfl⟩,⟨wv,(.inl ⟨by rw [HD3.out],rfl⟩), ?_⟩,HR5.out⟩
         rw [HD3.out]
         exact noWin (x:=setP g g.player { plr g g.player with pts:=Z }) HWIN.out ▸ HT5.out
      ·have h4 : (n == 25) = false:=by simpa using g4
       have HD2 : Hid (d = (g,[])):=Lib.hid (by
        rw [HD.out,decide_eq_true (show L < P + 1 by omega)]
        simp only [if_true]
        rw [if_neg g4])
       have z0 : (P == TT) = false:=by simp; omega
       clear g1 g4 zS
       refine wp_region_seq 14 [.is (.pointer (some ⟨pb,g.player * 9,none⟩)),.is (.pointer (some ⟨pb,g.player * 9,none⟩)),.is (.pointer (some ⟨pb,g.player * 9,none⟩)),.is (.int .i64 P),.is (.pointer (some ⟨t,0,none⟩)),.is (.pointer (some ⟨t,0,none⟩)),.is (.pointer (some ⟨t,0,none⟩)),.is (.pointer (some ⟨t,2,none⟩)),.is (.int .i64 L),.is (.bool true),.is (.bool true),.is (.int .i64 n),.is (.bool false),.is (.bool false)] rfl mix (by kernel_rfl) (by kernel_rfl) ?seqm
       case seqm =>
        simp only [List.take_succ_cons,List.take_zero]
        iterate 14
         refine seq_on (by rfl) (fun w3 hb3 _ => ?_) ?_
         ·have y1:=bAt hb3 c2
          have y2:=bAt hb3 c13
          have y3:=bAt hb3 p0
          simp [opOK,go_sem,y1,y3,h3,h4,Below.refl]
          try exact rfl
         simp only [Act.put,List.setIfInBounds_toArray,List.set_cons_succ,List.set_cons_zero]
        refine seq_end fun w3 hb_w3 _ => ?_
        simp only [List.drop_succ_cons,List.drop_zero]
        replace c2:=bAt hb_w3 c2
        replace c13:=bAt hb_w3 c13
        replace p0:=bAt hb_w3 p0
        replace HT:=Lib.hid (HT.out.below hb_w3)
        replace HR:=Lib.hid (HR.out.ext hb_w3)
        clear hb_w3
        clear h3 h3b h4
        go_wp2
        go_end0
        refine ⟨⟨_,rfl⟩,⟨wv,(.inl ⟨by rw [HD2.out],rfl⟩), ?_⟩,HR.out⟩
        rw [HD2.out]
        exact noWin HWIN.out ▸ HT.out
end Go.Proofs.Ytnhggfnnolfcdaa
