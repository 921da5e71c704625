/- The texts JTwo, HO, SeqO, JTwoS, in build order. -/
import Derived.Test.YtnbmgkmcaoafnaaGreatDoorZao

/- A region that draws its order, with an append to each of two rows of one's own. -/
namespace Go.Oche
open Go Go.RowKit
structure JTwoA (w0 : World) (v1 v2 : Value) (i1 i2 : Nat) (L : Nat → Bool) (W : World) : Prop where
 os : W.os = w0.os
 tape : W.tape = w0.tape
 output : W.output = w0.output
 size : w0.heap.size ≤ W.heap.size
 block : ∀ k,k < w0.heap.size → (L i1 = false ∨ v1.ownBlock ≠ some k) → (L i2 = false ∨ v2.ownBlock ≠ some k) → W.heap[k]? = w0.heap[k]?
section
variable {w0 W W' : World} {v1 v2 : Value} {i1 i2 : Nat} {L : Nat → Bool}
theorem JTwoA.start : JTwoA w0 v1 v2 i1 i2 (fun _ => false) w0.drew:=⟨rfl,rfl,rfl,Nat.le_refl _,fun _ _ _ _ => rfl⟩
theorem setB_or {i j : Nat} (h : setB L i j = false) : L j = false:=by
 unfold setB at h;split at h
 ·cases h
 ·exact h
theorem JTwoA.read (h : JTwoA w0 v1 v2 i1 i2 L W) {i : Nat} : JTwoA w0 v1 v2 i1 i2 (setB L i) W :=
 ⟨h.os,h.tape,h.output,h.size,fun k hk h1 h2 => h.block k hk (h1.imp setB_or id) (h2.imp setB_or id)⟩
theorem JTwoA.grow (h : JTwoA w0 v1 v2 i1 i2 L W) {i : Nat} (hb : Below W.heap.size W W') : JTwoA w0 v1 v2 i1 i2 (setB L i) W' :=
 ⟨hb.os.trans h.os,hb.tape.trans h.tape,hb.output.trans h.output,Nat.le_trans h.size hb.size,fun k hk h1 h2 => (hb.block k (Nat.lt_of_lt_of_le hk h.size)).trans (h.block k hk (h1.imp setB_or id) (h2.imp setB_or id))⟩
theorem JTwoA.app1 (h : JTwoA w0 v1 v2 i1 i2 L W) (hg : W.grownBy W' v1.ownBlock) : JTwoA w0 v1 v2 i1 i2 (setB L i1) W' :=
 ⟨hg.os.trans h.os,hg.tape.trans h.tape,hg.output.trans h.output,Nat.le_trans h.size hg.size,fun k hk h1 h2 => by
  rcases h1 with h1 | h1
  ·rw [setB_eq] at h1; cases h1
  ·exact (hg.block k (Nat.lt_of_lt_of_le hk h.size) (Ne.symm h1)).trans (h.block k hk (.inr h1) (h2.imp setB_or id))⟩
theorem JTwoA.app2 (h : JTwoA w0 v1 v2 i1 i2 L W) (hg : W.grownBy W' v2.ownBlock) : JTwoA w0 v1 v2 i1 i2 (setB L i2) W' :=
 ⟨hg.os.trans h.os,hg.tape.trans h.tape,hg.output.trans h.output,Nat.le_trans h.size hg.size,fun k hk h1 h2 => by
  rcases h2 with h2 | h2
  ·rw [setB_eq] at h2; cases h2
  ·exact (hg.block k (Nat.lt_of_lt_of_le hk h.size) (Ne.symm h2)).trans (h.block k hk (h1.imp setB_or id) (.inr h2))⟩
theorem JTwoA.heap (h : JTwoA w0 v1 v2 i1 i2 L W) {b : Nat} {o : Obj} (hb : w0.heap[b]? = some o) (h1 : v1.ownBlock ≠ some b) (h2 : v2.ownBlock ≠ some b) : W.heap[b]? = some o :=
 (h.block b (Array.getElem?_eq_some_iff.1 hb).1 (.inr h1) (.inr h2)).trans hb
theorem JTwoA.own1 (h : JTwoA w0 v1 v2 i1 i2 L W) {base n k : Nat} {e : TypeId} {xs : List Value} (ho : w0.ownsRow base e k v1 n xs) (hL : L i1 = false) (hne : v1.ownBlock = none ∨ v1.ownBlock ≠ v2.ownBlock) : W.ownsRow base e k v1 n xs :=
 ownsN_kept ho fun g hg => h.block g (ho.lt g hg).2 (.inl hL) (.inr fun e => by
  rcases hne with hn | hn
  ·rw [hg] at hn; cases hn
  ·exact hn (hg.trans e.symm))
theorem JTwoA.own2 (h : JTwoA w0 v1 v2 i1 i2 L W) {base n k : Nat} {e : TypeId} {xs : List Value} (ho : w0.ownsRow base e k v2 n xs) (hL : L i2 = false) (hne : v1.ownBlock = none ∨ v1.ownBlock ≠ v2.ownBlock) : W.ownsRow base e k v2 n xs :=
 ownsN_kept ho fun g hg => h.block g (ho.lt g hg).2 (.inr fun e => by
  rcases hne with hn | hn
  ·rw [hn] at e; cases e
  ·exact hn (e.trans hg.symm)) (.inl hL)
end
structure JTwoV (w0 : World) (v1 v2 : Value) (l1 i1 l2 i2 : Nat) (base : Nat) (e1 e2 : TypeId) (n1 n2 : Nat) (xs1 xs2 : List Value) (u1 u2 : Value) (L : Nat → Bool) (vs : Nat → Value) (W : World) : Prop where
 b : JTwoA w0 v1 v2 i1 i2 L W
 lit1 : L l1 = true → ∃ q,vs l1 = .slice (some ⟨q,0,none⟩) 1 1 ∧ w0.heap.size ≤ q ∧ W.cell? ⟨q,0,none⟩ = some u1
 lit2 : L l2 = true → ∃ q,vs l2 = .slice (some ⟨q,0,none⟩) 1 1 ∧ w0.heap.size ≤ q ∧ W.cell? ⟨q,0,none⟩ = some u2
 row1 : L i1 = true → W.ownsRow base e1 1 (vs i1) (n1 + 1) (xs1 ++ [u1]) ∧ ((vs i1).ownBlock = v1.ownBlock ∨ ∃ g,(vs i1).ownBlock = some g ∧ w0.heap.size ≤ g)
 row2 : L i2 = true → W.ownsRow base e2 1 (vs i2) (n2 + 1) (xs2 ++ [u2]) ∧ ((vs i2).ownBlock = v2.ownBlock ∨ ∃ g,(vs i2).ownBlock = some g ∧ w0.heap.size ≤ g)
 ne : L i1 = true → L i2 = true → (vs i1).ownBlock ≠ (vs i2).ownBlock
 ord : L i2 = true → L i1 = true
section
variable {w0 W W' : World} {v1 v2 : Value} {l1 i1 l2 i2 base : Nat} {e1 e2 : TypeId} {n1 n2 : Nat} {xs1 xs2 : List Value} {u1 u2 : Value} {L : Nat → Bool} {vs vs' : Nat → Value}
theorem JTwoV.congr (hc : ∀ j,L j = true → vs j = vs' j) (h : JTwoV w0 v1 v2 l1 i1 l2 i2 base e1 e2 n1 n2 xs1 xs2 u1 u2 L vs W) : JTwoV w0 v1 v2 l1 i1 l2 i2 base e1 e2 n1 n2 xs1 xs2 u1 u2 L vs' W :=
 ⟨h.b,fun hl => hc _ hl ▸ h.lit1 hl,fun hl => hc _ hl ▸ h.lit2 hl,fun hl => hc _ hl ▸ h.row1 hl,fun hl => hc _ hl ▸ h.row2 hl,fun ha hb => hc _ ha ▸ hc _ hb ▸ h.ne ha hb,h.ord⟩
theorem JTwoV.start : JTwoV w0 v1 v2 l1 i1 l2 i2 base e1 e2 n1 n2 xs1 xs2 u1 u2 (fun _ => false) vs w0.drew :=
 ⟨.start,fun h => (by cases h),fun h => (by cases h),fun h => (by cases h),fun h => (by cases h),fun h => (by cases h),fun h => (by cases h)⟩
theorem updV_ne {i j : Nat} {v : Value} (h : j ≠ i) : updV vs i v j = vs j:=by unfold updV; rw [if_neg h]
theorem updV_eq {i : Nat} {v : Value} : updV vs i v i = v:=by unfold updV; rw [if_pos rfl]
theorem JTwoV.grow (h : JTwoV w0 v1 v2 l1 i1 l2 i2 base e1 e2 n1 n2 xs1 xs2 u1 u2 L vs W) (hb : Below W.heap.size W W') {i : Nat} {v : Value} (h1 : l1 ≠ i) (h2 : i1 ≠ i) (h3 : l2 ≠ i) (h4 : i2 ≠ i) :
  JTwoV w0 v1 v2 l1 i1 l2 i2 base e1 e2 n1 n2 xs1 xs2 u1 u2 (setB L i) (updV vs i v) W':=by
 refine ⟨h.b.grow hb, ?_, ?_, ?_, ?_, ?_, ?_⟩
 ·rw [setB_ne h1,updV_ne h1]; exact fun hl => let ⟨q,a,b,c⟩ := h.lit1 hl; ⟨q,a,b,bAt hb c⟩
 ·rw [setB_ne h3,updV_ne h3]; exact fun hl => let ⟨q,a,b,c⟩ := h.lit2 hl; ⟨q,a,b,bAt hb c⟩
 ·rw [setB_ne h2,updV_ne h2]; exact fun hl => let ⟨a,b⟩ := h.row1 hl; ⟨ownsN_below a hb,b⟩
 ·rw [setB_ne h4,updV_ne h4]; exact fun hl => let ⟨a,b⟩ := h.row2 hl; ⟨ownsN_below a hb,b⟩
 ·rw [setB_ne h2,setB_ne h4,updV_ne h2,updV_ne h4]; exact h.ne
 ·rw [setB_ne h2,setB_ne h4]; exact h.ord
theorem JTwoV.read (h : JTwoV w0 v1 v2 l1 i1 l2 i2 base e1 e2 n1 n2 xs1 xs2 u1 u2 L vs W) {i : Nat} {v : Value} (h1 : l1 ≠ i) (h2 : i1 ≠ i) (h3 : l2 ≠ i) (h4 : i2 ≠ i) :
  JTwoV w0 v1 v2 l1 i1 l2 i2 base e1 e2 n1 n2 xs1 xs2 u1 u2 (setB L i) (updV vs i v) W:=h.grow (Below.refl _ _) h1 h2 h3 h4
theorem JTwoV.swapLit (h : JTwoV w0 v1 v2 l1 i1 l2 i2 base e1 e2 n1 n2 xs1 xs2 u1 u2 L vs W) (hb : Below W.heap.size W W') {q : Nat} (hq : w0.heap.size ≤ q) (hc : W'.cell? ⟨q,0,none⟩ = some u1) (h2 : i1 ≠ l1) (h3 : l2 ≠ l1) (h4 : i2 ≠ l1) :
  JTwoV w0 v1 v2 l1 i1 l2 i2 base e1 e2 n1 n2 xs1 xs2 u1 u2 (setB L l1) (updV vs l1 (.slice (some ⟨q,0,none⟩) 1 1)) W':=by
 refine ⟨h.b.grow hb, ?_, ?_, ?_, ?_, ?_, ?_⟩
 ·rw [updV_eq]; exact fun _ => ⟨q,rfl,hq,hc⟩
 ·rw [setB_ne h3,updV_ne h3]; exact fun hl => let ⟨q,a,b,c⟩ := h.lit2 hl; ⟨q,a,b,bAt hb c⟩
 ·rw [setB_ne h2,updV_ne h2]; exact fun hl => let ⟨a,b⟩ := h.row1 hl; ⟨ownsN_below a hb,b⟩
 ·rw [setB_ne h4,updV_ne h4]; exact fun hl => let ⟨a,b⟩ := h.row2 hl; ⟨ownsN_below a hb,b⟩
 ·rw [setB_ne h2,setB_ne h4,updV_ne h2,updV_ne h4]; exact h.ne
 ·rw [setB_ne h2,setB_ne h4]; exact h.ord
theorem JTwoV.mkLit2 (h : JTwoV w0 v1 v2 l1 i1 l2 i2 base e1 e2 n1 n2 xs1 xs2 u1 u2 L vs W) (hb : Below W.heap.size W W') {q : Nat} (hq : w0.heap.size ≤ q) (hc : W'.cell? ⟨q,0,none⟩ = some u2) (h1 : l1 ≠ l2) (h2 : i1 ≠ l2) (h4 : i2 ≠ l2) :
  JTwoV w0 v1 v2 l1 i1 l2 i2 base e1 e2 n1 n2 xs1 xs2 u1 u2 (setB L l2) (updV vs l2 (.slice (some ⟨q,0,none⟩) 1 1)) W':=by
 refine ⟨h.b.grow hb, ?_, ?_, ?_, ?_, ?_, ?_⟩
 ·rw [setB_ne h1,updV_ne h1]; exact fun hl => let ⟨q,a,b,c⟩ := h.lit1 hl; ⟨q,a,b,bAt hb c⟩
 ·rw [updV_eq]; exact fun _ => ⟨q,rfl,hq,hc⟩
 ·rw [setB_ne h2,updV_ne h2]; exact fun hl => let ⟨a,b⟩ := h.row1 hl; ⟨ownsN_below a hb,b⟩
 ·rw [setB_ne h4,updV_ne h4]; exact fun hl => let ⟨a,b⟩ := h.row2 hl; ⟨ownsN_below a hb,b⟩
 ·rw [setB_ne h2,setB_ne h4,updV_ne h2,updV_ne h4]; exact h.ne
 ·rw [setB_ne h2,setB_ne h4]; exact h.ord
theorem litKeep {g : Option Nat} {Z : Nat} {v u : Value} (hg : W.grownBy W' g) (hlt : ∀ q,g = some q → q < Z) (h : ∃ q,v = .slice (some ⟨q,0,none⟩) 1 1 ∧ Z ≤ q ∧ W.cell? ⟨q,0,none⟩ = some u) : ∃ q,v = .slice (some ⟨q,0,none⟩) 1 1 ∧ Z ≤ q ∧ W'.cell? ⟨q,0,none⟩ = some u:=by
 obtain ⟨q,a,b,c⟩ := h;exact ⟨q,a,b,(World.cell?_of_block (w:=W) (hg.block q (World.block_lt_of_cell? W _ c) (fun e => by have:=hlt q e.symm; omega))).trans c⟩
theorem JTwoV.app1 (h : JTwoV w0 v1 v2 l1 i1 l2 i2 base e1 e2 n1 n2 xs1 xs2 u1 u2 L vs W) (hL : L i1 = false) (hg : W.grownBy W' v1.ownBlock) (hv1 : ∀ q,v1.ownBlock = some q → q < w0.heap.size) {v : Value} (ho : W'.ownsRow base e1 1 v (n1 + 1) (xs1 ++ [u1]))
  (hat : v.ownBlock = v1.ownBlock ∨ ∃ g,v.ownBlock = some g ∧ w0.heap.size ≤ g) (h1 : l1 ≠ i1) (h3 : l2 ≠ i1) (h4 : i2 ≠ i1) : JTwoV w0 v1 v2 l1 i1 l2 i2 base e1 e2 n1 n2 xs1 xs2 u1 u2 (setB L i1) (updV vs i1 v) W':=by
 have h2L : L i2 = false:=by
  cases hq : L i2 with
  | false => rfl
  | true => rw [h.ord hq] at hL; cases hL
 refine ⟨h.b.app1 hg, ?_, ?_, ?_, ?_, ?_, ?_⟩
 ·rw [setB_ne h1,updV_ne h1]; exact fun hl => litKeep hg hv1 (h.lit1 hl)
 ·rw [setB_ne h3,updV_ne h3]; exact fun hl => litKeep hg hv1 (h.lit2 hl)
 ·rw [updV_eq]; exact fun _ => ⟨ho,hat⟩
 ·rw [setB_ne h4,h2L]; exact fun hl => by cases hl
 ·rw [setB_ne h4,h2L]; exact fun _ hl => by cases hl
 ·rw [setB_eq]; exact fun _ => rfl
theorem JTwoV.app2 (h : JTwoV w0 v1 v2 l1 i1 l2 i2 base e1 e2 n1 n2 xs1 xs2 u1 u2 L vs W) (hL1 : L i1 = true) (hg : W.grownBy W' v2.ownBlock) (hv2 : ∀ q,v2.ownBlock = some q → q < w0.heap.size) (hne : v1.ownBlock = none ∨ v1.ownBlock ≠ v2.ownBlock)
  {v : Value} {g : Nat} (ho : W'.ownsRow base e2 1 v (n2 + 1) (xs2 ++ [u2])) (hv : v.ownBlock = some g) (hat : v2.ownBlock = some g ∨ g = W.heap.size) (h1 : l1 ≠ i2) (h2 : i1 ≠ i2) (h3 : l2 ≠ i2) : JTwoV w0 v1 v2 l1 i1 l2 i2 base e1 e2 n1 n2 xs1 xs2 u1 u2 (setB L i2) (updV vs i2 v) W':=by
 obtain ⟨hr1,hr2⟩ := h.row1 hL1;have key : ∀ q,(vs i1).ownBlock = some q → v2.ownBlock ≠ some q:=fun q hq e => by
  rcases hr2 with hr2 | ⟨q',hr2,hr3⟩
  ·rw [hr2] at hq
   rcases hne with hn | hn
   ·rw [hn] at hq; cases hq
   ·exact hn (hq.trans e.symm)
  ·rw [hq] at hr2; cases hr2; have:=hv2 q e; omega
 refine ⟨h.b.app2 hg, ?_, ?_, ?_, ?_, ?_, ?_⟩
 ·rw [setB_ne h1,updV_ne h1]; exact fun hl => litKeep hg hv2 (h.lit1 hl)
 ·rw [setB_ne h3,updV_ne h3]; exact fun hl => litKeep hg hv2 (h.lit2 hl)
 ·rw [setB_ne h2,updV_ne h2]; exact fun _ => ⟨ownsN_kept hr1 fun q hq => hg.block q (hr1.lt q hq).2 (Ne.symm (key q hq)),hr2⟩
 ·rw [updV_eq]; exact fun _ => ⟨ho,hat.elim (fun e => .inl (hv.trans e.symm)) (fun e => .inr ⟨g,hv,by rw [e]; exact h.b.size⟩)⟩
 ·rw [updV_eq,updV_ne h2]
  intro _ _ e
  rw [hv] at e;rcases hat with hat | hat
  ·exact key g e hat
  ·have:=(hr1.lt g e).2; omega
 ·rw [setB_ne h2]; exact fun _ => hL1
end
end Go.Oche

/- Chapter 5: memory while a player's visits are followed. -/
namespace Go.Proofs.YtnbmgkmcaoafnaaGreatDoor
open Go Go.RowKit Go.Oche Go.Proofs

def decS (v : Value) : Std:=match v with
 | .agg cs => match cs.toList with
  | [.int _ a,.bool b] => ⟨a,b⟩
  | _ => ⟨0,false⟩
 | _ => ⟨0,false⟩
theorem decS_eq (s : Std) : decS (stV s) = s:=rfl
section
variable {l : Lg} {F F' : Nat → Prop} {W W' : World} {gb hb kb : Nat}
theorem GameAt.chg {O : Nat → Prop} (h : GameAt l F W gb hb kb) (hc : Chg O W W') (hO : ∀ x,O x → x ≠ kb ∧ x ≠ gb ∧ x ≠ hb ∧ F x) : GameAt l F W' gb hb kb:=by
 have hlt:=h.lt;obtain ⟨bv,hbx⟩ := h.box;exact ⟨⟨bv,(hc.block gb hlt.1 fun e => (hO _ e).2.1 rfl).trans hbx⟩,h.hits.keep (hc.block hb hlt.2.1 fun e => (hO _ e).2.2.1 rfl),h.known.keep fun q hq hk => hc.block q hq fun e => by
  rcases hk with rfl | hk
  ·exact (hO _ e).1 rfl
  ·exact hk (hO _ e).2.2.2,h.fg,h.fh,h.fk,h.hk,h.gk⟩
end
structure JU {κ ι : Type} [DecidableEq κ] [DecidableEq ι] (enc1 : κ → Value) (enc2 : ι → Value) (w0 : World) (A B i1 i2 : Nat) (f f' : κ → Option Value) (g g' : ι → Option Value) (L : Nat → Bool) (W : World) : Prop where
 chg : Chg (fun q => q = A ∨ q = B) w0 W
 ne : A ≠ B
 a : HoldsM enc1 W A (if L i1 = true then f' else f)
 b : HoldsM enc2 W B (if L i2 = true then g' else g)
section
variable {κ ι : Type} [DecidableEq κ] [DecidableEq ι] {enc1 : κ → Value} {enc2 : ι → Value} {w0 W W' : World} {A B i1 i2 : Nat} {f f' : κ → Option Value} {g g' : ι → Option Value} {L : Nat → Bool}
theorem JU.start (hne : A ≠ B) (ha : HoldsM enc1 w0 A f) (hb : HoldsM enc2 w0 B g) : JU enc1 enc2 w0 A B i1 i2 f f' g g' (fun _ => false) w0.drew :=
 ⟨⟨rfl,rfl,rfl,Nat.le_refl _,fun _ _ _ => rfl⟩,hne,ha.keep rfl,hb.keep rfl⟩
theorem JU.read (h : JU enc1 enc2 w0 A B i1 i2 f f' g g' L W) {i : Nat} (h1 : i1 ≠ i) (h2 : i2 ≠ i) : JU enc1 enc2 w0 A B i1 i2 f f' g g' (setB L i) W :=
 ⟨h.chg,h.ne,by rw [setB_ne h1]; exact h.a,by rw [setB_ne h2]; exact h.b⟩
theorem JU.put1 (h : JU enc1 enc2 w0 A B i1 i2 f f' g g' L W) (hg : W.grownBy W' (some A)) (ha : HoldsM enc1 W' A f') (hi : i2 ≠ i1) : JU enc1 enc2 w0 A B i1 i2 f f' g g' (setB L i1) W' :=
 ⟨h.chg.thenG hg fun x hx _ => .inl (Option.some.inj hx).symm,h.ne,by rw [setB_eq,if_pos rfl]; exact ha,by rw [setB_ne hi]; exact h.b.grown hg fun e => h.ne (Option.some.inj e).symm⟩
theorem JU.put2 (h : JU enc1 enc2 w0 A B i1 i2 f f' g g' L W) (hg : W.grownBy W' (some B)) (hb : HoldsM enc2 W' B g') (hi : i1 ≠ i2) : JU enc1 enc2 w0 A B i1 i2 f f' g g' (setB L i2) W' :=
 ⟨h.chg.thenG hg fun x hx _ => .inr (Option.some.inj hx).symm,h.ne,by rw [setB_ne hi]; exact h.a.grown hg fun e => h.ne (Option.some.inj e),by rw [setB_eq,if_pos rfl]; exact hb⟩
theorem JU.cell (h : JU enc1 enc2 w0 A B i1 i2 f f' g g' L W) {b o : Nat} {x : Value} (hv : w0.cell? ⟨b,o,none⟩ = some x) (h1 : b ≠ A) (h2 : b ≠ B) : W.cell? ⟨b,o,none⟩ = some x :=
 (World.cell?_of_block (w:=w0) (h.chg.block b (World.block_lt_of_cell? w0 _ hv) fun e => e.elim h1 h2)).trans hv
end
structure TSt (l : Lg) (F : Nat → Prop) (w0 : World) (gb hb kb A B r nb : Nat) (L : List (Std × Value)) (ks : List Std) (f : Std × Std → Option Sm) (wr : World) : Prop where
 seen : SeenD stV wr r nb L L ks
 step : HoldsM spV wr A fun k => (f k).map smV
 nows : HoldsM stV wr B (aftF f)
 game : GameAt l F wr gb hb kb
 chg : Chg (fun q => q = kb) w0 wr
 ne : A ≠ B ∧ A ≠ r ∧ B ≠ r ∧ nb ≠ kb
 lt : gb < w0.heap.size ∧ hb < w0.heap.size ∧ kb < w0.heap.size ∧ nb < w0.heap.size
 ge : w0.heap.size ≤ A ∧ w0.heap.size ≤ B ∧ w0.heap.size ≤ r
 own : F A ∧ F B ∧ F r
section
variable {l : Lg} {F F' : Nat → Prop} {w0 wr wr' : World} {gb hb kb A B r nb : Nat} {L : List (Std × Value)} {ks : List Std} {f g : Std × Std → Option Sm}
theorem TSt.below (h : TSt l F w0 gb hb kb A B r nb L ks f wr) (hbl : Below wr.heap.size wr wr') : TSt l F w0 gb hb kb A B r nb L ks f wr' :=
 ⟨h.seen.keep (hbl.block _ h.seen.lt.2.1) (hbl.block _ h.seen.lt.1),h.step.below hbl,h.nows.below hbl,h.game.below hbl,h.chg.thenB hbl,h.ne,h.lt,h.ge,h.own⟩
theorem TSt.learn (h : TSt l F w0 gb hb kb A B r nb L ks f wr) (hg : wr.grownBy wr' (some kb)) (hG : GameAt l F wr' gb hb kb) : TSt l F w0 gb hb kb A B r nb L ks f wr':=by
 have h1:=h.ne;have h2:=h.lt;have h3:=h.ge;exact ⟨h.seen.keep (hg.block _ h.seen.lt.2.1 fun e => h1.2.2.2 (Option.some.inj e)) (hg.block _ h.seen.lt.1 fun e => by cases e; omega),h.step.grown hg fun e => by cases e; omega,h.nows.grown hg fun e => by cases e; omega,hG,h.chg.thenG hg fun x hx _ => (Option.some.inj hx).symm,h.ne,h.lt,h.ge,h.own⟩
theorem TSt.next {x : Std} (h : TSt l F w0 gb hb kb A B r nb L ks f wr) (hg : wr.grownBy wr' (some r)) (hS : SeenD stV wr' r nb L L (ks ++ [x])) : TSt l F w0 gb hb kb A B r nb L (ks ++ [x]) f wr':=by
 have h1:=h.ne;have h2:=h.lt;have h3:=h.ge;exact ⟨hS,h.step.grown hg fun e => h1.2.1 (Option.some.inj e),h.nows.grown hg fun e => h1.2.2.1 (Option.some.inj e),h.game.grown hg (fun x hx => by cases hx; exact ⟨by omega,by omega,by omega,.inl h.own.2.2⟩),h.chg.thenG hg fun x hx hlt => by cases hx; omega,h.ne,h.lt,h.ge,h.own⟩
theorem TSt.other {x : Nat} (h : TSt l F w0 gb hb kb A B r nb L ks f wr) (hg : wr.grownBy wr' (some x)) (hA : x ≠ A) (hB : x ≠ B) (hr : x ≠ r) (hF : F x) (hx : w0.heap.size ≤ x) : TSt l F w0 gb hb kb A B r nb L ks f wr':=by
 have h2:=h.lt;exact ⟨h.seen.keep (hg.block _ h.seen.lt.2.1 fun e => by cases e; omega) (hg.block _ h.seen.lt.1 fun e => hr (Option.some.inj e).symm),h.step.grown hg fun e => hA (Option.some.inj e).symm,h.nows.grown hg fun e => hB (Option.some.inj e).symm,h.game.grown hg (fun y hy => by cases hy; exact ⟨by omega,by omega,by omega,.inl hF⟩),h.chg.thenG hg fun y hy hlt => by cases hy; omega,h.ne,h.lt,h.ge,h.own⟩
theorem TSt.put (h : TSt l F w0 gb hb kb A B r nb L ks f wr) (hc : Chg (fun q => q = A ∨ q = B) wr wr') (h1 : HoldsM spV wr' A fun k => (g k).map smV) (h2 : HoldsM stV wr' B (aftF g)) : TSt l F w0 gb hb kb A B r nb L ks g wr':=by
 have n1:=h.ne;have n2:=h.lt;have n3:=h.ge;exact ⟨h.seen.keep (hc.block _ h.seen.lt.2.1 (by omega)) (hc.block _ h.seen.lt.1 (by omega)),h1,h2,h.game.chg hc (fun x hx => by rcases hx with rfl | rfl; exact ⟨by omega,by omega,by omega,h.own.1⟩; exact ⟨by omega,by omega,by omega,h.own.2.1⟩),
  ⟨hc.os.trans h.chg.os,hc.tape.trans h.chg.tape,hc.output.trans h.chg.output,Nat.le_trans h.chg.size hc.size,fun q hq hn => (hc.block q (Nat.lt_of_lt_of_le hq h.chg.size) (by omega)).trans (h.chg.block q hq hn)⟩,h.ne,h.lt,h.ge,h.own⟩
theorem TSt.congr (h : TSt l F w0 gb hb kb A B r nb L ks f wr) (e : ∀ x,f x = g x) : TSt l F w0 gb hb kb A B r nb L ks g wr :=
 ⟨h.seen,h.step.congr fun k => by rw [e],h.nows.congr fun y => aftF_congr e y,h.game,h.chg,h.ne,h.lt,h.ge,h.own⟩
theorem TSt.more (h : TSt l F w0 gb hb kb A B r nb L ks f wr) (h1 : ∀ q,F' q → F q ∨ wr.heap.size ≤ q) (h2 : ∀ q,F q → F' q) : TSt l F' w0 gb hb kb A B r nb L ks f wr :=
 ⟨h.seen,h.step,h.nows,h.game.more h1 h2,h.chg,h.ne,h.lt,h.ge,h2 _ h.own.1,h2 _ h.own.2.1,h2 _ h.own.2.2⟩
theorem TSt.less (h : TSt l F w0 gb hb kb A B r nb L ks f wr) (h1 : ∀ q,F' q → F q) (h2 : F' gb) (h3 : F' hb) (h4 : F' kb) (h5 : F' A) (h6 : F' B) (h7 : F' r) : TSt l F' w0 gb hb kb A B r nb L ks f wr :=
 ⟨h.seen,h.step,h.nows,h.game.less h1 h2 h3 h4,h.chg,h.ne,h.lt,h.ge,h5,h6,h7⟩
end
structure StepsAt (base : Nat) (F : Nat → Prop) (W : World) (ms : List Value) (sts : List (List Sp)) : Prop where
 len : ms.length = sts.length
 nodup : ms.Nodup
 maps : ∀ (i : Nat) (st : List Sp),sts[i]? = some st → ∃ b,ms[i]? = some (Value.map (some b)) ∧ base ≤ b ∧ F b ∧ HoldsM spV W b fun k => (aggP st k).map smV
section
variable {base : Nat} {F F' : Nat → Prop} {W W' : World} {ms : List Value} {sts : List (List Sp)}
theorem StepsAt.nil : StepsAt base F W [] []:=⟨rfl,List.nodup_nil,fun i st h => by simp at h⟩
theorem holdsM_obj {κ : Type} [DecidableEq κ] {enc : κ → Value} {b : Nat} {f : κ → Option Value} (h : HoldsM enc W b f) : ∃ es c,W.heap[b]? = some (.map es c):=by
 obtain ⟨L,⟨es,c,h1,_⟩,_⟩ := h; exact ⟨es,c,h1⟩
theorem StepsAt.keep (h : StepsAt base F W ms sts) (hk : ∀ q es c,base ≤ q → W.heap[q]? = some (.map es c) → W'.heap[q]? = W.heap[q]?) : StepsAt base F W' ms sts :=
 ⟨h.len,h.nodup,fun i st hi => by
  obtain ⟨b,h1,h2,h3,h4⟩ := h.maps i st hi;obtain ⟨es,c,ho⟩ := holdsM_obj h4;exact ⟨b,h1,h2,h3,h4.keep (hk b es c h2 ho)⟩⟩
theorem StepsAt.mono (h : StepsAt base F W ms sts) (hF : ∀ q,F q → F' q) : StepsAt base F' W ms sts :=
 ⟨h.len,h.nodup,fun i st hi => by obtain ⟨b,h1,h2,h3,h4⟩ := h.maps i st hi; exact ⟨b,h1,h2,hF _ h3,h4⟩⟩
theorem StepsAt.snoc {A : Nat} {st : List Sp} (h : StepsAt base F W ms sts) (hA : HoldsM spV W A fun k => (aggP st k).map smV) (hF : F A) (hb : base ≤ A) (hn : Value.map (some A) ∉ ms) : StepsAt base F W (ms ++ [Value.map (some A)]) (sts ++ [st]):=by
 refine ⟨by simp [h.len],List.nodup_append.2 ⟨h.nodup,by simp,fun a ha b hb e => hn (by rw [List.mem_singleton] at hb; rw [← hb,← e]; exact ha)⟩,fun i st' hi => ?_⟩
 rw [List.getElem?_append] at hi ⊢
 rw [h.len];split at hi
 ·rename_i hlt
  rw [if_pos hlt]; exact h.maps i st' hi
 ·rename_i hlt
  rw [if_neg hlt];obtain e : i - sts.length = 0:=by
   cases q : i - sts.length with
   | zero => rfl
   | succ n => rw [q] at hi; simp at hi
  rw [e] at hi ⊢;cases hi;exact ⟨A,rfl,hb,hF,hA⟩
theorem StepsAt.new (h : StepsAt base F W ms sts) {A : Nat} (hA : W.heap.size ≤ A) : Value.map (some A) ∉ ms:=fun hm => by
 obtain ⟨i,hi⟩ := List.mem_iff_getElem?.1 hm;have hl : i < sts.length:=by rw [← h.len]; exact (List.getElem?_eq_some_iff.1 hi).1
 obtain ⟨b,h1,h2,h3,h4⟩ := h.maps i sts[i] (by simp [hl])
 rw [hi] at h1;cases h1;have:=h4.lt;omega
end
structure OSt (l : Lg) (F0 : Nat → Prop) (w0 : World) (gb hb kb N : Nat) (lv : Value) (said : Int → List Rp) (p t : Int) (tv sv : Value) (nb : Nat) (ts : List Int) (ms : List Value) (sts : List (List Sp)) (now : List Std) (F : Nat → Prop) (W : World) : Prop where
 sub : ∀ q,F0 q → F q
 lt : ∀ q,F q → q < W.heap.size
 game : GameAt l F W gb hb kb
 chg : Chg (fun q => q = kb) w0 W
 box : W.heap[N]? = some (.cells #[.pointer (some ⟨gb,0,none⟩),lv] 93 (0,0))
 cell : W.heap[N + 1]? = some (.cells #[tv,sv] 96 (0,0))
 fN : F (N + 1)
 row1 : W.ownsRow (N + 2) 3 1 tv ts.length (ints ts)
 row2 : W.ownsRow (N + 2) 104 1 sv ms.length ms
 f1 : ∀ g,tv.ownBlock = some g → F g
 f2 : ∀ g,sv.ownBlock = some g → F g
 steps : StepsAt N F W ms sts
 nowm : HoldsM stV W nb fun y => if y ∈ now then some (.bool true) else none
 nbN : N ≤ nb
 fnb : F nb
 ok : NowOk now
 along : Along l said p t ts sts now
theorem SlN.own_maps {k base : Nat} {e : TypeId} {v : Value} {W : World} {rows : List (List Value)} (h : W.ownsRow base e k v rows.length rows.flatten) (hr : ∀ r ∈ rows,r.length = k) :
  SlN k (fun q => base ≤ q ∧ q < W.heap.size ∧ ∀ es c,W.heap[q]? ≠ some (.map es c)) W v rows:=by
 rcases h.2 with ⟨rfl,h0⟩ | ⟨g,cap,cur,rfl,h1,h2,h3,h4,h5⟩
 ·have : rows = []:=List.eq_nil_of_length_eq_zero h0
  subst this;exact SlN.nil _ _ _
 ·exact (SlN.of_owns h hr rfl h3 h4).mono fun q hq => by
   subst hq;exact ⟨h1,(Array.getElem?_eq_some_iff.1 h2).1,fun es c e => by rw [h2] at e; cases e⟩
theorem _root_.Go.Oche.SlN.grown {k : Nat} {S : Nat → Prop} {w w' : World} {v : Value} {rows : List (List Value)} {o : Option Nat} (h : SlN k S w v rows) (hg : w.grownBy w' o) (hS : ∀ q,S q → o ≠ some q) : SlN k S w' v rows :=
 h.cells fun b o' hb hs => by
  obtain ⟨x,hx⟩ := Option.isSome_iff_exists.1 hs;exact World.cell?_of_block (w:=w) (hg.block b (World.block_lt_of_cell? w _ hx) fun e => hS b hb e.symm)
structure JF (w0 : World) (n : Nat) (xs : List Value) (L : Nat → Bool) (vs : Nat → Value) (W : World) : Prop where
 below : Below w0.heap.size w0 W
 row : L 20 = true → W.ownsRow w0.heap.size 58 3 (vs 20) n xs
 m1 : L 21 = true → ∃ b,vs 21 = .map (some b) ∧ w0.heap.size ≤ b ∧ HoldsM stV W b fun _ => none
 m2 : L 22 = true → ∃ b,vs 22 = .map (some b) ∧ w0.heap.size ≤ b ∧ HoldsM spV W b fun _ => none
 ne : L 21 = true → L 22 = true → vs 21 ≠ vs 22
 d24 : L 24 = true → L 20 = true ∧ vs 24 = vs 20
 d25 : L 25 = true → L 21 = true ∧ vs 25 = vs 21
 d26 : L 26 = true → L 22 = true ∧ vs 26 = vs 22
section
variable {w0 W W' : World} {n : Nat} {xs : List Value} {L : Nat → Bool} {vs vs' : Nat → Value}
theorem JF.congr (hc : ∀ j,L j = true → vs j = vs' j) (h : JF w0 n xs L vs W) : JF w0 n xs L vs' W :=
 ⟨h.below,fun e => by rw [← hc _ e]; exact h.row e,fun e => by rw [← hc _ e]; exact h.m1 e,fun e => by rw [← hc _ e]; exact h.m2 e,fun e1 e2 => by rw [← hc _ e1,← hc _ e2]; exact h.ne e1 e2,
  fun e => ⟨(h.d24 e).1,by rw [← hc _ e,← hc _ (h.d24 e).1]; exact (h.d24 e).2⟩,fun e => ⟨(h.d25 e).1,by rw [← hc _ e,← hc _ (h.d25 e).1]; exact (h.d25 e).2⟩,fun e => ⟨(h.d26 e).1,by rw [← hc _ e,← hc _ (h.d26 e).1]; exact (h.d26 e).2⟩⟩
theorem JF.start (vs : Nat → Value) : JF w0 n xs (fun _ => false) vs w0.drew :=
 ⟨⟨rfl,rfl,rfl,Nat.le_refl _,fun _ _ => rfl⟩,fun h => (by cases h),fun h => (by cases h),fun h => (by cases h),fun h => (by cases h),fun h => (by cases h),fun h => (by cases h),fun h => (by cases h)⟩
theorem JF.grow (h : JF w0 n xs L vs W) (hb : Below W.heap.size W W') : JF w0 n xs L vs W' :=
 ⟨h.below.trans (hb.mono h.below.size),fun e => ownsN_below (h.row e) hb,fun e => let ⟨b,a,c,d⟩ := h.m1 e; ⟨b,a,c,d.below hb⟩,fun e => let ⟨b,a,c,d⟩ := h.m2 e; ⟨b,a,c,d.below hb⟩,h.ne,h.d24,h.d25,h.d26⟩
theorem JF.read (h : JF w0 n xs L vs W) {i : Nat} {v : Value} (h0 : 20 ≠ i) (h1 : 21 ≠ i) (h2 : 22 ≠ i) (h4 : 24 ≠ i) (h5 : 25 ≠ i) (h6 : 26 ≠ i) : JF w0 n xs (setB L i) (updV vs i v) W:=by
 refine ⟨h.below, ?_, ?_, ?_, ?_, ?_, ?_, ?_⟩
 ·rw [setB_ne h0,updV_ne h0]; exact h.row
 ·rw [setB_ne h1,updV_ne h1]; exact h.m1
 ·rw [setB_ne h2,updV_ne h2]; exact h.m2
 ·rw [setB_ne h1,setB_ne h2,updV_ne h1,updV_ne h2]; exact h.ne
 ·rw [setB_ne h4,setB_ne h0,updV_ne h4,updV_ne h0]; exact h.d24
 ·rw [setB_ne h5,setB_ne h1,updV_ne h5,updV_ne h1]; exact h.d25
 ·rw [setB_ne h6,setB_ne h2,updV_ne h6,updV_ne h2]; exact h.d26
theorem JF.called (h : JF w0 n xs L vs W) (hL : L 20 = false) (hb : Below W.heap.size W W') {v : Value} (ho : W'.ownsRow W.heap.size 58 3 v n xs) : JF w0 n xs (setB L 20) (updV vs 20 v) W':=by
 have g:=h.grow hb;refine ⟨g.below, ?_, ?_, ?_, ?_,fun e => ?_, ?_, ?_⟩
 ·rw [updV_eq]; exact fun _ => ownsN_base ho h.below.size
 ·rw [setB_ne (by decide),updV_ne (by decide)]; exact g.m1
 ·rw [setB_ne (by decide),updV_ne (by decide)]; exact g.m2
 ·rw [setB_ne (by decide),setB_ne (by decide),updV_ne (by decide),updV_ne (by decide)]; exact g.ne
 ·rw [setB_ne (by decide)] at e; rw [(h.d24 e).1] at hL; cases hL
 ·rw [setB_ne (by decide),setB_ne (by decide),updV_ne (by decide),updV_ne (by decide)]; exact h.d25
 ·rw [setB_ne (by decide),setB_ne (by decide),updV_ne (by decide),updV_ne (by decide)]; exact h.d26
theorem JF.made1 (h : JF w0 n xs L vs W) (hL : L 21 = false) : JF w0 n xs (setB L 21) (updV vs 21 (.map (some W.heap.size))) (W.alloc (.map #[] 0)):=by
 have g:=h.grow (aB W (.map #[] 0));refine ⟨g.below, ?_, ?_, ?_, ?_, ?_,fun e => ?_, ?_⟩
 ·rw [setB_ne (by decide),updV_ne (by decide)]; exact g.row
 ·rw [updV_eq]; exact fun _ => ⟨_,rfl,h.below.size,HoldsM.made W⟩
 ·rw [setB_ne (by decide),updV_ne (by decide)]; exact g.m2
 ·rw [setB_ne (show (22 : Nat) ≠ 21 by decide),updV_eq,updV_ne (show (22 : Nat) ≠ 21 by decide)]
  intro _ e2
  obtain ⟨b,hb,_,hm⟩ := h.m2 e2;rw [hb];have:=hm.lt;intro q; cases q; omega
 ·rw [setB_ne (by decide),setB_ne (by decide),updV_ne (by decide),updV_ne (by decide)]; exact h.d24
 ·rw [setB_ne (by decide)] at e; rw [(h.d25 e).1] at hL; cases hL
 ·rw [setB_ne (by decide),setB_ne (by decide),updV_ne (by decide),updV_ne (by decide)]; exact h.d26
theorem JF.made2 (h : JF w0 n xs L vs W) (hL : L 22 = false) : JF w0 n xs (setB L 22) (updV vs 22 (.map (some W.heap.size))) (W.alloc (.map #[] 0)):=by
 have g:=h.grow (aB W (.map #[] 0));refine ⟨g.below, ?_, ?_, ?_, ?_, ?_, ?_,fun e => ?_⟩
 ·rw [setB_ne (by decide),updV_ne (by decide)]; exact g.row
 ·rw [setB_ne (by decide),updV_ne (by decide)]; exact g.m1
 ·rw [updV_eq]; exact fun _ => ⟨_,rfl,h.below.size,HoldsM.made W⟩
 ·rw [setB_ne (show (21 : Nat) ≠ 22 by decide),updV_eq,updV_ne (show (21 : Nat) ≠ 22 by decide)]
  intro e1 _
  obtain ⟨b,hb,_,hm⟩ := h.m1 e1;rw [hb];have:=hm.lt;intro q; cases q; omega
 ·rw [setB_ne (by decide),setB_ne (by decide),updV_ne (by decide),updV_ne (by decide)]; exact h.d24
 ·rw [setB_ne (by decide),setB_ne (by decide),updV_ne (by decide),updV_ne (by decide)]; exact h.d25
 ·rw [setB_ne (by decide)] at e; rw [(h.d26 e).1] at hL; cases hL
theorem JF.again (h : JF w0 n xs L vs W) : (L 20 = true → JF w0 n xs (setB L 24) (updV vs 24 (vs 20)) W) ∧ (L 21 = true → JF w0 n xs (setB L 25) (updV vs 25 (vs 21)) W) ∧ (L 22 = true → JF w0 n xs (setB L 26) (updV vs 26 (vs 22)) W):=by
 refine ⟨fun e => ⟨h.below, ?_, ?_, ?_, ?_,fun _ => ?_, ?_, ?_⟩,fun e => ⟨h.below, ?_, ?_, ?_, ?_, ?_,fun _ => ?_, ?_⟩,fun e => ⟨h.below, ?_, ?_, ?_, ?_, ?_, ?_,fun _ => ?_⟩⟩
 ·rw [setB_ne (by decide),updV_ne (by decide)]; exact h.row
 ·rw [setB_ne (by decide),updV_ne (by decide)]; exact h.m1
 ·rw [setB_ne (by decide),updV_ne (by decide)]; exact h.m2
 ·rw [setB_ne (by decide),setB_ne (by decide),updV_ne (by decide),updV_ne (by decide)]; exact h.ne
 ·rw [setB_ne (by decide),updV_eq,updV_ne (by decide)]; exact ⟨e,rfl⟩
 ·rw [setB_ne (by decide),setB_ne (by decide),updV_ne (by decide),updV_ne (by decide)]; exact h.d25
 ·rw [setB_ne (by decide),setB_ne (by decide),updV_ne (by decide),updV_ne (by decide)]; exact h.d26
 ·rw [setB_ne (by decide),updV_ne (by decide)]; exact h.row
 ·rw [setB_ne (by decide),updV_ne (by decide)]; exact h.m1
 ·rw [setB_ne (by decide),updV_ne (by decide)]; exact h.m2
 ·rw [setB_ne (by decide),setB_ne (by decide),updV_ne (by decide),updV_ne (by decide)]; exact h.ne
 ·rw [setB_ne (by decide),setB_ne (by decide),updV_ne (by decide),updV_ne (by decide)]; exact h.d24
 ·rw [setB_ne (by decide),updV_eq,updV_ne (by decide)]; exact ⟨e,rfl⟩
 ·rw [setB_ne (by decide),setB_ne (by decide),updV_ne (by decide),updV_ne (by decide)]; exact h.d26
 ·rw [setB_ne (by decide),updV_ne (by decide)]; exact h.row
 ·rw [setB_ne (by decide),updV_ne (by decide)]; exact h.m1
 ·rw [setB_ne (by decide),updV_ne (by decide)]; exact h.m2
 ·rw [setB_ne (by decide),setB_ne (by decide),updV_ne (by decide),updV_ne (by decide)]; exact h.ne
 ·rw [setB_ne (by decide),setB_ne (by decide),updV_ne (by decide),updV_ne (by decide)]; exact h.d24
 ·rw [setB_ne (by decide),setB_ne (by decide),updV_ne (by decide),updV_ne (by decide)]; exact h.d25
 ·rw [setB_ne (by decide),updV_eq,updV_ne (by decide)]; exact ⟨e,rfl⟩
end
end Go.Proofs.YtnbmgkmcaoafnaaGreatDoor

/- Operations that are wanted only if a Bool is true: their values are known just then. -/
namespace Go.Oche
open Go Go.RowKit
section
variable {P : Program} {ops : Array Oper} {J : (Nat → Bool) → (Nat → Value) → World → Prop} {K : Act → List Value → Prop} {ss : List (Value → Prop)} {o : Oper} {l : List Oper} {a : Act} {vals : List Value}
theorem sv_opt {won : Bool} {c : Value} (hg : guardOn ops o a = won) (hJ : ∀ w L vs v,J L vs w → J (setB L vals.length) (updV vs vals.length v) w)
  (h : won = true → ∀ w L vs,(∀ j u,vals[j]? = some u → vs j = u) → L vals.length = false → J L vs w → opOK P o a w (fun v w' => v = c ∧ w' = w))
  (hr : ∀ v,(won = true → v = c) → SeqVAll P ops J K ss l (a.put o.dst v) (vals ++ [v])) : SeqVAll P ops J K ((fun v => won = true → v = c) :: ss) (o :: l) a vals:=by
 refine ⟨⟨c,fun _ => rfl⟩,fun w L vs hvs hL hj _ => ?_,hr⟩
 rw [hg];cases hw : won
 ·rw [if_neg (by decide)]
  exact ⟨fun e => (by cases e),hJ w L vs undef hj⟩
 ·rw [if_pos rfl]
  refine opOK_mono (h hw w L vs hvs hL hj) fun v w' hh => ?_
  obtain ⟨h1,h2⟩ := hh;rw [h1,h2];exact ⟨fun _ => rfl,hJ _ L vs _ hj⟩
end
open Go Go.RowKit
structure JTwoS (w0 : World) (v1 v2 : Value) (base : Nat) (e1 e2 : TypeId) (n1 n2 : Nat) (xs1 xs2 : List Value) (u1 u2 : Value) (p0 p1 : Addr) (L : Nat → Bool) (vs : Nat → Value) (W : World) : Prop where
 at_ : ∃ W',JTwoV w0 v1 v2 3 4 8 9 base e1 e2 n1 n2 xs1 xs2 u1 u2 L vs W' ∧ W = (if L 14 = true then (W'.setCell p0 (vs 4)).setCell p1 (vs 9) else if L 12 = true then W'.setCell p0 (vs 4) else W')
 d4 : L 4 = true → L 3 = true ∧ L 1 = true
 d9 : L 9 = true → L 8 = true ∧ L 6 = true
 d12 : L 12 = true → L 4 = true ∧ L 9 = true
 d14 : L 14 = true → L 12 = true
section
variable {w0 W W' : World} {v1 v2 : Value} {base : Nat} {e1 e2 : TypeId} {n1 n2 : Nat} {xs1 xs2 : List Value} {u1 u2 : Value} {p0 p1 : Addr} {L : Nat → Bool} {vs vs' : Nat → Value}
theorem setB_mono {i j : Nat} (h : L j = true) : setB L i j = true:=by unfold setB; split <;> simp_all
theorem JTwoS.start : JTwoS w0 v1 v2 base e1 e2 n1 n2 xs1 xs2 u1 u2 p0 p1 (fun _ => false) vs w0.drew :=
 ⟨⟨w0.drew,.start,rfl⟩,fun h => (by cases h),fun h => (by cases h),fun h => (by cases h),fun h => (by cases h)⟩
theorem JTwoS.congr (hc : ∀ j,L j = true → vs j = vs' j) (h : JTwoS w0 v1 v2 base e1 e2 n1 n2 xs1 xs2 u1 u2 p0 p1 L vs W) : JTwoS w0 v1 v2 base e1 e2 n1 n2 xs1 xs2 u1 u2 p0 p1 L vs' W:=by
 obtain ⟨⟨W',h1,h2⟩,h3,h4,h5,h6⟩ := h;refine ⟨⟨W',h1.congr hc, ?_⟩,h3,h4,h5,h6⟩
 rw [h2];by_cases c14 : L 14 = true
 ·rw [if_pos c14,if_pos c14,hc _ (h5 (h6 c14)).1,hc _ (h5 (h6 c14)).2]
 ·rw [if_neg c14,if_neg c14]
  by_cases c12 : L 12 = true
  ·rw [if_pos c12,if_pos c12,hc _ (h5 c12).1]
  ·rw [if_neg c12,if_neg c12]
theorem JTwoS.early (h : JTwoS w0 v1 v2 base e1 e2 n1 n2 xs1 xs2 u1 u2 p0 p1 L vs W) (hL : L 12 = false) : L 14 = false ∧ JTwoV w0 v1 v2 3 4 8 9 base e1 e2 n1 n2 xs1 xs2 u1 u2 L vs W:=by
 have h14 : L 14 = false:=by cases e : L 14 with | false => rfl | true => rw [h.d14 e] at hL; cases hL
 obtain ⟨W',h1,h2⟩ := h.at_;rw [h14,hL] at h2;simp at h2;rw [h2]; exact ⟨h14,h1⟩
theorem JTwoS.not12 (h : JTwoS w0 v1 v2 base e1 e2 n1 n2 xs1 xs2 u1 u2 p0 p1 L vs W) : (L 1 = false → L 12 = false) ∧ (L 3 = false → L 12 = false) ∧ (L 4 = false → L 12 = false) ∧ (L 6 = false → L 12 = false) ∧ (L 8 = false → L 12 = false) ∧ (L 9 = false → L 12 = false):=by
 have key : L 12 = true → L 1 = true ∧ L 3 = true ∧ L 4 = true ∧ L 6 = true ∧ L 8 = true ∧ L 9 = true:=fun e =>
  ⟨(h.d4 (h.d12 e).1).2,(h.d4 (h.d12 e).1).1,(h.d12 e).1,(h.d9 (h.d12 e).2).2,(h.d9 (h.d12 e).2).1,(h.d12 e).2⟩
 refine ⟨fun e => ?_,fun e => ?_,fun e => ?_,fun e => ?_,fun e => ?_,fun e => ?_⟩ <;>
 ·cases q : L 12 with
  | false => rfl
  | true => have k:=key q; simp_all
theorem JTwoS.read (h : JTwoS w0 v1 v2 base e1 e2 n1 n2 xs1 xs2 u1 u2 p0 p1 L vs W) {i : Nat} {v : Value} (h3 : 3 ≠ i) (h4 : 4 ≠ i) (h8 : 8 ≠ i) (h9 : 9 ≠ i) (h12 : 12 ≠ i) (h14 : 14 ≠ i) :
  JTwoS w0 v1 v2 base e1 e2 n1 n2 xs1 xs2 u1 u2 p0 p1 (setB L i) (updV vs i v) W:=by
 obtain ⟨W',a1,a2⟩ := h.at_;refine ⟨⟨W',a1.read h3 h4 h8 h9, ?_⟩, ?_, ?_, ?_, ?_⟩
 ·rw [setB_ne h14,setB_ne h12,updV_ne h4,updV_ne h9]; exact a2
 ·rw [setB_ne h4]; exact fun e => ⟨setB_mono (h.d4 e).1,setB_mono (h.d4 e).2⟩
 ·rw [setB_ne h9]; exact fun e => ⟨setB_mono (h.d9 e).1,setB_mono (h.d9 e).2⟩
 ·rw [setB_ne h12]; exact fun e => ⟨setB_mono (h.d12 e).1,setB_mono (h.d12 e).2⟩
 ·rw [setB_ne h14]; exact fun e => setB_mono (h.d14 e)
theorem JTwoS.step (h : JTwoS w0 v1 v2 base e1 e2 n1 n2 xs1 xs2 u1 u2 p0 p1 L vs W) {i : Nat} {v : Value} (hL : L 12 = false) (h12 : 12 ≠ i) (h14 : 14 ≠ i) (h4 : i = 4 → L 3 = true ∧ L 1 = true) (h9 : i = 9 → L 8 = true ∧ L 6 = true)
  (hs : JTwoV w0 v1 v2 3 4 8 9 base e1 e2 n1 n2 xs1 xs2 u1 u2 (setB L i) (updV vs i v) W') : JTwoS w0 v1 v2 base e1 e2 n1 n2 xs1 xs2 u1 u2 p0 p1 (setB L i) (updV vs i v) W':=by
 have h14':=(h.early hL).1;refine ⟨⟨W',hs, ?_⟩,fun e => ?_,fun e => ?_,fun e => ?_,fun e => ?_⟩
 ·rw [setB_ne h14,setB_ne h12,hL,h14']; simp
 ·by_cases c : i = 4
  ·exact ⟨setB_mono (h4 c).1,setB_mono (h4 c).2⟩
  ·rw [setB_ne (fun q => c q.symm)] at e; exact ⟨setB_mono (h.d4 e).1,setB_mono (h.d4 e).2⟩
 ·by_cases c : i = 9
  ·exact ⟨setB_mono (h9 c).1,setB_mono (h9 c).2⟩
  ·rw [setB_ne (fun q => c q.symm)] at e; exact ⟨setB_mono (h.d9 e).1,setB_mono (h.d9 e).2⟩
 ·rw [setB_ne h12,hL] at e; cases e
 ·rw [setB_ne h14,h14'] at e; cases e
theorem JTwoS.st12 (h : JTwoS w0 v1 v2 base e1 e2 n1 n2 xs1 xs2 u1 u2 p0 p1 L vs W) {v : Value} (hL : L 12 = false) (h4 : L 4 = true) (h9 : L 9 = true) : JTwoS w0 v1 v2 base e1 e2 n1 n2 xs1 xs2 u1 u2 p0 p1 (setB L 12) (updV vs 12 v) (W.setCell p0 (vs 4)):=by
 obtain ⟨h14,hj⟩ := h.early hL;refine ⟨⟨W,hj.read (by decide) (by decide) (by decide) (by decide), ?_⟩, ?_, ?_,fun _ => ⟨setB_mono h4,setB_mono h9⟩,fun _ => setB_eq⟩
 ·rw [setB_ne (by decide),h14,setB_eq,updV_ne (by decide)]; simp
 ·exact fun _ => ⟨setB_mono (h.d4 h4).1,setB_mono (h.d4 h4).2⟩
 ·exact fun _ => ⟨setB_mono (h.d9 h9).1,setB_mono (h.d9 h9).2⟩
theorem JTwoS.st14 (h : JTwoS w0 v1 v2 base e1 e2 n1 n2 xs1 xs2 u1 u2 p0 p1 L vs W) {v : Value} (hL : L 14 = false) (h12 : L 12 = true) : JTwoS w0 v1 v2 base e1 e2 n1 n2 xs1 xs2 u1 u2 p0 p1 (setB L 14) (updV vs 14 v) (W.setCell p1 (vs 9)):=by
 obtain ⟨W',a1,a2⟩ := h.at_;have k:=h.d12 h12;refine ⟨⟨W',a1.read (by decide) (by decide) (by decide) (by decide), ?_⟩,fun _ => ⟨setB_mono (h.d4 k.1).1,setB_mono (h.d4 k.1).2⟩,fun _ => ⟨setB_mono (h.d9 k.2).1,setB_mono (h.d9 k.2).2⟩,fun _ => ⟨setB_mono k.1,setB_mono k.2⟩,fun _ => setB_mono h12⟩
 rw [setB_eq,if_pos rfl,updV_ne (by decide),updV_ne (by decide),a2,hL,h12]
 simp
theorem JTwoS.done (h : JTwoS w0 v1 v2 base e1 e2 n1 n2 xs1 xs2 u1 u2 p0 p1 L vs W) (h14 : L 14 = true) : ∃ W',JTwoV w0 v1 v2 3 4 8 9 base e1 e2 n1 n2 xs1 xs2 u1 u2 L vs W' ∧ W = (W'.setCell p0 (vs 4)).setCell p1 (vs 9):=by
 obtain ⟨W',a1,a2⟩ := h.at_;rw [if_pos h14] at a2;exact ⟨W',a1,a2⟩
theorem JTwoS.mid (h : JTwoS w0 v1 v2 base e1 e2 n1 n2 xs1 xs2 u1 u2 p0 p1 L vs W) (h14 : L 14 = false) (h12 : L 12 = true) : ∃ W',JTwoV w0 v1 v2 3 4 8 9 base e1 e2 n1 n2 xs1 xs2 u1 u2 L vs W' ∧ W = W'.setCell p0 (vs 4):=by
 obtain ⟨W',a1,a2⟩ := h.at_;rw [h14,h12] at a2;simp at a2;exact ⟨W',a1,a2⟩
end
end Go.Oche
