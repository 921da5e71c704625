/- The texts EP, in build order. -/
import Derived.Test.YtnhggfnnolfcdaaGreatZbc

/- Chapter 4: a drawn region in which a list is appended to copied darts, and Play's state is stored. -/
namespace Go.Proofs.YtnhggfnnolfcdaaGreat
open Go.RowKit Go.Oche Go.Proofs
def rulV (r : Rul) (nl vb vd : Nat) : Value:=.agg #[.int .i64 r.kind,.int .i64 r.players,.int .i64 r.last,.bool r.bull,.bool r.jump,.int .i64 r.rounds,.bool r.cut,.slice (some ⟨vb,0,none⟩) nl vd,.int .i64 r.lives,.bool r.own]
def staV (g : Gam) (pa : Option Addr) (n pc : Nat) (wa : Option Addr) (m wc : Nat) : Array Value:=#[.int .i64 g.round,.int .i64 g.player,.int .i64 g.darts,.slice pa n pc,.slice wa m wc]
structure JE (w0 : World) (r : Rul) (nl D E : Nat) (DL DX : List Int) (g : Gam) (n m : Nat) (L : Nat → Bool) (vs : Nat → Value) (W : World) : Prop where
 below : Below w0.heap.size w0 W
 own : L 1 = true → ∃ vb vd,vs 1 = rulV r nl vb vd ∧ W.ownsRow w0.heap.size 3 1 (.slice (some ⟨vb,0,none⟩) nl vd) nl (ints r.nums)
 row : L 3 = true → ∃ b c,vs 3 = .slice (some ⟨b,0,none⟩) D c ∧ W.ownsRow w0.heap.size 45 1 (.slice (some ⟨b,0,none⟩) D c) D (ints DL)
 app : L 8 = true → ∃ b c,vs 8 = .slice (some ⟨b,0,none⟩) E c ∧ W.ownsRow w0.heap.size 45 1 (.slice (some ⟨b,0,none⟩) E c) E (ints DX)
 dep : L 9 = true → L 8 = true
 pl : L 9 = true → ∃ pa pc wa wc,vs 9 = .tuple #[.agg (staV g pa n pc wa m wc),.int .i64 0,.int .i64 0] ∧ Sl (fun k => L 14 = true → vs 14 ≠ .pointer (some ⟨k,0,none⟩)) W (.slice wa m wc) (ints g.win)
 d10 : L 10 = true → L 9 = true ∧ vs 10 = vs 9
 d11 : L 11 = true → L 10 = true ∧ ∃ pa pc wa wc,vs 10 = .tuple #[.agg (staV g pa n pc wa m wc),.int .i64 0,.int .i64 0] ∧ vs 11 = .agg (staV g pa n pc wa m wc)
 al : L 14 = true → ∃ b A,vs 14 = .pointer (some ⟨b,0,none⟩) ∧ w0.heap.size ≤ b ∧ A.size = 5 ∧ W.heap[b]? = some (.cells A 36 (0,0))
 st : L 15 = true → ∃ pa pc wa wc b,L 11 = true ∧ L 14 = true ∧ vs 11 = .agg (staV g pa n pc wa m wc) ∧ vs 14 = .pointer (some ⟨b,0,none⟩) ∧ W.heap[b]? = some (.cells (staV g pa n pc wa m wc) 36 (0,0))
section
variable {w0 : World} {r : Rul} {nl D E : Nat} {DL DX : List Int} {g : Gam} {n m : Nat} {L : Nat → Bool} {vs : Nat → Value} {W W' : World}
theorem updV_eq {i : Nat} {v : Value} : updV vs i v i = v:=by simp [updV]
theorem updV_ne {i j : Nat} {v : Value} (h : j ≠ i) : updV vs i v j = vs j:=by simp [updV,h]
theorem JE.congr {vs' : Nat → Value} (hc : ∀ j,L j = true → vs j = vs' j) (h : JE w0 r nl D E DL DX g n m L vs W) : JE w0 r nl D E DL DX g n m L vs' W:=by
 refine ⟨h.below,fun e => ?_,fun e => ?_,fun e => ?_,h.dep,fun e => ?_,fun e => ?_,fun e => ?_,fun e => ?_,fun e => ?_⟩
 ·rw [← hc _ e]; exact h.own e
 ·rw [← hc _ e]; exact h.row e
 ·rw [← hc _ e]; exact h.app e
 ·rw [← hc _ e]
  obtain ⟨pa,pc,wa,wc,e1,hs⟩ := h.pl e
  exact ⟨pa,pc,wa,wc,e1,hs.mono fun k hk e2 => by rw [← hc _ e2]; exact hk e2⟩
 ·have h1:=h.d10 e
  exact ⟨h1.1,by rw [← hc _ e,← hc _ h1.1]; exact h1.2⟩
 ·have h1:=h.d11 e
  exact ⟨h1.1,by rw [← hc _ e,← hc _ h1.1]; exact h1.2⟩
 ·rw [← hc _ e]; exact h.al e
 ·obtain ⟨pa,pc,wa,wc,b,e1,e2,e3,e4,e5⟩ := h.st e
  exact ⟨pa,pc,wa,wc,b,e1,e2,by rw [← hc _ e1]; exact e3,by rw [← hc _ e2]; exact e4,e5⟩
theorem JE.start (vs : Nat → Value) : JE w0 r nl D E DL DX g n m (fun _ => false) vs w0.drew :=
 ⟨⟨rfl,rfl,rfl,Nat.le_refl _,fun _ _ => rfl⟩,fun h => (by cases h),fun h => (by cases h),fun h => (by cases h),fun h => (by cases h),fun h => (by cases h),fun h => (by cases h),fun h => (by cases h),fun h => (by cases h),fun h => (by cases h)⟩
theorem JE.grow (h : JE w0 r nl D E DL DX g n m L vs W) (hb : Below W.heap.size W W') : JE w0 r nl D E DL DX g n m L vs W':=by
 refine ⟨h.below.trans (hb.mono h.below.size),fun e => ?_,fun e => ?_,fun e => ?_,h.dep,fun e => ?_,h.d10,h.d11,fun e => ?_,fun e => ?_⟩
 ·obtain ⟨vb,vd,e1,h1⟩ := h.own e; exact ⟨vb,vd,e1,ownsN_below h1 hb⟩
 ·obtain ⟨b,c,e1,h1⟩ := h.row e; exact ⟨b,c,e1,ownsN_below h1 hb⟩
 ·obtain ⟨b,c,e1,h1⟩ := h.app e; exact ⟨b,c,e1,ownsN_below h1 hb⟩
 ·obtain ⟨pa,pc,wa,wc,e1,hs⟩ := h.pl e; exact ⟨pa,pc,wa,wc,e1,hs.below hb⟩
 ·obtain ⟨b,A,e1,h1,h2,h3⟩ := h.al e; exact ⟨b,A,e1,h1,h2,(hb.block b (Array.getElem?_eq_some_iff.1 h3).1).trans h3⟩
 ·obtain ⟨pa,pc,wa,wc,b,e1,e2,e3,e4,e5⟩ := h.st e
  exact ⟨pa,pc,wa,wc,b,e1,e2,e3,e4,(hb.block b (Array.getElem?_eq_some_iff.1 e5).1).trans e5⟩
theorem JE.read (h : JE w0 r nl D E DL DX g n m L vs W) {i : Nat} {v : Value} (h1 : 1 ≠ i) (h3 : 3 ≠ i) (h8 : 8 ≠ i) (h9 : 9 ≠ i) (h10 : 10 ≠ i) (h11 : 11 ≠ i) (h14 : 14 ≠ i) (h15 : 15 ≠ i) : JE w0 r nl D E DL DX g n m (setB L i) (updV vs i v) W:=by
 have e1:=setB_ne (L:=L) h1
 have e3:=setB_ne (L:=L) h3
 have e8:=setB_ne (L:=L) h8
 have e9:=setB_ne (L:=L) h9
 have e10:=setB_ne (L:=L) h10
 have e11:=setB_ne (L:=L) h11
 have e14:=setB_ne (L:=L) h14
 have e15:=setB_ne (L:=L) h15
 refine ⟨h.below, ?_, ?_, ?_, ?_, ?_, ?_, ?_, ?_, ?_⟩
 ·rw [e1,updV_ne h1]; exact h.own
 ·rw [e3,updV_ne h3]; exact h.row
 ·rw [e8,updV_ne h8]; exact h.app
 ·rw [e9,e8]; exact h.dep
 ·rw [e9,updV_ne h9,e14,updV_ne h14]; exact h.pl
 ·rw [e10,e9,updV_ne h10,updV_ne h9]; exact h.d10
 ·rw [e11,e10,updV_ne h10,updV_ne h11]; exact h.d11
 ·rw [e14,updV_ne h14]; exact h.al
 ·rw [e15,e11,e14,updV_ne h11,updV_ne h14]; exact h.st
theorem JE.own1 (h : JE w0 r nl D E DL DX g n m L vs W) (hb : Below W.heap.size W W') {vb vd : Nat} (ho : W'.ownsRow w0.heap.size 3 1 (.slice (some ⟨vb,0,none⟩) nl vd) nl (ints r.nums)) : JE w0 r nl D E DL DX g n m (setB L 1) (updV vs 1 (rulV r nl vb vd)) W':=by
 have h':=h.grow hb
 have e3:=setB_ne (L:=L) (show 3 ≠ 1 by decide)
 have e8:=setB_ne (L:=L) (show 8 ≠ 1 by decide)
 have e9:=setB_ne (L:=L) (show 9 ≠ 1 by decide)
 have e10:=setB_ne (L:=L) (show 10 ≠ 1 by decide)
 have e14:=setB_ne (L:=L) (show 14 ≠ 1 by decide)
 have e11:=setB_ne (L:=L) (show 11 ≠ 1 by decide)
 have e15:=setB_ne (L:=L) (show 15 ≠ 1 by decide)
 refine ⟨h'.below,fun _ => ⟨vb,vd,updV_eq,ho⟩, ?_, ?_, ?_, ?_, ?_, ?_, ?_, ?_⟩
 ·rw [e3,updV_ne (by decide)]; exact h'.row
 ·rw [e8,updV_ne (by decide)]; exact h'.app
 ·rw [e9,e8]; exact h'.dep
 ·rw [e9,updV_ne (by decide),e14,updV_ne (by decide)]; exact h'.pl
 ·rw [e10,e9,updV_ne (by decide),updV_ne (by decide)]; exact h'.d10
 ·rw [e11,e10,updV_ne (by decide),updV_ne (by decide)]; exact h'.d11
 ·rw [e14,updV_ne (by decide)]; exact h'.al
 ·rw [e15,e11,e14,updV_ne (by decide),updV_ne (by decide)]; exact h'.st
theorem JE.row3 (h : JE w0 r nl D E DL DX g n m L vs W) (hb : Below W.heap.size W W') {b c : Nat} (ho : W'.ownsRow w0.heap.size 45 1 (.slice (some ⟨b,0,none⟩) D c) D (ints DL)) : JE w0 r nl D E DL DX g n m (setB L 3) (updV vs 3 (.slice (some ⟨b,0,none⟩) D c)) W':=by
 have h':=h.grow hb
 have e1:=setB_ne (L:=L) (show 1 ≠ 3 by decide)
 have e8:=setB_ne (L:=L) (show 8 ≠ 3 by decide)
 have e9:=setB_ne (L:=L) (show 9 ≠ 3 by decide)
 have e10:=setB_ne (L:=L) (show 10 ≠ 3 by decide)
 have e14:=setB_ne (L:=L) (show 14 ≠ 3 by decide)
 have e11:=setB_ne (L:=L) (show 11 ≠ 3 by decide)
 have e15:=setB_ne (L:=L) (show 15 ≠ 3 by decide)
 refine ⟨h'.below, ?_,fun _ => ⟨b,c,updV_eq,ho⟩, ?_, ?_, ?_, ?_, ?_, ?_, ?_⟩
 ·rw [e1,updV_ne (by decide)]; exact h'.own
 ·rw [e8,updV_ne (by decide)]; exact h'.app
 ·rw [e9,e8]; exact h'.dep
 ·rw [e9,updV_ne (by decide),e14,updV_ne (by decide)]; exact h'.pl
 ·rw [e10,e9,updV_ne (by decide),updV_ne (by decide)]; exact h'.d10
 ·rw [e11,e10,updV_ne (by decide),updV_ne (by decide)]; exact h'.d11
 ·rw [e14,updV_ne (by decide)]; exact h'.al
 ·rw [e15,e11,e14,updV_ne (by decide),updV_ne (by decide)]; exact h'.st
theorem JE.app8 (h : JE w0 r nl D E DL DX g n m L vs W) (h8 : L 8 = false) (h3 : L 3 = true) {b c b' c' : Nat} (hv : vs 3 = .slice (some ⟨b,0,none⟩) D c) (hg : W.grownBy W' (some b)) (ho : W'.ownsRow w0.heap.size 45 1 (.slice (some ⟨b,0,none⟩) D c) D (ints DL)) (ho' : W'.ownsRow w0.heap.size 45 1 (.slice (some ⟨b',0,none⟩) E c') E (ints DX)) :
  JE w0 r nl D E DL DX g n m (setB L 8) (updV vs 8 (.slice (some ⟨b',0,none⟩) E c')) W':=by
 have h9 : L 9 = false:=by
  cases e : L 9
  ·rfl
  ·rw [h.dep e] at h8; cases h8
 obtain ⟨b0,c0,e0,hr⟩ := h.row h3
 rw [hv] at e0
 cases e0
 have e1:=setB_ne (L:=L) (show 1 ≠ 8 by decide)
 have e3:=setB_ne (L:=L) (show 3 ≠ 8 by decide)
 have e9:=setB_ne (L:=L) (show 9 ≠ 8 by decide)
 have e10:=setB_ne (L:=L) (show 10 ≠ 8 by decide)
 have e14:=setB_ne (L:=L) (show 14 ≠ 8 by decide)
 have e11:=setB_ne (L:=L) (show 11 ≠ 8 by decide)
 have e15:=setB_ne (L:=L) (show 15 ≠ 8 by decide)
 refine ⟨h.below.trans (below_grownBy hg h.below.size fun q hq => by cases hq; exact (hr.lt b rfl).1), ?_, ?_,fun _ => ⟨b',c',updV_eq,ho'⟩, ?_, ?_, ?_, ?_, ?_, ?_⟩
 ·rw [e1,updV_ne (by decide)]
  intro e
  obtain ⟨vb,vd,e2,h1⟩ := h.own e
  have hne:=ownsN_ne h1 hr (by decide)
  simp only [Value.ownBlock,reduceCtorEq,ne_eq,Option.some.injEq,false_or] at hne
  exact ⟨vb,vd,e2,ownsN_kept h1 fun q hq => hg.block q (h1.lt q hq).2 (by simp only [Value.ownBlock,Option.some.injEq] at hq; intro e; cases e; exact hne hq)⟩
 ·rw [e3,updV_ne (by decide)]
  exact fun _ => ⟨b,c,hv,ho⟩
 ·rw [e9,h9]; intro e; cases e
 ·rw [e9,h9]; intro e; cases e
 ·rw [e10,e9,updV_ne (by decide),updV_ne (by decide)]; exact h.d10
 ·rw [e11,e10,updV_ne (by decide),updV_ne (by decide)]; exact h.d11
 ·rw [e14,updV_ne (by decide)]
  intro e
  obtain ⟨q,A,e1,h1,h2,h4⟩ := h.al e
  have hne:=ownsN_ne_blk hr h4 (by decide)
  simp only [Value.ownBlock,reduceCtorEq,ne_eq,Option.some.injEq,false_or] at hne
  exact ⟨q,A,e1,h1,h2,(hg.block q (Array.getElem?_eq_some_iff.1 h4).1 (by intro e; cases e; exact hne rfl)).trans h4⟩
 ·rw [e15,e11,e14,updV_ne (by decide),updV_ne (by decide)]
  intro e
  obtain ⟨pa,pc,wa,wc,q,f1,f2,f3,f4,f5⟩ := h.st e
  have hne:=ownsN_ne_blk hr f5 (by decide)
  simp only [Value.ownBlock,reduceCtorEq,ne_eq,Option.some.injEq,false_or] at hne
  exact ⟨pa,pc,wa,wc,q,f1,f2,f3,f4,(hg.block q (Array.getElem?_eq_some_iff.1 f5).1 (by intro e; cases e; exact hne rfl)).trans f5⟩
theorem JE.play9 (h : JE w0 r nl D E DL DX g n m L vs W) (hb : Below W.heap.size W W') (h8 : L 8 = true) (h9 : L 9 = false) {pa : Option Addr} {pc : Nat} {wa : Option Addr} {wc : Nat} (hs : Sl (fun k => W.heap.size ≤ k) W' (.slice wa m wc) (ints g.win)) :
  JE w0 r nl D E DL DX g n m (setB L 9) (updV vs 9 (.tuple #[.agg (staV g pa n pc wa m wc),.int .i64 0,.int .i64 0])) W':=by
 have h':=h.grow hb
 have e1:=setB_ne (L:=L) (show 1 ≠ 9 by decide)
 have e3:=setB_ne (L:=L) (show 3 ≠ 9 by decide)
 have e8:=setB_ne (L:=L) (show 8 ≠ 9 by decide)
 have e14:=setB_ne (L:=L) (show 14 ≠ 9 by decide)
 have e11:=setB_ne (L:=L) (show 11 ≠ 9 by decide)
 have e15:=setB_ne (L:=L) (show 15 ≠ 9 by decide)
 refine ⟨h'.below, ?_, ?_, ?_, ?_,fun _ => ⟨pa,pc,wa,wc,updV_eq, ?_⟩, ?_, ?_, ?_, ?_⟩
 ·rw [e1,updV_ne (by decide)]; exact h'.own
 ·rw [e3,updV_ne (by decide)]; exact h'.row
 ·rw [e8,updV_ne (by decide)]; exact h'.app
 ·rw [e8]; exact fun _ => h8
 ·rw [e14,updV_ne (by decide)]
  refine hs.mono fun k hk e he => ?_
  obtain ⟨b,A,e1,h1,h2,h4⟩ := h.al e
  rw [e1] at he
  cases he
  have:=(Array.getElem?_eq_some_iff.1 h4).1
  omega
 ·rw [setB_ne (show 10 ≠ 9 by decide)]
  intro e; have:=(h.d10 e).1; rw [h9] at this; cases this
 ·rw [e11]
  intro e; have:=(h.d10 (h.d11 e).1).1; rw [h9] at this; cases this
 ·rw [e14,updV_ne (by decide)]; exact h'.al
 ·rw [e15,e11,e14,updV_ne (by decide),updV_ne (by decide)]; exact h'.st
theorem JE.read11 (h : JE w0 r nl D E DL DX g n m L vs W) (h11 : L 11 = false) (h10 : L 10 = true) {pa : Option Addr} {pc : Nat} {wa : Option Addr} {wc : Nat} (hv : vs 10 = .tuple #[.agg (staV g pa n pc wa m wc),.int .i64 0,.int .i64 0]) : JE w0 r nl D E DL DX g n m (setB L 11) (updV vs 11 (.agg (staV g pa n pc wa m wc))) W:=by
 have e1:=setB_ne (L:=L) (show 1 ≠ 11 by decide)
 have e3:=setB_ne (L:=L) (show 3 ≠ 11 by decide)
 have e8:=setB_ne (L:=L) (show 8 ≠ 11 by decide)
 have e9:=setB_ne (L:=L) (show 9 ≠ 11 by decide)
 have e14:=setB_ne (L:=L) (show 14 ≠ 11 by decide)
 have e15:=setB_ne (L:=L) (show 15 ≠ 11 by decide)
 refine ⟨h.below, ?_, ?_, ?_, ?_, ?_, ?_, ?_, ?_, ?_⟩
 ·rw [e1,updV_ne (by decide)]; exact h.own
 ·rw [e3,updV_ne (by decide)]; exact h.row
 ·rw [e8,updV_ne (by decide)]; exact h.app
 ·rw [e9,e8]; exact h.dep
 ·rw [e9,updV_ne (by decide),e14,updV_ne (by decide)]; exact h.pl
 ·rw [setB_ne (show 10 ≠ 11 by decide),e9,updV_ne (by decide),updV_ne (by decide)]; exact h.d10
 ·rw [setB_ne (show 10 ≠ 11 by decide),updV_ne (by decide),updV_eq]; exact fun _ => ⟨h10,pa,pc,wa,wc,hv,rfl⟩
 ·rw [e14,updV_ne (by decide)]; exact h.al
 ·rw [e15]
  intro e
  obtain ⟨_,_,_,_,_,f1,_⟩ := h.st e
  rw [h11] at f1; cases f1
theorem JE.read10 (h : JE w0 r nl D E DL DX g n m L vs W) (h10 : L 10 = false) (h9 : L 9 = true) {v : Value} (hv : vs 9 = v) : JE w0 r nl D E DL DX g n m (setB L 10) (updV vs 10 v) W:=by
 have e1:=setB_ne (L:=L) (show 1 ≠ 10 by decide)
 have e3:=setB_ne (L:=L) (show 3 ≠ 10 by decide)
 have e8:=setB_ne (L:=L) (show 8 ≠ 10 by decide)
 have e9:=setB_ne (L:=L) (show 9 ≠ 10 by decide)
 have e11:=setB_ne (L:=L) (show 11 ≠ 10 by decide)
 have e14:=setB_ne (L:=L) (show 14 ≠ 10 by decide)
 have e15:=setB_ne (L:=L) (show 15 ≠ 10 by decide)
 refine ⟨h.below, ?_, ?_, ?_, ?_, ?_, ?_, ?_, ?_, ?_⟩
 ·rw [e1,updV_ne (by decide)]; exact h.own
 ·rw [e3,updV_ne (by decide)]; exact h.row
 ·rw [e8,updV_ne (by decide)]; exact h.app
 ·rw [e9,e8]; exact h.dep
 ·rw [e9,updV_ne (by decide),e14,updV_ne (by decide)]; exact h.pl
 ·rw [e9,updV_eq,updV_ne (show 9 ≠ 10 by decide)]; exact fun _ => ⟨h9,hv.symm⟩
 ·rw [e11]; intro e; have:=(h.d11 e).1; rw [h10] at this; cases this
 ·rw [e14,updV_ne (by decide)]; exact h.al
 ·rw [e15,e11,e14,updV_ne (by decide),updV_ne (by decide)]; exact h.st
theorem JE.new14 (h : JE w0 r nl D E DL DX g n m L vs W) (h14 : L 14 = false) {A : Array Value} (hA : A.size = 5) : JE w0 r nl D E DL DX g n m (setB L 14) (updV vs 14 (.pointer (some ⟨W.heap.size,0,none⟩))) (W.alloc (.cells A 36)):=by
 have h':=h.grow (aB W (.cells A 36))
 have e1:=setB_ne (L:=L) (show 1 ≠ 14 by decide)
 have e3:=setB_ne (L:=L) (show 3 ≠ 14 by decide)
 have e8:=setB_ne (L:=L) (show 8 ≠ 14 by decide)
 have e9:=setB_ne (L:=L) (show 9 ≠ 14 by decide)
 have e10:=setB_ne (L:=L) (show 10 ≠ 14 by decide)
 have e11:=setB_ne (L:=L) (show 11 ≠ 14 by decide)
 have e15:=setB_ne (L:=L) (show 15 ≠ 14 by decide)
 refine ⟨h'.below, ?_, ?_, ?_, ?_, ?_, ?_, ?_,fun _ => ⟨W.heap.size,A,updV_eq,h.below.size,hA,World.alloc_heap_new _ _⟩, ?_⟩
 ·rw [e1,updV_ne (by decide)]; exact h'.own
 ·rw [e3,updV_ne (by decide)]; exact h'.row
 ·rw [e8,updV_ne (by decide)]; exact h'.app
 ·rw [e9,e8]; exact h'.dep
 ·rw [e9,updV_ne (by decide)]
  intro e
  obtain ⟨pa,pc,wa,wc,e1,hs⟩ := h.pl e
  refine ⟨pa,pc,wa,wc,e1,(hs.lt.below (aB W _)).mono fun k hk _ he => ?_⟩
  rw [updV_eq] at he
  cases he
  exact Nat.lt_irrefl _ hk.2
 ·rw [e10,e9,updV_ne (by decide),updV_ne (by decide)]; exact h'.d10
 ·rw [e11,e10,updV_ne (by decide),updV_ne (by decide)]; exact h'.d11
 ·rw [e15]
  intro e
  obtain ⟨_,_,_,_,_,_,e1,_⟩ := h.st e
  rw [h14] at e1; cases e1
theorem JE.store15 (h : JE w0 r nl D E DL DX g n m L vs W) (h11 : L 11 = true) (h14 : L 14 = true) {pa : Option Addr} {pc : Nat} {wa : Option Addr} {wc b : Nat} (e11 : vs 11 = .agg (staV g pa n pc wa m wc)) (e14 : vs 14 = .pointer (some ⟨b,0,none⟩)) (v : Value) :
  JE w0 r nl D E DL DX g n m (setB L 15) (updV vs 15 v) (W.setRow b (staV g pa n pc wa m wc)):=by
 obtain ⟨b0,A,e0,h1,h2,h3⟩ := h.al h14
 rw [e14] at e0
 cases e0
 have f1:=setB_ne (L:=L) (show 1 ≠ 15 by decide)
 have f3:=setB_ne (L:=L) (show 3 ≠ 15 by decide)
 have f8:=setB_ne (L:=L) (show 8 ≠ 15 by decide)
 have f9:=setB_ne (L:=L) (show 9 ≠ 15 by decide)
 have f11:=setB_ne (L:=L) (show 11 ≠ 15 by decide)
 have f10:=setB_ne (L:=L) (show 10 ≠ 15 by decide)
 have f14:=setB_ne (L:=L) (show 14 ≠ 15 by decide)
 have kept : ∀ {e : TypeId} {v : Value} {k : Nat} {xs : List Value},e ≠ 36 → W.ownsRow w0.heap.size e 1 v k xs → (W.setRow b (staV g pa n pc wa m wc)).ownsRow w0.heap.size e 1 v k xs:=fun he ho => by
  have hne:=ownsN_ne_blk ho h3 he
  exact ownsN_kept ho fun q hq => setRow_other _ _ _ _ (by intro e; subst e; rcases hne with h | h; rw [h] at hq; cases hq; exact h hq)
 have hh:=setRow_heap W b A (staV g pa n pc wa m wc) 36 (0,0) h3
 refine ⟨below_setRow h.below h1 _, ?_, ?_, ?_, ?_, ?_, ?_, ?_, ?_,fun _ => ⟨pa,pc,wa,wc,b,by rw [f11]; exact h11,by rw [f14]; exact h14,by rw [updV_ne (by decide)]; exact e11,by rw [updV_ne (by decide)]; exact e14,hh⟩⟩
 ·rw [f1,updV_ne (by decide)]
  intro e
  obtain ⟨vb,vd,e2,h4⟩ := h.own e
  exact ⟨vb,vd,e2,kept (by decide) h4⟩
 ·rw [f3,updV_ne (by decide)]
  intro e
  obtain ⟨q,c,e2,h4⟩ := h.row e
  exact ⟨q,c,e2,kept (by decide) h4⟩
 ·rw [f8,updV_ne (by decide)]
  intro e
  obtain ⟨q,c,e2,h4⟩ := h.app e
  exact ⟨q,c,e2,kept (by decide) h4⟩
 ·rw [f9,f8]; exact h.dep
 ·rw [f9,updV_ne (by decide),f14,updV_ne (by decide)]
  intro e
  obtain ⟨pa',pc',wa',wc',e1,hs⟩ := h.pl e
  refine ⟨pa',pc',wa',wc',e1,hs.cells fun q o hq _ => ?_⟩
  have hqb : q ≠ b:=fun e => hq h14 (by rw [e14,e])
  exact World.cell?_of_block (w:=W) (setRow_other _ _ _ _ hqb)
 ·rw [f10,f9,updV_ne (by decide),updV_ne (by decide)]; exact h.d10
 ·rw [f11,f10,updV_ne (by decide),updV_ne (by decide)]; exact h.d11
 ·rw [f14,updV_ne (by decide)]
  exact fun _ => ⟨b,_,e14,h1,rfl,hh⟩
end
end Go.Proofs.YtnhggfnnolfcdaaGreat
