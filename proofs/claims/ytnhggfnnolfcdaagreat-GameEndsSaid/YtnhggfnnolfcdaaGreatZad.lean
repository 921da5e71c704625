/- The texts GF, GG, LibB, SlN, Own, GM, HA, in build order. -/
import Derived.Test.YtnhggfnnolfcdaaGreatZac
import Derived.Outline
import Derived.Laws.OwnMore

/- Chapter 4, games, in plain Lean: what a dart keeps. -/
namespace Go.Proofs.YtnhggfnnolfcdaaGreat
open Go.RowKit Go.Oche Go.Proofs

def okHit (f n : Int) : Prop:=(f = 0 ∧ n = 0) ∨ (n = 25 ∧ 1 ≤ f ∧ f ≤ 2) ∨ (1 ≤ f ∧ f ≤ 4 ∧ 1 ≤ n ∧ n ≤ 20)
theorem okHit.f {f n : Int} (h : okHit f n) : 0 ≤ f ∧ f ≤ 4:=by rcases h with h | h | h <;> omega
theorem okHit.n {f n : Int} (h : okHit f n) : 0 ≤ n ∧ n ≤ 25:=by rcases h with h | h | h <;> omega
theorem okBed_hit {b : Int} (h : okBed b = true) : okHit (b.tdiv 100) (b.tmod 100):=by
 unfold okBed at h
 simp only [Bool.or_eq_true,beq_iff_eq,Bool.and_eq_true,isIn,decide_eq_true_eq] at h
 rcases h with ((h | h) | h) | h
 ·subst h; exact .inl ⟨rfl,rfl⟩
 ·subst h; exact .inr (.inl ⟨rfl,by decide,by decide⟩)
 ·subst h; exact .inr (.inl ⟨rfl,by decide,by decide⟩)
 ·exact .inr (.inr (by omega))
theorem okBed_bd {b : Int} (h : okBed b = true) : 0 ≤ b ∧ b ≤ 420:=by
 unfold okBed at h
 simp only [Bool.or_eq_true,beq_iff_eq,Bool.and_eq_true,isIn,decide_eq_true_eq] at h
 rcases h with ((h | h) | h) | h
 ·omega
 ·omega
 ·omega
 ·have h1:=Int.tmod_add_mul_tdiv b 100
  omega

structure Kept (g g' : Gam) : Prop where
 len : g'.pls.length = g.pls.length
 player : g'.player = g.player
 round : g'.round = g.round
 darts : g'.darts = g.darts
 win : g'.win = g.win
theorem Kept.refl (g : Gam) : Kept g g:=⟨rfl,rfl,rfl,rfl,rfl⟩
theorem Kept.set (g : Gam) (i : Nat) (x : Plr) : Kept g (setP g i x):=⟨setP_len,rfl,rfl,rfl,rfl⟩
theorem set_inv {r : Rul} {M M' : Int} {g : Gam} (h : Inv r M g) (hM : M ≤ M') {i : Nat} {x : Plr} (hx : PlOk r x ∧ x.pts ≤ M') : Inv r M' (setP g i x) :=
 ⟨h.ok,by rw [setP_len]; exact h.len,by rw [setP_len]; exact h.pl,fun p hp => by
  rcases List.mem_or_eq_of_mem_set hp with q | rfl
  ·exact ⟨(h.each p q).1,by have:=(h.each p q).2; omega⟩
  ·exact hx,h.hit⟩
theorem Inv.mono {r : Rul} {M M' : Int} {g : Gam} (h : Inv r M g) (hM : M ≤ M') : Inv r M' g :=
 ⟨h.ok,h.len,h.pl,fun p hp => ⟨(h.each p hp).1,by have:=(h.each p hp).2; omega⟩,h.hit⟩
theorem round_ok {r : Rul} {M : Int} {g : Gam} (h : Run r M g) (k : r.kind = 1) {f n : Int} (hf : 0 ≤ f ∧ f ≤ 4) :
  Inv r (M + 100) (dartRound r g f n).1 ∧ Kept g (dartRound r g f n).1 ∧ ((dartRound r g f n).2 = [] → ∀ p ∈ (dartRound r g f n).1.pls,p.pts < targetsR r):=by
 have hc:=ok1 h.ok k
 have hp:=h.each _ (plr_mem h.pl)
 have hl:=h.less k _ (plr_mem h.pl)
 have htg : r.last ≤ targetsR r ∧ targetsR r ≤ r.last + 1:=by unfold targetsR; split <;> omega
 unfold dartRound
 dsimp only
 by_cases hn : n = if decide (r.last < (plr g g.player).pts + 1) = true then 25 else (plr g g.player).pts + 1
 ·rw [if_pos hn]
  obtain ⟨q,hq⟩ : ∃ q,min (if decide (r.last < (plr g g.player).pts + 1) = true then targetsR r else r.last) ((plr g g.player).pts + if r.jump = true then f else 1) = q:=⟨_,rfl⟩
  rw [hq]
  have hq0 : (plr g g.player).pts ≤ q ∧ q ≤ (plr g g.player).pts + 4 ∧ q ≤ targetsR r:=by
   rw [← hq]
   have hs : 0 ≤ (if r.jump = true then f else 1) ∧ (if r.jump = true then f else 1) ≤ 4:=by split <;> omega
   have hm : (plr g g.player).pts ≤ (if decide (r.last < (plr g g.player).pts + 1) = true then targetsR r else r.last) ∧ (if decide (r.last < (plr g g.player).pts + 1) = true then targetsR r else r.last) ≤ targetsR r:=by
    split
    ·omega
    ·rename_i e; simp at e; omega
   omega
  have hp0:=hp.1.nn
  refine ⟨set_inv h.toInv (by omega) ⟨hp.1.same rfl (by dsimp only; omega) (fun _ => by dsimp only; omega) (fun q => by omega) (fun _ => rfl),by dsimp only; omega⟩,Kept.set _ _ _,fun hw p hpm => ?_⟩
  have hne : q ≠ targetsR r:=by intro e; rw [if_pos e] at hw; cases hw
  rcases List.mem_or_eq_of_mem_set hpm with hx | rfl
  ·exact h.less k p hx
  ·dsimp only; omega
 ·rw [if_neg hn]; exact ⟨h.toInv.mono (by omega),Kept.refl _,fun _ => h.less k⟩
theorem cricket_ok {r : Rul} {M : Int} {g : Gam} (h : Run r M g) (k : r.kind = 2) {f n : Int} (hf : 0 ≤ f ∧ f ≤ 4) :
  Inv r (M + 100) (dartCricket r g f n).1 ∧ Kept g (dartCricket r g f n).1 :=
 ⟨cric_ok h.toInv k hf,⟨cric_rest.2.2.2.2.2,cric_rest.1,cric_rest.2.2.1,cric_rest.2.1,cric_rest.2.2.2.2.1⟩⟩
theorem shanghai_ok {r : Rul} {M : Int} {g : Gam} (h : Run r M g) (k : r.kind = 3) {f n : Int} (hb : okHit f n) :
  Inv r (M + 100) (dartShanghai g f n).1 ∧ Kept g (dartShanghai g f n).1:=by
 have hp:=h.each _ (plr_mem h.pl)
 unfold dartShanghai
 split
 ·have h1 : 0 ≤ f * n:=Int.mul_nonneg (by have:=hb.f; omega) (by have:=hb.n; omega)
  have h2 : f * n ≤ 4 * 25:=Int.mul_le_mul (by have:=hb.f; omega) (by have:=hb.n; omega) (by have:=hb.n; omega) (by omega)
  have hp0:=hp.1.nn
  have hI:=set_inv (i:=g.player) (x:={ plr g g.player with pts:=(plr g g.player).pts + f * n }) h.toInv (M':=M + 100) (by omega) ⟨hp.1.same rfl (by dsimp only; omega) (fun q => by omega) (fun q => by omega) (fun _ => rfl),by dsimp only; omega⟩
  exact ⟨⟨hI.ok,hI.len,hI.pl,hI.each,by simp [h.hit]⟩,⟨setP_len,rfl,rfl,rfl,rfl⟩⟩
 ·exact ⟨h.toInv.mono (by omega),Kept.refl _⟩
theorem killHit_ok {r : Rul} {M : Int} {g : Gam} (h : Inv r M g) (k : r.kind = 4) {i : Nat} (hi : i < g.pls.length) (ho : isOutG r g i = false) : Inv r (M + 100) (killHit r g i) ∧ Kept g (killHit r g i):=by
 have hp:=h.each _ (plr_mem hi)
 have hq:=h.each _ (plr_mem h.pl)
 have h0 : (plr g i).pts ≠ 0:=by intro e; rw [isOutG,k,e] at ho; simp at ho
 have hp0:=hp.1.nn
 unfold killHit
 split
 ·exact ⟨set_inv h (by omega) ⟨hp.1.same rfl (by dsimp only; omega) (fun q => by omega) (fun q => by have:=hp.1.liv q; dsimp only; omega) (fun _ => rfl),by dsimp only; omega⟩,Kept.set _ _ _⟩
 split
 ·exact ⟨set_inv h (by omega) ⟨hq.1.same rfl hq.1.nn (fun q => by omega) hq.1.liv (fun q => (q k).elim),by dsimp only; omega⟩,Kept.set _ _ _⟩
 ·exact ⟨h.mono (by omega),Kept.refl _⟩
theorem killer_ok {r : Rul} {M : Int} {g : Gam} (h : Run r M g) (k : r.kind = 4) {f n : Int} :
  Inv r (M + 100) (dartKiller r g f n).1 ∧ Kept g (dartKiller r g f n).1 ∧ ((dartKiller r g f n).2 = [] → 2 ≤ alive r (dartKiller r g f n).1) ∧ ((dartKiller r g f n).2 ≠ [] → (dartKiller r g f n).2 = leftG r (dartKiller r g f n).1 ∧ alive r (dartKiller r g f n).1 = 1):=by
 have hc:=ok4 h.ok k
 have hlen : g.pls.length = r.nums.length:=by have:=h.len; omega
 have two:=h.two k
 unfold dartKiller
 cases hi : r.nums.findIdx? (· == n) with
 | none => exact ⟨h.toInv.mono (by omega),Kept.refl _,fun _ => two,fun e => (e rfl).elim⟩
 | some i =>
  dsimp only
  obtain ⟨hlt, -, -⟩ := List.findIdx?_eq_some_iff_getElem.1 hi
  split
  ·exact ⟨h.toInv.mono (by omega),Kept.refl _,fun _ => two,fun e => (e rfl).elim⟩
  ·rename_i hb
   have ho : isOutG r g i = false:=by cases h4 : isOutG r g i; rfl; exact (hb (.inr h4)).elim
   have ek : (if (i ≠ g.player ∧ (plr g g.player).kl = true) ∨ (i = g.player ∧ (plr g g.player).kl = true ∧ r.own = true) then setP g i { plr g i with pts:=(plr g i).pts - 1 } else if i = g.player then setP g i { plr g g.player with kl:=true } else g) = killHit r g i:=rfl
   rw [ek]
   have hl:=killHit_len r g i
   have hk:=killHit_ok h.toInv k (by omega) ho
   refine ⟨hk.1,hk.2,fun e => ?_,fun e => ?_⟩
   ·by_cases h1 : 1 < (leftG r (killHit r g i)).length
    ·exact h1
    ·rw [if_neg h1] at e
     have e2 : (leftG r (killHit r g i)).length = 0:=by have : leftG r (killHit r g i) = []:=e; rw [this]; rfl
     rw [left_len] at e2; omega
   ·by_cases h1 : 1 < (leftG r (killHit r g i)).length
    ·rw [if_pos h1] at e; exact (e rfl).elim
    ·rw [if_neg h1]; exact ⟨rfl,by show alive r (killHit r g i) = 1; rw [left_len] at h1; omega⟩
structure DartOk (r : Rul) (M : Int) (g : Gam) (d : Gam × List Int) : Prop where
 inv : Inv r (M + 100) d.1
 kept : Kept g d.1
 less : d.2 = [] → r.kind = 1 → ∀ p ∈ d.1.pls,p.pts < targetsR r
 two : d.2 = [] → r.kind = 4 → 2 ≤ alive r d.1
 one : d.2 ≠ [] → r.kind = 4 → d.2 = leftG r d.1 ∧ alive r d.1 = 1
theorem dart_ok {r : Rul} {M : Int} {g : Gam} (h : Run r M g) {f n : Int} (hb : okHit f n) : DartOk r M g (dartG r g f n):=by
 unfold dartG
 rcases kind_of h.ok with k | k | k | k
 ·rw [if_pos k]
  have:=round_ok h k (n:=n) hb.f
  exact ⟨this.1,this.2.1,fun e _ => this.2.2 e,fun _ q => by omega,fun _ q => by omega⟩
 ·rw [if_neg (by omega),if_pos k]
  have:=cricket_ok h k (n:=n) hb.f
  exact ⟨this.1,this.2,fun _ q => by omega,fun _ q => by omega,fun _ q => by omega⟩
 ·rw [if_neg (by omega),if_neg (by omega),if_pos k]
  have:=shanghai_ok h k hb
  exact ⟨this.1,this.2,fun _ q => by omega,fun _ q => by omega,fun _ q => by omega⟩
 ·rw [if_neg (by omega),if_neg (by omega),if_neg (by omega)]
  have:=killer_ok h k (f:=f) (n:=n)
  exact ⟨this.1,this.2.1,fun _ q => by omega,fun e _ => this.2.2.1 e,fun e _ => this.2.2.2 e⟩
theorem nextP_spec (r : Rul) (g : Gam) : ∀ (k p rd : Nat),p < g.pls.length → (∃ j,1 ≤ j ∧ j ≤ k + 1 ∧ isOutG r g ((p + j) % g.pls.length) = false) →
  isOutG r g (nextP r g k p rd).1 = false ∧ (nextP r g k p rd).1 < g.pls.length ∧ ∃ j,1 ≤ j ∧ j ≤ k + 1 ∧ (nextP r g k p rd).2 * g.pls.length + (nextP r g k p rd).1 = rd * g.pls.length + p + j ∧ ∀ i,1 ≤ i → i < j → isOutG r g ((p + i) % g.pls.length) = true:=by
 intro k
 induction k with
 | zero =>
  intro p rd hp ⟨j,h1,h2,h3⟩
  obtain rfl : j = 1:=by omega
  have hs : (stepP g.pls.length p rd).1 = (p + 1) % g.pls.length ∧ (stepP g.pls.length p rd).2 * g.pls.length + (stepP g.pls.length p rd).1 = rd * g.pls.length + p + 1:=by
   unfold stepP
   split
   ·rename_i e; dsimp only; rw [e,Nat.mod_self,Nat.add_mul]; omega
   ·rw [Nat.mod_eq_of_lt (by omega)]; dsimp only; omega
  rw [nextP]
  exact ⟨by rw [hs.1]; exact h3,by rw [hs.1]; exact Nat.mod_lt _ (by omega),1,by omega,by omega,hs.2,fun i a b => by omega⟩
 | succ k ih =>
  intro p rd hp ⟨j,h1,h2,h3⟩
  have hs : (stepP g.pls.length p rd).1 = (p + 1) % g.pls.length ∧ (stepP g.pls.length p rd).2 * g.pls.length + (stepP g.pls.length p rd).1 = rd * g.pls.length + p + 1:=by
   unfold stepP
   split
   ·rename_i e; dsimp only; rw [e,Nat.mod_self,Nat.add_mul]; omega
   ·rw [Nat.mod_eq_of_lt (by omega)]; dsimp only; omega
  have hm : (stepP g.pls.length p rd).1 < g.pls.length:=by rw [hs.1]; exact Nat.mod_lt _ (by omega)
  have hmod : ∀ i,((stepP g.pls.length p rd).1 + i) % g.pls.length = (p + (i + 1)) % g.pls.length:=fun i => by rw [hs.1,Nat.mod_add_mod]; congr 1; omega
  rw [nextP]
  by_cases ho : isOutG r g (stepP g.pls.length p rd).1 = true
  ·rw [if_pos ho]
   have hj : j ≠ 1:=by rintro rfl; rw [← hs.1,ho] at h3; cases h3
   obtain ⟨q1,q2,i,q3,q4,q5,q6⟩ := ih (stepP g.pls.length p rd).1 (stepP g.pls.length p rd).2 hm ⟨j - 1,by omega,by omega,by rw [hmod]; rw [show j - 1 + 1 = j by omega]; exact h3⟩
   refine ⟨q1,q2,i + 1,by omega,by omega,by rw [q5,hs.2]; omega,fun t a b => ?_⟩
   by_cases e : t = 1
   ·subst e; rw [← hs.1]; exact ho
   ·have:=q6 (t - 1) (by omega) (by omega)
    rw [hmod] at this; rwa [show t - 1 + 1 = t by omega] at this
  ·rw [if_neg ho]
   exact ⟨by simpa using ho,hm,1,by omega,by omega,hs.2,fun i a b => by omega⟩
theorem somebody {r : Rul} {g : Gam} (h : 1 ≤ alive r g) {p : Nat} (hp : p < g.pls.length) : ∃ j,1 ≤ j ∧ j ≤ g.pls.length ∧ isOutG r g ((p + j) % g.pls.length) = false:=by
 rw [alive_count] at h
 obtain ⟨k,hk,ho⟩ := List.countP_pos_iff.1 h
 rw [List.mem_range] at hk
 simp only [Bool.not_eq_true'] at ho
 by_cases e : k ≤ p
 ·exact ⟨k + g.pls.length - p,by omega,by omega,by rw [show p + (k + g.pls.length - p) = k + g.pls.length by omega,Nat.add_mod_right,Nat.mod_eq_of_lt hk]; exact ho⟩
 ·exact ⟨k - p,by omega,by omega,by rw [show p + (k - p) = k by omega,Nat.mod_eq_of_lt hk]; exact ho⟩
theorem out_kind {r : Rul} {g : Gam} (k : r.kind ≠ 4) (p : Nat) : isOutG r g p = false:=by
 unfold isOutG; simp [k]
theorem alive_kind {r : Rul} {g : Gam} (k : r.kind ≠ 4) : alive r g = g.pls.length:=by
 rw [alive_count,List.countP_eq_length_filter,List.filter_eq_self.2 (fun p _ => by rw [out_kind k p]; rfl),List.length_range]
end Go.Proofs.YtnhggfnnolfcdaaGreat

/- Chapter 4, games, in plain Lean: the dart as a whole. -/
namespace Go.Proofs.YtnhggfnnolfcdaaGreat
open Go.RowKit Go.Oche Go.Proofs

structure Live (r : Rul) (M : Int) (g : Gam) : Prop extends Run r M g where
 darts : g.darts < 3
theorem nextP_one {r : Rul} {g : Gam} (k : r.kind ≠ 4) (n p rd : Nat) : nextP r g n p rd = stepP g.pls.length p rd:=by
 cases n with
 | zero => rfl
 | succ n => rw [nextP,out_kind k]; rfl
theorem cmp3_lt {a b : Int} : cmp3 a b < 0 ↔ a < b:=by unfold cmp3; repeat' (first | omega | split)
theorem cmp3_eq {a b : Int} : cmp3 a b = 0 ↔ a = b:=by unfold cmp3; repeat' (first | omega | split)
theorem cmpP_lt {r : Rul} {x y : Plr} : cmpP r x y < 0 ↔ (if r.kind = 2 ∧ r.cut = true then x.pts < y.pts else y.pts < x.pts) ∨ r.kind = 2 ∧ x.pts = y.pts ∧ sumM y < sumM x:=by
 unfold cmpP
 by_cases k : r.kind = 2
 ·rw [if_pos k]
  cases hc : r.cut
  ·simp only [Bool.false_eq_true,if_false,and_false,k,true_and]
   have e:=cmp3_eq (a:=y.pts) (b:=x.pts)
   have e1:=cmp3_lt (a:=y.pts) (b:=x.pts)
   have e2:=cmp3_lt (a:=sumM y) (b:=sumM x)
   by_cases h : cmp3 y.pts x.pts = 0
   ·rw [if_pos h,e2]; omega
   ·rw [if_neg h,e1]; omega
  ·simp only [if_true,k,and_self,true_and]
   have e:=cmp3_eq (a:=x.pts) (b:=y.pts)
   have e1:=cmp3_lt (a:=x.pts) (b:=y.pts)
   have e2:=cmp3_lt (a:=sumM y) (b:=sumM x)
   by_cases h : cmp3 x.pts y.pts = 0
   ·rw [if_pos h,e2]; omega
   ·rw [if_neg h,e1]; omega
 ·rw [if_neg k,cmp3_lt]; simp [k]
theorem cmpP_self (r : Rul) (x : Plr) : ¬ cmpP r x x < 0:=by rw [cmpP_lt]; split <;> omega
theorem cmpP_trans {r : Rul} {x y z : Plr} (h : cmpP r x y < 0) (h' : cmpP r y z < 0) : cmpP r x z < 0:=by
 rw [cmpP_lt] at *
 by_cases q : r.kind = 2 ∧ r.cut = true
 ·rw [if_pos q] at *; omega
 ·rw [if_neg q] at *; omega
theorem cmpP_trans' {r : Rul} {x y z : Plr} (h : ¬ cmpP r x y < 0) (h' : ¬ cmpP r y z < 0) : ¬ cmpP r x z < 0:=by
 rw [cmpP_lt] at *
 by_cases q : r.kind = 2 ∧ r.cut = true
 ·rw [if_pos q] at *; omega
 ·rw [if_neg q] at *; omega
theorem min_ex (r : Rul) (l : List Plr) : ∀ n,n ≤ l.length → 0 < n → ∃ k,k < n ∧ ∀ j,j < n → 0 ≤ cmpP r (l.getD j default) (l.getD k default)
 | 0,_,h => by omega
 | n + 1,hn,_ => by
  by_cases h0 : n = 0
  ·subst h0; exact ⟨0,by omega,fun j hj => by
   have e : j = 0:=by omega
   subst e; have:=cmpP_self r (l.getD 0 default); omega⟩
  obtain ⟨k,hk,hm⟩ := min_ex r l n (by omega) (by omega)
  by_cases h : cmpP r (l.getD n default) (l.getD k default) < 0
  ·refine ⟨n,by omega,fun j hj => ?_⟩
   by_cases e : j = n
   ·subst e; have:=cmpP_self r (l.getD j default); omega
   ·have h1:=hm j (by omega)
    by_cases h2 : cmpP r (l.getD j default) (l.getD n default) < 0
    ·have:=cmpP_trans h2 h; omega
    ·omega
  ·refine ⟨k,by omega,fun j hj => ?_⟩
   by_cases e : j = n
   ·subst e; omega
   ·exact hm j (by omega)
structure Thrown (r : Rul) (M : Int) (g g' : Gam) (d : Gam × List Int) : Prop where
 inv : Inv r (M + 100) g'
 live : g'.win = [] → Live r (M + 100) g'
 over : g'.win ≠ [] → g'.pls = d.1.pls ∧ g'.player = g.player ∧ g'.round = g.round ∧ g'.darts = g.darts + 1
 won : d.2 ≠ [] → g'.win = d.2
 pls : g'.pls = d.1.pls
 /-- The end is reached: the best ones. -/
 best : g'.win ≠ [] → d.2 = [] → (r.kind = 2 ∨ r.kind = 3) ∧ g'.win = bestG r d.1.pls
 stay : g'.win = [] → g.darts < 2 → isOutG r d.1 g.player = false → g' = { d.1 with win:=[] }
 next : g'.win = [] → (g.darts = 2 ∨ isOutG r d.1 g.player = true) → g' = { d.1 with win:=[],player:=(nextP r d.1 g.pls.length g.player g.round).1,round:=(nextP r d.1 g.pls.length g.player g.round).2,darts:=0,hit:=List.replicate 5 false }
theorem isOut_pls {r : Rul} {g g' : Gam} (h : g'.pls = g.pls) (p : Nat) : isOutG r g' p = isOutG r g p:=by unfold isOutG plr; rw [h]
theorem nextP_pls {r : Rul} {g g' : Gam} (h : g'.pls = g.pls) : ∀ (n p rd : Nat),nextP r g' n p rd = nextP r g n p rd
 | 0,p,rd => by rw [nextP,nextP,h]
 | n + 1,p,rd => by rw [nextP,nextP,h,isOut_pls h,nextP_pls h n]
theorem alive_pls {r : Rul} {g g' : Gam} (h : g'.pls = g.pls) : alive r g' = alive r g:=by
 rw [alive_count,alive_count,h]; exact List.countP_congr fun k _ => by rw [isOut_pls h]
theorem isOut_w (r : Rul) (c : Gam) (l : List Int) (p : Nat) : isOutG r { c with win:=l } p = isOutG r c p:=rfl
theorem alive_w (r : Rul) (c : Gam) (l : List Int) : alive r { c with win:=l } = alive r c:=rfl
theorem nextP_w (r : Rul) (c : Gam) (l : List Int) (n p rd : Nat) : nextP r { c with win:=l } n p rd = nextP r c n p rd:=nextP_pls (g:=c) (g':={ c with win:=l }) rfl n p rd
theorem throw_thrown {r : Rul} {M : Int} {g : Gam} (h : Live r M g) {f n : Int} (hb : okHit f n) :
  Thrown r M g (throwG r g f n) (dartG r { g with darts:=g.darts + 1 } f n):=by
 have hd:=dart_ok (h.toRun.dart (g.darts + 1)) hb
 unfold throwG
 obtain ⟨d,ed⟩ : ∃ d,dartG r { g with darts:=g.darts + 1 } f n = d:=⟨_,rfl⟩
 rw [ed] at hd ⊢
 clear ed
 obtain ⟨c,wn⟩ := d
 dsimp only at *
 obtain ⟨I,K,less,two,one⟩ := hd
 dsimp only at I K less two one
 have Kl:=K.len
 have Kp:=K.player
 have Kr:=K.round
 have Kd:=K.darts
 dsimp only at Kl Kp Kr Kd
 by_cases hw : wn = []
 ·subst hw
  have hrun : Inv r (M + 100) { c with win:=[] }:=⟨I.ok,I.len,I.pl,I.each,I.hit⟩
  have halive : 1 ≤ alive r { c with win:=[] }:=by
   by_cases k4 : r.kind = 4
   ·have:=two rfl k4; rw [alive_w]; omega
   ·rw [alive_kind k4]; have:=I.pl; dsimp only; omega
  by_cases hn : c.darts = 3 ∨ isOutG r c c.player = true
  ·rw [if_pos ⟨rfl,by rcases hn with hn | hn; exact .inl hn; exact .inr (by rw [isOut_w]; exact hn)⟩]
   unfold nextG
   dsimp only
   rw [nextP_w]
   obtain ⟨q1,q2,j,q3,q4,q5,q6⟩ := nextP_spec r c c.pls.length c.player c.round I.pl (by
    have:=somebody (r:=r) (g:=c) (by rw [alive_w] at halive; exact halive) I.pl
    obtain ⟨j,a,b,e⟩ := this; exact ⟨j,a,by omega,e⟩)
   by_cases hr : 0 < r.rounds ∧ ((nextP r c c.pls.length c.player c.round).2 : Int) = r.rounds
   ·rw [if_pos hr]
    have k23 : r.kind = 2 ∨ r.kind = 3:=by
     rcases kind_of h.ok with q | q | q | q
     ·have:=(ok1 h.ok q).2.2.1; omega
     ·exact .inl q
     ·exact .inr q
     ·have:=(ok4 h.ok q).2.2.2.2.2.2.2.2.1; omega
    rw [if_pos k23]
    have hne : bestG r c.pls ≠ []:=fun e => by
     obtain ⟨k,hk,hmin⟩ := min_ex r c.pls c.pls.length (Nat.le_refl _) (by have:=I.pl; omega)
     have : (k : Int) ∈ bestG r c.pls:=List.mem_map.2 ⟨k,List.mem_filter.2 ⟨List.mem_range.2 hk,List.all_eq_true.2 fun j hj => by simpa using hmin j (List.mem_range.1 hj)⟩,rfl⟩
     rw [e] at this; cases this
    exact ⟨⟨I.ok,I.len,I.pl,I.each,I.hit⟩,fun e => (hne e).elim,fun _ => ⟨rfl,Kp,Kr,Kd⟩,fun e => (e rfl).elim,rfl,fun _ _ => ⟨k23,rfl⟩,fun e => (hne e).elim,fun e => (hne e).elim⟩
   ·rw [if_neg hr]
    have hrd : 0 < r.rounds → ((nextP r c c.pls.length c.player c.round).2 : Int) < r.rounds:=by
     intro h0
     have h1:=h.rd h0
     have k4 : r.kind ≠ 4:=by intro q; have:=(ok4 h.ok q).2.2.2.2.2.2.2.2.1; omega
     rw [nextP_one k4] at hr ⊢
     unfold stepP at hr ⊢
     rw [Kr] at hr ⊢
     split at hr <;> split <;> first | omega | (dsimp only at *; omega)
    refine ⟨⟨I.ok,I.len,q2,I.each,by simp⟩,fun _ => ⟨⟨⟨I.ok,I.len,q2,I.each,by simp⟩,rfl,hrd,less rfl,two rfl, ?_⟩,by dsimp only; omega⟩,fun e => (e rfl).elim,fun e => (e rfl).elim,rfl,fun e => (e rfl).elim,fun _ a b => ?_,fun _ _ => ?_⟩
    ·exact q1
    ·rw [Kd,Kp] at hn; rcases hn with hn | hn
     ·omega
     ·rw [b] at hn; cases hn
    ·rw [Kl,Kp,Kr]
  ·have hn1 : ¬ c.darts = 3:=fun e => hn (.inl e)
   have hn2 : isOutG r c c.player = false:=by cases e : isOutG r c c.player; rfl; exact (hn (.inr e)).elim
   rw [if_neg (by rintro ⟨-,e | e⟩; exact hn1 e; rw [isOut_w,hn2] at e; cases e)]
   refine ⟨hrun,fun _ => ⟨⟨hrun,rfl,fun h0 => by show (c.round : Int) < _; rw [Kr]; exact h.rd h0,less rfl,two rfl, ?_⟩,by have:=h.darts; dsimp only; omega⟩,fun e => (e rfl).elim,fun e => (e rfl).elim,rfl,fun e => (e rfl).elim,fun _ _ _ => rfl,fun _ e => ?_⟩
   ·rw [isOut_w]; exact hn2
   ·rw [← Kp,hn2] at e; rcases e with e | e
    ·omega
    ·cases e
 ·rw [if_neg (fun e => hw e.1)]
  exact ⟨⟨I.ok,I.len,I.pl,I.each,I.hit⟩,fun e => (hw e).elim,fun _ => ⟨rfl,Kp,Kr,Kd⟩,fun _ => rfl,rfl,fun _ e => (hw e).elim,fun e => (hw e).elim,fun e => (hw e).elim⟩
theorem init_live {r : Rul} (h : checkR r = 0) : Live r 9 (initG r):=by
 have hp:=players_of h
 have hz : ∀ p ∈ (initG r).pls,p = ⟨if r.kind = 4 then r.lives else 0,List.replicate 7 0,false⟩ := fun p hp => (List.mem_replicate.1 hp).2
 have hl : (initG r).pls.length = r.players.toNat:=by simp [initG]
 have h4 : r.kind = 4 → 1 ≤ r.lives ∧ r.lives ≤ 9:=fun k => ⟨(ok4 h k).2.2.2.1,(ok4 h k).2.2.2.2.1⟩
 have hout : ∀ p,p < (initG r).pls.length → isOutG r (initG r) p = false:=fun p hp' => by
  unfold isOutG
  rw [hz _ (plr_mem hp')]
  by_cases k : r.kind = 4
  ·have:=h4 k; rw [k]; simp; omega
  ·simp [k]
 have ht : r.kind = 1 → 0 < targetsR r:=fun k => by have:=ok1 h k; unfold targetsR; split <;> omega
 refine ⟨⟨⟨h,by rw [hl]; omega,by rw [hl]; show 0 < _; omega,fun p hp => ?_,by simp [initG]⟩,rfl,fun h0 => h0,fun k p hp => ?_,fun k => ?_,hout 0 (by rw [hl]; omega)⟩,by show 0 < 3; omega⟩
 ·rw [hz p hp]
  refine ⟨⟨by simp,by simp,by simp,by simp, ?_,fun k => ?_,fun k => ?_,fun _ => rfl⟩, ?_⟩
  ·dsimp only; split
   ·have:=h4 ‹_›; omega
   ·omega
  ·dsimp only; rw [if_neg (by omega)]; have:=ht k; omega
  ·dsimp only; rw [if_pos k]; omega
  ·dsimp only; split
   ·have:=h4 ‹_›; omega
   ·omega
 ·rw [hz p hp]; dsimp only; rw [if_neg (by omega)]; exact ht k
 ·rw [alive_count,List.countP_eq_length_filter,List.filter_eq_self.2 (fun p hp => by rw [hout p (List.mem_range.1 hp)]; rfl),List.length_range,hl]
  have:=(ok4 h k).2.2.2.2.2.2.2.2.2.2.1; omega
end Go.Proofs.YtnhggfnnolfcdaaGreat

/- within(least, most, l...), as every package has it. -/
namespace Go.Proofs.YtnhggfnnolfcdaaGreat
open Go.RowKit Go.Oche Go.Proofs

def outB (lo hi n : Int) : Bool:=decide (n < lo) || decide (hi < n)
def idxOut (lo hi : Int) (xs : List Int) : Int:=if xs.any (outB lo hi) then (xs.findIdx (outB lo hi) : Nat) else -1

theorem within1_any (n lo hi : Int) (pl ph : Addr) (w : World) (hl : w.cell? pl = some (.int .i64 lo)) (hh : w.cell? ph = some (.int .i64 hi)) :
  Calls Tryz.prog 50 #[.int .i64 n,.pointer (some pl),.pointer (some ph)] w fun e w' => e = .returned (.bool (outB lo hi n)) ∧ w = w':=by
 go_enter Tryz.func50,Tryz.ntmps50
 go_wp2
 all_goals (go_ret; refine ⟨ret_bool ?_,rfl⟩; simp [outB]; try omega)

theorem idxOut_hit {lo hi : Int} {xs : List Int} {k : Nat} (hk : k < xs.length) (hp : ∀ j,j < k → ∀ h : j < xs.length,outB lo hi xs[j] = false) (h : outB lo hi xs[k] = true) : idxOut lo hi xs = k:=by
 have h1 : xs.any (outB lo hi) = true:=List.any_eq_true.2 ⟨xs[k],List.getElem_mem hk,h⟩
 have h2 : xs.findIdx (outB lo hi) = k:=by
  refine (List.findIdx_eq hk).2 ⟨h,fun j hj => ?_⟩
  simpa using hp j hj (by omega)
 simp [idxOut,h1,h2]
theorem idxOut_miss {lo hi : Int} {xs : List Int} (hp : ∀ j,j < xs.length → ∀ h : j < xs.length,outB lo hi xs[j] = false) : idxOut lo hi xs = -1:=by
 have h1 : xs.any (outB lo hi) = false:=by
  rw [List.any_eq_false]
  intro x hx
  obtain ⟨j,hj,rfl⟩ := List.mem_iff_getElem.1 hx
  simp [hp j hj hj]
 simp [idxOut,h1]

theorem indexFunc_any {S : Nat → Prop} (lo hi : Int) (xs : List Int) (v : Value) (pl ph : Addr) (w : World) (hs : Sl S w v (ints xs)) (hl : w.cell? pl = some (.int .i64 lo)) (hh : w.cell? ph = some (.int .i64 hi)) :
  Calls Tryz.prog 43 #[v,.func (.func 50) #[] #[.pointer (some pl),.pointer (some ph)]] w fun e w' => e = .returned (.int .i64 (idxOut lo hi xs)) ∧ w = w':=by
 obtain ⟨a,cap,rfl,h2,h3,h4⟩ := hs
 simp only [ints_length] at *
 unfold maxLen at h3
 go_enter Tryz.func43,Tryz.ntmps43
 go_wp2

 go_loop [5,8] (fun _ i => ∃ k : Nat,k ≤ xs.length ∧ i = .int .i64 k ∧ ∀ j,j < k → ∀ h : j < xs.length,outB lo hi xs[j] = false) (fun _ i => xs.length - (intOf i).toNat)
 case atStart => exact ⟨0,Nat.zero_le _,rfl,fun j hj => by omega⟩
 case round =>
  obtain ⟨k,hk,rfl,hp⟩ := hrel
  by_cases hlt : k < xs.length
  ·obtain ⟨b,off,rfl,_,hc⟩ := h4 k _ (intsAt hlt)
   clear h4
   cases ho : outB lo hi xs[k]
   all_goals
    have HO:=Lib.hid ho
    have HP:=Lib.hid hp
    clear ho hp
    go_wp2_with (go_at_call 50; refine (within1_any xs[k] lo hi _ _ _ hl hh).mono ?_; rintro e w' ⟨rfl,rfl⟩; rw [HO.out])
   ·go_round
    case rel => exact ⟨k + 1,by omega,by go_num,fun j hj h => by
     by_cases hjk : j = k
     ·subst hjk; exact HO.out
     ·exact HP.out j (by omega) h⟩
    case measure => simp [intOf]; omega
   ·go_ret
    exact ⟨ret_int (idxOut_hit hlt HP.out HO.out).symm,rfl⟩
  ·obtain rfl : k = xs.length:=by omega
   have HP:=Lib.hid hp
   clear hp h4
   go_wp2
   go_ret
   exact ⟨ret_int (idxOut_miss fun j hj h => HP.out j hj h).symm,rfl⟩

theorem containsFunc_any {S : Nat → Prop} (lo hi : Int) (xs : List Int) (v : Value) (pl ph : Addr) (w : World) (hs : Sl S w v (ints xs)) (hl : w.cell? pl = some (.int .i64 lo)) (hh : w.cell? ph = some (.int .i64 hi)) :
  Calls Tryz.prog 49 #[v,.func (.func 50) #[] #[.pointer (some pl),.pointer (some ph)]] w fun e w' => e = .returned (.bool (xs.any (outB lo hi))) ∧ w = w':=by
 go_enter Tryz.func49,Tryz.ntmps49
 go_wp2_with (go_at_call 43; refine (indexFunc_any lo hi xs _ _ _ _ hs hl hh).mono ?_; rintro e w' ⟨rfl,rfl⟩)
 go_ret
 refine ⟨ret_bool ?_,rfl⟩
 unfold idxOut
 cases xs.any (outB lo hi) <;> simp <;> omega

theorem within_any {S : Nat → Prop} (lo hi : Int) (xs : List Int) (v : Value) (w : World) (hs : Sl S w v (ints xs)) :
  Calls Tryz.prog 35 #[.int .i64 lo,.int .i64 hi,v] w fun e w' => e = .returned (.bool (!xs.any (outB lo hi))) ∧ Below w.heap.size w w':=by
 have hb : Below w.heap.size w ((w.alloc (.cells #[.int .i64 lo] 3)).alloc (.cells #[.int .i64 hi] 3)):=((Below.refl _ _).alloc (Nat.le_refl _) _).alloc (by simp) _
 have hs':=hs.below hb
 have H:=Lib.hid hs'
 clear hs hs'
 obtain ⟨a,cap,hv⟩ : ∃ a cap,v = .slice a xs.length cap:=by obtain ⟨a,cap,h,_⟩ := H.out; exact ⟨a,cap,by simpa using h⟩
 subst hv
 go_enter Tryz.func35,Tryz.ntmps35
 go_wp2_with (go_at_call 49; refine (containsFunc_any lo hi xs _ _ _ _ H.out (by simp) (by simp)).mono ?_; rintro e w' ⟨rfl,rfl⟩)
 go_ret
 exact ⟨rfl,hb⟩

theorem out_one (lo hi n : Int) : (!([n] : List Int).any (outB lo hi)) = isIn n lo hi:=by
 simp [outB,isIn]; rw [Bool.eq_iff_iff]; simp
end Go.Proofs.YtnhggfnnolfcdaaGreat

/- A slice of structs: each element a row of k cells. -/
namespace Go.Oche
open Go Go.RowKit

def SlN (k : Nat) (S : Nat → Prop) (w : World) (v : Value) (rows : List (List Value)) : Prop :=
 ∃ (a : Option Addr) (cap : Nat),v = .slice a rows.length cap ∧ rows.length ≤ cap ∧ cap ≤ maxLen ∧
  ∀ i r,rows[i]? = some r → r.length = k ∧ ∃ b off,a = some ⟨b,off,none⟩ ∧ S b ∧ ∀ j x,r[j]? = some x → w.cell? ⟨b,off + i * k + j,none⟩ = some x
section
variable {k : Nat} {S S' : Nat → Prop} {w w' : World} {v : Value} {rows : List (List Value)}
theorem SlN.mono (h : SlN k S w v rows) (hS : ∀ q,S q → S' q) : SlN k S' w v rows:=by
 obtain ⟨a,cap,h1,h2,h3,h4⟩ := h
 exact ⟨a,cap,h1,h2,h3,fun i r hr => let ⟨hl,b,off,e,s,c⟩ := h4 i r hr; ⟨hl,b,off,e,hS b s,c⟩⟩
theorem SlN.cells (h : SlN k S w v rows) (hc : ∀ b o,S b → (w.cell? ⟨b,o,none⟩).isSome → w'.cell? ⟨b,o,none⟩ = w.cell? ⟨b,o,none⟩) : SlN k S w' v rows:=by
 obtain ⟨a,cap,h1,h2,h3,h4⟩ := h
 exact ⟨a,cap,h1,h2,h3,fun i r hr => let ⟨hl,b,off,e,s,c⟩ := h4 i r hr; ⟨hl,b,off,e,s,fun j x hx => (hc b _ s (by rw [c j x hx]; rfl)).trans (c j x hx)⟩⟩
theorem SlN.below (h : SlN k S w v rows) (hb : Below w.heap.size w w') : SlN k S w' v rows:=by
 obtain ⟨a,cap,h1,h2,h3,h4⟩ := h
 exact ⟨a,cap,h1,h2,h3,fun i r hr => let ⟨hl,b,off,e,s,c⟩ := h4 i r hr; ⟨hl,b,off,e,s,fun j x hx => bAt hb (c j x hx)⟩⟩
theorem SlN.lt (h : SlN k S w v rows) (hk : 0 < k) : SlN k (fun q => S q ∧ q < w.heap.size) w v rows:=by
 obtain ⟨a,cap,h1,h2,h3,h4⟩ := h
 refine ⟨a,cap,h1,h2,h3,fun i r hr => ?_⟩
 obtain ⟨hl,b,off,e,s,c⟩ := h4 i r hr
 exact ⟨hl,b,off,e,⟨s,World.block_lt_of_cell? w _ (c 0 r[0] (List.getElem?_eq_getElem (by omega)))⟩,c⟩
theorem SlN.nil (k : Nat) (S : Nat → Prop) (w : World) : SlN k S w (.slice none 0 0) []:=⟨none,0,rfl,Nat.le_refl _,Nat.zero_le _,fun i x hx => by simp at hx⟩
theorem SlN.form (h : SlN k S w v rows) : ∃ a cap,v = .slice a rows.length cap ∧ rows.length ≤ cap ∧ cap ≤ maxLen:=by
 obtain ⟨a,cap,h1,h2,h3,_⟩ := h
 exact ⟨a,cap,h1,h2,h3⟩
theorem SlN.cell {a : Option Addr} {n cap : Nat} (h : SlN k S w (.slice a n cap) rows) {i : Nat} (hi : i < rows.length) : ∃ b off,a = some ⟨b,off,none⟩ ∧ S b ∧ rows[i].length = k ∧ ∀ j x,(rows[i])[j]? = some x → w.cell? ⟨b,off + i * k + j,none⟩ = some x:=by
 obtain ⟨a',cap',e,_,_,h4⟩ := h
 cases e
 obtain ⟨hl,b,off,e,s,c⟩ := h4 i _ (List.getElem?_eq_getElem hi)
 exact ⟨b,off,e,s,hl,c⟩
theorem SlN.of_owns {base n g c : Nat} {e : TypeId} (h : w.ownsRow base e k (.slice (some ⟨g,0,none⟩) n c) n rows.flatten) (hr : ∀ r ∈ rows,r.length = k) (hl : rows.length = n) (hc : n ≤ c) (hm : c ≤ maxLen) : SlN k (fun q => q = g) w (.slice (some ⟨g,0,none⟩) n c) rows:=by
 subst hl
 refine ⟨_,c,rfl,hc,hm,fun i r hi => ⟨hr r (List.mem_of_getElem? hi),g,0,rfl,rfl,fun j x hx => ?_⟩⟩
 have hil : i < rows.length:=(List.getElem?_eq_some_iff.1 hi).1
 have hjk : j < k:=by have:=(List.getElem?_eq_some_iff.1 hx).1; rw [hr r (List.mem_of_getElem? hi)] at this; exact this
 have hlt : i * k + j < rows.length * k:=by
  have : (i + 1) * k ≤ rows.length * k:=Nat.mul_le_mul_right k hil
  rw [Nat.add_mul] at this; omega
 rw [Nat.zero_add,h.cellAt _ hlt]
 exact flat_at hr hi hx
where
 flat_at {k : Nat} : ∀ {rows : List (List Value)} {i j : Nat} {r : List Value} {x : Value},(∀ r ∈ rows,r.length = k) → rows[i]? = some r → r[j]? = some x → rows.flatten[i * k + j]? = some x
  | [],i,j,r,x,_,hi,_ => by simp at hi
  | r0 :: rows,0,j,r,x,hr,hi,hx => by
   simp only [List.getElem?_cons_zero,Option.some.injEq] at hi
   subst hi
   have hj:=(List.getElem?_eq_some_iff.1 hx).1
   rw [List.flatten_cons,Nat.zero_mul,Nat.zero_add,List.getElem?_append_left hj]; exact hx
  | r0 :: rows,i + 1,j,r,x,hr,hi,hx => by
   have h0:=hr r0 (by simp)
   rw [List.flatten_cons,List.getElem?_append_right (by rw [h0,Nat.add_mul]; omega),h0]
   have : (i + 1) * k + j - k = i * k + j:=by rw [Nat.add_mul]; omega
   rw [this]
   exact flat_at (fun r h => hr r (by simp [h])) (by simpa using hi) hx
end
end Go.Oche

/- Rows of one's own, with elements of any size. -/
namespace Go.Oche
open Go Go.RowKit
theorem addr_at (b o j : Nat) : (⟨b,o,none⟩ : Addr).add j = ⟨b,o + j,none⟩ := by unfold Addr.add; split <;> simp_all
section
variable {W W' : World} {base base' n n' k k' : Nat} {e e' : TypeId} {v v' : Value} {xs xs' : List Value}
theorem ownsN_kept (h : W.ownsRow base e k v n xs) (hk : ∀ g,v.ownBlock = some g → W'.heap[g]? = W.heap[g]?) : W'.ownsRow base e k v n xs:=by
 refine ⟨h.1, ?_⟩
 rcases h.2 with h | ⟨g,cap,cur,rfl,h1,h2,h3⟩
 ·exact .inl h
 ·exact .inr ⟨g,cap,cur,rfl,h1,by rw [hk g (by simp [Value.ownBlock])]; exact h2,h3⟩
theorem ownsN_below (h : W.ownsRow base e k v n xs) (hb : Below W.heap.size W W') : W'.ownsRow base e k v n xs :=
 ownsN_kept h fun g hg => hb.block g (h.lt g hg).2
theorem ownsN_ne (h : W.ownsRow base e k v n xs) (h' : W.ownsRow base' e' k' v' n' xs') (he : e ≠ e') : v.ownBlock = none ∨ v.ownBlock ≠ v'.ownBlock:=by
 rcases h.2 with ⟨rfl,_⟩ | ⟨g,cap,cur,rfl,_,hg,_⟩
 ·exact .inl rfl
 ·right
  rcases h'.2 with ⟨rfl,_⟩ | ⟨g',cap',cur',rfl,_,hg',_⟩
  ·simp [Value.ownBlock]
  ·simp only [Value.ownBlock,ne_eq,Option.some.injEq]
   intro e2
   subst e2
   rw [hg] at hg'
   simp at hg'
   exact he hg'.2
theorem ownsN_ne_blk (h : W.ownsRow base e k v n xs) {q : Nat} {c : Array Value} {f : Nat × Nat} (hq : W.heap[q]? = some (.cells c e' f)) (he : e ≠ e') : v.ownBlock = none ∨ v.ownBlock ≠ some q:=by
 rcases h.2 with ⟨rfl,_⟩ | ⟨g,cap,cur,rfl,_,hg,_⟩
 ·exact .inl rfl
 ·right
  simp only [Value.ownBlock,ne_eq,Option.some.injEq]
  intro e2
  subst e2
  rw [hg] at hq
  simp at hq
  exact he hq.2.1
theorem owns_form (h : W.ownsRow base e k v n xs) : ∃ a c,v = .slice a n c:=by
 rcases h.2 with ⟨rfl,rfl⟩ | ⟨g,cap,cur,rfl,_⟩
 ·exact ⟨_,_,rfl⟩
 ·exact ⟨_,_,rfl⟩
theorem _root_.Go.World.ownsRow.form' {g c : Nat} (h : W.ownsRow base e k (.slice (some ⟨g,0,none⟩) n c) n xs) : n ≤ c ∧ c ≤ maxLen:=by
 rcases h.2 with ⟨h,_⟩ | ⟨g,cap,cur,h,_,_,h1,h2,_⟩
 ·cases h
 ·cases h; exact ⟨h1,h2⟩
theorem ownsN_alloc (h : W.ownsRow base e k v n xs) (ob : Obj) : (W.alloc ob).ownsRow base e k v n xs:=h.alloc ob
theorem ownsN_base (h : W.ownsRow base e k v n xs) (hb : base' ≤ base) : W.ownsRow base' e k v n xs:=by
 refine ⟨h.1, ?_⟩
 rcases h.2 with h | ⟨g,cap,cur,rfl,h1,h2⟩
 ·exact .inl h
 ·exact .inr ⟨g,cap,cur,rfl,by omega,h2⟩
end
end Go.Oche

/- Chapter 4: a game in memory: a table's block, the players' block. -/
namespace Go.Proofs.YtnhggfnnolfcdaaGreat
open Go.RowKit Go.Oche Go.Proofs

def plrRow (p : Plr) : List Value:=.int .i64 p.pts :: (p.mks.map (Value.int .i64) ++ [.bool p.kl])
def plsFlat (l : List Plr) : List Value:=(l.map plrRow).flatten
theorem plrRow_len {p : Plr} (h : p.mks.length = 7) : (plrRow p).length = 9:=by simp [plrRow,h]
def Sevens (l : List Plr) : Prop := ∀ p ∈ l,p.mks.length = 7
theorem plsFlat_len : ∀ {l : List Plr},Sevens l → (plsFlat l).length = 9 * l.length
 | [],_ => rfl
 | p :: l,h => by
  have:=plsFlat_len (l:=l) fun q hq => h q (by simp [hq])
  unfold plsFlat at *
  simp only [List.map_cons,List.flatten_cons,List.length_append,List.length_cons]
  rw [plrRow_len (h p (by simp)),this]; omega
theorem plsFlat_at : ∀ {l : List Plr} {i j : Nat} {x : Value} (_ : Sevens l) (hi : i < l.length),(plrRow l[i])[j]? = some x → (plsFlat l)[i * 9 + j]? = some x
 | p :: l,0,j,x,h,hi,hx => by
  unfold plsFlat
  simp only [List.map_cons,List.flatten_cons]
  rw [List.getElem?_append_left (by have:=(List.getElem?_eq_some_iff.1 hx).1; simpa using this)]
  simpa using hx
 | p :: l,i + 1,j,x,h,hi,hx => by
  have:=plsFlat_at (l:=l) (i:=i) (j:=j) (x:=x) (fun q hq => h q (by simp [hq])) (by simpa using hi) (by simpa using hx)
  unfold plsFlat at *
  simp only [List.map_cons,List.flatten_cons]
  rw [List.getElem?_append_right (by rw [plrRow_len (h p (by simp))]; omega),plrRow_len (h p (by simp))]
  rw [show (i + 1) * 9 + j - 9 = i * 9 + j by omega]; exact this
theorem plsFlat_set : ∀ {l : List Plr} {i j : Nat} {x : Value} {p : Plr} (_ : Sevens l) (hi : i < l.length),j < 9 → plrRow p = (plrRow l[i]).set j x → (plsFlat l).set (i * 9 + j) x = plsFlat (l.set i p)
 | q :: l,0,j,x,p,h,hi,hj,hx => by
  unfold plsFlat
  simp only [List.map_cons,List.flatten_cons,List.set_cons_zero]
  rw [List.set_append_left _ _ (by rw [plrRow_len (h q (by simp))]; omega),hx]
  simp
 | q :: l,i + 1,j,x,p,h,hi,hj,hx => by
  have:=plsFlat_set (l:=l) (i:=i) (j:=j) (x:=x) (p:=p) (fun q hq => h q (by simp [hq])) (by simpa using hi) hj (by simpa using hx)
  unfold plsFlat at *
  simp only [List.map_cons,List.flatten_cons,List.set_cons_succ]
  rw [List.set_append_right _ _ (by rw [plrRow_len (h q (by simp))]; omega),plrRow_len (h q (by simp))]
  rw [show (i + 1) * 9 + j - 9 = i * 9 + j by omega,this]
def PlsAt (w : World) (pb : Nat) (l : List Plr) : Prop:=Sevens l ∧ ∃ rest,w.heap[pb]? = some (.cells (plsFlat l ++ rest).toArray 80 (0,0))
section
variable {w w' : World} {pb : Nat} {l : List Plr}
theorem PlsAt.cell (h : PlsAt w pb l) {i j : Nat} {x : Value} (hi : i < l.length) (hx : (plrRow l[i])[j]? = some x) : w.cell? ⟨pb,i * 9 + j,none⟩ = some x:=by
 obtain ⟨h7,rest,hb⟩ := h
 rw [cell_of_heap hb]
 have:=plsFlat_at h7 hi hx
 simp only [List.getElem?_toArray]
 rw [List.getElem?_append_left (List.getElem?_eq_some_iff.1 this).1]; exact this
theorem PlsAt.pts (h : PlsAt w pb l) {i : Nat} (hi : i < l.length) : w.cell? ⟨pb,i * 9,none⟩ = some (.int .i64 l[i].pts):=h.cell (j:=0) hi rfl
theorem PlsAt.mark (h : PlsAt w pb l) {i k : Nat} (hi : i < l.length) (hk : k < 7) : w.cell? ⟨pb,i * 9 + 1 + k,none⟩ = some (.int .i64 (l[i].mks.getD k 0)):=by
 rw [Nat.add_assoc]
 refine h.cell hi ?_
 have h7:=h.1 _ (List.getElem_mem hi)
 unfold plrRow
 rw [show 1 + k = k + 1 by omega,List.getElem?_cons_succ,List.getElem?_append_left (by simp; omega)]
 simp [List.getElem?_eq_getElem (show k < l[i].mks.length by omega)]
theorem PlsAt.kl (h : PlsAt w pb l) {i : Nat} (hi : i < l.length) : w.cell? ⟨pb,i * 9 + 8,none⟩ = some (.bool l[i].kl):=by
 refine h.cell hi ?_
 have h7:=h.1 _ (List.getElem_mem hi)
 unfold plrRow
 rw [List.getElem?_cons_succ,List.getElem?_append_right (by simp; omega)]
 simp [h7]
theorem PlsAt.set (h : PlsAt w pb l) {i j : Nat} {x : Value} {p : Plr} (hi : i < l.length) (hj : j < 9) (hp : p.mks.length = 7) (hx : plrRow p = (plrRow l[i]).set j x) : PlsAt (w.setCell ⟨pb,i * 9 + j,none⟩ x) pb (l.set i p):=by
 obtain ⟨h7,rest,hb⟩ := h
 refine ⟨fun q hq => ?_,rest, ?_⟩
 ·rcases List.mem_or_eq_of_mem_set hq with e | rfl
  ·exact h7 q e
  ·exact hp
 ·rw [heap_setCell_at hb]
  congr 2
  rw [List.setIfInBounds_toArray,List.set_append_left _ _ (by rw [plsFlat_len h7]; omega),plsFlat_set h7 hi hj hx]
theorem PlsAt.setPts (h : PlsAt w pb l) {i : Nat} (hi : i < l.length) (x : Int) : PlsAt (w.setCell ⟨pb,i * 9,none⟩ (.int .i64 x)) pb (l.set i { l[i] with pts:=x }) :=
 h.set (j:=0) hi (by decide) (p:={ l[i] with pts:=x }) (h.1 l[i] (List.getElem_mem hi)) rfl
theorem PlsAt.setKl (h : PlsAt w pb l) {i : Nat} (hi : i < l.length) (x : Bool) : PlsAt (w.setCell ⟨pb,i * 9 + 8,none⟩ (.bool x)) pb (l.set i { l[i] with kl:=x }):=by
 have h7:=h.1 _ (List.getElem_mem hi)
 refine h.set (j:=8) hi (by decide) h7 ?_
 unfold plrRow
 rw [List.set_cons_succ,List.set_append_right _ _ (by simp; omega)]
 simp [h7]
theorem PlsAt.setMark (h : PlsAt w pb l) {i k : Nat} (hi : i < l.length) (hk : k < 7) (x : Int) : PlsAt (w.setCell ⟨pb,i * 9 + 1 + k,none⟩ (.int .i64 x)) pb (l.set i { l[i] with mks:=l[i].mks.set k x }):=by
 have h7:=h.1 _ (List.getElem_mem hi)
 rw [Nat.add_assoc]
 refine h.set (j:=1 + k) hi (by omega) (by simpa using h7) ?_
 unfold plrRow
 rw [show 1 + k = k + 1 by omega,List.set_cons_succ,List.set_append_left _ _ (by simp; omega)]
 simp
theorem PlsAt.keep (h : PlsAt w pb l) (hk : w'.heap[pb]? = w.heap[pb]?) : PlsAt w' pb l:=by obtain ⟨h7,rest,hb⟩ := h; exact ⟨h7,rest,hk.trans hb⟩
theorem PlsAt.lt (h : PlsAt w pb l) : pb < w.heap.size:=by obtain ⟨_,_,hb⟩ := h; exact (Array.getElem?_eq_some_iff.1 hb).1
theorem PlsAt.below (h : PlsAt w pb l) (hb : Below w.heap.size w w') : PlsAt w' pb l:=h.keep (hb.block pb h.lt)
theorem PlsAt.free (h : PlsAt w pb l) (j : Nat) : w.frozen? ⟨pb,j,none⟩ = false:=by obtain ⟨_,_,hb⟩ := h; exact frozen_of_heap hb
end

def rulA (r : Rul) (nv : Value) : Array Value:=#[.int .i64 r.kind,.int .i64 r.players,.int .i64 r.last,.bool r.bull,.bool r.jump,.int .i64 r.rounds,.bool r.cut,nv,.int .i64 r.lives,.bool r.own]
def lawT (r : Rul) : TypeId:=if r.kind = 1 then 110 else if r.kind = 2 then 111 else if r.kind = 3 then 112 else 113
def lawV (r : Rul) (nv : Value) : Value:=.iface (lawT r) (.agg (rulA r nv))
def hitB (g : Gam) (i : Nat) : Bool:=g.hit.getD i false
def tabA (r : Rul) (g : Gam) (pv wv nv : Value) : Array Value :=
 #[.int .i64 g.round,.int .i64 g.player,.int .i64 g.darts,pv,wv,lawV r nv,.int .i64 r.kind,.int .i64 r.players,.int .i64 r.last,.bool r.bull,.bool r.jump,.int .i64 r.rounds,.bool r.cut,nv,.int .i64 r.lives,.bool r.own,
  .bool (hitB g 0),.bool (hitB g 1),.bool (hitB g 2),.bool (hitB g 3),.bool (hitB g 4)]
def TO (t pb : Nat) : Nat → Prop:=fun q => q = t ∨ q = pb
def WS (t pb : Nat) : Nat → Prop:=fun q => t < q ∧ q ≠ pb
structure TabAt (w : World) (t pb : Nat) (r : Rul) (g : Gam) (cap : Nat) (wv nv : Value) : Prop where
 box : w.heap[t]? = some (.cells (tabA r g (.slice (some ⟨pb,0,none⟩) g.pls.length cap) wv nv) 69 (0,0))
 pls : PlsAt w pb g.pls
 win : Sl (WS t pb) w wv (ints g.win)
 num : Sl (fun q => ¬ TO t pb q) w nv (ints r.nums)
 ne : t ≠ pb
 cap : g.pls.length ≤ cap ∧ cap ≤ 9223372036854775807
section
variable {w w' : World} {t pb cap : Nat} {r : Rul} {g : Gam} {wv nv : Value}
theorem TabAt.lt (h : TabAt w t pb r g cap wv nv) : ∀ q,TO t pb q → q < w.heap.size:=by
 rintro q (rfl | rfl)
 ·exact (Array.getElem?_eq_some_iff.1 h.box).1
 ·exact h.pls.lt
theorem TabAt.below (h : TabAt w t pb r g cap wv nv) (hb : Below w.heap.size w w') : TabAt w' t pb r g cap wv nv :=
 ⟨(hb.block t (h.lt t (.inl rfl))).trans h.box,h.pls.below hb,h.win.below hb,h.num.below hb,h.ne,h.cap⟩
theorem TabAt.free (h : TabAt w t pb r g cap wv nv) (j : Nat) : w.frozen? ⟨t,j,none⟩ = false:=frozen_of_heap h.box
theorem TabAt.rel (h : TabAt w t pb r g cap wv nv) {O O' : Nat → Prop} (hr : Rel O w O' w') (hO : ∀ q,TO t pb q → ¬ O q) (hS : ∀ q,O q → TO t pb q ∨ w.heap.size ≤ q) : TabAt w' t pb r g cap wv nv:=by
 have hlt : ∀ {v : Value} {l : List Value},Sl (fun q => ¬ TO t pb q) w v l → Sl (fun q => ¬ TO t pb q) w' v l:=fun hs =>
  (hs.lt.rel hr fun k ⟨h1,h2⟩ h3 => by rcases hS k h3 with h4 | h4; exact h1 h4; omega).mono fun k hk => hk.1
 have hltw : Sl (WS t pb) w' wv (ints g.win) :=
  (h.win.lt.rel hr fun k ⟨h1,h2⟩ h3 => by rcases hS k h3 with h4 | h4; rcases h4 with h4 | h4; exact absurd h1.1 (by omega); exact h1.2 h4; omega).mono fun k hk => hk.1
 exact ⟨(hr.block t (h.lt t (.inl rfl)) (hO t (.inl rfl))).trans h.box,h.pls.keep (hr.block pb (h.lt pb (.inr rfl)) (hO pb (.inr rfl))),hltw,hlt h.num,h.ne,h.cap⟩
theorem TabAt.at_ (h : TabAt w t pb r g cap wv nv) {j : Nat} {v : Value} (hj : (tabA r g (.slice (some ⟨pb,0,none⟩) g.pls.length cap) wv nv)[j]? = some v) : w.cell? ⟨t,j,none⟩ = some v:=by
 rw [cell_of_heap h.box]; exact hj
theorem sl_set {S : Nat → Prop} {v : Value} {l : List Value} (h : Sl S w v l) {p : Addr} (x : Value) (hp : ∀ q,S q → q ≠ p.block) : Sl S (w.setCell p x) v l :=
 h.cells fun b _ hb _ => World.cell?_of_block (w:=w) (Below.heap_setCell _ _ _ _ (hp b hb))
theorem PlsAt.other {l : List Plr} (h : PlsAt w pb l) {p : Addr} (x : Value) (hp : p.block ≠ pb) : PlsAt (w.setCell p x) pb l:=h.keep (Below.heap_setCell _ _ _ _ hp.symm)
theorem TabAt.setT (h : TabAt w t pb r g cap wv nv) {j : Nat} {x : Value} {g' : Gam} (hA : (tabA r g (.slice (some ⟨pb,0,none⟩) g.pls.length cap) wv nv).setIfInBounds j x = tabA r g' (.slice (some ⟨pb,0,none⟩) g.pls.length cap) wv nv) (hp : g'.pls = g.pls) (hw : g'.win = g.win) :
  TabAt (w.setCell ⟨t,j,none⟩ x) t pb r g' cap wv nv :=
 ⟨by rw [heap_setCell_at h.box,hA,hp],by rw [hp]; exact h.pls.other x h.ne,by rw [hw]; exact sl_set h.win x (fun q hq e => absurd hq.1 (by dsimp only at e; omega)),sl_set h.num x (fun q hq e => hq (.inl e)),h.ne,by rw [hp]; exact h.cap⟩
theorem TabAt.setWin (h : TabAt w t pb r g cap wv nv) {x : Value} {l : List Int} (hx : Sl (WS t pb) w x (ints l)) : TabAt (w.setCell ⟨t,4,none⟩ x) t pb r { g with win:=l } cap x nv :=
 ⟨by rw [heap_setCell_at h.box]; rfl,h.pls.other x h.ne,sl_set hx x (fun q hq e => absurd hq.1 (by dsimp only at e; omega)),sl_set h.num x (fun q hq e => hq (.inl e)),h.ne,h.cap⟩
theorem TabAt.setDarts (h : TabAt w t pb r g cap wv nv) (d : Nat) : TabAt (w.setCell ⟨t,2,none⟩ (.int .i64 d)) t pb r { g with darts:=d } cap wv nv:=h.setT rfl rfl rfl
theorem TabAt.setRound (h : TabAt w t pb r g cap wv nv) (d : Nat) : TabAt (w.setCell ⟨t,0,none⟩ (.int .i64 d)) t pb r { g with round:=d } cap wv nv:=h.setT rfl rfl rfl
theorem TabAt.setPlayer (h : TabAt w t pb r g cap wv nv) (d : Nat) : TabAt (w.setCell ⟨t,1,none⟩ (.int .i64 d)) t pb r { g with player:=d } cap wv nv:=h.setT rfl rfl rfl
theorem TabAt.setP (h : TabAt w t pb r g cap wv nv) {i : Nat} {o : Nat} {x : Value} {p : Plr} (hP : PlsAt (w.setCell ⟨pb,o,none⟩ x) pb (g.pls.set i p)) : TabAt (w.setCell ⟨pb,o,none⟩ x) t pb r (setP g i p) cap wv nv :=
 ⟨by rw [setP_len]; exact (Below.heap_setCell _ _ _ _ h.ne).trans h.box,hP,sl_set h.win x (fun q hq e => hq.2 e),sl_set h.num x (fun q hq e => hq (.inr e)),h.ne,by rw [setP_len]; exact h.cap⟩
theorem plr_at {p : Nat} (hp : p < g.pls.length) : g.pls[p] = plr g p:=by unfold plr; rw [getD_of hp]
theorem TabAt.setPts (h : TabAt w t pb r g cap wv nv) {i : Nat} (hi : i < g.pls.length) (x : Int) : TabAt (w.setCell ⟨pb,i * 9,none⟩ (.int .i64 x)) t pb r (Go.Proofs.YtnhggfnnolfcdaaGreat.setP g i { plr g i with pts:=x }) cap wv nv:=by
 rw [← plr_at hi]; exact h.setP (h.pls.setPts hi x)
theorem TabAt.setKl (h : TabAt w t pb r g cap wv nv) {i : Nat} (hi : i < g.pls.length) (x : Bool) : TabAt (w.setCell ⟨pb,i * 9 + 8,none⟩ (.bool x)) t pb r (Go.Proofs.YtnhggfnnolfcdaaGreat.setP g i { plr g i with kl:=x }) cap wv nv:=by
 rw [← plr_at hi]; exact h.setP (h.pls.setKl hi x)
theorem TabAt.setMark (h : TabAt w t pb r g cap wv nv) {i k : Nat} (hi : i < g.pls.length) (hk : k < 7) (x : Int) : TabAt (w.setCell ⟨pb,i * 9 + 1 + k,none⟩ (.int .i64 x)) t pb r (Go.Proofs.YtnhggfnnolfcdaaGreat.setP g i { plr g i with mks:=(plr g i).mks.set k x }) cap wv nv:=by
 rw [← plr_at hi]; exact h.setP (h.pls.setMark hi hk x)
end
end Go.Proofs.YtnhggfnnolfcdaaGreat

/- Chapter 4: small methods of a table: isOut, now, isOver. -/
namespace Go.Proofs.YtnhggfnnolfcdaaGreat
open Go.RowKit Go.Oche Go.Proofs
set_option maxRecDepth 100000 in
set_option maxHeartbeats 1000000 in
theorem isOut_any (t pb p cap : Nat) (r : Rul) (g : Gam) (wv nv : Value) (w : World) (h : TabAt w t pb r g cap wv nv) (hp : p < g.pls.length) :
  Calls Tryz.prog 52 #[.pointer (some ⟨t,0,none⟩),.int .i64 p] w fun e w' => e = .returned (.bool (isOutG r g p)) ∧ w = w':=by
 have c6 : w.cell? ⟨t,6,none⟩ = some (.int .i64 r.kind):=h.at_ rfl
 have c3 : w.cell? ⟨t,3,none⟩ = some (.slice (some ⟨pb,0,none⟩) g.pls.length cap):=h.at_ rfl
 have cp : w.cell? ⟨pb,p * 9,none⟩ = some (.int .i64 (plr g p).pts):=by rw [← plr_at hp]; exact h.pls.pts hp
 have hcap:=h.cap
 obtain ⟨b,hb⟩ : ∃ b,isOutG r g p = b:=⟨_,rfl⟩
 rw [hb]
 unfold isOutG at hb
 by_cases hk : r.kind = 4
 ·have e4 : (r.kind == 4) = true:=by simp [hk]
  rw [e4,Bool.true_and] at hb
  have HB:=Lib.hid hb
  clear hb hk
  go_enter Tryz.func52,Tryz.ntmps52
  go_wp2
  go_ret
  exact ⟨ret_bool (by rw [← HB.out]),rfl⟩
 ·have e4 : (r.kind == 4) = false:=by simp [hk]
  rw [e4,Bool.false_and] at hb
  have HB:=Lib.hid hb
  clear hb hk
  go_enter Tryz.func52,Tryz.ntmps52
  go_wp2
  go_ret
  exact ⟨ret_bool (by rw [← HB.out]),rfl⟩
set_option maxRecDepth 100000 in
set_option maxHeartbeats 1000000 in
theorem now_any (t pb cap : Nat) (r : Rul) (g : Gam) (wv nv : Value) (w : World) (h : TabAt w t pb r g cap wv nv) (hp : g.player < g.pls.length) :
  Calls Tryz.prog 104 #[.pointer (some ⟨t,0,none⟩)] w fun e w' => e = .returned (.pointer (some ⟨pb,g.player * 9,none⟩)) ∧ ∃ n,w' = w.drewN n:=by
 have c1 : w.cell? ⟨t,1,none⟩ = some (.int .i64 g.player):=h.at_ rfl
 have c3 : w.cell? ⟨t,3,none⟩ = some (.slice (some ⟨pb,0,none⟩) g.pls.length cap):=h.at_ rfl
 have hcap:=h.cap
 go_enter Tryz.func104,Tryz.ntmps104
 go_wp2
 go_quiet (fail)
 go_wp2
 go_ret
 exact ⟨rfl,_,rfl⟩
set_option maxRecDepth 100000 in
set_option maxHeartbeats 1000000 in
theorem isOver_any (t pb cap : Nat) (r : Rul) (g : Gam) (wv nv : Value) (w : World) (h : TabAt w t pb r g cap wv nv) :
  Calls Tryz.prog 30 #[.pointer (some ⟨t,0,none⟩)] w fun e w' => e = .returned (.bool (!g.win.isEmpty)) ∧ w = w':=by
 have c4 : w.cell? ⟨t,4,none⟩ = some wv:=h.at_ rfl
 obtain ⟨a,cp,hv,h2,h3⟩ := h.win.form
 rw [ints_length] at *
 rw [hv] at c4
 unfold maxLen at h3
 clear hv
 have e : decide (0 < g.win.length) = !g.win.isEmpty:=by cases g.win <;> simp
 have E:=Lib.hid e
 clear e
 go_enter Tryz.func30,Tryz.ntmps30
 go_wp2
 go_ret
 exact ⟨ret_bool E.out,rfl⟩
end Go.Proofs.YtnhggfnnolfcdaaGreat
