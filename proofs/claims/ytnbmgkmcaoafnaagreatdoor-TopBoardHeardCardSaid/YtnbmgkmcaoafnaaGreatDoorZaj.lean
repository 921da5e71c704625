/- The texts VK, VL, KM, HA, HB, HG, HC, in build order. -/
import Derived.Test.YtnbmgkmcaoafnaaGreatDoorZai
import Derived.Handy
import Derived.Deep.DeepCutAuto
import Derived.Deep.CutRange
import Derived.Deep.MidRow
import Derived.Lib.MinMax

/- Chapter 5, in plain Lean: what the maps of steps hold, and the spans of their keys. -/
namespace Go.Proofs.YtnbmgkmcaoafnaaGreatDoor
open Go.RowKit Go.Oche Go.Proofs

theorem agg_cons {κ : Type} [DecidableEq κ] (a : κ) (d : Nat) (l : List (κ × Nat)) (x : κ) : agg ((a,d) :: l) x = addO (if a = x then some (Sm.one d) else none) (agg l x):=rfl
def aggP (st : List Sp) : Std × Std → Option Sm:=agg (st.map fun s => ((s.bef,s.aft),s.darts))
theorem aggP_append (a b : List Sp) (k : Std × Std) : aggP (a ++ b) k = addO (aggP a k) (aggP b k):=by unfold aggP; rw [List.map_append,agg_append]
theorem aggP_some {st : List Sp} {k : Std × Std} : (aggP st k).isSome = true ↔ ∃ s ∈ st,s.bef = k.1 ∧ s.aft = k.2:=by
 unfold aggP;rw [agg_some];constructor
 ·rintro ⟨p,hp,rfl⟩
  obtain ⟨s,hs,rfl⟩ := List.mem_map.1 hp;exact ⟨s,hs,rfl,rfl⟩
 ·rintro ⟨s,hs,h1,h2⟩
  exact ⟨_,List.mem_map_of_mem hs,by rw [← Prod.eta k,← h1,← h2]⟩
def fromS (l : Lg) (said : Int → List Rp) (t : Int) (s : Std) : List Sp:=((vis5 l s).filter fun p => (p.1.won == (l.won && (t == l.turns - 1))) && fitsP s p.1 (said t)).map fun p => ⟨s,p.1,p.2⟩
theorem stepL_from (l : Lg) (said : Int → List Rp) (t : Int) (now : List Std) : stepL l said t now = now.flatMap (fromS l said t):=rfl
def enOf (b : Std) (won : Bool) : En:=⟨b.left,b.inn,false,won⟩
theorem aggP_from (l : Lg) (said : Int → List Rp) (t : Int) (s : Std) (k : Std × Std) :
  aggP (fromS l said t s) k = if s = k.1 ∧ fitsP s (enOf k.2 (l.won && (t == l.turns - 1))) (said t) = true then agg (vis5 l s) (enOf k.2 (l.won && (t == l.turns - 1))) else none:=by
 obtain ⟨last,hl⟩ : ∃ b,(l.won && (t == l.turns - 1)) = b:=⟨_,rfl⟩;unfold aggP fromS;rw [hl];have key : ∀ L : List (En × Nat),(∀ p ∈ L,p.1.bust = false) →
   agg (((L.filter fun p => (p.1.won == last) && fitsP s p.1 (said t)).map fun p => (⟨s,p.1,p.2⟩ : Sp)).map fun s => ((s.bef,s.aft),s.darts)) k = if s = k.1 ∧ fitsP s (enOf k.2 last) (said t) = true then agg L (enOf k.2 last) else none:=by
  intro L
  induction L with
  | nil => intro _; simp [agg]
  | cons p L ih =>
   intro h
   have ih:=ih fun q hq => h q (by simp [hq])
   have hb:=h p (by simp)
   obtain ⟨x,d⟩ := p;simp only at hb;by_cases c : ((x.won == last) && fitsP s x (said t)) = true
   ·rw [List.filter_cons_of_pos (by simpa using c),List.map_cons,List.map_cons,agg_cons,ih]
    rw [Bool.and_eq_true,beq_iff_eq] at c;show addO (if (s,x.std) = k then some (Sm.one d) else none) _ = _
    by_cases e1 : s = k.1
    ·by_cases e2 : x = enOf k.2 last
     ·have e3 : (s,x.std) = k:=by rw [e2]; exact Prod.ext e1 rfl
      rw [if_pos e3,← e2,if_pos ⟨e1,c.2⟩,if_pos ⟨e1,c.2⟩,agg_cons,if_pos rfl]
     ·have e3 : ¬ (s,x.std) = k:=fun q => e2 (by
       have : x.std = k.2:=by rw [← q]
       rw [← this]; unfold enOf En.std;cases x; simp at hb c ⊢; simp [hb,c.1])
      rw [if_neg e3,none_addO,agg_cons,if_neg e2,none_addO]
    ·have e3 : ¬ (s,x.std) = k:=fun q => e1 (by rw [← q])
     rw [if_neg e3,none_addO];simp [e1]
   ·rw [List.filter_cons_of_neg (by simpa using c),ih]
    by_cases e2 : x = enOf k.2 last
    ·have c2 : ¬ fitsP s (enOf k.2 last) (said t) = true:=fun q => c (by rw [e2,q]; simp [enOf])
     simp [c2]
    ·rw [agg_cons,if_neg e2,none_addO]
 exact key _ fun p hp => vis_bust l hp
theorem aggP_step (l : Lg) (said : Int → List Rp) (t : Int) (k : Std × Std) : ∀ {now : List Std},now.Nodup →
  aggP (stepL l said t now) k = if k.1 ∈ now ∧ fitsP k.1 (enOf k.2 (l.won && (t == l.turns - 1))) (said t) = true then agg (vis5 l k.1) (enOf k.2 (l.won && (t == l.turns - 1))) else none
 | [],_ => by simp [stepL,aggP,agg]
 | s :: now,hn => by
  rw [List.nodup_cons] at hn;have ih:=aggP_step l said t k hn.2;rw [stepL_from] at ih ⊢;rw [List.flatMap_cons,aggP_append,ih,aggP_from];by_cases e : s = k.1
  ·subst e
   have h1:=hn.1;by_cases f : fitsP k.1 (enOf k.2 (l.won && (t == l.turns - 1))) (said t) = true
   ·simp [h1,f]
   ·simp [f]
  ·have e' : ¬ k.1 = s:=fun q => e q.symm
   simp [e,e']
theorem aggP_filter (st : List Sp) (f : Std → Bool) (k : Std × Std) : aggP (st.filter fun s => f s.aft) k = if f k.2 = true then aggP st k else none:=by
 unfold aggP
 induction st with
 | nil => simp [agg]
 | cons s st ih =>
  by_cases h : f s.aft = true
  ·rw [List.filter_cons_of_pos (p:=fun s : Sp => f s.aft) h,List.map_cons,agg_cons,ih,List.map_cons,agg_cons]
   by_cases e : (s.bef,s.aft) = k
   ·have e2 : f k.2 = true:=by rw [← e]; exact h
    simp [e,e2]
   ·rw [if_neg e,none_addO,none_addO]
  ·rw [List.filter_cons_of_neg (p:=fun s : Sp => f s.aft) h,ih,List.map_cons,agg_cons]
   by_cases e : (s.bef,s.aft) = k
   ·have e2 : ¬ f k.2 = true:=by rw [← e]; exact h
    simp [e2]
   ·rw [if_neg e,none_addO]
theorem trL_keys {st : List Sp} {ks : List (Std × Std)} (hk : ∀ k,k ∈ ks ↔ (aggP st k).isSome = true) {a b : Int × Int} (ha : IsSpan a (ks.map fun k => k.1.left - k.2.left)) (hb : IsSpan b (ks.map fun k => k.2.left)) : (trL st).score = a ∧ (trL st).left = b:=by
 have hne : st ≠ []:=by
  rintro rfl;obtain ⟨k,hk',_⟩ := List.mem_map.1 ha.1;have:=(hk k).1 hk';simp [aggP,agg] at this
 have mem : ∀ (f : Std → Std → Int) (x : Int),x ∈ st.map (fun s => f s.bef s.aft) ↔ x ∈ ks.map fun k => f k.1 k.2:=fun f x => by
  rw [List.mem_map,List.mem_map];constructor
  ·rintro ⟨s,hs,rfl⟩
   exact ⟨(s.bef,s.aft),(hk _).2 (aggP_some.2 ⟨s,hs,rfl,rfl⟩),rfl⟩
  ·rintro ⟨k,hk',rfl⟩
   obtain ⟨s,hs,h1,h2⟩ := aggP_some.1 ((hk k).1 hk');exact ⟨s,hs,by rw [h1,h2]⟩
 constructor
 ·exact IsSpan.unique (spanL_is (by simpa using hne)) (ha.congr fun x => (mem (fun p q => p.left - q.left) x).symm)
 ·exact IsSpan.unique (spanL_is (by simpa using hne)) (hb.congr fun x => (mem (fun _ q => q.left) x).symm)
theorem trL_darts {st : List Sp} {ks : List (Std × Std)} (hk : ∀ k,k ∈ ks ↔ (aggP st k).isSome = true) {c : Int × Int} (hc1 : ∃ k ∈ ks, ∃ s,aggP st k = some s ∧ c.1 = s.lo) (hc2 : ∃ k ∈ ks, ∃ s,aggP st k = some s ∧ c.2 = s.hi) (hc : ∀ k ∈ ks, ∀ s,aggP st k = some s → c.1 ≤ s.lo ∧ (s.hi : Int) ≤ c.2) : (trL st).darts = c:=by
 obtain ⟨k1,m1,s1,a1,e1⟩ := hc1;obtain ⟨k2,m2,s2,a2,e2⟩ := hc2;have b1:=(agg_bounds a1).2.1;have b2:=(agg_bounds a2).2.2;have pull : ∀ {k : Std × Std} {v : Nat},(∃ p ∈ st.map (fun s => ((s.bef,s.aft),s.darts)),p.1 = k ∧ p.2 = v) → ∃ s ∈ st,(s.bef,s.aft) = k ∧ s.darts = v:=by
  rintro k v ⟨p,hp,h1,h2⟩;obtain ⟨s,hs,rfl⟩ := List.mem_map.1 hp;exact ⟨s,hs,h1,h2⟩
 obtain ⟨x,hx, -,hx2⟩ := pull b1;obtain ⟨y,hy, -,hy2⟩ := pull b2;have hne : st ≠ []:=fun e => by rw [e] at hx; cases hx
 refine IsSpan.unique (spanL_is (by simpa using hne)) ⟨List.mem_map.2 ⟨x,hx,by rw [e1,hx2]⟩,List.mem_map.2 ⟨y,hy,by rw [e2,hy2]⟩,fun z hz => ?_⟩
 obtain ⟨s,hs,rfl⟩ := List.mem_map.1 hz;obtain ⟨m,hm⟩ := Option.isSome_iff_exists.1 (aggP_some.2 ⟨s,hs,rfl,rfl⟩ : (aggP st (s.bef,s.aft)).isSome = true);have h1:=hc _ ((hk _).2 (by rw [hm]; rfl)) m hm
 have h2:=(agg_bounds hm).1 _ (List.mem_map_of_mem hs) rfl;simp only at h2 ⊢;omega
open Go.RowKit Go.Oche Go.Proofs

def SmB (n d : Nat) (o : Option Sm) : Prop := ∀ t,o = some t → t.ways ≤ n ∧ t.lo ≤ d ∧ t.hi ≤ d
theorem SmB.none {n d : Nat} : SmB n d none:=fun _ h => by cases h
theorem SmB.le {n m d : Nat} {o : Option Sm} (h : SmB n d o) (hm : n ≤ m) : SmB m d o:=fun t ht => ⟨Nat.le_trans (h t ht).1 hm,(h t ht).2⟩
theorem SmB.le2 {n d e : Nat} {o : Option Sm} (h : SmB n d o) (hm : d ≤ e) : SmB n e o:=fun t ht => ⟨(h t ht).1,Nat.le_trans (h t ht).2.1 hm,Nat.le_trans (h t ht).2.2 hm⟩
theorem SmB.add {n m d : Nat} {a b : Option Sm} (h : SmB n d a) (h' : SmB m d b) : SmB (n + m) d (addO a b):=by
 cases a with
 | none => rw [none_addO]; exact h'.le (by omega)
 | some x =>
  cases b with
  | none => rw [addO_none]; exact h.le (by omega)
  | some y =>
   intro t ht
   cases ht;have h1:=h x rfl;have h2:=h' y rfl;simp only [Sm.add]; omega
theorem SmB.scale {n d : Nat} {a : Option Sm} (h : SmB n d a) (k : Nat) : SmB (n * k) d (a.map (Sm.scale · k)):=by
 cases a with
 | none => exact SmB.none
 | some x => intro t ht; cases ht; have:=h x rfl; exact ⟨Nat.mul_le_mul_right k this.1,this.2⟩
theorem SmB.shift {n d : Nat} {a : Option Sm} (h : SmB n d a) (k : Nat) : SmB n (d + k) (a.map (Sm.shift · k)):=by
 cases a with
 | none => exact SmB.none
 | some x => intro t ht; cases ht; have:=h x rfl; simp only [Sm.shift]; omega
theorem SmB.ite {n d : Nat} {a : Option Sm} (h : SmB n d a) (p : Prop) [Decidable p] : SmB n d (if p then a else .none):=by split; exact h; exact SmB.none
theorem agg_b {κ : Type} [DecidableEq κ] {B : List (κ × Nat)} {d : Nat} (h : ∀ p ∈ B,p.2 ≤ d) (x : κ) : SmB B.length d (agg B x):=fun t ht => by
 have h1:=agg_ways ht;obtain ⟨-,⟨a,ha, -,ea⟩,⟨b,hb, -,eb⟩⟩ := agg_bounds ht;have h2:=h a ha;have h3:=h b hb;omega
theorem aggF_b {κ ι : Type} [DecidableEq κ] [DecidableEq ι] {B : List (κ × Nat)} {d : Nat} (h : ∀ p ∈ B,p.2 ≤ d) (f : κ → ι) (y : ι) : ∀ ks,SmB (ks.length * B.length) d (aggF B f ks y)
 | [] => SmB.none
 | x :: ks => by
  rw [aggF,List.length_cons,Nat.succ_mul];exact (aggF_b h f y ks).add ((agg_b h x).ite _)
theorem from_b (l : Lg) (k : Nat) (s : Std) (x : En) : SmB ((l.beds.length + 1) ^ k) k (agg (from5 l k s) x):=(agg_b (from_darts l k s) x).le (from_len l k s)
theorem con_b (l : Lg) (k : Nat) (s : Std) (h : Ht) (x : En) : SmB ((l.beds.length + 1) ^ k) (k + 1) (agg (con5 l k s h) x):=by
 cases hg : (dart5 l s h).2
 ·rw [con5_ends hg]
  intro t ht
  split at ht
  ·cases ht
   have:=Nat.one_le_pow k (l.beds.length + 1) (by omega)
   simp [Sm.one]; omega
  ·cases ht
 ·rw [con5_goes hg]; exact (from_b l k _ x).shift 1
theorem aggH_b (l : Lg) (k : Nat) (s : Std) (x : En) : ∀ hs,SmB (hs.length * (l.beds.length + 1) ^ (k + 1)) (k + 1) (aggH l k s hs x)
 | [] => SmB.none
 | h :: hs => by
  rw [aggH,List.length_cons,Nat.succ_mul];refine (aggH_b l k s x hs).add (((con_b l k s h x).scale _).le ?_)
  rw [Nat.pow_succ];refine Nat.mul_le_mul_left _ ?_
  rw [← hits_len]; exact List.count_le_length
def aggG (B : List (En × Nat)) (m : Nat) (xs : List En) (x : En) : Option Sm:=if x ∈ xs then ((agg B x).map (Sm.shift · 1)).map (Sm.scale · m) else none
theorem aggG_nil (B : List (En × Nat)) (m : Nat) (x : En) : aggG B m [] x = none:=by simp [aggG]
theorem aggG_snoc {B : List (En × Nat)} {m : Nat} {xs : List En} {y : En} (hn : y ∉ xs) {t : Sm} (ht : agg B y = some t) (x : En) :
  aggG B m (xs ++ [y]) x = if x = y then addO (aggG B m xs y) (some ((t.scale m).shift 1)) else aggG B m xs x:=by
 unfold aggG;by_cases e : x = y
 ·subst e
  simp [hn,ht,Sm.scale,Sm.shift]
 ·simp [e]
theorem aggG_all {B : List (En × Nat)} {m : Nat} {xs : List En} (hm : ∀ x,x ∈ xs ↔ (agg B x).isSome = true) (x : En) : aggG B m xs x = ((agg B x).map (Sm.shift · 1)).map (Sm.scale · m):=by
 unfold aggG;by_cases h : x ∈ xs
 ·rw [if_pos h]
 ·rw [if_neg h]
  have : agg B x = none:=by
   cases e : agg B x with
   | none => rfl
   | some t => exact (h ((hm x).2 (by rw [e]; rfl))).elim
  rw [this]; rfl
theorem aggG_b {B : List (En × Nat)} {d : Nat} (h : ∀ p ∈ B,p.2 ≤ d) (m : Nat) (xs : List En) (x : En) : SmB (B.length * m) (d + 1) (aggG B m xs x):=(((agg_b h x).shift 1).scale m).ite _
open Go Go.RowKit Go.Oche Go.Proofs

def HoldsM {κ : Type} [DecidableEq κ] (enc : κ → Value) (W : World) (b : Nat) (f : κ → Option Value) : Prop :=
 ∃ L,MapAt enc W b L ∧ (L.map (·.1)).Nodup ∧ ∀ k,lookM L k = f k
def EndsAt (W : World) (b : Nat) (f : En → Option Sm) : Prop:=HoldsM enV W b fun x => (f x).map smV
def KnownAt (l : Lg) (F : Nat → Prop) (W : World) (kb : Nat) : Prop :=
 ∃ L,MapAt atV W kb L ∧ (L.map (·.1)).Nodup ∧ ∀ p ∈ L, ∃ b,p.2 = .map (some b) ∧ ¬ F b ∧ EndsAt W b (agg (from5 l p.1.2 p.1.1))
structure Chg (O : Nat → Prop) (W W' : World) : Prop where
 os : W'.os = W.os
 tape : W'.tape = W.tape
 output : W'.output = W.output
 size : W.heap.size ≤ W'.heap.size
 block : ∀ q,q < W.heap.size → ¬ O q → W'.heap[q]? = W.heap[q]?
section
variable {O O' : Nat → Prop} {W W' W'' : World}
theorem Chg.refl : Chg O W W:=⟨rfl,rfl,rfl,Nat.le_refl _,fun _ _ _ => rfl⟩
theorem Chg.trans (h : Chg O W W') (h' : Chg O W' W'') : Chg O W W'':=⟨h'.os.trans h.os,h'.tape.trans h.tape,h'.output.trans h.output,Nat.le_trans h.size h'.size,fun q hq ho => (h'.block q (Nat.lt_of_lt_of_le hq h.size) ho).trans (h.block q hq ho)⟩
theorem Chg.below (h : Below W.heap.size W W') : Chg O W W':=⟨h.os,h.tape,h.output,h.size,fun q hq _ => h.block q hq⟩
theorem Chg.grown {o : Option Nat} (h : W.grownBy W' o) (hO : ∀ x,o = some x → x < W.heap.size → O x) : Chg O W W':=⟨h.os,h.tape,h.output,h.size,fun q hq hn => h.block q hq fun e => hn (hO q e.symm hq)⟩
theorem Chg.mono (h : Chg O W W') (hO : ∀ q,q < W.heap.size → O q → O' q) : Chg O' W W':=⟨h.os,h.tape,h.output,h.size,fun q hq hn => h.block q hq fun ho => hn (hO q hq ho)⟩
theorem Chg.toGrown {k : Nat} (h : Chg O W W') (hO : ∀ q,q < W.heap.size → O q → q = k) : W.grownBy W' (some k):=⟨h.os,h.tape,h.output,h.size,fun q hq hn => h.block q hq fun ho => hn (by rw [hO q hq ho])⟩
theorem Chg.toBelow (h : Chg O W W') (hO : ∀ q,q < W.heap.size → ¬ O q) : Below W.heap.size W W':=⟨h.os,h.tape,h.output,h.size,fun q hq => h.block q hq (hO q hq)⟩
end
def seenN (W : World) (r : Nat) : Nat:=match W.heap[r]? with
 | some (.mapIter _ _ seen _) => seen.size
 | _ => 0
theorem SeenD.count {κ : Type} {enc : κ → Value} {W : World} {r b : Nat} {L0 L : List (κ × Value)} {ks : List κ} (h : SeenD enc W r b L0 L ks) : seenN W r = ks.length:=by
 obtain ⟨es0,es,c,since,c0,s,q,h1,h2,h3,h4,h5,h6,h7,h8,h9,h10,h11,h12,_⟩ := h;unfold seenN;rw [h2];have e1:=congrArg List.length h11;have e2:=congrArg List.length h12;simp at e1 e2;simp only; omega
section
variable {κ : Type} [DecidableEq κ] {enc : κ → Value} {W W' : World} {b : Nat} {f g : κ → Option Value}
theorem HoldsM.keep (h : HoldsM enc W b f) (hb : W'.heap[b]? = W.heap[b]?) : HoldsM enc W' b f:=by
 obtain ⟨L,h1,h2⟩ := h; exact ⟨L,h1.keep hb,h2⟩
theorem HoldsM.lt (h : HoldsM enc W b f) : b < W.heap.size:=by
 obtain ⟨L,⟨es,c,h1,_⟩,_⟩ := h; exact (Array.getElem?_eq_some_iff.1 h1).1
theorem HoldsM.grown (h : HoldsM enc W b f) {o : Option Nat} (hg : W.grownBy W' o) (hne : some b ≠ o) : HoldsM enc W' b f:=h.keep (hg.block b h.lt hne)
theorem HoldsM.below (h : HoldsM enc W b f) (hb : Below W.heap.size W W') : HoldsM enc W' b f:=h.keep (hb.block b h.lt)
theorem HoldsM.congr (h : HoldsM enc W b f) (e : ∀ k,f k = g k) : HoldsM enc W b g:=by
 obtain ⟨L,h1,h2,h3⟩ := h; exact ⟨L,h1,h2,fun k => by rw [h3,e]⟩
theorem HoldsM.made (W : World) : HoldsM enc (W.alloc (.map #[] 0)) W.heap.size fun _ => none:=⟨[],MapAt.made enc W,List.nodup_nil,fun _ => rfl⟩
theorem lookM_mem {L : List (κ × Value)} {k : κ} {v : Value} (h : lookM L k = some v) : (k,v) ∈ L:=by
 unfold lookM at h;obtain ⟨p,hp,rfl⟩ := Option.map_eq_some_iff.1 h;have h1:=List.mem_of_find?_eq_some hp
 have h2:=List.find?_some hp
 rw [decide_eq_true_eq] at h2;rw [← h2]; exact h1
theorem mem_lookM {L : List (κ × Value)} (hn : (L.map (·.1)).Nodup) {k : κ} {v : Value} (h : (k,v) ∈ L) : lookM L k = some v:=by
 induction L with
 | nil => cases h
 | cons p L ih =>
  rw [List.map_cons,List.nodup_cons] at hn;rcases List.mem_cons.1 h with rfl | h
  ·simp [lookM]
  ·have hne : ¬ p.1 = k:=fun e => hn.1 (by rw [e]; exact List.mem_map_of_mem (f:=(·.1)) h)
   have:=ih hn.2 h;unfold lookM at this ⊢;rw [List.find?_cons_of_neg (by simpa using hne)]
   exact this
theorem key_isSome {L : List (κ × Value)} {k : κ} : k ∈ L.map (·.1) ↔ (lookM L k).isSome = true:=by
 constructor
 ·intro h
  obtain ⟨p,hp,rfl⟩ := List.mem_map.1 h;unfold lookM;rw [Option.isSome_map,List.find?_isSome]
  exact ⟨p,hp,by simp⟩
 ·intro h
  obtain ⟨v,hv⟩ := Option.isSome_iff_exists.1 h;exact List.mem_map_of_mem (f:=(·.1)) (lookM_mem hv)
theorem upd_nodup {L : List (κ × Value)} (hn : (L.map (·.1)).Nodup) (k : κ) (v : Value) : ((upd L k v).map (·.1)).Nodup:=by
 by_cases h : k ∈ L.map (·.1)
 ·have : ∀ {L : List (κ × Value)},k ∈ L.map (·.1) → (upd L k v).map (·.1) = L.map (·.1):=by
   intro L
   induction L with
   | nil => intro h; cases h
   | cons p L ih =>
    intro h
    rw [upd];by_cases e : p.1 = k
    ·rw [if_pos e]; simp [e]
    ·rw [if_neg e,List.map_cons,List.map_cons,ih]
     rcases List.mem_cons.1 h with h | h
     ·exact (e h.symm).elim
     ·exact h
  rw [this h]; exact hn
 ·rw [upd_none h,List.map_append]
  exact List.nodup_append.2 ⟨hn,by simp,fun a ha b hb e => h (by simp at hb; rw [← hb,← e]; exact ha)⟩
theorem HoldsM.update {P : Program} {K T E : TypeId} (KE : KeyEq P K enc) (ht : P.underlying T = some (.map K E)) (h : HoldsM enc W b f) (k : κ) (v : Value) :
  ∃ W',(Instr.mapUpdate T (.map (some b)) (enc k) v).run P W = .ok () W' ∧ HoldsM enc W' b (fun y => if y = k then some v else f y) ∧ W.grownBy W' (some b):=by
 obtain ⟨L,h1,h2,h3⟩ := h;obtain ⟨W',hr,hm,hg⟩ := h1.update KE ht k v;exact ⟨W',hr,⟨_,hm,upd_nodup h2 k v,fun y => by rw [lookM_upd,h3]; by_cases e : k = y <;> simp [e,eq_comm]⟩,hg⟩
theorem HoldsM.lookup {P : Program} {K T E : TypeId} (KE : KeyEq P K enc) (ht : P.underlying T = some (.map K E)) {z : Value} (hz : (zeroValue E).run P W = .ok z W) (h : HoldsM enc W b f) (k : κ) (c : Bool) :
  (Instr.lookup T (.map (some b)) (enc k) c).run P W = .ok (if c then .tuple #[(f k).getD z,.bool (f k).isSome] else (f k).getD z) W:=by
 obtain ⟨L,h1,h2,h3⟩ := h;rw [← h3]; exact h1.lookup KE ht hz k c
end
theorem EndsAt.lt {W : World} {b : Nat} {f : En → Option Sm} (h : EndsAt W b f) : b < W.heap.size:=HoldsM.lt h
theorem EndsAt.grown {W W' : World} {b : Nat} {f : En → Option Sm} (h : EndsAt W b f) {o : Option Nat} (hg : W.grownBy W' o) (hne : some b ≠ o) : EndsAt W' b f:=HoldsM.grown h hg hne
theorem EndsAt.below {W W' : World} {b : Nat} {f : En → Option Sm} (h : EndsAt W b f) (hb : Below W.heap.size W W') : EndsAt W' b f:=HoldsM.below h hb
theorem EndsAt.congr {W : World} {b : Nat} {f g : En → Option Sm} (h : EndsAt W b f) (e : ∀ x,f x = g x) : EndsAt W b g:=HoldsM.congr h fun x => by rw [e]
theorem EndsAt.made (W : World) : EndsAt (W.alloc (.map #[] 0)) W.heap.size fun _ => none:=HoldsM.made W
theorem EndsAt.update {W : World} {b : Nat} {f : En → Option Sm} {T : TypeId} (ht : Tryz.prog.underlying T = some (.map 150 109)) (h : EndsAt W b f) (x : En) (s : Sm) :
  ∃ W',(Instr.mapUpdate T (.map (some b)) (enV x) (smV s)).run Tryz.prog W = .ok () W' ∧ EndsAt W' b (fun y => if y = x then some s else f y) ∧ W.grownBy W' (some b):=by
 obtain ⟨W',h1,h2,h3⟩ := HoldsM.update en_key ht h x (smV s);exact ⟨W',h1,HoldsM.congr h2 fun y => by by_cases e : y = x <;> simp [e],h3⟩
section
variable {l : Lg} {F F' : Nat → Prop} {W W' : World} {gb hb kb : Nat}
theorem KnownAt.lt (h : KnownAt l F W kb) : kb < W.heap.size:=by
 obtain ⟨L,⟨es,c,h1,_⟩,_⟩ := h; exact (Array.getElem?_eq_some_iff.1 h1).1
theorem KnownAt.keep (h : KnownAt l F W kb) (hk : ∀ q,q < W.heap.size → q = kb ∨ ¬ F q → W'.heap[q]? = W.heap[q]?) : KnownAt l F W' kb:=by
 have hlt:=h.lt;obtain ⟨L,h1,h2,h3⟩ := h;refine ⟨L,h1.keep (hk _ hlt (.inl rfl)),h2,fun p hp => ?_⟩
 obtain ⟨b,hb1,hb2,hb3⟩ := h3 p hp;exact ⟨b,hb1,hb2,HoldsM.keep hb3 (hk _ hb3.lt (.inr hb2))⟩
theorem KnownAt.more (h : KnownAt l F W kb) (hF : ∀ q,F' q → F q ∨ W.heap.size ≤ q) : KnownAt l F' W kb:=by
 obtain ⟨L,h1,h2,h3⟩ := h;refine ⟨L,h1,h2,fun p hp => ?_⟩
 obtain ⟨b,hb1,hb2,hb3⟩ := h3 p hp;refine ⟨b,hb1,fun hf => ?_,hb3⟩
 rcases hF b hf with h | h
 ·exact hb2 h
 ·have:=hb3.lt; omega
theorem KnownAt.grown (h : KnownAt l F W kb) {o : Option Nat} (hg : W.grownBy W' o) (hne : ∀ x,o = some x → x ≠ kb ∧ (F x ∨ W.heap.size ≤ x)) : KnownAt l F W' kb :=
 h.keep fun q hq hk => hg.block q hq fun e => by
  have:=hne q e.symm;rcases hk with h | h
  ·exact this.1 h
  ·rcases this.2 with h' | h'
   ·exact h h'
   ·omega
theorem KnownAt.put (h : KnownAt l F W kb) {T : TypeId} {E : TypeId} (ht : Tryz.prog.underlying T = some (.map 188 E)) (hk : F kb) {a : Std × Nat} {b : Nat} (hE : EndsAt W b (agg (from5 l a.2 a.1))) (hF : ¬ F b) :
  ∃ W',(Instr.mapUpdate T (.map (some kb)) (atV a) (.map (some b))).run Tryz.prog W = .ok () W' ∧ KnownAt l F W' kb ∧ W.grownBy W' (some kb):=by
 obtain ⟨L,h1,h2,h3⟩ := h;obtain ⟨W',hr,hm,hg⟩ := h1.update at_key ht a (.map (some b));have hn:=upd_nodup h2 a (.map (some b));refine ⟨W',hr,⟨_,hm,hn,fun p hp => ?_⟩,hg⟩
 have hlk:=mem_lookM hn (show (p.1,p.2) ∈ _ from hp)
 rw [lookM_upd] at hlk;by_cases e : a = p.1
 ·rw [if_pos e] at hlk
  have e2:=(Option.some.inj hlk).symm;rw [← e];exact ⟨b,e2,hF,hE.grown hg fun q => hF (by cases q; exact hk)⟩
 ·rw [if_neg e] at hlk
  obtain ⟨b',hb1,hb2,hb3⟩ := h3 (p.1,p.2) (lookM_mem hlk);exact ⟨b',hb1,hb2,hb3.grown hg fun q => hb2 (by cases q; exact hk)⟩
theorem KnownAt.look (h : KnownAt l F W kb) {T : TypeId} (ht : Tryz.prog.underlying T = some (.map 188 147)) (a : Std × Nat) :
  ∃ mv hasx,(∀ w,Below W.heap.size W w → (Instr.lookup T (.map (some kb)) (atV a) true).run Tryz.prog w = .ok (.tuple #[mv,.bool hasx]) w) ∧ (hasx = true → ∃ b,mv = .map (some b) ∧ ¬ F b ∧ EndsAt W b (agg (from5 l a.2 a.1))):=by
 obtain ⟨L,h1,h2,h3⟩ := h;refine ⟨(lookM L a).getD (.map none),(lookM L a).isSome,fun w hw => (h1.below hw).lookup at_key ht (zero_ends w) a true,fun hs => ?_⟩
 obtain ⟨v,hv⟩ := Option.isSome_iff_exists.1 hs;obtain ⟨b,hb1,hb2,hb3⟩ := h3 _ (lookM_mem hv);rw [hv];exact ⟨b,hb1,hb2,hb3⟩
def gameCells (l : Lg) (bv : Value) (hb kb : Nat) : Array Value:=#[.int .i64 l.start,.int .i64 l.gin,.int .i64 l.gout,bv,.int .i64 l.players,.int .i64 l.turns,.bool l.won,.map (some hb),.map (some kb)]
structure GameAt (l : Lg) (F : Nat → Prop) (W : World) (gb hb kb : Nat) : Prop where
 box : ∃ bv,W.heap[gb]? = some (.cells (gameCells l bv hb kb) 141 (0,0))
 hits : HoldsM htV W hb fun h => if h ∈ hits5 l then some (.int .i64 ((hits5 l).count h : Nat)) else none
 known : KnownAt l F W kb
 fg : F gb
 fh : F hb
 fk : F kb
 hk : hb ≠ kb
 gk : gb ≠ kb
theorem GameAt.lt (h : GameAt l F W gb hb kb) : gb < W.heap.size ∧ hb < W.heap.size ∧ kb < W.heap.size:=by
 obtain ⟨bv,hbx⟩ := h.box;exact ⟨(Array.getElem?_eq_some_iff.1 hbx).1,h.hits.lt,h.known.lt⟩
theorem GameAt.grown (h : GameAt l F W gb hb kb) {o : Option Nat} (hg : W.grownBy W' o) (hne : ∀ x,o = some x → x ≠ kb ∧ x ≠ gb ∧ x ≠ hb ∧ (F x ∨ W.heap.size ≤ x)) : GameAt l F W' gb hb kb:=by
 have hlt:=h.lt;obtain ⟨bv,hbx⟩ := h.box;exact ⟨⟨bv,(hg.block gb hlt.1 fun e => (hne gb e.symm).2.1 rfl).trans hbx⟩,h.hits.grown hg fun e => (hne hb e.symm).2.2.1 rfl,h.known.grown hg fun x hx => ⟨(hne x hx).1,(hne x hx).2.2.2⟩,h.fg,h.fh,h.fk,h.hk,h.gk⟩
theorem GameAt.new (h : GameAt l F W gb hb kb) {o : Option Nat} (hg : W.grownBy W' o) (hne : ∀ x,o = some x → W.heap.size ≤ x) : GameAt l F W' gb hb kb :=
 h.grown hg fun x hx => by have h1:=hne x hx; have h2:=h.lt; exact ⟨by omega,by omega,by omega,.inr h1⟩
theorem GameAt.below (h : GameAt l F W gb hb kb) (hbl : Below W.heap.size W W') : GameAt l F W' gb hb kb :=
 h.new (o:=none) ⟨hbl.os,hbl.tape,hbl.output,hbl.size,fun q hq _ => hbl.block q hq⟩ fun x hx => by cases hx
theorem GameAt.learn (h : GameAt l F W gb hb kb) (hg : W.grownBy W' (some kb)) (hk : KnownAt l F W' kb) : GameAt l F W' gb hb kb:=by
 have hlt:=h.lt;obtain ⟨bv,hbx⟩ := h.box;exact ⟨⟨bv,(hg.block gb hlt.1 fun e => h.gk (Option.some.inj e)).trans hbx⟩,h.hits.grown hg fun e => h.hk (Option.some.inj e),hk,h.fg,h.fh,h.fk,h.hk,h.gk⟩
theorem GameAt.more (h : GameAt l F W gb hb kb) (h1 : ∀ q,F' q → F q ∨ W.heap.size ≤ q) (h2 : ∀ q,F q → F' q) : GameAt l F' W gb hb kb :=
 ⟨h.box,h.hits,h.known.more h1,h2 _ h.fg,h2 _ h.fh,h2 _ h.fk,h.hk,h.gk⟩
theorem GameAt.less (h : GameAt l F W gb hb kb) (h1 : ∀ q,F' q → F q) (hg : F' gb) (hh : F' hb) (hkb : F' kb) : GameAt l F' W gb hb kb :=
 ⟨h.box,h.hits,h.known.more fun q hq => .inl (h1 q hq),hg,hh,hkb,h.hk,h.gk⟩
theorem GameAt.cells (h : GameAt l F W gb hb kb) : W.cell? ⟨gb,0,none⟩ = some (.int .i64 l.start) ∧ W.cell? ⟨gb,1,none⟩ = some (.int .i64 l.gin) ∧ W.cell? ⟨gb,2,none⟩ = some (.int .i64 l.gout) ∧ W.cell? ⟨gb,4,none⟩ = some (.int .i64 l.players) ∧ W.cell? ⟨gb,5,none⟩ = some (.int .i64 l.turns) ∧ W.cell? ⟨gb,6,none⟩ = some (.bool l.won) ∧ W.cell? ⟨gb,7,none⟩ = some (.map (some hb)) ∧ W.cell? ⟨gb,8,none⟩ = some (.map (some kb)):=by
 obtain ⟨bv,hbx⟩ := h.box;refine ⟨?_, ?_, ?_, ?_, ?_, ?_, ?_, ?_⟩ <;> rw [cell_of_heap hbx] <;> rfl
end
end Go.Proofs.YtnbmgkmcaoafnaaGreatDoor

/- Chapter 5: the leaves: beds, gates, counts. -/
namespace Go.Oche
open Go Go.RowKit
theorem Sl.cell {S : Nat → Prop} {w : World} {a : Option Addr} {n cap : Nat} {xs : List Int} (h : Sl S w (.slice a n cap) (ints xs)) {k : Nat} (hk : k < xs.length) : ∃ b off,a = some ⟨b,off,none⟩ ∧ S b ∧ w.cell? ⟨b,off + k,none⟩ = some (.int .i64 xs[k]):=by
 obtain ⟨a',cap',e,_,_,h4⟩ := h;cases e;exact h4 k _ (intsAt hk)
end Go.Oche
namespace Go.Proofs.YtnbmgkmcaoafnaaGreatDoor
open Go.RowKit Go.Oche Go.Proofs

theorem split_any (b : Int) (hb : -2 ^ 63 ≤ b ∧ b < 2 ^ 63) (w : World) : Calls Tryz.prog 49 #[.int .i64 b] w fun e w' => e = .returned (.tuple #[.int .i64 (b.tdiv 100),.int .i64 (b.tmod 100)]) ∧ w = w':=by
 go_enter Tryz.func49,Tryz.ntmps49
 go_wp2;go_returns;exact ⟨rfl,rfl⟩
theorem lowest_any (g : Int) (w : World) : Calls Tryz.prog 103 #[.int .i64 g] w fun e w' => e = .returned (.int .i64 (low5 g)) ∧ w = w':=by
 obtain ⟨c,hc⟩ : ∃ c,(g == 0) = c:=⟨_,rfl⟩;have HC : Hid (low5 g = if c = true then 1 else 2):=Lib.hid (by rw [← hc]; simp [low5])
 go_enter Tryz.func103,Tryz.ntmps103
 cases c <;> go_wp2 <;> (go_ret; exact ⟨ret_int (by rw [HC.out]; rfl),rfl⟩)
theorem within_r {S : Nat → Prop} (lo hi n : Int) (r : Bool) (hr : Hid (isIn n lo hi = r)) (v : Value) (w : World) (hs : Sl S w v (ints [n])) :
  Calls Tryz.prog 48 #[.int .i64 lo,.int .i64 hi,v] w fun e w' => e = .returned (.bool r) ∧ Below w.heap.size w w':=by
 rw [← hr.out];exact (within_any lo hi [n] v w hs).mono fun e w' ⟨h,hb⟩ => ⟨by rw [h,out_one],hb⟩
theorem opens_any (b g : Int) (hb : -2 ^ 63 ≤ b ∧ b < 2 ^ 63) (w : World) : Calls Tryz.prog 50 #[.int .i64 b,.int .i64 g] w fun e w' => e = .returned (.bool (opens5 b g)) ∧ w = w':=by
 obtain ⟨c,hc⟩ : ∃ c,(g == 1) = c:=⟨_,rfl⟩;obtain ⟨d,hd⟩ : ∃ d,(g == 2) = d:=⟨_,rfl⟩;obtain ⟨f,hf⟩ : ∃ f,b.tdiv 100 = f:=⟨_,rfl⟩;have HC : Hid (opens5 b g = if c = true then f == 2 else if d = true then decide (2 ≤ f) else true):=Lib.hid (by rw [← hc,← hd,← hf]; simp [opens5])
 have HB:=Lib.hid hb;have HF:=Lib.hid hf;clear hb hf
 go_enter Tryz.func50,Tryz.ntmps50
 go_wp2_with fail;refine (split_any b HB.out _).mono ?_
 rintro e w' ⟨rfl,rfl⟩;rw [HF.out];cases c
 ·cases d <;> go_wp2 <;> (go_ret; exact ⟨ret_bool (by rw [HC.out]; simp),rfl⟩)
 ·go_wp2
  go_ret
  exact ⟨ret_bool (by rw [HC.out]; simp),rfl⟩
theorem isBed_any (b : Int) (hb : -2 ^ 63 ≤ b ∧ b < 2 ^ 63) (w : World) : Calls Tryz.prog 88 #[.int .i64 b] w fun e w' => e = .returned (.bool (isBed5 b)) ∧ Below w.heap.size w w':=by
 obtain ⟨f,hf⟩ : ∃ f,b.tdiv 100 = f:=⟨_,rfl⟩;obtain ⟨n,hn⟩ : ∃ n,b.tmod 100 = n:=⟨_,rfl⟩;obtain ⟨r1,hr1⟩ : ∃ r,isIn f 1 4 = r:=⟨_,rfl⟩;obtain ⟨r2,hr2⟩ : ∃ r,isIn n 1 20 = r:=⟨_,rfl⟩;obtain ⟨c,hc⟩ : ∃ c,(b == 125) = c:=⟨_,rfl⟩;obtain ⟨d,hd⟩ : ∃ d,(b == 225) = d:=⟨_,rfl⟩;have HC : Hid (isBed5 b = ((r1 && r2) || c || d)):=Lib.hid (by rw [← hr1,← hr2,← hf,← hn,← hc,← hd]; rfl)
 have HB:=Lib.hid hb;have HF:=Lib.hid hf;have HN:=Lib.hid hn;have HR1:=Lib.hid hr1;have HR2:=Lib.hid hr2;clear hb hf hn hr1 hr2
 go_enter Tryz.func88,Tryz.ntmps88
 go_wp2_with fail;refine (split_any b HB.out _).mono ?_
 rintro e w' ⟨rfl,rfl⟩;rw [HF.out,HN.out];go_wp2_with fail;refine (within_r 1 4 f r1 HR1 _ _ (Sl.new1 (fun _ => True) w trivial 3 (.int .i64 f))).mono ?_
 rintro e w2 ⟨rfl,hb2⟩;have HB2:=Lib.hid (bThen (aB w _) hb2);clear hb2;cases r1
 ·cases c <;> cases d <;> go_wp2 <;> (go_ret; exact ⟨ret_bool (by rw [HC.out]; rfl),HB2.out⟩)
 ·go_wp2_with fail
  refine (within_r 1 20 n r2 HR2 _ _ (Sl.new1 (fun _ => True) w2 trivial 3 (.int .i64 n))).mono ?_
  rintro e w3 ⟨rfl,hb3⟩;have HB3:=Lib.hid (bThen HB2.out (bThen (aB w2 _) hb3));clear hb3;cases r2 <;> cases c <;> cases d <;> go_wp2 <;> (go_ret; exact ⟨ret_bool (by rw [HC.out]; rfl),HB3.out⟩)
open Go.RowKit Go.Oche Go.Proofs

def cmp3 (a b : Int) : Int:=if a < b then -1 else if b < a then 1 else 0
theorem isNaNb_any (a : Int) (w : World) : Calls Tryz.prog 122 #[.int .i64 a] w fun e w' => e = .returned (.bool false) ∧ w = w':=by
 go_enter Tryz.func122,Tryz.ntmps122
 go_wp2
 go_ret
 exact ⟨ret_bool (by simp),rfl⟩
theorem compareB_any (a b : Int) (w : World) : Calls Tryz.prog 84 #[.int .i64 a,.int .i64 b] w fun e w' => e = .returned (.int .i64 (cmp3 a b)) ∧ w = w':=by
 obtain ⟨c,hc⟩ : ∃ c,cmp3 a b = c:=⟨_,rfl⟩;unfold cmp3 at hc;have hc':=hc;have H:=Lib.hid hc;rw [show cmp3 a b = c from hc']
 clear hc hc'
 go_enter Tryz.func84,Tryz.ntmps84
 go_wp2_with (go_at_call 122; refine (isNaNb_any _ _).mono ?_; rintro e w' ⟨rfl,rfl⟩)
 all_goals
  go_ret
  refine ⟨ret_int ?_,rfl⟩
  rw [← H.out]
  repeat' (first | omega | split)
set_option maxRecDepth 100000 in
set_option maxHeartbeats 1000000 in
theorem or_any (q : Nat) (x y : Int) (w : World) (h0 : w.cell? ⟨q,0,none⟩ = some (.int .i64 x)) (h1 : w.cell? ⟨q,1,none⟩ = some (.int .i64 y)) :
  Calls Tryz.prog 83 #[.slice (some ⟨q,0,none⟩) 2 2] w fun e w' => e = .returned (.int .i64 (if x = 0 then y else x)) ∧ w = w':=by
 obtain ⟨z,hz⟩ : ∃ z,(if x = 0 then y else x) = z:=⟨_,rfl⟩
 have HZ : Hid ((if x = 0 then y else x) = z):=Lib.hid hz
 rw [hz];clear hz
 go_enter Tryz.func83,Tryz.ntmps83
 go_wp2
 go_loop [5,8] (fun _ i => ∃ k : Nat,k ≤ 2 ∧ i = .int .i64 k ∧ Hid (1 ≤ k → x = 0) ∧ Hid (k = 2 → y = 0)) (fun _ i => 2 - (intOf i).toNat)
 case atStart => exact ⟨0,by omega,rfl,Lib.hid (fun h => by omega),Lib.hid (fun h => by omega)⟩
 case round =>
  obtain ⟨k,hk,rfl,H1,H2⟩ := hrel;by_cases k0 : k = 0
  ·subst k0
   by_cases hx : x = 0
   ·have ex : (x != 0) = false:=by simp [hx]
    have HX:=Lib.hid hx;clear hx;go_wp2
    go_round
    case rel => exact ⟨1,by omega,rfl,Lib.hid (fun _ => HX.out),Lib.hid (fun h => by omega)⟩
    case measure => simp [intOf]
   ·have ex : (x != 0) = true:=by simp [hx]
    have HX:=Lib.hid hx;clear hx;go_wp2
    go_ret
    exact ⟨ret_int (by rw [← HZ.out,if_neg HX.out]),rfl⟩
  ·by_cases k1 : k = 1
   ·subst k1
    by_cases hy : y = 0
    ·have ey : (y != 0) = false:=by simp [hy]
     have HY:=Lib.hid hy;clear hy k0;go_wp2
     go_round
     case rel => exact ⟨2,by omega,rfl,Lib.hid (fun _ => H1.out (by omega)),Lib.hid (fun _ => HY.out)⟩
     case measure => simp [intOf]
    ·have ey : (y != 0) = true:=by simp [hy]
     clear hy k0;go_wp2
     go_ret
     exact ⟨ret_int (by rw [← HZ.out,if_pos (H1.out (by omega))]),rfl⟩
   ·obtain rfl : k = 2:=by omega
    clear k0 k1;go_wp2
    go_ret
    exact ⟨ret_int (by have h2:=H2.out; simp at h2; rw [← HZ.out,if_pos (H1.out (by omega)),h2]),rfl⟩
theorem check1_any (a b : Int) (w : World) : Calls Tryz.prog 82 #[.int .i64 a,.int .i64 b] w fun e w' => e = .returned (.int .i64 (if cmp3 a b = 0 then -1 else cmp3 a b)) ∧ Below w.heap.size w w':=by
 obtain ⟨c,hc⟩ : ∃ c,cmp3 a b = c:=⟨_,rfl⟩;have HC:=Lib.hid hc;rw [hc];clear hc;obtain ⟨z,hz⟩ : ∃ z,(if c = 0 then -1 else c) = z:=⟨_,rfl⟩
 have HZ : Hid ((if c = 0 then -1 else c) = z):=Lib.hid hz
 rw [hz];clear hz
 go_enter Tryz.func82,Tryz.ntmps82
 go_wp2_with fail;refine (compareB_any a b _).mono ?_
 rintro e w' ⟨rfl,rfl⟩;rw [HC.out];go_wp2_with fail;refine (or_any _ c (-1) _ (by simp) (by simp)).mono ?_
 rintro e w' ⟨rfl,rfl⟩;rw [HZ.out];go_wp2
 go_ret
 exact ⟨rfl,aB _ _⟩
theorem check1_r (a b z : Int) (hz : Hid ((if cmp3 a b = 0 then -1 else cmp3 a b) = z)) (w : World) : Calls Tryz.prog 82 #[.int .i64 a,.int .i64 b] w fun e w' => e = .returned (.int .i64 z) ∧ Below w.heap.size w w':=by
 rw [← hz.out]; exact check1_any a b w
def risesL (l : List Int) : Bool:=decide (l.Pairwise (· < ·))
theorem rises_step {l : List Int} : l.Pairwise (· < ·) ↔ ∀ k,(h : k + 1 < l.length) → l[k] < l[k + 1]:=by
 constructor
 ·intro h k hk; exact List.pairwise_iff_getElem.1 h k (k + 1) (by omega) hk (by omega)
 ·intro h
  refine List.pairwise_iff_getElem.2 fun i j hi hj hij => ?_
  have key : ∀ d,(hd : i + 1 + d < l.length) → l[i] < l[i + 1 + d]:=by
   intro d
   induction d with
   | zero => intro hd; exact h i hd
   | succ d ih => intro hd; exact Int.lt_trans (ih (by omega)) (h (i + 1 + d) hd)
  have:=key (j - i - 1) (by omega)
  have e : i + 1 + (j - i - 1) = j:=by omega
  simpa [e] using this
set_option maxRecDepth 100000 in
set_option maxHeartbeats 4000000 in
theorem isSorted_any {S : Nat → Prop} (xs : List Int) (v : Value) (w : World) (hs : Sl S w v (ints xs)) :
  Calls Tryz.prog 81 #[v,.func (.func 82) #[] #[]] w fun e w' => e = .returned (.bool (risesL xs)) ∧ Below w.heap.size w w':=by
 obtain ⟨a,cap,rfl,h2,h3⟩ := hs.form;simp only [ints_length] at *;unfold maxLen at h3;have hwl : IntKind.i64.wrap ((xs.length : Int) - 1) = (xs.length : Int) - 1:=wrap_small _ (by omega) (by omega)
 have HS:=Lib.hid hs;clear hs
 go_enter Tryz.func81,Tryz.ntmps81
 go_wp2;go_loopw [5] (fun iv wr => ∃ i : Int, -1 ≤ i ∧ i < xs.length ∧ iv = .int .i64 i ∧ Hid (∀ k,(h : k + 1 < xs.length) → i ≤ k → xs[k] < xs[k + 1]) ∧ Hid (Below w.heap.size w wr)) (fun iv _ => (intOf iv).toNat)
 case atStart => exact ⟨(xs.length : Int) - 1,by omega,by omega,rfl,Lib.hid (fun k h hk => by omega),Lib.hid (Below.refl _ _)⟩
 case round =>
  obtain ⟨i,hi0,hi1,rfl,HI,HB⟩ := hrel;by_cases hi : 0 < i
  ·obtain ⟨j,rfl⟩ : ∃ j : Nat,i = (j : Int) + 1:=⟨(i - 1).toNat,by omega⟩
   have hj : j + 1 < xs.length:=by omega
   obtain ⟨x,hx⟩ : ∃ x,xs[j + 1] = x:=⟨_,rfl⟩;obtain ⟨y,hy⟩ : ∃ y,xs[j] = y:=⟨_,rfl⟩;obtain ⟨b,off,hal,_,hc⟩ := HS.out.cell hj;obtain ⟨b',off',hal',_,hc'⟩ := HS.out.cell (show j < xs.length by omega)
   rw [hal] at hal';cases hal';cases hal;rw [hx] at hc;rw [hy] at hc';have d0 : decide ((0 : Int) < (j : Int) + 1) = true:=decide_eq_true hi;have hwj : IntKind.i64.wrap ((j : Int) + 1 - 1) = (j : Int):=by rw [Int.add_sub_cancel]; exact wrap_small _ (by omega) (by omega)
   have hwj2 : IntKind.i64.wrap (j : Int) = (j : Int):=wrap_small _ (by omega) (by omega)
   obtain ⟨z,hz⟩ : ∃ z,(if cmp3 x y = 0 then -1 else cmp3 x y) = z:=⟨_,rfl⟩
   obtain ⟨c,hcz⟩ : ∃ c,decide (z < 0) = c:=⟨_,rfl⟩;have HZ:=Lib.hid hz;have HCZ : Hid (c = decide (x ≤ y)):=Lib.hid (by
    rw [← hcz,← hz]; unfold cmp3;by_cases e1 : x < y
    ·simp [e1]; omega
    ·by_cases e2 : y < x
     ·simp [e1,e2]
     ·simp [e1,e2]; omega)
   have HX:=Lib.hid hx;have HY:=Lib.hid hy;have KX:=Lib.hid (bAt HB.out hc);have KY:=Lib.hid (bAt HB.out hc');clear hx hy hz hc hc';go_wp2_with fail;refine wp_region_seq 12 [.is (.func (.func 82) #[] #[]),.is (.slice (some ⟨b,off,none⟩) xs.length cap),.is (.int .i64 ((j : Int) + 1)),.is (.pointer (some ⟨b,off + (j + 1),none⟩)),.is (.int .i64 x),.is (.slice (some ⟨b,off,none⟩) xs.length cap),.is (.int .i64 ((j : Int) + 1)),.is (.int .i64 (j : Int)),.is (.pointer (some ⟨b,off + j,none⟩)),.is (.int .i64 y),.is (.int .i64 z),.is (.bool c)] rfl mix (by kernel_rfl) (by kernel_rfl) ?seqm
   case seqm =>
    simp only [List.take_succ_cons,List.take_zero]
    iterate 10
     refine seq_on (by rfl) (fun w3 hb3 _ => ?_) ?_
     ·have kx:=bAt hb3 KX.out
      have ky:=bAt hb3 KY.out;have hp1 : (0 : Int) ≤ (j : Int) + 1:=by omega
      have hp2 : (j : Int) < (xs.length : Int):=by omega
      have hp3 : j < xs.length:=by omega
      simp [opOK,go_sem,kx,ky,hwj2,hp1,hp2,hi1,Below.refl]
      try exact rfl
     simp only [Act.put,List.setIfInBounds_toArray,List.set_cons_succ,List.set_cons_zero]
    refine seq_on (by rfl) (fun w3 hb3 hH => ?_) ?_
    ·have kx:=bAt hb3 KX.out
     have ky:=bAt hb3 KY.out;have hp1 : (0 : Int) ≤ (j : Int) + 1:=by omega
     have hp2 : (j : Int) < (xs.length : Int):=by omega
     have hp3 : j < xs.length:=by omega
     refine opOK_call (f:=82) (args:=#[.int .i64 x,.int .i64 y]) (by simp [go_sem]) ?_
     exact (check1_r x y z HZ w3).mono fun e W' ⟨he,hb⟩ => ⟨_,he,rfl,hb⟩
    simp only [Act.put,List.setIfInBounds_toArray,List.set_cons_succ,List.set_cons_zero];refine seq_on (by rfl) (fun w3 hb3 _ => ?_) ?_
    ·have kx:=bAt hb3 KX.out
     have ky:=bAt hb3 KY.out;have hp1 : (0 : Int) ≤ (j : Int) + 1:=by omega
     have hp2 : (j : Int) < (xs.length : Int):=by omega
     have hp3 : j < xs.length:=by omega
     simp [opOK,go_sem,hcz,Below.refl]
     try exact rfl
    simp only [Act.put,List.setIfInBounds_toArray,List.set_cons_succ,List.set_cons_zero];refine seq_end fun w3 hb3 _ => ?_
    simp only [List.drop_succ_cons,List.drop_zero];have HB4:=Lib.hid (bThen HB.out hb3);clear hb3;cases c
    ·go_wp2
     go_roundw
     case rel => exact ⟨j,by omega,by omega,by go_num,Lib.hid (fun k h hk => by
      by_cases e : k = j
      ·subst e; rw [HX.out,HY.out]; have:=HCZ.out; simp at this; omega
      ·exact HI.out k h (by omega)),HB4⟩
     case measure => simp [intOf]
    ·go_wp2
     go_ret
     exact ⟨ret_bool (by
      have h1 : x ≤ y:=by have:=HCZ.out; simpa using this
      unfold risesL;rw [eq_comm,decide_eq_false_iff_not,rises_step];intro h;have:=h j hj;rw [HX.out,HY.out] at this;omega),HB4.out⟩
  ·have d0 : decide ((0 : Int) < i) = false:=decide_eq_false hi
   go_wp2
   go_ret
   exact ⟨ret_bool (by unfold risesL; rw [eq_comm,decide_eq_true_eq,rises_step]; exact fun k h => HI.out k h (by omega)),HB.out⟩
open Go.RowKit Go.Oche Go.Proofs

def badBed (b : Int) : Bool := !isBed5 b
theorem check2_any (b : Int) (hb : -2 ^ 63 ≤ b ∧ b < 2 ^ 63) (w : World) : Calls Tryz.prog 87 #[.int .i64 b] w fun e w' => e = .returned (.bool (badBed b)) ∧ Below w.heap.size w w':=by
 obtain ⟨r,hr⟩ : ∃ r,isBed5 b = r:=⟨_,rfl⟩;have HR:=Lib.hid hr;have HB:=Lib.hid hb;unfold badBed;rw [hr];clear hr hb
 go_enter Tryz.func87,Tryz.ntmps87
 go_wp2_with fail;refine (isBed_any b HB.out _).mono ?_
 rintro e w1 ⟨rfl,hb1⟩;rw [HR.out];go_wp2;go_returns;exact ⟨rfl,hb1⟩
theorem check2_r (b : Int) (r : Bool) (hr : Hid (badBed b = r)) (hb : -2 ^ 63 ≤ b ∧ b < 2 ^ 63) (w : World) : Calls Tryz.prog 87 #[.int .i64 b] w fun e w' => e = .returned (.bool r) ∧ Below w.heap.size w w':=by
 rw [← hr.out]; exact check2_any b hb w
def idxBad (xs : List Int) : Int:=if xs.any badBed then (xs.findIdx badBed : Nat) else -1
theorem idxBad_hit {xs : List Int} {k : Nat} (hk : k < xs.length) (hp : ∀ j,j < k → ∀ h : j < xs.length,badBed xs[j] = false) (h : badBed xs[k] = true) : idxBad xs = k:=by
 have h1 : xs.any badBed = true:=List.any_eq_true.2 ⟨xs[k],List.getElem_mem hk,h⟩;have h2 : xs.findIdx badBed = k:=by
  refine (List.findIdx_eq hk).2 ⟨h,fun j hj => ?_⟩
  simpa using hp j hj (by omega)
 simp [idxBad,h1,h2]
theorem idxBad_miss {xs : List Int} (hp : ∀ j,j < xs.length → ∀ h : j < xs.length,badBed xs[j] = false) : idxBad xs = -1:=by
 have h1 : xs.any badBed = false:=by
  rw [List.any_eq_false];intro x hx;obtain ⟨j,hj,rfl⟩ := List.mem_iff_getElem.1 hx;simp [hp j hj hj]
 simp [idxBad,h1]
set_option maxRecDepth 100000 in
set_option maxHeartbeats 1000000 in
theorem indexBad_any {S : Nat → Prop} (xs : List Int) (v : Value) (w : World) (hs : Sl S w v (ints xs)) (hbd : ∀ b ∈ xs, -2 ^ 63 ≤ b ∧ b < 2 ^ 63) :
  Calls Tryz.prog 123 #[v,.func (.func 87) #[] #[]] w fun e w' => e = .returned (.int .i64 (idxBad xs)) ∧ Below w.heap.size w w':=by
 obtain ⟨a,cap,rfl,h2,h3⟩ := hs.form;simp only [ints_length] at *;unfold maxLen at h3;have HS:=Lib.hid hs;have HBD:=Lib.hid hbd;clear hs hbd
 go_enter Tryz.func123,Tryz.ntmps123
 go_wp2;go_loopw [5,8] (fun _ i wr => ∃ k : Nat,k ≤ xs.length ∧ i = .int .i64 k ∧ Hid (∀ j,j < k → ∀ h : j < xs.length,badBed xs[j] = false) ∧ Hid (Below w.heap.size w wr)) (fun _ i _ => xs.length - (intOf i).toNat)
 case atStart => exact ⟨0,Nat.zero_le _,rfl,Lib.hid (fun j hj => by omega),Lib.hid (Below.refl _ _)⟩
 case round =>
  obtain ⟨k,hk,rfl,HP,HB⟩ := hrel;by_cases hlt : k < xs.length
  ·obtain ⟨b,off,hal,_,hc⟩ := HS.out.cell hlt
   cases hal;obtain ⟨x,hx⟩ : ∃ x,xs[k] = x:=⟨_,rfl⟩;rw [hx] at hc
   replace hc:=bAt HB.out hc
   obtain ⟨o,ho⟩ : ∃ o,badBed x = o:=⟨_,rfl⟩;have HO:=Lib.hid ho;have HX:=Lib.hid hx;have hxb:=HBD.out x (by rw [← hx]; exact List.getElem_mem hlt)
   have HXB:=Lib.hid hxb;clear ho hx hxb;go_wp2_with fail;refine (check2_r x o HO HXB.out _).mono ?_
   rintro e w2 ⟨rfl,hb2⟩;have HB2:=Lib.hid (bThen HB.out hb2);clear hb2 hc;cases o
   ·go_wp2
    go_roundw
    case rel => exact ⟨k + 1,by omega,by go_num,Lib.hid (fun j hj h => by
     by_cases hjk : j = k
     ·subst hjk; rw [HX.out]; exact HO.out
     ·exact HP.out j (by omega) h),HB2⟩
    case measure => simp [intOf]; omega
   ·go_wp2
    go_ret
    exact ⟨ret_int (idxBad_hit hlt HP.out (by rw [HX.out]; exact HO.out)).symm,HB2.out⟩
  ·obtain rfl : k = xs.length:=by omega
   go_wp2
   go_ret
   exact ⟨ret_int (idxBad_miss fun j hj h => HP.out j hj h).symm,HB.out⟩
theorem containsBad_any {S : Nat → Prop} (xs : List Int) (v : Value) (w : World) (hs : Sl S w v (ints xs)) (hbd : ∀ b ∈ xs, -2 ^ 63 ≤ b ∧ b < 2 ^ 63) :
  Calls Tryz.prog 86 #[v,.func (.func 87) #[] #[]] w fun e w' => e = .returned (.bool (xs.any badBed)) ∧ Below w.heap.size w w':=by
 go_enter Tryz.func86,Tryz.ntmps86
 go_wp2_with fail;refine (indexBad_any xs v w hs hbd).mono ?_
 rintro e w2 ⟨rfl,hb2⟩;go_wp2
 go_ret
 refine ⟨ret_bool ?_,hb2⟩
 unfold idxBad;cases xs.any badBed <;> simp <;> omega
theorem containsBad_r {S : Nat → Prop} (xs : List Int) (r : Bool) (hr : Hid (xs.any badBed = r)) (v : Value) (w : World) (hs : Sl S w v (ints xs)) (hbd : ∀ b ∈ xs, -2 ^ 63 ≤ b ∧ b < 2 ^ 63) :
  Calls Tryz.prog 86 #[v,.func (.func 87) #[] #[]] w fun e w' => e = .returned (.bool r) ∧ Below w.heap.size w w':=by rw [← hr.out]; exact containsBad_any xs v w hs hbd
theorem isSorted_r {S : Nat → Prop} (xs : List Int) (r : Bool) (hr : Hid (risesL xs = r)) (v : Value) (w : World) (hs : Sl S w v (ints xs)) :
  Calls Tryz.prog 81 #[v,.func (.func 82) #[] #[]] w fun e w' => e = .returned (.bool r) ∧ Below w.heap.size w w':=by rw [← hr.out]; exact isSorted_any xs v w hs
theorem within2_r {S : Nat → Prop} (lo hi : Int) (xs : List Int) (r : Bool) (hr : Hid ((!xs.any (outB lo hi)) = r)) (v : Value) (w : World) (hs : Sl S w v (ints xs)) :
  Calls Tryz.prog 48 #[.int .i64 lo,.int .i64 hi,v] w fun e w' => e = .returned (.bool r) ∧ Below w.heap.size w w':=by
 rw [← hr.out]; exact within_any lo hi xs v w hs
theorem two_in (a b lo hi : Int) : (!([a,b] : List Int).any (outB lo hi)) = (isIn a lo hi && isIn b lo hi):=by
 simp [outB,isIn]; rw [Bool.eq_iff_iff]; simp
theorem isCount_any (l : Lg) (r : Bool) (hr : Hid (okCount l = r)) (w : World) : Calls Tryz.prog 85 #[.agg #[.int .i64 l.start,.int .i64 l.gin,.int .i64 l.gout]] w fun e w' => e = .returned (.bool r) ∧ Below w.heap.size w w':=by
 obtain ⟨b1,hb1⟩ : ∃ b,isIn l.start 2 1001 = b:=⟨_,rfl⟩;obtain ⟨b2,hb2⟩ : ∃ b,(isIn l.gin 0 2 && isIn l.gout 0 2) = b:=⟨_,rfl⟩;have HR : Hid (r = (b1 && b2)):=Lib.hid (by rw [← hr.out,← hb1,← hb2]; unfold okCount; cases isIn l.start 2 1001 <;> simp)
 have H1:=Lib.hid hb1;have H2 : Hid ((!([l.gin,l.gout] : List Int).any (outB 0 2)) = b2):=Lib.hid (by rw [two_in]; exact hb2)
 clear hb1 hb2 hr;obtain ⟨w1,hw1⟩ : ∃ x,w.alloc (.cells #[.int .i64 l.start,.int .i64 l.gin,.int .i64 l.gout] 45) = x:=⟨_,rfl⟩;have hbw : Below w.heap.size w w1:=by rw [← hw1]; exact aB _ _
 have k : w1.heap[w.heap.size]? = some (.cells #[.int .i64 l.start,.int .i64 l.gin,.int .i64 l.gout] 45 (0,0)):=by rw [← hw1]; exact World.alloc_heap_new _ _
 have c0 : w1.cell? ⟨w.heap.size,0,none⟩ = some (.int .i64 l.start):=by rw [cell_of_heap k]; rfl
 have HW:=Lib.hid hw1;have HBW:=Lib.hid hbw;have K:=Lib.hid k;clear hw1 hbw k
 go_enter Tryz.func85,Tryz.ntmps85
 go_upto_region 1 with fail
 rw [HW.out];go_wp2_with fail;refine (within_r 2 1001 l.start b1 H1 _ _ (Sl.new1 (fun _ => True) w1 trivial 3 (.int .i64 l.start))).mono ?_
 rintro e w2 ⟨rfl,hb2⟩;have HB2:=Lib.hid (bThen HBW.out (bThen (aB w1 _) hb2));have k2:=(hb2.block _ (by have:=(Array.getElem?_eq_some_iff.1 K.out).1; simp; omega)).trans ((Below.heap_alloc w1 (.cells #[.int .i64 l.start] 3) _ (Array.getElem?_eq_some_iff.1 K.out).1).trans K.out)
 have d1 : w2.cell? ⟨w.heap.size,1,none⟩ = some (.int .i64 l.gin):=by rw [cell_of_heap k2]; rfl
 have d2 : w2.cell? ⟨w.heap.size,2,none⟩ = some (.int .i64 l.gout):=by rw [cell_of_heap k2]; rfl
 clear hb2 k2;cases b1
 ·have hr : r = false:=HR.out
  clear HR;subst hr;go_wp2;go_returns;exact ⟨rfl,HB2.out⟩
 ·have hr : r = b2:=by have:=HR.out; simpa using this
  clear HR;subst hr;go_wp2_with fail;refine (within2_r 0 2 [l.gin,l.gout] _ H2 _ _ (Sl.new (fun _ => True) w2 trivial 3 (ints [l.gin,l.gout]) (by simp [maxLen]))).mono ?_
  rintro e w3 ⟨rfl,hb3⟩;have HB3:=Lib.hid (bThen HB2.out (bThen (aB w2 _) hb3));clear hb3;go_wp2;go_returns;exact ⟨rfl,HB3.out⟩
open Go.RowKit Go.Oche Go.Proofs

set_option maxRecDepth 100000 in
set_option maxHeartbeats 4000000 in
theorem add_any (b : Nat) (x : En) (s : Sm) (d : Nat) (f : En → Option Sm) (w : World) (h : EndsAt w b f) (hs : s.ways ≤ 10 ^ 15 ∧ s.lo ≤ 1000 ∧ s.hi ≤ 1000) (hd : d ≤ 10) (hf : SmB (10 ^ 15) 1000 (f x)) :
  Calls Tryz.prog 66 #[.map (some b),enV x,smV s,.int .i64 d] w fun e w' => e = .returned (.tuple #[]) ∧ w.grownBy w' (some b) ∧ EndsAt w' b (fun y => if y = x then addO (f x) (some (s.shift d)) else f y):=by
 obtain ⟨xl,xi,xb,xw⟩ := x;obtain ⟨n,lo,hi⟩ := s;simp only at hs;have hw1 : IntKind.i64.wrap ((lo : Int) + d) = ((lo + d : Nat) : Int):=by rw [IntKind.wrap_i64]; omega
 have hw2 : IntKind.i64.wrap ((hi : Int) + d) = ((hi + d : Nat) : Int):=by rw [IntKind.wrap_i64]; omega
 have H:=Lib.hid h;have HF:=Lib.hid hf;clear h hf;unfold enV smV
 go_enter Tryz.func66,Tryz.ntmps66
 go_upto_region 2 with fail
 obtain ⟨w2,hw⟩ : ∃ x,((w.alloc (.cells #[.int .i64 xl,.bool xi,.bool xb,.bool xw] 150)).alloc (.cells #[.int .i64 n,.int .i64 ((lo : Int) + d),.int .i64 ((hi : Int) + d)] 109)) = x:=⟨_,rfl⟩;have hb2 : Below w.heap.size w w2:=by rw [← hw]; exact ((aB _ _)).alloc (by simp) _
 have k5 : w2.heap[w.heap.size]? = some (.cells #[.int .i64 xl,.bool xi,.bool xb,.bool xw] 150 (0,0)):=by
  rw [← hw]; exact (Below.heap_alloc _ _ _ (by simp)).trans (World.alloc_heap_new _ _)
 have k6 : w2.heap[w.heap.size + 1]? = some (.cells #[.int .i64 n,.int .i64 ((lo : Int) + d),.int .i64 ((hi : Int) + d)] 109 (0,0)):=by
  rw [← hw,show w.heap.size + 1 = (w.alloc (.cells #[.int .i64 xl,.bool xi,.bool xb,.bool xw] 150)).heap.size by simp]; exact World.alloc_heap_new _ _
 have H2:=Lib.hid (H.out.below hb2);have HW:=Lib.hid hw;have HB2:=Lib.hid hb2;have c0 : w2.cell? ⟨w.heap.size,0,none⟩ = some (.int .i64 xl):=by rw [cell_of_heap k5]; rfl
 have c1 : w2.cell? ⟨w.heap.size,1,none⟩ = some (.bool xi):=by rw [cell_of_heap k5]; rfl
 have c2 : w2.cell? ⟨w.heap.size,2,none⟩ = some (.bool xb):=by rw [cell_of_heap k5]; rfl
 have c3 : w2.cell? ⟨w.heap.size,3,none⟩ = some (.bool xw):=by rw [cell_of_heap k5]; rfl
 have K6:=Lib.hid k6;clear hw hb2 k5 k6 hw1 hw2;rw [HW.out];obtain ⟨⟨n0,lo0,hi0⟩,hx⟩ : ∃ t,(f ⟨xl,xi,xb,xw⟩).getD ⟨0,0,0⟩ = t:=⟨_,rfl⟩;obtain ⟨hasx,hh⟩ : ∃ t,(f ⟨xl,xi,xb,xw⟩).isSome = t:=⟨_,rfl⟩;have hlk : (Instr.lookup 147 (.map (some b)) (.agg #[.int .i64 xl,.bool xi,.bool xb,.bool xw]) true).run Tryz.prog w2 = .ok (.tuple #[.agg #[.int .i64 (n0 : Int),.int .i64 (lo0 : Int),.int .i64 (hi0 : Int)],.bool hasx]) w2:=by
  have:=(HoldsM.lookup en_key (T:=147) (E:=109) (by rfl) (zero_some w2) H2.out ⟨xl,xi,xb,xw⟩ true)
  unfold enV at this;rw [this,← hh];cases e : f ⟨xl,xi,xb,xw⟩ with
  | none => rw [e] at hx; cases hx; rfl
  | some t => rw [e] at hx; simp at hx; subst hx; rfl
 have HFX : Hid (f ⟨xl,xi,xb,xw⟩ = if hasx = true then some ⟨n0,lo0,hi0⟩ else none):=Lib.hid (by
  rw [← hh];cases e : f ⟨xl,xi,xb,xw⟩ with
  | none => rfl
  | some t => rw [e] at hx; simp at hx; subst hx; rfl)
 clear hx hh;obtain ⟨w3,hw3⟩ : ∃ x,w2.alloc (.cells #[.int .i64 (n0 : Int),.int .i64 (lo0 : Int),.int .i64 (hi0 : Int)] 109) = x:=⟨_,rfl⟩;have hb3 : Below w2.heap.size w2 w3:=by rw [← hw3]; exact aB _ _
 have k8 : w3.heap[w2.heap.size]? = some (.cells #[.int .i64 (n0 : Int),.int .i64 (lo0 : Int),.int .i64 (hi0 : Int)] 109 (0,0)):=by
  rw [← hw3]; exact World.alloc_heap_new _ _
 have hlt6 : w.heap.size + 1 < w2.heap.size:=(Array.getElem?_eq_some_iff.1 K6.out).1
 have k6:=(hb3.block _ hlt6).trans K6.out;have H3:=Lib.hid (H2.out.below hb3);have HB3:=Lib.hid (bThen HB2.out hb3);have HW3:=Lib.hid hw3;have d0:=bAt hb3 c0;have d1:=bAt hb3 c1;have d2:=bAt hb3 c2;have d3:=bAt hb3 c3;have e0 : w3.cell? ⟨w2.heap.size,0,none⟩ = some (.int .i64 n0):=by rw [cell_of_heap k8]; rfl
 have e1 : w3.cell? ⟨w2.heap.size,1,none⟩ = some (.int .i64 lo0):=by rw [cell_of_heap k8]; rfl
 have e2 : w3.cell? ⟨w2.heap.size,2,none⟩ = some (.int .i64 hi0):=by rw [cell_of_heap k8]; rfl
 have g0 : w3.cell? ⟨w.heap.size + 1,0,none⟩ = some (.int .i64 n):=by rw [cell_of_heap k6]; rfl
 have g1 : w3.cell? ⟨w.heap.size + 1,1,none⟩ = some (.int .i64 ((lo : Int) + d)):=by rw [cell_of_heap k6]; rfl
 have g2 : w3.cell? ⟨w.heap.size + 1,2,none⟩ = some (.int .i64 ((hi : Int) + d)):=by rw [cell_of_heap k6]; rfl
 have fz : w3.frozen? ⟨w.heap.size + 1,0,none⟩ = false:=frozen_of_heap k6;have fz1 : w3.frozen? ⟨w.heap.size + 1,1,none⟩ = false:=frozen_of_heap k6;have fz2 : w3.frozen? ⟨w.heap.size + 1,2,none⟩ = false:=frozen_of_heap k6;have K63:=Lib.hid k6;have hbl:=H3.out.lt;have hblt:=H.out.lt;clear hw3 hb3 k8 k6 hlt6;cases hasx
 ·have hfx : f ⟨xl,xi,xb,xw⟩ = none:=HFX.out
  have HFN:=Lib.hid hfx;clear hfx HFX HF;go_upto_region 5 with fail;rw [HW3.out];obtain ⟨W',hr,hE,hg⟩ := H3.out.update (T:=147) (by rfl) ⟨xl,xi,xb,xw⟩ ⟨n,lo + d,hi + d⟩
  unfold enV smV at hr;simp only [Int.natCast_add] at hr;clear hlk c0 c1 c2 c3 e0 e1 e2 fz fz1 fz2;have HE:=Lib.hid hE;have HG:=Lib.hid hg;clear hE hg;go_wp2;go_returns;refine ⟨rfl,grownBy_trans (grownBy_below _ HB3.out) HG.out,HE.out.congr fun y => ?_⟩
  rw [HFN.out]; rfl
 ·have hfx : f ⟨xl,xi,xb,xw⟩ = some ⟨n0,lo0,hi0⟩ := HFX.out
  have hbd:=HF.out _ hfx;simp only at hbd;have HFN:=Lib.hid hfx;have hwn : IntKind.i64.wrap ((n : Int) + n0) = (n : Int) + n0:=by rw [IntKind.wrap_i64]; omega
  clear hfx HFX HF;go_upto_region 4 with fail;rw [HW3.out];clear hlk c0 c1 c2 c3;go_upto_region 5 with fail;obtain ⟨w5,hw5⟩ : ∃ x,(((w3.setCell ⟨w.heap.size + 1,0,none⟩ (.int .i64 ((n : Int) + n0))).setCell ⟨w.heap.size + 1,1,none⟩ (.int .i64 (min ((lo : Int) + d) lo0))).setCell ⟨w.heap.size + 1,2,none⟩ (.int .i64 (max ((hi : Int) + d) hi0))) = x:=⟨_,rfl⟩;have hb5 : Below w.heap.size w w5:=by rw [← hw5]; exact ((HB3.out.setCell (by simp) _).setCell (by simp) _).setCell (by simp) _
  have k6 : w5.heap[w.heap.size + 1]? = some (.cells #[.int .i64 ((n : Int) + n0),.int .i64 (min ((lo : Int) + d) lo0),.int .i64 (max ((hi : Int) + d) hi0)] 109 (0,0)):=by
   rw [← hw5]; exact heap_setCell_at (heap_setCell_at (heap_setCell_at K63.out _) _) _
  have oth : ∀ q,q ≠ w.heap.size + 1 → w5.heap[q]? = w3.heap[q]? := fun q hq => by
   rw [← hw5,Below.heap_setCell _ _ _ _ (by simpa using hq),Below.heap_setCell _ _ _ _ (by simpa using hq),Below.heap_setCell _ _ _ _ (by simpa using hq)]
  have H5:=Lib.hid (HoldsM.keep H3.out (oth b (by omega)))
  have x0 : w5.cell? ⟨w.heap.size,0,none⟩ = some (.int .i64 xl):=(World.cell?_of_block (w:=w3) (oth _ (by simp))).trans d0
  have x1 : w5.cell? ⟨w.heap.size,1,none⟩ = some (.bool xi):=(World.cell?_of_block (w:=w3) (oth _ (by simp))).trans d1
  have x2 : w5.cell? ⟨w.heap.size,2,none⟩ = some (.bool xb):=(World.cell?_of_block (w:=w3) (oth _ (by simp))).trans d2
  have x3 : w5.cell? ⟨w.heap.size,3,none⟩ = some (.bool xw):=(World.cell?_of_block (w:=w3) (oth _ (by simp))).trans d3
  have y0 : w5.cell? ⟨w.heap.size + 1,0,none⟩ = some (.int .i64 ((n : Int) + n0)):=by rw [cell_of_heap k6]; rfl
  have y1 : w5.cell? ⟨w.heap.size + 1,1,none⟩ = some (.int .i64 (min ((lo : Int) + d) lo0)):=by rw [cell_of_heap k6]; rfl
  have y2 : w5.cell? ⟨w.heap.size + 1,2,none⟩ = some (.int .i64 (max ((hi : Int) + d) hi0)):=by rw [cell_of_heap k6]; rfl
  have HW5:=Lib.hid hw5;have HB5:=Lib.hid hb5;clear hw5 hb5 k6 oth d0 d1 d2 d3 e0 e1 e2 g0 g1 g2 fz fz1 fz2;rw [HW5.out];obtain ⟨W',hr,hE,hg⟩ := EndsAt.update (T:=147) (by rfl) H5.out ⟨xl,xi,xb,xw⟩ ⟨n + n0,min (lo + d) lo0,max (hi + d) hi0⟩
  unfold enV smV at hr;simp only at hr;rw [show ((n + n0 : Nat) : Int) = (n : Int) + n0 by omega,show ((min (lo + d) lo0 : Nat) : Int) = min ((lo : Int) + d) lo0 by omega,show ((max (hi + d) hi0 : Nat) : Int) = max ((hi : Int) + d) hi0 by omega] at hr
  have HE:=Lib.hid hE;have HG:=Lib.hid hg;clear hE hg;go_wp2;go_returns;refine ⟨rfl,grownBy_trans (grownBy_below _ HB5.out) HG.out,HE.out.congr fun y => ?_⟩
  rw [HFN.out];simp [addO,Sm.add,Sm.shift,Nat.add_comm,Nat.min_comm,Nat.max_comm]
end Go.Proofs.YtnbmgkmcaoafnaaGreatDoor
