/- The texts VA, VB, MpR, MpD, KY, VC, in build order. -/
import Derived.Test.YtpfpjbglpibdoaaGreatDoorZad
import Derived.Maps.RangeRun
import Derived.Laws.StructEq

/- Chapter 5, heard legs, in plain Lean: beds, hits, visits, and how many of them end so. -/
namespace Go.Proofs.YtpfpjbglpibdoaaGreatDoor
open Go.RowKit Go.Oche Go.Proofs

structure Lg where
  start : Int
  gin : Int
  gout : Int
  beds : List Int
  players : Int
  turns : Int
  won : Bool
structure Std where
  left : Int
  inn : Bool
deriving DecidableEq
structure En where
  left : Int
  inn : Bool
  bust : Bool
  won : Bool
deriving DecidableEq
structure Ht where
  score : Int
  hin : Bool
  hout : Bool
deriving DecidableEq
def En.std (x : En) : Std := ⟨x.left, x.inn⟩
def Std.en (s : Std) : En := ⟨s.left, s.inn, false, false⟩
def isBed5 (b : Int) : Bool := (isIn (b.tdiv 100) 1 4 && isIn (b.tmod 100) 1 20) || (b == 125) || (b == 225)
def opens5 (b g : Int) : Bool := if g = 1 then b.tdiv 100 == 2 else if g = 2 then decide (2 ≤ b.tdiv 100) else true
def low5 (g : Int) : Int := if g = 0 then 1 else 2
def okCount (l : Lg) : Bool := isIn l.start 2 1001 && isIn l.gin 0 2 && isIn l.gout 0 2
def checkL (l : Lg) : Int :=
  if 82 < l.beds.length then 5
  else if okCount l = false ∨ l.beds = [] ∨ ¬ l.beds.Pairwise (· < ·) ∨ (∃ b ∈ l.beds, isBed5 b = false) then 2
  else if isIn l.players 1 4 = false ∨ isIn l.turns 0 60 = false ∨ (l.won = true ∧ l.turns = 0) then 2 else 0
def hitB5 (l : Lg) (b : Int) : Ht := ⟨b.tdiv 100 * b.tmod 100, opens5 b l.gin, opens5 b l.gout⟩
def miss5 : Ht := ⟨0, false, false⟩
def dart5 (l : Lg) (s : Std) (h : Ht) : En × Bool :=
  if (s.inn || h.hin) = false ∨ h.score = 0 then (⟨s.left, s.inn || h.hin, false, false⟩, true)
  else if s.left - h.score = 0 ∧ h.hout = true then (⟨0, true, false, true⟩, false)
  else if s.left - h.score < low5 l.gout then (⟨0, false, true, false⟩, false)
  else (⟨s.left - h.score, true, false, false⟩, true)
def hits5 (l : Lg) : List Ht := miss5 :: l.beds.map (hitB5 l)
def from5 (l : Lg) : Nat → Std → List (En × Nat)
  | 0, s => [(s.en, 0)]
  | k + 1, s => (hits5 l).flatMap fun h => if (dart5 l s h).2 = true then (from5 l k (dart5 l s h).1.std).map fun p => (p.1, p.2 + 1) else [((dart5 l s h).1, 1)]
def noBust (s : Std) (x : En) : En := if x.bust = true then s.en else x
def vis5 (l : Lg) (s : Std) : List (En × Nat) := (from5 l 3 s).map fun p => (noBust s p.1, p.2)

structure Sm where
  ways : Nat
  lo : Nat
  hi : Nat
deriving DecidableEq
def Sm.one (d : Nat) : Sm := ⟨1, d, d⟩
def Sm.add (a b : Sm) : Sm := ⟨a.ways + b.ways, min a.lo b.lo, max a.hi b.hi⟩
def Sm.shift (a : Sm) (d : Nat) : Sm := ⟨a.ways, a.lo + d, a.hi + d⟩
def Sm.scale (a : Sm) (k : Nat) : Sm := ⟨a.ways * k, a.lo, a.hi⟩
def addO : Option Sm → Option Sm → Option Sm
  | none, b => b
  | some a, none => some a
  | some a, some b => some (a.add b)
@[simp] theorem addO_none (a : Option Sm) : addO a none = a := by cases a <;> rfl
@[simp] theorem none_addO (a : Option Sm) : addO none a = a := rfl
theorem addO_comm (a b : Option Sm) : addO a b = addO b a := by
  cases a <;> cases b <;> simp [addO, Sm.add, Nat.add_comm, Nat.min_comm, Nat.max_comm]
theorem addO_assoc (a b c : Option Sm) : addO (addO a b) c = addO a (addO b c) := by
  cases a <;> cases b <;> cases c <;> simp [addO, Sm.add, Nat.add_assoc, Nat.min_assoc, Nat.max_assoc]
def agg {κ : Type} [DecidableEq κ] : List (κ × Nat) → κ → Option Sm
  | [], _ => none
  | p :: l, x => addO (if p.1 = x then some (Sm.one p.2) else none) (agg l x)
section
variable {κ ι : Type} [DecidableEq κ] [DecidableEq ι]
theorem agg_append (a b : List (κ × Nat)) (x : κ) : agg (a ++ b) x = addO (agg a x) (agg b x) := by
  induction a with
  | nil => rfl
  | cons p a ih => rw [List.cons_append, agg, agg, ih, addO_assoc]
theorem agg_perm {a b : List (κ × Nat)} (h : a.Perm b) (x : κ) : agg a x = agg b x := by
  induction h with
  | nil => rfl
  | cons p _ ih => rw [agg, agg, ih]
  | swap p q l => simp only [agg]; rw [← addO_assoc, ← addO_assoc, addO_comm (if q.1 = x then _ else _)]
  | trans _ _ h1 h2 => rw [h1, h2]
theorem agg_none {l : List (κ × Nat)} {x : κ} : agg l x = none ↔ ∀ p ∈ l, p.1 ≠ x := by
  induction l with
  | nil => simp [agg]
  | cons p l ih =>
    rw [agg]
    by_cases h : p.1 = x
    · rw [if_pos h]
      cases e : agg l x <;> simp [addO, h]
    · rw [if_neg h, none_addO, ih]; simp [h]
theorem agg_some {l : List (κ × Nat)} {x : κ} : (agg l x).isSome = true ↔ ∃ p ∈ l, p.1 = x := by
  rw [← Option.ne_none_iff_isSome, ne_eq, agg_none]
  simp
theorem agg_ways {l : List (κ × Nat)} {x : κ} {s : Sm} (h : agg l x = some s) : s.ways ≤ l.length ∧ s.lo ≤ s.hi ∧ 1 ≤ s.ways := by
  induction l generalizing s with
  | nil => cases h
  | cons p l ih =>
    rw [agg] at h
    by_cases hp : p.1 = x
    · rw [if_pos hp] at h
      cases e : agg l x with
      | none => rw [e] at h; cases h; simp [Sm.one]
      | some t =>
        rw [e] at h; cases h
        have := ih e
        simp [Sm.add, Sm.one]; omega
    · rw [if_neg hp, none_addO] at h
      have := ih h
      simp; omega
theorem agg_bounds {l : List (κ × Nat)} {x : κ} {s : Sm} (h : agg l x = some s) : (∀ p ∈ l, p.1 = x → s.lo ≤ p.2 ∧ p.2 ≤ s.hi) ∧ (∃ p ∈ l, p.1 = x ∧ p.2 = s.lo) ∧ (∃ p ∈ l, p.1 = x ∧ p.2 = s.hi) := by
  induction l generalizing s with
  | nil => cases h
  | cons p l ih =>
    rw [agg] at h
    by_cases hp : p.1 = x
    · rw [if_pos hp] at h
      cases e : agg l x with
      | none =>
        rw [e] at h; cases h
        have hn := agg_none.1 e
        refine ⟨fun q hq hx => ?_, ⟨p, by simp, hp, rfl⟩, ⟨p, by simp, hp, rfl⟩⟩
        rcases List.mem_cons.1 hq with rfl | hq
        · simp [Sm.one]
        · exact (hn q hq hx).elim
      | some t =>
        rw [e] at h; cases h
        obtain ⟨h1, ⟨a, ha, ha1, ha2⟩, ⟨b, hb, hb1, hb2⟩⟩ := ih e
        refine ⟨fun q hq hx => ?_, ?_, ?_⟩
        · rcases List.mem_cons.1 hq with rfl | hq
          · simp [Sm.add, Sm.one]; omega
          · have := h1 q hq hx; simp [Sm.add, Sm.one]; omega
        · by_cases c : p.2 ≤ t.lo
          · exact ⟨p, by simp, hp, by simp [Sm.add, Sm.one]; omega⟩
          · exact ⟨a, by simp [ha], ha1, by simp [Sm.add, Sm.one]; omega⟩
        · by_cases c : t.hi ≤ p.2
          · exact ⟨p, by simp, hp, by simp [Sm.add, Sm.one]; omega⟩
          · exact ⟨b, by simp [hb], hb1, by simp [Sm.add, Sm.one]; omega⟩
    · rw [if_neg hp, none_addO] at h
      obtain ⟨h1, ⟨a, ha, ha1, ha2⟩, ⟨b, hb, hb1, hb2⟩⟩ := ih h
      refine ⟨fun q hq hx => ?_, ⟨a, by simp [ha], ha1, ha2⟩, ⟨b, by simp [hb], hb1, hb2⟩⟩
      rcases List.mem_cons.1 hq with rfl | hq
      · exact (hp hx).elim
      · exact h1 q hq hx
theorem agg_shift (l : List (κ × Nat)) (d : Nat) (x : κ) : agg (l.map fun p => (p.1, p.2 + d)) x = (agg l x).map (Sm.shift · d) := by
  induction l with
  | nil => rfl
  | cons p l ih =>
    rw [List.map_cons, agg, agg, ih]
    by_cases h : p.1 = x
    · simp only [if_pos h]
      cases agg l x <;> simp [addO, Sm.add, Sm.one, Sm.shift, Nat.add_min_add_right, Nat.add_max_add_right]
    · simp only [if_neg h, none_addO]
def times {α : Type} (k : Nat) (l : List α) : List α := (List.replicate k l).flatten
theorem agg_times (l : List (κ × Nat)) (x : κ) : ∀ k, 0 < k → agg (times k l) x = (agg l x).map (Sm.scale · k)
  | 0, h => by omega
  | 1, _ => by
    unfold times
    simp only [List.replicate_one, List.flatten_cons, List.flatten_nil, List.append_nil]
    cases agg l x <;> simp [Sm.scale]
  | k + 2, _ => by
    have ih := agg_times l x (k + 1) (by omega)
    unfold times at ih ⊢
    rw [List.replicate_succ, List.flatten_cons, agg_append, ih]
    cases agg l x <;> simp [addO, Sm.add, Sm.scale, Nat.mul_add]; omega
end
end Go.Proofs.YtpfpjbglpibdoaaGreatDoor

/- Chapter 5, in plain Lean: sums over the keys of a map, in whatever order. -/
namespace Go.Proofs.YtpfpjbglpibdoaaGreatDoor
open Go.RowKit Go.Oche Go.Proofs

section
variable {α β κ ι : Type} [DecidableEq α] [DecidableEq κ] [DecidableEq ι]
theorem count_flat (f : α → Nat) (b : α) : ∀ {ks : List α}, ks.Nodup → (ks.flatMap fun a => List.replicate (f a) a).count b = if b ∈ ks then f b else 0
  | [], _ => by simp
  | a :: ks, h => by
    rw [List.nodup_cons] at h
    rw [List.flatMap_cons, List.count_append, count_flat f b h.2, List.count_replicate]
    by_cases e : a = b
    · subst e; simp [h.1]
    · have e' : ¬ b = a := fun q => e q.symm
      simp [e, e']
theorem perm_counts {H ks : List α} (hn : ks.Nodup) (hm : ∀ a, a ∈ ks ↔ a ∈ H) : H.Perm (ks.flatMap fun a => List.replicate (H.count a) a) := by
  rw [List.perm_iff_count]
  intro b
  rw [count_flat _ b hn]
  by_cases h : b ∈ ks
  · rw [if_pos h]
  · rw [if_neg h]; exact List.count_eq_zero.2 fun q => h ((hm b).2 q)
theorem flat_replicate {ξ ζ : Type} (n : Nat) (a : ξ) (f : ξ → List ζ) : (List.replicate n a).flatMap f = times n (f a) := by
  unfold times
  induction n with
  | zero => rfl
  | succ n ih => rw [List.replicate_succ, List.flatMap_cons, ih, List.replicate_succ, List.flatten_cons]
theorem flat_counts {H ks : List α} (hn : ks.Nodup) (hm : ∀ a, a ∈ ks ↔ a ∈ H) (f : α → List β) : (H.flatMap f).Perm (ks.flatMap fun a => times (H.count a) (f a)) := by
  refine ((perm_counts hn hm).flatMap_right f).trans (List.Perm.of_eq ?_)
  rw [List.flatMap_assoc]
  congr 1
  funext a
  exact flat_replicate _ _ _
theorem perm_keys {B : List (κ × Nat)} : ∀ {ks : List κ}, ks.Nodup → (∀ p ∈ B, p.1 ∈ ks) → B.Perm (ks.flatMap fun x => B.filter fun p => decide (p.1 = x)) := by
  intro ks hn hm
  rw [List.perm_iff_count]
  intro p
  have key : ∀ (l : List κ), l.Nodup → (l.flatMap fun x => B.filter fun p => decide (p.1 = x)).count p = if p.1 ∈ l then B.count p else 0 := by
    intro l
    induction l with
    | nil => intro _; simp
    | cons x l ih =>
      intro h
      rw [List.nodup_cons] at h
      rw [List.flatMap_cons, List.count_append, ih h.2]
      by_cases e : p.1 = x
      · subst e
        rw [List.count_filter (by simp)]
        simp [h.1]
      · have e2 : p ∉ B.filter fun p => decide (p.1 = x) := fun q => e (by simpa using (List.mem_filter.1 q).2)
        rw [List.count_eq_zero.2 e2]
        simp [e]
  rw [key ks hn]
  by_cases h : p ∈ B
  · rw [if_pos (hm p h)]
  · rw [List.count_eq_zero.2 h]; split <;> rfl
theorem agg_filter_map (B : List (κ × Nat)) (x : κ) (f : κ → ι) (y : ι) : agg ((B.filter fun p => decide (p.1 = x)).map fun p => (f p.1, p.2)) y = if f x = y then agg B x else none := by
  induction B with
  | nil => simp [agg]
  | cons p B ih =>
    by_cases h : p.1 = x
    · rw [List.filter_cons_of_pos (by simpa using h), List.map_cons, agg, ih, agg, if_pos h]
      simp only
      rw [h]
      by_cases e : f x = y
      · rw [if_pos e, if_pos e, if_pos e]
      · rw [if_neg e, if_neg e, if_neg e]; rfl
    · rw [List.filter_cons_of_neg (by simpa using h), ih, agg, if_neg h, none_addO]
def aggF (B : List (κ × Nat)) (f : κ → ι) : List κ → ι → Option Sm
  | [], _ => none
  | x :: ks, y => addO (aggF B f ks y) (if f x = y then agg B x else none)
theorem aggF_snoc (B : List (κ × Nat)) (f : κ → ι) (x : κ) (y : ι) : ∀ ks, aggF B f (ks ++ [x]) y = addO (aggF B f ks y) (if f x = y then agg B x else none)
  | [] => rfl
  | z :: ks => by
    rw [List.cons_append, aggF, aggF_snoc B f x y ks, aggF, addO_assoc, addO_assoc, addO_comm (if f x = y then _ else _)]
theorem aggF_flat (B : List (κ × Nat)) (f : κ → ι) (y : ι) : ∀ ks, aggF B f ks y = agg (ks.flatMap fun x => (B.filter fun p => decide (p.1 = x)).map fun p => (f p.1, p.2)) y
  | [] => rfl
  | x :: ks => by
    rw [aggF, List.flatMap_cons, agg_append, agg_filter_map, aggF_flat B f y ks, addO_comm]
theorem aggF_all {B : List (κ × Nat)} (f : κ → ι) {ks : List κ} (hn : ks.Nodup) (hm : ∀ p ∈ B, p.1 ∈ ks) (y : ι) : aggF B f ks y = agg (B.map fun p => (f p.1, p.2)) y := by
  rw [aggF_flat, agg_perm ((perm_keys hn hm).map fun p => (f p.1, p.2)) y, List.map_flatMap]
end
def con5 (l : Lg) (k : Nat) (s : Std) (h : Ht) : List (En × Nat) :=
  if (dart5 l s h).2 = true then (from5 l k (dart5 l s h).1.std).map fun p => (p.1, p.2 + 1) else [((dart5 l s h).1, 1)]
theorem from5_succ (l : Lg) (k : Nat) (s : Std) : from5 l (k + 1) s = (hits5 l).flatMap (con5 l k s) := rfl
def aggH (l : Lg) (k : Nat) (s : Std) : List Ht → En → Option Sm
  | [], _ => none
  | h :: hs, x => addO (aggH l k s hs x) ((agg (con5 l k s h) x).map (Sm.scale · ((hits5 l).count h)))
theorem aggH_snoc (l : Lg) (k : Nat) (s : Std) (h : Ht) (x : En) : ∀ hs, aggH l k s (hs ++ [h]) x = addO (aggH l k s hs x) ((agg (con5 l k s h) x).map (Sm.scale · ((hits5 l).count h)))
  | [] => rfl
  | g :: hs => by
    rw [List.cons_append, aggH, aggH_snoc l k s h x hs, aggH, addO_assoc, addO_assoc, addO_comm (Option.map _ (agg (con5 l k s h) x))]
theorem aggH_flat (l : Lg) (k : Nat) (s : Std) (x : En) : ∀ hs, (∀ h ∈ hs, h ∈ hits5 l) → aggH l k s hs x = agg (hs.flatMap fun h => times ((hits5 l).count h) (con5 l k s h)) x
  | [], _ => rfl
  | h :: hs, hm => by
    rw [aggH, List.flatMap_cons, agg_append, agg_times _ _ _ (List.count_pos_iff.2 (hm h (by simp))), aggH_flat l k s x hs (fun g hg => hm g (by simp [hg])), addO_comm]
theorem aggH_all (l : Lg) (k : Nat) (s : Std) {hs : List Ht} (hn : hs.Nodup) (hm : ∀ h, h ∈ hs ↔ h ∈ hits5 l) (x : En) : aggH l k s hs x = agg (from5 l (k + 1) s) x := by
  rw [aggH_flat l k s x hs fun h hh => (hm h).1 hh, from5_succ]
  exact (agg_perm (flat_counts hn hm _) x).symm
theorem con5_goes {l : Lg} {k : Nat} {s : Std} {h : Ht} (hg : (dart5 l s h).2 = true) (x : En) : agg (con5 l k s h) x = (agg (from5 l k (dart5 l s h).1.std) x).map (Sm.shift · 1) := by
  unfold con5; rw [if_pos hg, agg_shift]
theorem con5_ends {l : Lg} {k : Nat} {s : Std} {h : Ht} (hg : (dart5 l s h).2 = false) (x : En) : agg (con5 l k s h) x = if (dart5 l s h).1 = x then some (Sm.one 1) else none := by
  unfold con5; rw [if_neg (by simp [hg])]; simp [agg]
theorem hits_len (l : Lg) : (hits5 l).length = l.beds.length + 1 := by simp [hits5]
theorem from_len (l : Lg) : ∀ (k : Nat) (s : Std), (from5 l k s).length ≤ (l.beds.length + 1) ^ k
  | 0, s => by simp [from5]
  | k + 1, s => by
    rw [from5_succ]
    have key : ∀ hs : List Ht, (hs.flatMap (con5 l k s)).length ≤ hs.length * (l.beds.length + 1) ^ k := by
      intro hs
      induction hs with
      | nil => simp
      | cons h hs ih =>
        rw [List.flatMap_cons, List.length_append, List.length_cons, Nat.succ_mul]
        have h1 : (con5 l k s h).length ≤ (l.beds.length + 1) ^ k := by
          unfold con5
          split
          · rw [List.length_map]; exact from_len l k _
          · exact Nat.one_le_pow _ _ (by omega)
        omega
    have := key (hits5 l)
    rw [hits_len, Nat.mul_comm] at this
    rw [Nat.pow_succ]; exact this
theorem from_darts (l : Lg) : ∀ (k : Nat) (s : Std), ∀ p ∈ from5 l k s, p.2 ≤ k
  | 0, s, p, hp => by simp [from5] at hp; simp [hp]
  | k + 1, s, p, hp => by
    rw [from5_succ] at hp
    obtain ⟨h, _, hp⟩ := List.mem_flatMap.1 hp
    unfold con5 at hp
    split at hp
    · obtain ⟨q, hq, rfl⟩ := List.mem_map.1 hp
      have := from_darts l k _ q hq
      simp; omega
    · simp at hp; simp [hp]
end Go.Proofs.YtpfpjbglpibdoaaGreatDoor

/- A range over a map, in whatever order: which keys have come so far. -/
namespace Go.Oche
open Go Go.RowKit
section
variable {κ : Type} {P : Program} {enc : κ → Value}
def SeenAt (enc : κ → Value) (W : World) (r b : Nat) (L : List (κ × Value)) (ks : List κ) : Prop :=
  ∃ (es : Array MapEntry) (clock : Nat) (seen : Array Nat) (q : List MapEntry), W.heap[b]? = some (.map es clock) ∧ W.heap[r]? = some (.mapIter (some b) clock seen clock) ∧
    es.toList.map (·.key) = L.map (fun p => enc p.1) ∧ es.toList.map (·.val) = L.map (·.2) ∧ Born es clock ∧ q.map (·.born) = seen.toList ∧ q.map (·.key) = ks.map enc ∧ (∀ e ∈ q, e ∈ es.toList) ∧ q.Nodup
theorem SeenAt.map {W : World} {r b : Nat} {L : List (κ × Value)} {ks : List κ} (h : SeenAt enc W r b L ks) : MapAt enc W b L := by
  obtain ⟨es, c, s, q, h1, h2, h3, h4, h5, _⟩ := h; exact ⟨es, c, h1, h3, h4, h5⟩
theorem SeenAt.keep {W W' : World} {r b : Nat} {L : List (κ × Value)} {ks : List κ} (h : SeenAt enc W r b L ks) (hb : W'.heap[b]? = W.heap[b]?) (hr : W'.heap[r]? = W.heap[r]?) : SeenAt enc W' r b L ks := by
  obtain ⟨es, c, s, q, h1, h2, h3⟩ := h; exact ⟨es, c, s, q, hb.trans h1, hr.trans h2, h3⟩
theorem SeenAt.lt {W : World} {r b : Nat} {L : List (κ × Value)} {ks : List κ} (h : SeenAt enc W r b L ks) : r < W.heap.size ∧ b < W.heap.size ∧ r ≠ b := by
  obtain ⟨es, c, s, q, h1, h2, _⟩ := h
  refine ⟨(Array.getElem?_eq_some_iff.1 h2).1, (Array.getElem?_eq_some_iff.1 h1).1, fun e => ?_⟩
  rw [e, h1] at h2; cases h2
theorem born_nodup {es : Array MapEntry} {clock : Nat} (h : Born es clock) : (es.toList.map (·.born)).Nodup := h.1.imp fun h => by omega
theorem born_inj {es : Array MapEntry} {clock : Nat} (h : Born es clock) {e e' : MapEntry} (he : e ∈ es.toList) (he' : e' ∈ es.toList) (hb : e'.born = e.born) : e' = e := by
  have h1 := find_born e es.toList (born_nodup h) he
  have h2 := find_born e' es.toList (born_nodup h) he'
  rw [hb, h1] at h2
  exact (Option.some.inj h2).symm
theorem MapAt.range {T K E : TypeId} (ht : P.underlying T = some (.map K E)) {W : World} {b : Nat} {L : List (κ × Value)} (h : MapAt enc W b L) :
    ∃ W', (Instr.range T (.map (some b))).run P W = .ok (.pointer (some ⟨W.heap.size, 0, none⟩)) W' ∧ SeenAt enc W' W.heap.size b L [] ∧ Below W.heap.size W W' ∧ W'.heap.size = W.heap.size + 1 := by
  obtain ⟨es, c, h1, h2, h3, h4⟩ := h
  refine ⟨_, run_range_map W T K E b es c ht h1, ⟨es, c, #[], [], ?_, World.alloc_heap_new _ _, h2, h3, h4, rfl, rfl, by simp, by simp⟩, (Below.refl _ _).alloc (Nat.le_refl _) _, by simp⟩
  exact (Below.heap_alloc _ _ _ (Array.getElem?_eq_some_iff.1 h1).1).trans h1
theorem setBlock_grown {W : World} {r : Nat} {o o' : Obj} (_h : W.heap[r]? = some o) : W.grownBy (Go.ChangeMaps.setBlock W r o') (some r) :=
  ⟨rfl, rfl, rfl, Nat.le_of_eq (by show W.heap.size = (W.heap.setIfInBounds r _).size; rw [Array.size_setIfInBounds]), fun q _ hq => by
    have hne : r ≠ q := fun e => hq (by rw [e])
    show (W.heap.setIfInBounds r _)[q]? = W.heap[q]?
    rw [Array.getElem?_setIfInBounds_ne hne]⟩
theorem SeenAt.next {dec : Value → κ} (hd : ∀ k, dec (enc k) = k) {W : World} {r b : Nat} {L : List (κ × Value)} {ks : List κ} (h : SeenAt enc W r b L ks) (ty : TypeId) :
    ((Instr.next (.pointer (some ⟨r, 0, none⟩)) false ty).run P W = .ok (.tuple #[.bool false]) W ∧ ks.Perm (L.map (·.1))) ∨
    ∃ k v W', (k, v) ∈ L ∧ ks.length < L.length ∧ (Instr.next (.pointer (some ⟨r, 0, none⟩)) false ty).run P W = .ok (.tuple #[.bool true, enc k, v]) W' ∧ SeenAt enc W' r b L (ks ++ [k]) ∧ W.grownBy W' (some r) ∧ W'.heap.size = W.heap.size ∧
      (Instr.entry (.pointer (some ⟨r, 0, none⟩))).run P W' = .ok (.tuple #[enc k, v]) W' := by
  obtain ⟨es, c, seen, q, h1, h2, h3, h4, h5, h6, h7, h8, h9⟩ := h
  have hlenL : es.toList.length = L.length := by have := congrArg List.length h4; simpa using this
  have hlenq : q.length = ks.length := by have := congrArg List.length h7; simpa using this
  have hmem : ∀ x : Nat, seen.contains x = true ↔ ∃ e ∈ q, e.born = x := fun x => by
    rw [Array.contains_iff_mem, ← Array.mem_toList_iff, ← h6, List.mem_map]
  rcases run_next_at (P := P) W ty r b c c seen es c h2 h1 h5.2 (Nat.le_refl _) with ⟨h0, hrun⟩ | ⟨e, he, w1, hw1, hrun⟩
  · left
    refine ⟨hrun, ?_⟩
    have hall : ∀ e ∈ es.toList, e ∈ q := fun e he => by
      have hc : seen.contains e.born = true := by
        cases hx : seen.contains e.born with
        | true => rfl
        | false =>
          have : e ∈ leftOf es seen := Array.mem_filter.2 ⟨by simpa using he, by simpa using hx⟩
          have hz : leftOf es seen = #[] := Array.eq_empty_of_size_eq_zero h0
          rw [hz] at this; simp at this
      obtain ⟨e', he', hb⟩ := (hmem _).1 hc
      rw [← born_inj h5 he (h8 e' he') hb]; exact he'
    have hndes : es.toList.Nodup := List.Pairwise.of_map (·.born) (fun _ _ h e => h (congrArg _ e)) (born_nodup h5)
    have hp : q.Perm es.toList := (List.perm_ext_iff_of_nodup h9 hndes).2 fun a => ⟨h8 a, hall a⟩
    have := (hp.map (·.key)).map dec
    rw [h7, h3, List.map_map, List.map_map] at this
    simpa [Function.comp_def, hd] using this
  · right
    obtain ⟨hes, hns⟩ := mem_left he
    have hnq : e ∉ q := fun hq => by
      have := (hmem e.born).2 ⟨e, hq, rfl⟩
      rw [this] at hns; cases hns
    obtain ⟨i, hi⟩ := List.getElem?_of_mem hes
    have hiL : i < L.length := by rw [← hlenL]; exact (List.getElem?_eq_some_iff.1 hi).1
    have hk : e.key = enc L[i].1 := by
      have := congrArg (fun l => l[i]?) h3
      simp only [List.getElem?_map, hi, Option.map_some, List.getElem?_eq_getElem hiL, Option.some.injEq] at this
      exact this
    have hv : e.val = L[i].2 := by
      have := congrArg (fun l => l[i]?) h4
      simp only [List.getElem?_map, hi, Option.map_some, List.getElem?_eq_getElem hiL, Option.some.injEq] at this
      exact this
    rw [hk, hv] at hrun
    have hb1 : w1.heap[b]? = some (.map es c) := by rcases hw1 with rfl | rfl <;> exact h1
    have hr1 : w1.heap[r]? = some (.mapIter (some b) c seen c) := by rcases hw1 with rfl | rfl <;> exact h2
    have hne : r ≠ b := fun e => by rw [e, h1] at h2; cases h2
    have hrlt : r < w1.heap.size := (Array.getElem?_eq_some_iff.1 hr1).1
    have hb2 : (Go.ChangeMaps.setBlock w1 r (.mapIter (some b) c (seen.push e.born) c)).heap[b]? = some (.map es c) := by
      simp [Go.ChangeMaps.setBlock, hne, hb1]
    have hr2 : (Go.ChangeMaps.setBlock w1 r (.mapIter (some b) c (seen.push e.born) c)).heap[r]? = some (.mapIter (some b) c (seen.push e.born) c) := by
      simp [Go.ChangeMaps.setBlock, hrlt]
    have hen := run_entry_at (P := P) _ r b c seen es c e hr2 hb2 hes (born_nodup h5)
    rw [hk, hv] at hen
    have hlen : (e :: q).length ≤ es.toList.length := by
      refine List.Nodup.length_le_of_subset (l₁ := e :: q) (List.nodup_cons.2 ⟨hnq, h9⟩) fun x hx => ?_
      rcases List.mem_cons.1 hx with rfl | hx
      · exact hes
      · exact h8 x hx
    refine ⟨L[i].1, L[i].2, _, List.getElem_mem hiL, ?_, hrun, ⟨es, c, _, q ++ [e], hb2, hr2, h3, h4, h5, by simp [h6], by simp [h7, hk], fun x hx => ?_, ?_⟩, ?_, ?_, hen⟩
    · have := hlen; simp only [List.length_cons] at this; omega
    · rcases List.mem_append.1 hx with hx | hx
      · exact h8 x hx
      · simp at hx; subst hx; exact hes
    · rw [List.nodup_append]
      exact ⟨h9, by simp, fun a ha b hb => by simp at hb; subst hb; exact fun e' => hnq (e' ▸ ha)⟩
    · rcases hw1 with rfl | rfl
      · exact setBlock_grown h2
      · exact ⟨rfl, rfl, rfl, Nat.le_of_eq (by show W.heap.size = (W.heap.setIfInBounds r _).size; rw [Array.size_setIfInBounds]), fun q' hq' hne' => by
          have hne2 : r ≠ q' := fun e => hne' (by rw [e])
          show (W.heap.setIfInBounds r _)[q']? = W.heap[q']?
          rw [Array.getElem?_setIfInBounds_ne hne2]⟩
    · rcases hw1 with rfl | rfl
      · show (w1.heap.setIfInBounds r _).size = w1.heap.size; rw [Array.size_setIfInBounds]
      · show (W.heap.setIfInBounds r _).size = W.heap.size; rw [Array.size_setIfInBounds]
end
end Go.Oche

/- delete(m, k), and a range over a map in which keys that were handed out are struck. -/
namespace Go.Oche
open Go Go.RowKit
section
variable {κ : Type} [DecidableEq κ] {P : Program} {K : TypeId} {enc : κ → Value}
omit [DecidableEq κ] in
theorem map_eraseI {α β : Type} (f : α → β) : ∀ (l : List α) (i : Nat), (l.eraseIdx i).map f = (l.map f).eraseIdx i
  | [], i => by simp
  | a :: l, 0 => rfl
  | a :: l, i + 1 => by rw [List.eraseIdx_cons_succ, List.map_cons, List.map_cons, List.eraseIdx_cons_succ, map_eraseI f l i]
theorem erase_key {L : List (κ × Value)} {k : κ} (hn : (L.map (·.1)).Nodup) {i : Nat} (hi : (L.map (·.1))[i]? = some k) : L.eraseIdx i = L.filter fun p => decide (p.1 ≠ k) := by
  induction L generalizing i with
  | nil => rfl
  | cons p L ih =>
    rw [List.map_cons, List.nodup_cons] at hn
    cases i with
    | zero =>
      simp at hi
      subst hi
      rw [List.eraseIdx_cons_zero, List.filter_cons_of_neg (by simp)]
      refine (List.filter_eq_self.2 fun q hq => ?_).symm
      rw [decide_eq_true_eq]
      intro e
      exact hn.1 (by rw [← e]; exact List.mem_map_of_mem hq)
    | succ i =>
      rw [List.map_cons, List.getElem?_cons_succ] at hi
      have hne : p.1 ≠ k := fun e => hn.1 (by rw [e]; exact List.mem_of_getElem? hi)
      rw [List.eraseIdx_cons_succ, List.filter_cons_of_pos (by simpa using hne), ih hn.2 hi]
theorem filter_none {L : List (κ × Value)} {k : κ} (h : k ∉ L.map (·.1)) : L.filter (fun p => decide (p.1 ≠ k)) = L :=
  List.filter_eq_self.2 fun q hq => by rw [decide_eq_true_eq]; intro e; exact h (by rw [← e]; exact List.mem_map_of_mem hq)
theorem Born.erase {es : Array MapEntry} {clock i : Nat} (h : Born es clock) : Born (es.eraseIdxIfInBounds i) clock := by
  have hs : (es.eraseIdxIfInBounds i).toList.Sublist es.toList := by
    rw [Array.toList_eraseIdxIfInBounds]; exact List.eraseIdx_sublist _ _
  exact ⟨h.1.sublist (hs.map _), fun e he => h.2 e (hs.mem he)⟩
theorem MapAt.delete_run (KE : KeyEq P K enc) {T E : TypeId} (ht : P.underlying T = some (.map K E)) {W : World} {b : Nat} {es : Array MapEntry} {clock : Nat} {L : List (κ × Value)} (h1 : W.heap[b]? = some (.map es clock)) (h2 : es.toList.map (·.key) = L.map (fun p => enc p.1)) (h3 : es.toList.map (·.val) = L.map (·.2)) (hn : (L.map (·.1)).Nodup) (k : κ) (ty : TypeId) :
    ∃ es', (Builtin.delete_ #[T, K] ty #[.map (some b), enc k]).run P W = .ok (.tuple #[]) { W with heap := W.heap.setIfInBounds b (.map es' clock) } ∧ es'.toList.map (·.key) = (L.filter fun p => decide (p.1 ≠ k)).map (fun p => enc p.1) ∧ es'.toList.map (·.val) = (L.filter fun p => decide (p.1 ≠ k)).map (·.2) ∧
      es'.toList.Sublist es.toList ∧ (∀ e ∈ es.toList, e ∉ es'.toList → e.key = enc k) ∧ (Born es clock → Born es' clock) := by
  have hlen : es.toList.length = (L.map (·.1)).length := by have := congrArg List.length h2; simpa using this
  have hf := KE.fnd k (L.map (·.1)) es.toList W (by rw [h2, List.map_map]; rfl)
  unfold Builtin.delete_
  simp only [List.getElem?_toArray, List.getElem?_cons_zero, List.getElem?_cons_succ, Sem.run_bind, run_underlying ht, Result.andThen, MapKept.run_getObj_map h1, KE.chk, hf]
  cases hfl : findL k (L.map (·.1)) es.toList 0 with
  | none =>
    have hnk := findL_none hlen hfl
    simp only [Sem.run_bind, MapKept.run_setObj_map _ h1, Result.andThen_ok, Sem.run_pure]
    refine ⟨es, rfl, ?_, ?_, List.Sublist.refl _, fun e he hne => (hne he).elim, id⟩
    · rw [filter_none hnk]; exact h2
    · rw [filter_none hnk]; exact h3
  | some r =>
    obtain ⟨i, v0⟩ := r
    obtain ⟨q, e1, e2, e3, e4⟩ := findL_some hfl
    rw [Nat.zero_add] at e1
    subst e1
    simp only [Sem.run_bind, MapKept.run_setObj_map _ h1, Result.andThen_ok, Sem.run_pure]
    have he := erase_key hn e2
    refine ⟨_, rfl, ?_, ?_, ?_, fun e hm hne => ?_, fun hb => hb.erase⟩
    · rw [Array.toList_eraseIdxIfInBounds, map_eraseI, h2, ← map_eraseI, he]
    · rw [Array.toList_eraseIdxIfInBounds, map_eraseI, h3, ← map_eraseI, he]
    · rw [Array.toList_eraseIdxIfInBounds]; exact List.eraseIdx_sublist _ _
    · rw [Array.toList_eraseIdxIfInBounds] at hne
      obtain ⟨j, hj⟩ := List.getElem?_of_mem hm
      by_cases c : j = i
      · subst c
        have := congrArg (fun l => l[j]?) h2
        simp only [List.getElem?_map, hj, Option.map_some] at this
        rw [List.getElem?_map] at e2
        cases hL : L[j]? with
        | none => rw [hL] at e2; cases e2
        | some p =>
          rw [hL] at this e2
          simp at this e2
          rw [this, e2]
      · refine (hne ?_).elim
        rw [List.mem_eraseIdx_iff_getElem?]
        exact ⟨j, c, hj⟩
theorem MapAt.delete (KE : KeyEq P K enc) {T E : TypeId} (ht : P.underlying T = some (.map K E)) {W : World} {b : Nat} {L : List (κ × Value)} (h : MapAt enc W b L) (hn : (L.map (·.1)).Nodup) (k : κ) (ty : TypeId) :
    ∃ W', (Builtin.delete_ #[T, K] ty #[.map (some b), enc k]).run P W = .ok (.tuple #[]) W' ∧ MapAt enc W' b (L.filter fun p => decide (p.1 ≠ k)) ∧ W.grownBy W' (some b) := by
  obtain ⟨es, clock, h1, h2, h3, h4⟩ := h
  obtain ⟨es', hr, k2, k3, _, _, k4⟩ := MapAt.delete_run KE ht h1 h2 h3 hn k ty
  exact ⟨_, hr, ⟨es', clock, (MapKept.heap_set h1).1, k2, k3, k4 h4⟩, ⟨rfl, rfl, rfl, by simp, fun q _ hq => (MapKept.heap_set h1).2 q (fun e => hq (by rw [e]))⟩⟩
omit [DecidableEq κ] in
theorem keys_nodup {dec : Value → κ} (hd : ∀ k, dec (enc k) = k) {es : Array MapEntry} {L : List (κ × Value)} (h : es.toList.map (·.key) = L.map (fun p => enc p.1)) (hn : (L.map (·.1)).Nodup) : (es.toList.map (·.key)).Nodup := by
  rw [h]
  have h0 : ((L.map (·.1)).map enc).Nodup := List.Pairwise.map enc (fun a b hab e => hab (by rw [← hd a, ← hd b, e])) hn
  rw [List.map_map] at h0
  exact h0
theorem key_inj : ∀ {l : List MapEntry}, (l.map (·.key)).Nodup → ∀ {x y : MapEntry}, x ∈ l → y ∈ l → x.key = y.key → x = y
  | [], _, x, y, hx, _, _ => by cases hx
  | z :: l, hn, x, y, hx, hy, hxy => by
    rw [List.map_cons, List.nodup_cons] at hn
    rcases List.mem_cons.1 hx with e1 | h1
    · rcases List.mem_cons.1 hy with e2 | h2
      · rw [e1, e2]
      · exact (hn.1 (by rw [← e1, hxy]; exact List.mem_map_of_mem h2)).elim
    · rcases List.mem_cons.1 hy with e2 | h2
      · exact (hn.1 (by rw [← e2, ← hxy]; exact List.mem_map_of_mem h1)).elim
      · exact key_inj hn.2 h1 h2 hxy
def SeenD (enc : κ → Value) (W : World) (r b : Nat) (L0 L : List (κ × Value)) (ks : List κ) : Prop :=
  ∃ (es0 es : Array MapEntry) (clock since c0 : Nat) (seen : Array Nat) (q : List MapEntry), W.heap[b]? = some (.map es clock) ∧ W.heap[r]? = some (.mapIter (some b) since seen c0) ∧ since ≤ c0 ∧ since ≤ clock ∧
    es0.toList.map (·.key) = L0.map (fun p => enc p.1) ∧ Born es0 since ∧ es.toList.map (·.key) = L.map (fun p => enc p.1) ∧ es.toList.map (·.val) = L.map (·.2) ∧ es.toList.Sublist es0.toList ∧ (∀ e ∈ es0.toList, e ∉ es.toList → e ∈ q) ∧
    q.map (·.born) = seen.toList ∧ q.map (·.key) = ks.map enc ∧ (∀ e ∈ q, e ∈ es0.toList) ∧ q.Nodup
omit [DecidableEq κ] in
theorem SeenD.of {W : World} {r b : Nat} {L : List (κ × Value)} (h : SeenAt enc W r b L []) : SeenD enc W r b L L [] := by
  obtain ⟨es, c, s, q, h1, h2, h3, h4, h5, h6, h7, h8, h9⟩ := h
  exact ⟨es, es, c, c, c, s, q, h1, h2, Nat.le_refl _, Nat.le_refl _, h3, h5, h3, h4, List.Sublist.refl _, fun e he hn => (hn he).elim, h6, h7, h8, h9⟩
omit [DecidableEq κ] in
theorem SeenD.map {W : World} {r b : Nat} {L0 L : List (κ × Value)} {ks : List κ} (h : SeenD enc W r b L0 L ks) : MapAt enc W b L := by
  obtain ⟨es0, es, c, since, c0, s, q, h1, h2, h3, h4, h5, h6, h7, h8, h9, _⟩ := h
  exact ⟨es, c, h1, h7, h8, h6.1.sublist (h9.map _), fun e he => Nat.lt_of_lt_of_le (h6.2 e (h9.mem he)) h4⟩
omit [DecidableEq κ] in
theorem SeenD.keep {W W' : World} {r b : Nat} {L0 L : List (κ × Value)} {ks : List κ} (h : SeenD enc W r b L0 L ks) (hb : W'.heap[b]? = W.heap[b]?) (hr : W'.heap[r]? = W.heap[r]?) : SeenD enc W' r b L0 L ks := by
  obtain ⟨es0, es, c, since, c0, s, q, h1, h2, h3⟩ := h; exact ⟨es0, es, c, since, c0, s, q, hb.trans h1, hr.trans h2, h3⟩
omit [DecidableEq κ] in
theorem SeenD.lt {W : World} {r b : Nat} {L0 L : List (κ × Value)} {ks : List κ} (h : SeenD enc W r b L0 L ks) : r < W.heap.size ∧ b < W.heap.size ∧ r ≠ b := by
  obtain ⟨es0, es, c, since, c0, s, q, h1, h2, _⟩ := h
  refine ⟨(Array.getElem?_eq_some_iff.1 h2).1, (Array.getElem?_eq_some_iff.1 h1).1, fun e => ?_⟩
  rw [e, h1] at h2; cases h2
omit [DecidableEq κ] in
theorem SeenD.next {dec : Value → κ} (hd : ∀ k, dec (enc k) = k) {W : World} {r b : Nat} {L0 L : List (κ × Value)} {ks : List κ} (h : SeenD enc W r b L0 L ks) (hn0 : (L0.map (·.1)).Nodup) (ty : TypeId) :
    ((Instr.next (.pointer (some ⟨r, 0, none⟩)) false ty).run P W = .ok (.tuple #[.bool false]) W ∧ ks.Perm (L0.map (·.1))) ∨
    ∃ k v W', (k, v) ∈ L ∧ k ∉ ks ∧ ks.length < L0.length ∧ (Instr.next (.pointer (some ⟨r, 0, none⟩)) false ty).run P W = .ok (.tuple #[.bool true, enc k, v]) W' ∧ SeenD enc W' r b L0 L (ks ++ [k]) ∧ W.grownBy W' (some r) ∧ W'.heap.size = W.heap.size ∧
      (Instr.entry (.pointer (some ⟨r, 0, none⟩))).run P W' = .ok (.tuple #[enc k, v]) W' := by
  obtain ⟨es0, es, c, since, c0, seen, q, h1, h2, hsc, hsk, h3, h5, g3, g4, hsub, hgone, h6, h7, h8, h9⟩ := h
  have hlenL : es.toList.length = L.length := by have := congrArg List.length g4; simpa using this
  have hlen0 : es0.toList.length = L0.length := by have := congrArg List.length h3; simpa using this
  have hlenq : q.length = ks.length := by have := congrArg List.length h7; simpa using this
  have hnb : (es.toList.map (·.born)).Nodup := (born_nodup h5).sublist (hsub.map _)
  have hnd0 : es0.toList.Nodup := List.Pairwise.of_map (·.born) (fun _ _ h e => h (congrArg _ e)) (born_nodup h5)
  have hmem : ∀ x : Nat, seen.contains x = true ↔ ∃ e ∈ q, e.born = x := fun x => by
    rw [Array.contains_iff_mem, ← Array.mem_toList_iff, ← h6, List.mem_map]
  rcases run_next_at (P := P) W ty r b since c0 seen es c h2 h1 (fun x hx => h5.2 x (hsub.mem hx)) hsc with ⟨h0, hrun⟩ | ⟨e, he, w1, hw1, hrun⟩
  · left
    refine ⟨hrun, ?_⟩
    have hall : ∀ e ∈ es0.toList, e ∈ q := fun e he0 => by
      by_cases he : e ∈ es.toList
      · have hc : seen.contains e.born = true := by
          cases hx : seen.contains e.born with
          | true => rfl
          | false =>
            have : e ∈ leftOf es seen := Array.mem_filter.2 ⟨by simpa using he, by simpa using hx⟩
            have hz : leftOf es seen = #[] := Array.eq_empty_of_size_eq_zero h0
            rw [hz] at this; simp at this
        obtain ⟨e', he', hb⟩ := (hmem _).1 hc
        rw [← born_inj h5 he0 (h8 e' he') hb]; exact he'
      · exact hgone e he0 he
    have hp : q.Perm es0.toList := (List.perm_ext_iff_of_nodup h9 hnd0).2 fun a => ⟨h8 a, hall a⟩
    have := (hp.map (·.key)).map dec
    rw [h7, h3, List.map_map, List.map_map] at this
    simpa [Function.comp_def, hd] using this
  · right
    obtain ⟨hes, hns⟩ := mem_left he
    have hnq : e ∉ q := fun hq => by
      have := (hmem e.born).2 ⟨e, hq, rfl⟩
      rw [this] at hns; cases hns
    obtain ⟨i, hi⟩ := List.getElem?_of_mem hes
    have hiL : i < L.length := by rw [← hlenL]; exact (List.getElem?_eq_some_iff.1 hi).1
    have hk : e.key = enc L[i].1 := by
      have := congrArg (fun l => l[i]?) g3
      simp only [List.getElem?_map, hi, Option.map_some, List.getElem?_eq_getElem hiL, Option.some.injEq] at this
      exact this
    have hv : e.val = L[i].2 := by
      have := congrArg (fun l => l[i]?) g4
      simp only [List.getElem?_map, hi, Option.map_some, List.getElem?_eq_getElem hiL, Option.some.injEq] at this
      exact this
    have hb1 : w1.heap[b]? = some (.map es c) := by rcases hw1 with rfl | rfl <;> exact h1
    have hr1 : w1.heap[r]? = some (.mapIter (some b) since seen c0) := by rcases hw1 with rfl | rfl <;> exact h2
    have hne : r ≠ b := fun e => by rw [e, h1] at h2; cases h2
    have hrlt : r < w1.heap.size := (Array.getElem?_eq_some_iff.1 hr1).1
    have hb2 : (Go.ChangeMaps.setBlock w1 r (.mapIter (some b) since (seen.push e.born) c)).heap[b]? = some (.map es c) := by
      simp [Go.ChangeMaps.setBlock, hne, hb1]
    have hr2 : (Go.ChangeMaps.setBlock w1 r (.mapIter (some b) since (seen.push e.born) c)).heap[r]? = some (.mapIter (some b) since (seen.push e.born) c) := by
      simp [Go.ChangeMaps.setBlock, hrlt]
    have hen := run_entry_at (P := P) _ r b since seen es c e hr2 hb2 hes hnb
    rw [hk, hv] at hen hrun
    have he0 : e ∈ es0.toList := hsub.mem hes
    have hkn : L[i].1 ∉ ks := by
      intro hm
      have : enc L[i].1 ∈ q.map (·.key) := by rw [h7]; exact List.mem_map_of_mem hm
      obtain ⟨e', he', hke⟩ := List.mem_map.1 this
      have hnk := keys_nodup hd h3 hn0
      have := key_inj hnk he0 (h8 e' he') (by rw [hke, hk])
      exact hnq (by rw [this]; exact he')
    have hlen : (e :: q).length ≤ es0.toList.length := by
      refine List.Nodup.length_le_of_subset (l₁ := e :: q) (List.nodup_cons.2 ⟨hnq, h9⟩) fun x hx => ?_
      rcases List.mem_cons.1 hx with rfl | hx
      · exact he0
      · exact h8 x hx
    refine ⟨L[i].1, L[i].2, _, List.getElem_mem hiL, hkn, ?_, hrun, ⟨es0, es, c, since, c, _, q ++ [e], hb2, hr2, hsk, hsk, h3, h5, g3, g4, hsub, fun x hx hxn => List.mem_append_left _ (hgone x hx hxn), by simp [h6], by simp [h7, hk], fun x hx => ?_, ?_⟩, ?_, ?_, hen⟩
    · have := hlen; simp only [List.length_cons] at this; omega
    · rcases List.mem_append.1 hx with hx | hx
      · exact h8 x hx
      · simp at hx; subst hx; exact he0
    · rw [List.nodup_append]
      exact ⟨h9, by simp, fun a ha b hb => by simp at hb; subst hb; exact fun e' => hnq (e' ▸ ha)⟩
    · rcases hw1 with rfl | rfl
      · exact setBlock_grown h2
      · exact ⟨rfl, rfl, rfl, Nat.le_of_eq (by show W.heap.size = (W.heap.setIfInBounds r _).size; rw [Array.size_setIfInBounds]), fun q' hq' hne' => by
          have hne2 : r ≠ q' := fun e => hne' (by rw [e])
          show (W.heap.setIfInBounds r _)[q']? = W.heap[q']?
          rw [Array.getElem?_setIfInBounds_ne hne2]⟩
    · rcases hw1 with rfl | rfl
      · show (w1.heap.setIfInBounds r _).size = w1.heap.size; rw [Array.size_setIfInBounds]
      · show (W.heap.setIfInBounds r _).size = W.heap.size; rw [Array.size_setIfInBounds]
theorem SeenD.delete (KE : KeyEq P K enc) {dec : Value → κ} (hd : ∀ k, dec (enc k) = k) {T E : TypeId} (ht : P.underlying T = some (.map K E)) {W : World} {r b : Nat} {L0 L : List (κ × Value)} {ks : List κ} (h : SeenD enc W r b L0 L ks) (hn : (L.map (·.1)).Nodup) {k : κ} (hk : k ∈ ks) (hn0 : (L0.map (·.1)).Nodup) (ty : TypeId) :
    ∃ W', (Builtin.delete_ #[T, K] ty #[.map (some b), enc k]).run P W = .ok (.tuple #[]) W' ∧ SeenD enc W' r b L0 (L.filter fun p => decide (p.1 ≠ k)) ks ∧ W.grownBy W' (some b) := by
  have hlt := h.lt
  obtain ⟨es0, es, c, since, c0, seen, q, h1, h2, hsc, hsk, h3, h5, g3, g4, hsub, hgone, h6, h7, h8, h9⟩ := h
  obtain ⟨es', hr, k2, k3, k5, k6, -⟩ := MapAt.delete_run KE ht h1 g3 g4 hn k ty
  have hnk := keys_nodup hd h3 hn0
  refine ⟨_, hr, ⟨es0, es', c, since, c0, seen, q, (MapKept.heap_set h1).1, ((MapKept.heap_set h1).2 r (fun e => hlt.2.2 e)).trans h2, hsc, hsk, h3, h5, k2, k3, k5.trans hsub, fun x hx hxn => ?_, h6, h7, h8, h9⟩, ⟨rfl, rfl, rfl, by simp, fun q _ hq => (MapKept.heap_set h1).2 q (fun e => hq (by rw [e]))⟩⟩
  by_cases hxe : x ∈ es.toList
  · have hxk := k6 x hxe hxn
    have : enc k ∈ q.map (·.key) := by rw [h7]; exact List.mem_map_of_mem hk
    obtain ⟨e', he', hke⟩ := List.mem_map.1 this
    rw [key_inj hnk hx (h8 e' he') (by rw [hxk, hke])]; exact he'
  · exact hgone x hx hxe
end
end Go.Oche

/- Chapter 5: the keys of heard's maps: hits, stands, stands with darts, ends of visits, steps; and what their maps hold. -/
namespace Go.Proofs.YtpfpjbglpibdoaaGreatDoor
open Go Go.RowKit Go.Oche Go.Proofs

def stV (s : Std) : Value := .agg #[.int .i64 s.left, .bool s.inn]
def htV (h : Ht) : Value := .agg #[.int .i64 h.score, .bool h.hin, .bool h.hout]
def enV (x : En) : Value := .agg #[.int .i64 x.left, .bool x.inn, .bool x.bust, .bool x.won]
def atV (a : Std × Nat) : Value := .agg #[.int .i64 a.1.left, .bool a.1.inn, .int .i64 (a.2 : Int)]
def spV (p : Std × Std) : Value := .agg #[.int .i64 p.1.left, .bool p.1.inn, .int .i64 p.2.left, .bool p.2.inn]
def smV (s : Sm) : Value := .agg #[.int .i64 (s.ways : Int), .int .i64 (s.lo : Int), .int .i64 (s.hi : Int)]

theorem std_in (n : Nat) (s t : Std) (w : World) : (Op.equalIn (n + 2) 29 (stV s) (stV t)).run Tryz.prog w = .ok (decide (t = s)) w := by
  obtain ⟨a, b⟩ := s
  obtain ⟨c, d⟩ := t
  have hf : Tryz.prog.underlying 29 = some (.struct (Tryz.prog.fieldsOf 29)) := by kernel_rfl
  have hp : Tryz.prog.stoodInHeld 29 = false := by kernel_rfl
  unfold stV
  rw [run_equalIn_agg w (n + 1) _ _ _ hf hp]
  simp [Program.fieldsOf, Op.eqFields, go_sem, Tryz.underlying29]
  by_cases h : a = c <;> by_cases h2 : b = d <;> simp [h, h2]
  · intro e; exact (h2 e.symm).elim
  all_goals (intro e; exact (h e.symm).elim)
theorem ht_in (n : Nat) (s t : Ht) (w : World) : (Op.equalIn (n + 2) 169 (htV s) (htV t)).run Tryz.prog w = .ok (decide (t = s)) w := by
  obtain ⟨a, b, x⟩ := s
  obtain ⟨c, d, y⟩ := t
  have hf : Tryz.prog.underlying 169 = some (.struct (Tryz.prog.fieldsOf 169)) := by kernel_rfl
  have hp : Tryz.prog.stoodInHeld 169 = false := by kernel_rfl
  unfold htV
  rw [run_equalIn_agg w (n + 1) _ _ _ hf hp]
  simp [Program.fieldsOf, Op.eqFields, go_sem, Tryz.underlying169]
  by_cases h : a = c <;> by_cases h2 : b = d <;> by_cases h3 : x = y <;> simp [h, h2, h3, eq_comm]
theorem at_in (n : Nat) (s t : Std × Nat) (w : World) : (Op.equalIn (n + 3) 164 (atV s) (atV t)).run Tryz.prog w = .ok (decide (t = s)) w := by
  obtain ⟨⟨a, b⟩, x⟩ := s
  obtain ⟨⟨c, d⟩, y⟩ := t
  have hf : Tryz.prog.underlying 164 = some (.struct (Tryz.prog.fieldsOf 164)) := by kernel_rfl
  have hp : Tryz.prog.stoodInHeld 164 = false := by kernel_rfl
  have hi := std_in n ⟨a, b⟩ ⟨c, d⟩
  unfold stV at hi
  unfold atV
  rw [run_equalIn_agg w (n + 2) _ _ _ hf hp]
  simp [Program.fieldsOf, Op.eqFields, go_sem, Tryz.underlying164, hi]
  by_cases h : a = c <;> by_cases h2 : b = d <;> by_cases h3 : x = y <;> simp [h, h2, h3, eq_comm]
  all_goals omega
theorem en_in (n : Nat) (s t : En) (w : World) : (Op.equalIn (n + 3) 113 (enV s) (enV t)).run Tryz.prog w = .ok (decide (t = s)) w := by
  obtain ⟨a, b, x, u⟩ := s
  obtain ⟨c, d, y, v⟩ := t
  have hf : Tryz.prog.underlying 113 = some (.struct (Tryz.prog.fieldsOf 113)) := by kernel_rfl
  have hp : Tryz.prog.stoodInHeld 113 = false := by kernel_rfl
  have hi := std_in n ⟨a, b⟩ ⟨c, d⟩
  unfold stV at hi
  unfold enV
  rw [run_equalIn_agg w (n + 2) _ _ _ hf hp]
  simp [Program.fieldsOf, Op.eqFields, go_sem, Tryz.underlying113, hi]
  by_cases h : a = c <;> by_cases h2 : b = d <;> by_cases h3 : x = y <;> by_cases h4 : u = v <;> simp [h, h2, h3, h4, eq_comm]
theorem ag_kind {K : TypeId} {d : TypeDesc} (_h : Tryz.prog.underlying K = some d) (hd : (∃ fs, d = .struct fs) ∨ ∃ n e, d = .array n e) : ∀ a b, Instr.sameNow d a b = none := by
  rcases hd with ⟨fs, rfl⟩ | ⟨n, e, rfl⟩ <;> intro a b <;> cases a <;> cases b <;> rfl
theorem sb_int (n : Nat) (k : IntKind) (a : Int) : Instr.sameBits n (.int k a) (.int k a) = true := by cases n <;> simp [Instr.sameBits]
theorem sb_bool (n : Nat) (a : Bool) : Instr.sameBits n (.bool a) (.bool a) = true := by cases n <;> simp [Instr.sameBits]
theorem sb_st (s : Std) : Instr.sameBits 10000 (stV s) (stV s) = true := by unfold stV Instr.sameBits; simp [sb_int, sb_bool]
theorem sb_ht (s : Ht) : Instr.sameBits 10000 (htV s) (htV s) = true := by unfold htV Instr.sameBits; simp [sb_int, sb_bool]
theorem sb_at (s : Std × Nat) : Instr.sameBits 10000 (atV s) (atV s) = true := by unfold atV Instr.sameBits; simp [sb_int, sb_bool]
theorem sb_en (s : En) : Instr.sameBits 10000 (enV s) (enV s) = true := by unfold enV Instr.sameBits; simp [sb_int, sb_bool]
theorem sb_sp (s : Std × Std) : Instr.sameBits 10000 (spV s) (spV s) = true := by unfold spV Instr.sameBits; simp [sb_int, sb_bool]
theorem st_key : KeyEq Tryz.prog 29 stV :=
  have hf : Tryz.prog.underlying 29 = some (.struct (Tryz.prog.fieldsOf 29)) := by kernel_rfl
  KeyEq.of_ask hf (ag_kind hf (.inl ⟨_, rfl⟩)) (fun k k' w => std_in 9998 k k' w) (fun c k w => by cases k; kernel_rfl) sb_st
theorem ht_key : KeyEq Tryz.prog 169 htV :=
  have hf : Tryz.prog.underlying 169 = some (.struct (Tryz.prog.fieldsOf 169)) := by kernel_rfl
  KeyEq.of_ask hf (ag_kind hf (.inl ⟨_, rfl⟩)) (fun k k' w => ht_in 9998 k k' w) (fun c k w => by cases k; kernel_rfl) sb_ht
theorem at_key : KeyEq Tryz.prog 164 atV :=
  have hf : Tryz.prog.underlying 164 = some (.struct (Tryz.prog.fieldsOf 164)) := by kernel_rfl
  KeyEq.of_ask hf (ag_kind hf (.inl ⟨_, rfl⟩)) (fun k k' w => at_in 9997 k k' w) (fun c k w => by obtain ⟨⟨_, _⟩, _⟩ := k; kernel_rfl) sb_at
theorem en_key : KeyEq Tryz.prog 113 enV :=
  have hf : Tryz.prog.underlying 113 = some (.struct (Tryz.prog.fieldsOf 113)) := by kernel_rfl
  KeyEq.of_ask hf (ag_kind hf (.inl ⟨_, rfl⟩)) (fun k k' w => en_in 9997 k k' w) (fun c k w => by cases k; kernel_rfl) sb_en
theorem sp_in (n : Nat) (s t : Std × Std) (w : World) : (Op.equalIn (n + 3) 138 (spV s) (spV t)).run Tryz.prog w = .ok (decide (t = s)) w := by
  obtain ⟨⟨a, b⟩, ⟨x, u⟩⟩ := s
  obtain ⟨⟨c, d⟩, ⟨y, v⟩⟩ := t
  have hi : ∀ a b c e w, (Op.equalIn (n + 2) 29 (.agg #[.int .i64 a, .bool b]) (.agg #[.int .i64 c, .bool e])).run Tryz.prog w = .ok (decide (Std.mk c e = Std.mk a b)) w := fun a b c e w => std_in n ⟨a, b⟩ ⟨c, e⟩ w
  unfold spV Op.equalIn
  have hu : Tryz.prog.underlying 138 = some (.array 2 29) := by kernel_rfl
  have hs : ∀ w, (sizeOf 29).run Tryz.prog w = .ok 2 w := fun w => by kernel_rfl
  simp only [Sem.run_bind, run_underlying hu, Result.andThen, hs]
  simp [go_sem, List.range', Sem.run_bind, hi, Result.andThen, Sem.run_pure]
  by_cases h : a = c <;> by_cases h2 : b = d <;> by_cases h3 : x = y <;> by_cases h4 : u = v <;> simp [h, h2, h3, h4, eq_comm, hi, Result.andThen, Sem.run_pure]
theorem sp_key : KeyEq Tryz.prog 138 spV :=
  have hf : Tryz.prog.underlying 138 = some (.array 2 29) := by kernel_rfl
  KeyEq.of_ask hf (ag_kind hf (.inr ⟨_, _, rfl⟩)) (fun k k' w => sp_in 9997 k k' w) (fun c k w => by obtain ⟨⟨_, _⟩, ⟨_, _⟩⟩ := k; kernel_rfl) sb_sp
theorem int_key : KeyEq Tryz.prog 3 (Value.int .i64) := KeyEq.int (q := .i64) Tryz.underlying3
theorem zero_i (w : World) : (zeroValue 3).run Tryz.prog w = .ok (.int .i64 0) w := by kernel_rfl
theorem zero_b (w : World) : (zeroValue 4).run Tryz.prog w = .ok (.bool false) w := by kernel_rfl
theorem zero_some (w : World) : (zeroValue 121).run Tryz.prog w = .ok (smV ⟨0, 0, 0⟩) w := by kernel_rfl
theorem zero_ends (w : World) : (zeroValue 110).run Tryz.prog w = .ok (.map none) w := by kernel_rfl
end Go.Proofs.YtpfpjbglpibdoaaGreatDoor

/- Chapter 5, in plain Lean: the visits of a player that fit reports, turn by turn; what is part of a truth. -/
namespace Go.Proofs.YtpfpjbglpibdoaaGreatDoor
open Go.RowKit Go.Oche Go.Proofs

structure Rp where
  turn : Int
  score : Int
  left : Int
deriving DecidableEq
structure Sp where
  bef : Std
  en : En
  darts : Nat
deriving DecidableEq
def Sp.aft (s : Sp) : Std := s.en.std
def fitsP (s : Std) (x : En) (said : List Rp) : Bool := said.all fun r => (r.score == -1 || r.score == s.left - x.left) && (r.left == -1 || r.left == x.left)
def addNew {α : Type} [DecidableEq α] (acc : List α) (s : α) : List α := if s ∈ acc then acc else acc ++ [s]
def firsts {α : Type} [DecidableEq α] (l : List α) : List α := l.foldl addNew []
def OkS (l : Lg) (said : Int → List Rp) (t : Int) (sp : Sp) : Prop := (sp.en, sp.darts) ∈ vis5 l sp.bef ∧ sp.en.won = (l.won && (t == l.turns - 1)) ∧ fitsP sp.bef sp.en (said t) = true
def stepL (l : Lg) (said : Int → List Rp) (t : Int) (now : List Std) : List Sp :=
  now.flatMap fun s => ((vis5 l s).filter fun p => (p.1.won == (l.won && (t == l.turns - 1))) && fitsP s p.1 (said t)).map fun p => ⟨s, p.1, p.2⟩
def followL (l : Lg) (said : Int → List Rp) : List Int → List Std → List (List Sp) × List Std
  | [], now => ([], now)
  | t :: ts, now => (stepL l said t now :: (followL l said ts (firsts ((stepL l said t now).map Sp.aft))).1, (followL l said ts (firsts ((stepL l said t now).map Sp.aft))).2)
def pruneL : List (List Sp) → List Std → List (List Sp) × List Std
  | [], now => ([], now)
  | st :: rest, now => ((st.filter fun s => decide (s.aft ∈ (pruneL rest now).2)) :: (pruneL rest now).1, firsts ((st.filter fun s => decide (s.aft ∈ (pruneL rest now).2)).map Sp.bef))
def Run (l : Lg) (said : Int → List Rp) : List Int → Std → List Sp → Prop
  | [], _, r => r = []
  | t :: ts, s, r => ∃ sp r', r = sp :: r' ∧ sp.bef = s ∧ OkS l said t sp ∧ Run l said ts sp.aft r'
section
variable {α : Type} [DecidableEq α]
theorem mem_addNew {acc : List α} {s x : α} : x ∈ addNew acc s ↔ x ∈ acc ∨ x = s := by
  unfold addNew
  split
  · rename_i h; exact ⟨.inl, fun e => e.elim id fun e => e ▸ h⟩
  · simp
theorem mem_foldl_new {x : α} : ∀ {l acc : List α}, x ∈ l.foldl addNew acc ↔ x ∈ acc ∨ x ∈ l
  | [], acc => by simp
  | s :: l, acc => by
    rw [List.foldl_cons, mem_foldl_new, mem_addNew, List.mem_cons, or_assoc]
theorem mem_firsts {x : α} {l : List α} : x ∈ firsts l ↔ x ∈ l := by
  unfold firsts; rw [mem_foldl_new]; simp
theorem nodup_addNew {acc : List α} (h : acc.Nodup) (s : α) : (addNew acc s).Nodup := by
  unfold addNew
  split
  · exact h
  · rename_i hn
    rw [List.nodup_append]
    exact ⟨h, by simp, fun a ha b hb e => hn (by rw [List.mem_singleton] at hb; rw [← hb, ← e]; exact ha)⟩
theorem nodup_foldl_new : ∀ {l acc : List α}, acc.Nodup → (l.foldl addNew acc).Nodup
  | [], _, h => h
  | s :: l, acc, h => by rw [List.foldl_cons]; exact nodup_foldl_new (nodup_addNew h s)
theorem nodup_firsts (l : List α) : (firsts l).Nodup := nodup_foldl_new List.nodup_nil
end
variable {l : Lg} {said : Int → List Rp}
theorem mem_stepL {t : Int} {now : List Std} {sp : Sp} : sp ∈ stepL l said t now ↔ sp.bef ∈ now ∧ OkS l said t sp := by
  unfold stepL OkS
  rw [List.mem_flatMap]
  constructor
  · rintro ⟨s, hs, h⟩
    obtain ⟨p, hp, rfl⟩ := List.mem_map.1 h
    obtain ⟨h1, h2⟩ := List.mem_filter.1 hp
    rw [Bool.and_eq_true, beq_iff_eq] at h2
    exact ⟨hs, h1, h2.1, h2.2⟩
  · rintro ⟨h1, h2, h3, h4⟩
    exact ⟨sp.bef, h1, List.mem_map.2 ⟨(sp.en, sp.darts), List.mem_filter.2 ⟨h2, by rw [Bool.and_eq_true, beq_iff_eq]; exact ⟨h3, h4⟩⟩, rfl⟩⟩
theorem followL_len : ∀ (ts : List Int) (now : List Std), (followL l said ts now).1.length = ts.length
  | [], _ => rfl
  | t :: ts, now => by rw [followL, List.length_cons, List.length_cons, followL_len ts]
theorem pruneL_len : ∀ (ss : List (List Sp)) (now : List Std), (pruneL ss now).1.length = ss.length
  | [], _ => rfl
  | st :: ss, now => by rw [pruneL, List.length_cons, List.length_cons, pruneL_len ss]
theorem prune_bef : ∀ (ts : List Int) (now : List Std) (s : Std), s ∈ (pruneL (followL l said ts now).1 (followL l said ts now).2).2 ↔ s ∈ now ∧ ∃ r, Run l said ts s r
  | [], now, s => by simp [followL, pruneL, Run]
  | t :: ts, now, s => by
    rw [followL, pruneL, mem_firsts, List.mem_map]
    constructor
    · rintro ⟨sp, h, rfl⟩
      obtain ⟨h1, h2⟩ := List.mem_filter.1 h
      rw [decide_eq_true_eq] at h2
      obtain ⟨h3, h4⟩ := mem_stepL.1 h1
      obtain ⟨-, r, hr⟩ := (prune_bef ts _ _).1 h2
      exact ⟨h3, sp :: r, sp, r, rfl, rfl, h4, hr⟩
    · rintro ⟨hs, r, sp, r', rfl, h1, h2, h3⟩
      subst h1
      have hst : sp ∈ stepL l said t now := mem_stepL.2 ⟨hs, h2⟩
      exact ⟨sp, List.mem_filter.2 ⟨hst, decide_eq_true ((prune_bef ts _ _).2 ⟨mem_firsts.2 (List.mem_map_of_mem hst), r', h3⟩)⟩, rfl⟩
theorem prune_kept : ∀ (ts : List Int) (now : List Std) (i : Nat) (sp : Sp), (∃ k, (pruneL (followL l said ts now).1 (followL l said ts now).2).1[i]? = some k ∧ sp ∈ k) ↔ ∃ s ∈ now, ∃ r, Run l said ts s r ∧ r[i]? = some sp
  | [], now, i, sp => by
    simp only [followL, pruneL, Run]
    constructor
    · rintro ⟨k, h, _⟩; simp at h
    · rintro ⟨s, _, r, rfl, h⟩; simp at h
  | t :: ts, now, 0, sp => by
    rw [followL, pruneL]
    simp only [List.getElem?_cons_zero, Option.some.injEq, exists_eq_left']
    constructor
    · intro h
      obtain ⟨h1, h2⟩ := List.mem_filter.1 h
      rw [decide_eq_true_eq] at h2
      obtain ⟨h3, h4⟩ := mem_stepL.1 h1
      obtain ⟨-, r, hr⟩ := (prune_bef ts _ _).1 h2
      exact ⟨sp.bef, h3, sp :: r, ⟨sp, r, rfl, rfl, h4, hr⟩, rfl⟩
    · rintro ⟨s, hs, r, ⟨sp', r', rfl, h1, h2, h3⟩, h⟩
      simp at h
      subst h h1
      have hst : sp' ∈ stepL l said t now := mem_stepL.2 ⟨hs, h2⟩
      exact List.mem_filter.2 ⟨hst, decide_eq_true ((prune_bef ts _ _).2 ⟨mem_firsts.2 (List.mem_map_of_mem hst), r', h3⟩)⟩
  | t :: ts, now, i + 1, sp => by
    rw [followL, pruneL]
    simp only [List.getElem?_cons_succ]
    rw [prune_kept ts _ i sp]
    constructor
    · rintro ⟨s, hs, r, hr, hi⟩
      rw [mem_firsts, List.mem_map] at hs
      obtain ⟨sp0, h0, rfl⟩ := hs
      obtain ⟨h1, h2⟩ := mem_stepL.1 h0
      exact ⟨sp0.bef, h1, sp0 :: r, ⟨sp0, r, rfl, rfl, h2, hr⟩, by simpa using hi⟩
    · rintro ⟨s, hs, r, ⟨sp0, r', rfl, h1, h2, h3⟩, h⟩
      subst h1
      exact ⟨sp0.aft, mem_firsts.2 (List.mem_map_of_mem (mem_stepL.2 ⟨hs, h2⟩)), r', h3, by simpa using h⟩
theorem follow_end : ∀ (ts : List Int) (now : List Std), (followL l said ts now).2 ≠ [] ↔ ∃ s ∈ now, ∃ r, Run l said ts s r
  | [], now => by
    rw [followL]
    constructor
    · intro h
      cases now with
      | nil => exact (h rfl).elim
      | cons s now => exact ⟨s, by simp, [], rfl⟩
    · rintro ⟨s, hs, _⟩ h
      dsimp only at h
      rw [h] at hs; cases hs
  | t :: ts, now => by
    rw [followL]
    dsimp only
    rw [follow_end ts]
    constructor
    · rintro ⟨s, hs, r, hr⟩
      rw [mem_firsts, List.mem_map] at hs
      obtain ⟨sp, h0, rfl⟩ := hs
      obtain ⟨h1, h2⟩ := mem_stepL.1 h0
      exact ⟨sp.bef, h1, sp :: r, sp, r, rfl, rfl, h2, hr⟩
    · rintro ⟨s, hs, r, sp, r', rfl, h1, h2, h3⟩
      subst h1
      exact ⟨sp.aft, mem_firsts.2 (List.mem_map_of_mem (mem_stepL.2 ⟨hs, h2⟩)), r', h3⟩
theorem Run.len : ∀ {ts : List Int} {s : Std} {r : List Sp}, Run l said ts s r → r.length = ts.length
  | [], _, _, h => by rw [show _ = [] from h]; rfl
  | _ :: _, _, _, ⟨_, _, e, _, _, h⟩ => by rw [e, List.length_cons, List.length_cons, Run.len h]
theorem Run.less {said' : Int → List Rp} (hs : ∀ t, ∀ x ∈ said' t, x ∈ said t) : ∀ {ts : List Int} {s : Std} {r : List Sp}, Run l said ts s r → Run l said' ts s r
  | [], _, _, h => h
  | t :: _, _, _, ⟨sp, r', e, h1, ⟨h2, h3, h4⟩, h⟩ => ⟨sp, r', e, h1, ⟨h2, h3, by unfold fitsP at h4 ⊢; rw [List.all_eq_true] at h4 ⊢; exact fun x hx => h4 x (hs t x hx)⟩, Run.less hs h⟩
end Go.Proofs.YtpfpjbglpibdoaaGreatDoor
