/- The texts WD, WE0, QS2, in build order. -/
import Derived.Test.YtpfpjbglpibdoaaGreatDoorZbb
import Derived.Deep.WholeRow

/- Chapter 5: the scores of visits that do not win, as HeardVisits collects them. -/
namespace Go.Proofs.YtpfpjbglpibdoaaGreatDoor
open Go.RowKit Go.Oche Go.Proofs

def seenB (V : List (En × Nat)) (a : Int) (j : Nat) : Bool := V.any fun p => !p.1.won && (a - p.1.left == (j : Int))
def seenL (V : List (En × Nat)) (a : Int) : List Bool := (List.range 1002).map (seenB V a)
def wonB (V : List (En × Nat)) : Bool := V.any fun p => p.1.won
def rightL (V : List (En × Nat)) (a : Int) (i : Nat) : List Int := ((List.range i).filter (seenB V a)).map fun (j : Nat) => (j : Int)
end Go.Proofs.YtpfpjbglpibdoaaGreatDoor

/- Chapter 5, HeardWays: what is counted visit by visit; the region that asks Ways. -/
namespace Go.Proofs.YtpfpjbglpibdoaaGreatDoor
open Go Go.RowKit Go.Oche Go.Proofs

def cntO (o : Option Sm) : Nat × Nat × Nat := match o with
  | none => (0, 9, 0)
  | some s => (s.ways, s.lo, s.hi)
def upto (sl score : Int) (V : List (En × Nat)) : Option Sm := agg (V.map fun p => (sl - p.1.left, p.2)) score
section
variable {l : Lg} {s : Std} {score ec : Int}
theorem open_ok (h : checkL l = 0) (h2 : okStand l s = true) : openE l s = 0 := by unfold openE; rw [h, if_pos rfl, h2]; rfl
theorem waysE_none (h : checkL l = 0) (h2 : okStand l s = true) (h3 : isIn score 0 240 = true) (h4 : waysO l s score = none) : waysE l s score = 7 := by
  unfold waysE
  rw [open_ok h h2, if_pos rfl, h3, if_pos rfl, if_pos h4]
theorem waysE_ok (h : checkL l = 0) (h2 : okStand l s = true) (h3 : isIn score 0 240 = true) {z : Sm} (h4 : waysO l s score = some z) : waysE l s score = 0 ∧ waysR l s score = z := by
  have e : waysE l s score = 0 := by
    unfold waysE
    rw [open_ok h h2, if_pos rfl, h3, if_pos rfl, if_neg (by rw [h4]; exact fun e => by cases e)]
  refine ⟨e, ?_⟩
  unfold waysR
  rw [e, if_pos rfl, h4]
  rfl
theorem waysR_bad (h : waysE l s score ≠ 0) : waysR l s score = ⟨0, 0, 0⟩ := by unfold waysR; rw [if_neg h]
end

structure JW (l : Lg) (n : Nat) (A : Array Value) (w0 : World) (L : Nat → Bool) (vs : Nat → Value) (W : World) : Prop where
  below : Below w0.heap.size w0 W
  own : L 1 = true → ∃ a c, vs 1 = legV l (.slice a n c) ∧ Sl (fun q => w0.heap.size ≤ q ∧ (L 9 = true → vs 9 ≠ .pointer (some ⟨q, 0, none⟩))) W (.slice a n c) (ints l.beds)
  box : L 9 = true → ∃ R B, vs 9 = .pointer (some ⟨R, 0, none⟩) ∧ w0.heap.size ≤ R ∧ B.size = 2 ∧ W.heap[R]? = some (.cells B 48 (0, 0)) ∧ (L 11 = true → B = A)
  dep : L 11 = true → L 9 = true
section
variable {l : Lg} {n : Nat} {A : Array Value} {w0 W W' : World} {L : Nat → Bool} {vs vs' : Nat → Value}
theorem JW.congr (hc : ∀ j, L j = true → vs j = vs' j) (h : JW l n A w0 L vs W) : JW l n A w0 L vs' W :=
  ⟨h.below, fun e => by
    obtain ⟨a, c, e1, e2⟩ := h.own e
    exact ⟨a, c, by rw [← hc _ e]; exact e1, e2.mono fun q hq => ⟨hq.1, fun e9 => by rw [← hc _ e9]; exact hq.2 e9⟩⟩, fun e => by rw [← hc _ e]; exact h.box e, h.dep⟩
theorem JW.start (vs : Nat → Value) : JW l n A w0 (fun _ => false) vs w0.drew := ⟨⟨rfl, rfl, rfl, Nat.le_refl _, fun _ _ => rfl⟩, fun h => (by cases h), fun h => (by cases h), fun h => (by cases h)⟩
theorem JW.grow (h : JW l n A w0 L vs W) (hb : Below W.heap.size W W') : JW l n A w0 L vs W' :=
  ⟨bThen h.below hb, fun e => let ⟨a, c, e1, e2⟩ := h.own e; ⟨a, c, e1, e2.below hb⟩, fun e => let ⟨R, B, e1, e2, e3, e4, e5⟩ := h.box e; ⟨R, B, e1, e2, e3, (hb.block R (Array.getElem?_eq_some_iff.1 e4).1).trans e4, e5⟩, h.dep⟩
theorem JW.oth (h : JW l n A w0 L vs W) {i : Nat} {v : Value} (h1 : 1 ≠ i) (h9 : 9 ≠ i) (h11 : 11 ≠ i) : JW l n A w0 (setB L i) (updV vs i v) W := by
  have e1 := setB_ne (L := L) h1
  have e9 := setB_ne (L := L) h9
  have e11 := setB_ne (L := L) h11
  refine ⟨h.below, ?_, ?_, ?_⟩
  · rw [e1, e9, updV_ne h1, updV_ne h9]; exact h.own
  · rw [e9, updV_ne h9, e11]; exact h.box
  · rw [e9, e11]; exact h.dep
theorem JW.own1 (h : JW l n A w0 L vs W) (hb : Below W.heap.size W W') {a : Option Addr} {c : Nat} (hs : Sl (fun q => W.heap.size ≤ q) W' (.slice a n c) (ints l.beds)) : JW l n A w0 (setB L 1) (updV vs 1 (legV l (.slice a n c))) W' := by
  have h' := h.grow hb
  have e9 := setB_ne (L := L) (show 9 ≠ 1 by decide)
  have e11 := setB_ne (L := L) (show 11 ≠ 1 by decide)
  refine ⟨h'.below, fun _ => ⟨a, c, updV_eq, hs.mono fun q hq => ⟨Nat.le_trans h.below.size hq, ?_⟩⟩, ?_, ?_⟩
  · rw [e9, updV_ne (by decide)]
    intro e e2
    obtain ⟨R, B, f1, f2, f3, f4, f5⟩ := h.box e
    rw [f1] at e2
    cases e2
    have := (Array.getElem?_eq_some_iff.1 f4).1
    omega
  · rw [e9, e11, updV_ne (by decide)]; exact h'.box
  · rw [e9, e11]; exact h.dep
theorem JW.new9 (h : JW l n A w0 L vs W) (hL : L 9 = false) {B : Array Value} (hB : B.size = 2) : JW l n A w0 (setB L 9) (updV vs 9 (.pointer (some ⟨W.heap.size, 0, none⟩))) (W.alloc (.cells B 48)) := by
  have h' := h.grow (aB W (.cells B 48))
  have e1 := setB_ne (L := L) (show 1 ≠ 9 by decide)
  have e11 := setB_ne (L := L) (show 11 ≠ 9 by decide)
  refine ⟨h'.below, ?_, fun _ => ⟨W.heap.size, B, updV_eq, h.below.size, hB, World.alloc_heap_new _ _, ?_⟩, ?_⟩
  · rw [e1, updV_ne (by decide)]
    intro e
    obtain ⟨a, c, f1, f2⟩ := h.own e
    refine ⟨a, c, f1, (f2.lt.below (aB W _)).mono fun q hq => ⟨hq.1.1, fun _ he => ?_⟩⟩
    rw [updV_eq] at he
    cases he
    exact Nat.lt_irrefl _ hq.2
  · rw [e11]; intro e; have := h.dep e; rw [hL] at this; cases this
  · rw [e11, setB_eq]; exact fun _ => rfl
theorem JW.store11 (h : JW l n A w0 L vs W) (hA : A.size = 2) (h9 : L 9 = true) {R : Nat} (e9 : vs 9 = .pointer (some ⟨R, 0, none⟩)) (v : Value) : JW l n A w0 (setB L 11) (updV vs 11 v) (W.setRow R A) := by
  obtain ⟨R', B, f1, f2, f3, f4, f5⟩ := h.box h9
  rw [e9] at f1
  cases f1
  have e1 := setB_ne (L := L) (show 1 ≠ 11 by decide)
  have e9' := setB_ne (L := L) (show 9 ≠ 11 by decide)
  refine ⟨below_setRow h.below f2 _, ?_, ?_, fun _ => by rw [e9']; exact h9⟩
  · rw [e1, e9', updV_ne (by decide), updV_ne (by decide)]
    intro e
    obtain ⟨a, c, g1, g2⟩ := h.own e
    refine ⟨a, c, g1, g2.cells fun q o hq _ => ?_⟩
    have hqb : q ≠ R := fun e => hq.2 h9 (by rw [e9, e])
    exact World.cell?_of_block (w := W) (setRow_other _ _ _ _ hqb)
  · rw [e9', updV_ne (by decide)]
    exact fun _ => ⟨R, A, e9, f2, hA, setRow_heap _ _ _ _ _ _ f4, fun _ => rfl⟩
end
end Go.Proofs.YtpfpjbglpibdoaaGreatDoor

/- Chapter 5, HeardSums: what Ways answers for each score, before and after a bed more. -/
namespace Go.Proofs.YtpfpjbglpibdoaaGreatDoor
open Go Go.RowKit Go.Oche Go.Proofs

theorem sums_at {l : Lg} {s : Std} {xs : List Int} (hc : checkL l = 0) (ho : okStand l s = true) (hcm : checkL (moreL l) = 0) (hx : IsScores l s xs) {n : Int} (h0 : 0 ≤ n) (h1 : n ≤ 240) :
    ((n ∈ xs ∨ winsL l s = true ∧ n = s.left) ∧ waysE l s n = 0 ∧ (1 ≤ (waysR l s n).ways ∧ 1 ≤ (waysR l s n).lo ∧ (waysR l s n).hi ≤ 3 ∧ (waysR l s n).lo ≤ (waysR l s n).hi) ∧ waysE (moreL l) s n = 0 ∧ (waysR l s n).ways ≤ (waysR (moreL l) s n).ways) ∨
    (¬ (n ∈ xs ∨ winsL l s = true ∧ n = s.left) ∧ waysE l s n = 7 ∧ waysR l s n = ⟨0, 0, 0⟩) := by
  have hi : isIn n 0 240 = true := by unfold isIn; simp; omega
  have hom : okStand (moreL l) s = true := ho
  have hcan := ways_can hx (score := n)
  cases hw : waysO l s n with
  | none =>
    right
    rw [hw] at hcan
    have e := waysE_none hc ho hi hw
    exact ⟨fun h => by have := hcan.2 h; simp at this, e, waysR_bad (by rw [e]; decide)⟩
  | some z =>
    left
    rw [hw] at hcan
    obtain ⟨e1, e2⟩ := waysE_ok hc ho hi hw
    obtain ⟨t, ht, hle⟩ := ways_more 420 hw
    obtain ⟨e3, e4⟩ := waysE_ok hcm hom hi ht
    rw [e2, e4]
    exact ⟨hcan.1 rfl, e1, ways_darts hw, e3, hle⟩
theorem moreL_in {l : Lg} (h : BedsIn l) : BedsIn (moreL l) := by
  unfold BedsIn at h ⊢
  intro b hb
  rcases List.mem_append.1 (show b ∈ l.beds ++ [420] from hb) with hb | hb
  · exact h b hb
  · rw [List.mem_singleton] at hb; omega
theorem scOf_len (l : Lg) (s : Std) : (scOf l s).length ≤ 1002 := by
  unfold scOf
  rw [List.length_map]
  exact Nat.le_trans (List.length_filter_le _ _) (by rw [List.length_range]; exact Nat.le_refl _)
end Go.Proofs.YtpfpjbglpibdoaaGreatDoor
