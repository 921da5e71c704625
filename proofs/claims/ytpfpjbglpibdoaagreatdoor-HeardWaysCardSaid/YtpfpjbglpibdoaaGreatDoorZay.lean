/- The texts WD, WE0, WE, in build order. -/
import Derived.Test.YtpfpjbglpibdoaaGreatDoorZax
import Derived.Deep.WholeRow
import Derived.Lib.MinMax

/- Chapter 5: the scores of visits that do not win, as HeardVisits collects them. -/
namespace Go.Proofs.YtpfpjbglpibdoaaGreatDoor
open Go.RowKit Go.Oche Go.Proofs

def seenB (V : List (En × Nat)) (a : Int) (j : Nat) : Bool := V.any fun p => !p.1.won && (a - p.1.left == (j : Int))
def seenL (V : List (En × Nat)) (a : Int) : List Bool := (List.range 1002).map (seenB V a)
def wonB (V : List (En × Nat)) : Bool := V.any fun p => p.1.won
def rightL (V : List (En × Nat)) (a : Int) (i : Nat) : List Int := ((List.range i).filter (seenB V a)).map fun (j : Nat) => (j : Int)
end Go.Proofs.YtpfpjbglpibdoaaGreatDoor

/- Chapter 5, HeardWays: what is counted visit by visit; the region that asks Ways. -/
namespace Go.Proofs.YtpfpjbglpibdoaaGreatDoor
open Go Go.RowKit Go.Oche Go.Proofs

def cntO (o : Option Sm) : Nat × Nat × Nat := match o with
  | none => (0, 9, 0)
  | some s => (s.ways, s.lo, s.hi)
def upto (sl score : Int) (V : List (En × Nat)) : Option Sm := agg (V.map fun p => (sl - p.1.left, p.2)) score
theorem upto_hit {sl score : Int} {V : List (En × Nat)} {p : En × Nat} (h : sl - p.1.left = score) (hp : p.2 ≤ 9) : cntO (upto sl score (V ++ [p])) = ((cntO (upto sl score V)).1 + 1, min (cntO (upto sl score V)).2.1 p.2, max (cntO (upto sl score V)).2.2 p.2) := by
  have e : upto sl score (V ++ [p]) = addO (upto sl score V) (some (Sm.one p.2)) := by
    unfold upto
    rw [List.map_append, agg_append]
    simp [agg, h, addO]
  rw [e]
  cases upto sl score V with
  | none => simp [addO, cntO, Sm.one]; omega
  | some s => simp [addO, cntO, Sm.one, Sm.add]
theorem upto_miss {sl score : Int} {V : List (En × Nat)} {p : En × Nat} (h : sl - p.1.left ≠ score) : upto sl score (V ++ [p]) = upto sl score V := by
  unfold upto
  rw [List.map_append, agg_append]
  simp only [List.map_cons, List.map_nil, agg, h, if_false, addO]
  cases agg (V.map fun p => (sl - p.1.left, p.2)) score <;> rfl
theorem upto_len {sl score : Int} (V : List (En × Nat)) : (cntO (upto sl score V)).1 ≤ V.length := by
  cases h : upto sl score V with
  | none => simp [cntO]
  | some s => have := (agg_ways h).1; simpa [cntO] using this
theorem upto_none {sl score : Int} {V : List (En × Nat)} : (cntO (upto sl score V)).1 = 0 ↔ upto sl score V = none := by
  cases h : upto sl score V with
  | none => simp [cntO]
  | some s => have := (agg_ways h).2.2; simp [cntO]; omega
theorem upto_bd {sl score : Int} {V : List (En × Nat)} (h : ∀ p ∈ V, p.2 ≤ 3) : (cntO (upto sl score V)).2.1 ≤ 9 ∧ (cntO (upto sl score V)).2.2 ≤ 9 := by
  cases hs : upto sl score V with
  | none => simp [cntO]
  | some s =>
    obtain ⟨-, ⟨p, hp, -, e1⟩, ⟨q, hq, -, e2⟩⟩ := agg_bounds hs
    obtain ⟨p', hp', rfl⟩ := List.mem_map.1 hp
    obtain ⟨q', hq', rfl⟩ := List.mem_map.1 hq
    have h1 := h p' hp'
    have h2 := h q' hq'
    simp only at e1 e2
    simp [cntO]; omega
section
variable {l : Lg} {s : Std} {score ec : Int}
theorem waysE_bad (score : Int) {s : Std} (h : checkL l = ec) (h0 : ec ≠ 0) : waysE l s score = ec := by
  have ho : openE l s = ec := by unfold openE; rw [h, if_neg h0]
  unfold waysE
  rw [ho, if_neg h0]
theorem waysE_st (score : Int) (h : checkL l = 0) (h2 : okStand l s = false) : waysE l s score = 2 := by
  have ho : openE l s = 2 := by unfold openE; rw [h, if_pos rfl, h2]; rfl
  unfold waysE
  rw [ho, if_neg (by decide)]
theorem open_ok (h : checkL l = 0) (h2 : okStand l s = true) : openE l s = 0 := by unfold openE; rw [h, if_pos rfl, h2]; rfl
theorem waysE_rg (h : checkL l = 0) (h2 : okStand l s = true) (h3 : isIn score 0 240 = false) : waysE l s score = 3 := by
  unfold waysE
  rw [open_ok h h2, if_pos rfl, h3]
  rfl
theorem waysE_none (h : checkL l = 0) (h2 : okStand l s = true) (h3 : isIn score 0 240 = true) (h4 : waysO l s score = none) : waysE l s score = 7 := by
  unfold waysE
  rw [open_ok h h2, if_pos rfl, h3, if_pos rfl, if_pos h4]
theorem waysE_ok (h : checkL l = 0) (h2 : okStand l s = true) (h3 : isIn score 0 240 = true) {z : Sm} (h4 : waysO l s score = some z) : waysE l s score = 0 ∧ waysR l s score = z := by
  have e : waysE l s score = 0 := by
    unfold waysE
    rw [open_ok h h2, if_pos rfl, h3, if_pos rfl, if_neg (by rw [h4]; exact fun e => by cases e)]
  refine ⟨e, ?_⟩
  unfold waysR
  rw [e, if_pos rfl, h4]
  rfl
theorem waysR_bad (h : waysE l s score ≠ 0) : waysR l s score = ⟨0, 0, 0⟩ := by unfold waysR; rw [if_neg h]
end

structure JW (l : Lg) (n : Nat) (A : Array Value) (w0 : World) (L : Nat → Bool) (vs : Nat → Value) (W : World) : Prop where
  below : Below w0.heap.size w0 W
  own : L 1 = true → ∃ a c, vs 1 = legV l (.slice a n c) ∧ Sl (fun q => w0.heap.size ≤ q ∧ (L 9 = true → vs 9 ≠ .pointer (some ⟨q, 0, none⟩))) W (.slice a n c) (ints l.beds)
  box : L 9 = true → ∃ R B, vs 9 = .pointer (some ⟨R, 0, none⟩) ∧ w0.heap.size ≤ R ∧ B.size = 2 ∧ W.heap[R]? = some (.cells B 48 (0, 0)) ∧ (L 11 = true → B = A)
  dep : L 11 = true → L 9 = true
section
variable {l : Lg} {n : Nat} {A : Array Value} {w0 W W' : World} {L : Nat → Bool} {vs vs' : Nat → Value}
theorem JW.congr (hc : ∀ j, L j = true → vs j = vs' j) (h : JW l n A w0 L vs W) : JW l n A w0 L vs' W :=
  ⟨h.below, fun e => by
    obtain ⟨a, c, e1, e2⟩ := h.own e
    exact ⟨a, c, by rw [← hc _ e]; exact e1, e2.mono fun q hq => ⟨hq.1, fun e9 => by rw [← hc _ e9]; exact hq.2 e9⟩⟩, fun e => by rw [← hc _ e]; exact h.box e, h.dep⟩
theorem JW.start (vs : Nat → Value) : JW l n A w0 (fun _ => false) vs w0.drew := ⟨⟨rfl, rfl, rfl, Nat.le_refl _, fun _ _ => rfl⟩, fun h => (by cases h), fun h => (by cases h), fun h => (by cases h)⟩
theorem JW.grow (h : JW l n A w0 L vs W) (hb : Below W.heap.size W W') : JW l n A w0 L vs W' :=
  ⟨bThen h.below hb, fun e => let ⟨a, c, e1, e2⟩ := h.own e; ⟨a, c, e1, e2.below hb⟩, fun e => let ⟨R, B, e1, e2, e3, e4, e5⟩ := h.box e; ⟨R, B, e1, e2, e3, (hb.block R (Array.getElem?_eq_some_iff.1 e4).1).trans e4, e5⟩, h.dep⟩
theorem JW.oth (h : JW l n A w0 L vs W) {i : Nat} {v : Value} (h1 : 1 ≠ i) (h9 : 9 ≠ i) (h11 : 11 ≠ i) : JW l n A w0 (setB L i) (updV vs i v) W := by
  have e1 := setB_ne (L := L) h1
  have e9 := setB_ne (L := L) h9
  have e11 := setB_ne (L := L) h11
  refine ⟨h.below, ?_, ?_, ?_⟩
  · rw [e1, e9, updV_ne h1, updV_ne h9]; exact h.own
  · rw [e9, updV_ne h9, e11]; exact h.box
  · rw [e9, e11]; exact h.dep
theorem JW.own1 (h : JW l n A w0 L vs W) (hb : Below W.heap.size W W') {a : Option Addr} {c : Nat} (hs : Sl (fun q => W.heap.size ≤ q) W' (.slice a n c) (ints l.beds)) : JW l n A w0 (setB L 1) (updV vs 1 (legV l (.slice a n c))) W' := by
  have h' := h.grow hb
  have e9 := setB_ne (L := L) (show 9 ≠ 1 by decide)
  have e11 := setB_ne (L := L) (show 11 ≠ 1 by decide)
  refine ⟨h'.below, fun _ => ⟨a, c, updV_eq, hs.mono fun q hq => ⟨Nat.le_trans h.below.size hq, ?_⟩⟩, ?_, ?_⟩
  · rw [e9, updV_ne (by decide)]
    intro e e2
    obtain ⟨R, B, f1, f2, f3, f4, f5⟩ := h.box e
    rw [f1] at e2
    cases e2
    have := (Array.getElem?_eq_some_iff.1 f4).1
    omega
  · rw [e9, e11, updV_ne (by decide)]; exact h'.box
  · rw [e9, e11]; exact h.dep
theorem JW.new9 (h : JW l n A w0 L vs W) (hL : L 9 = false) {B : Array Value} (hB : B.size = 2) : JW l n A w0 (setB L 9) (updV vs 9 (.pointer (some ⟨W.heap.size, 0, none⟩))) (W.alloc (.cells B 48)) := by
  have h' := h.grow (aB W (.cells B 48))
  have e1 := setB_ne (L := L) (show 1 ≠ 9 by decide)
  have e11 := setB_ne (L := L) (show 11 ≠ 9 by decide)
  refine ⟨h'.below, ?_, fun _ => ⟨W.heap.size, B, updV_eq, h.below.size, hB, World.alloc_heap_new _ _, ?_⟩, ?_⟩
  · rw [e1, updV_ne (by decide)]
    intro e
    obtain ⟨a, c, f1, f2⟩ := h.own e
    refine ⟨a, c, f1, (f2.lt.below (aB W _)).mono fun q hq => ⟨hq.1.1, fun _ he => ?_⟩⟩
    rw [updV_eq] at he
    cases he
    exact Nat.lt_irrefl _ hq.2
  · rw [e11]; intro e; have := h.dep e; rw [hL] at this; cases this
  · rw [e11, setB_eq]; exact fun _ => rfl
theorem JW.store11 (h : JW l n A w0 L vs W) (hA : A.size = 2) (h9 : L 9 = true) {R : Nat} (e9 : vs 9 = .pointer (some ⟨R, 0, none⟩)) (v : Value) : JW l n A w0 (setB L 11) (updV vs 11 v) (W.setRow R A) := by
  obtain ⟨R', B, f1, f2, f3, f4, f5⟩ := h.box h9
  rw [e9] at f1
  cases f1
  have e1 := setB_ne (L := L) (show 1 ≠ 11 by decide)
  have e9' := setB_ne (L := L) (show 9 ≠ 11 by decide)
  refine ⟨below_setRow h.below f2 _, ?_, ?_, fun _ => by rw [e9']; exact h9⟩
  · rw [e1, e9', updV_ne (by decide), updV_ne (by decide)]
    intro e
    obtain ⟨a, c, g1, g2⟩ := h.own e
    refine ⟨a, c, g1, g2.cells fun q o hq _ => ?_⟩
    have hqb : q ≠ R := fun e => hq.2 h9 (by rw [e9, e])
    exact World.cell?_of_block (w := W) (setRow_other _ _ _ _ hqb)
  · rw [e9', updV_ne (by decide)]
    exact fun _ => ⟨R, A, e9, f2, hA, setRow_heap _ _ _ _ _ _ f4, fun _ => rfl⟩
end
end Go.Proofs.YtpfpjbglpibdoaaGreatDoor

/- Chapter 5: HeardWays, the walk. -/
namespace Go.Proofs.YtpfpjbglpibdoaaGreatDoor
open Go Go.RowKit Go.Oche Go.Proofs

set_option maxRecDepth 100000 in
set_option maxHeartbeats 4000000 in
theorem heardWays_any {S : Nat → Prop} (l : Lg) (bv : Value) (s : Std) (score : Int) (w : World) (hs : Sl S w bv (ints l.beds)) (hbd : BedsIn l) (hT : Tab5 w) :
    Calls Tryz.prog 4 #[legV l bv, stV s, .int .i64 score] w fun e w' => e = .returned (.bool true) ∧ Below w.heap.size w w' := by
  obtain ⟨a, cap, rfl, h2, h3⟩ := hs.form
  obtain ⟨sl, si⟩ := s
  simp only [ints_length] at *
  unfold maxLen at h3
  obtain ⟨n, hn⟩ : ∃ n, l.beds.length = n := ⟨_, rfl⟩
  rw [hn] at h2 hs ⊢
  obtain ⟨w1, hw1⟩ : ∃ x, (w.alloc (.cells #[.int .i64 l.start, .int .i64 l.gin, .int .i64 l.gout, .slice a n cap, .int .i64 l.players, .int .i64 l.turns, .bool l.won] 27)).alloc (.cells #[.int .i64 sl, .bool si] 29) = x := ⟨_, rfl⟩
  have hb1 : Below w.heap.size w w1 := by rw [← hw1]; exact (aB _ _).alloc (by simp) _
  obtain ⟨N, hN⟩ : ∃ N, w.heap.size = N := ⟨_, rfl⟩
  have k : w1.heap[N]? = some (.cells #[.int .i64 l.start, .int .i64 l.gin, .int .i64 l.gout, .slice a n cap, .int .i64 l.players, .int .i64 l.turns, .bool l.won] 27 (0, 0)) := by rw [← hw1, ← hN]; exact (Below.heap_alloc _ _ _ (by simp)).trans (World.alloc_heap_new _ _)
  have k2 : w1.heap[N + 1]? = some (.cells #[.int .i64 sl, .bool si] 29 (0, 0)) := by
    rw [← hw1, ← hN]
    have := World.alloc_heap_new (w.alloc (.cells #[.int .i64 l.start, .int .i64 l.gin, .int .i64 l.gout, .slice a n cap, .int .i64 l.players, .int .i64 l.turns, .bool l.won] 27)) (.cells #[.int .i64 sl, .bool si] 29)
    simp only [World.size_alloc] at this
    exact this
  have c0 : w1.cell? ⟨N, 0, none⟩ = some (.int .i64 l.start) := by rw [cell_of_heap k]; rfl
  have c1 : w1.cell? ⟨N, 1, none⟩ = some (.int .i64 l.gin) := by rw [cell_of_heap k]; rfl
  have c2 : w1.cell? ⟨N, 2, none⟩ = some (.int .i64 l.gout) := by rw [cell_of_heap k]; rfl
  have c3 : w1.cell? ⟨N, 3, none⟩ = some (.slice a n cap) := by rw [cell_of_heap k]; rfl
  have c4 : w1.cell? ⟨N, 4, none⟩ = some (.int .i64 l.players) := by rw [cell_of_heap k]; rfl
  have c5 : w1.cell? ⟨N, 5, none⟩ = some (.int .i64 l.turns) := by rw [cell_of_heap k]; rfl
  have c6 : w1.cell? ⟨N, 6, none⟩ = some (.bool l.won) := by rw [cell_of_heap k]; rfl
  have s0 : w1.cell? ⟨N + 1, 0, none⟩ = some (.int .i64 sl) := by rw [cell_of_heap k2]; rfl
  have s1 : w1.cell? ⟨N + 1, 1, none⟩ = some (.bool si) := by rw [cell_of_heap k2]; rfl
  have HS := Lib.hid (hs.below hb1)
  have HB := Lib.hid hb1
  have HW := Lib.hid hw1
  have HT := Lib.hid hT
  have HBD := Lib.hid hbd
  have HLN := Lib.hid hn
  have HN := Lib.hid hN
  unfold legV legA stV
  simp only
  clear hs hb1 hw1 hT hbd hn k k2 hN
  go_enter Tryz.func4, Tryz.ntmps4
  go_upto_region 1 with fail
  rw [HW.out, HN.out]
  go_wp2_with fail
  have hcall := great_any l (.slice a n cap) w1 HS.out
  unfold legV legA at hcall
  obtain ⟨g, hg⟩ : ∃ g, greatB l = g := ⟨_, rfl⟩
  rw [hg] at hcall
  refine hcall.mono ?_
  rintro e w2 ⟨rfl, hb2⟩
  have HG := Lib.hid hg
  have HB2 := Lib.hid (bThen HB.out hb2)
  have HS2 := Lib.hid (HS.out.below hb2)
  have c0 := bAt hb2 c0
  have c1 := bAt hb2 c1
  have c2 := bAt hb2 c2
  have c3 := bAt hb2 c3
  have c4 := bAt hb2 c4
  have c5 := bAt hb2 c5
  have c6 := bAt hb2 c6
  have s0 := bAt hb2 s0
  have s1 := bAt hb2 s1
  clear hcall hb2 hg
  cases g
  · have hgn := great_no HG.out
    have hn90 : n ≤ 90 := by rw [← HLN.out]; exact hgn.1
    have HGN := Lib.hid hgn.2
    clear hgn
    obtain ⟨en, hen⟩ : ∃ z : Int, ((waysR l ⟨sl, si⟩ score).ways : Int) = z := ⟨_, rfl⟩
    obtain ⟨el, hel⟩ : ∃ z : Int, ((waysR l ⟨sl, si⟩ score).lo : Int) = z := ⟨_, rfl⟩
    obtain ⟨eh, heh⟩ : ∃ z : Int, ((waysR l ⟨sl, si⟩ score).hi : Int) = z := ⟨_, rfl⟩
    obtain ⟨we, hwe⟩ : ∃ z : Int, waysE l ⟨sl, si⟩ score = z := ⟨_, rfl⟩
    have HEN := Lib.hid hen
    have HEL := Lib.hid hel
    have HEH := Lib.hid heh
    have HWE := Lib.hid hwe
    clear hen hel heh hwe
    go_upto_region 3 with fail
    have hown : ∀ W, Below w2.heap.size w2 W → Calls Tryz.prog 14 #[.agg #[.int .i64 l.start, .int .i64 l.gin, .int .i64 l.gout, .slice a n cap, .int .i64 l.players, .int .i64 l.turns, .bool l.won]] W fun e w' => ∃ bv', e = .returned (legV l bv') ∧ Below W.heap.size W w' ∧ Sl (fun q => W.heap.size ≤ q) w' bv' (ints l.beds) := fun W hW =>
      own_any l (.slice a n cap) W (HS2.out.below hW) (by rw [HLN.out]; omega)
    have hways : ∀ W (x : Option Addr) (y : Nat) (S' : Nat → Prop), Sl S' W (.slice x n y) (ints l.beds) → Calls Tryz.prog 22 #[.agg #[.int .i64 l.start, .int .i64 l.gin, .int .i64 l.gout, .slice x n y, .int .i64 l.players, .int .i64 l.turns, .bool l.won], .agg #[.int .i64 sl, .bool si], .int .i64 score] W fun e w' => e = .returned (.tuple #[.int .i64 en, .agg #[.int .i64 el, .int .i64 eh], .int .i64 we]) ∧ Below W.heap.size W w' := fun W x y S' hs => by
      have h := ways_any l (.slice x n y) ⟨sl, si⟩ score W hs HBD.out
      rw [HEN.out, HEL.out, HEH.out, HWE.out] at h
      exact h
    refine wp_region_seqV 13 ((fun v => v = .agg #[.int .i64 l.start, .int .i64 l.gin, .int .i64 l.gout, .slice a n cap, .int .i64 l.players, .int .i64 l.turns, .bool l.won]) :: (fun v => ∃ p : Option Addr × Nat, v = .agg #[.int .i64 l.start, .int .i64 l.gin, .int .i64 l.gout, .slice p.1 n p.2, .int .i64 l.players, .int .i64 l.turns, .bool l.won]) :: (fun v => v = .agg #[.int .i64 sl, .bool si]) :: (fun v => v = .int .i64 score) :: (fun v => v = .tuple #[.int .i64 en, .agg #[.int .i64 el, .int .i64 eh], .int .i64 we]) :: (fun v => v = .tuple #[.int .i64 en, .agg #[.int .i64 el, .int .i64 eh], .int .i64 we]) :: (fun v => v = .int .i64 en) :: (fun v => v = .agg #[.int .i64 el, .int .i64 eh]) :: (fun v => v = .int .i64 we) :: (fun v => ∃ g, v = .pointer (some ⟨g, 0, none⟩)) :: (fun v => v = .int .i64 en) :: (fun v => v = undef) :: (fun v => v = .int .i64 we) :: []) (JW l n #[.int .i64 el, .int .i64 eh] w2) rfl mix (by kernel_rfl) (by kernel_rfl) (fun _ _ _ _ hc h => h.congr hc) (fun vs => JW.start vs) ?_
    simp only [List.take_succ_cons, List.take_zero]
    refine sv_new ⟨_, rfl⟩ rfl (fun W L vs hvs hL hj hd => ?_) ?_
    · simp only [List.length_nil] at hL ⊢
      have q0 := bAt hj.below c0
      have q1 := bAt hj.below c1
      have q2 := bAt hj.below c2
      have q3 := bAt hj.below c3
      have q4 := bAt hj.below c4
      have q5 := bAt hj.below c5
      have q6 := bAt hj.below c6
      exact opOK_val (v := .agg #[.int .i64 l.start, .int .i64 l.gin, .int .i64 l.gout, .slice a n cap, .int .i64 l.players, .int .i64 l.turns, .bool l.won]) (w' := W) (by simp [go_sem, execOp, q0, q1, q2, q3, q4, q5, q6]) ⟨rfl, hj.oth (by decide) (by decide) (by decide)⟩
    rintro _ rfl
    simp only [Act.put, List.setIfInBounds_toArray, List.set_cons_succ, List.set_cons_zero]
    refine sv_new ⟨_, (none, 0), rfl⟩ rfl (fun W L vs hvs hL hj hd => ?_) ?_
    · simp only [List.length_append, List.length_cons, List.length_nil, Nat.zero_add] at hL ⊢
      refine opOK_call (f := 14) (args := #[.agg #[.int .i64 l.start, .int .i64 l.gin, .int .i64 l.gout, .slice a n cap, .int .i64 l.players, .int .i64 l.turns, .bool l.won]]) (by simp [go_sem]) ?_
      refine (hown W hj.below).mono ?_
      rintro e w' ⟨bv', rfl, hb3, hs3⟩
      obtain ⟨x, y, rfl, -, -⟩ := hs3.form
      rw [ints_length, HLN.out] at hs3 ⊢
      exact ⟨_, rfl, ⟨(x, y), rfl⟩, hj.own1 hb3 hs3⟩
    rintro _ ⟨⟨x, y⟩, rfl⟩
    simp only [Act.put, List.setIfInBounds_toArray, List.set_cons_succ, List.set_cons_zero]
    refine sv_new ⟨_, rfl⟩ rfl (fun W L vs hvs hL hj hd => ?_) ?_
    · simp only [List.length_append, List.length_cons, List.length_nil, Nat.zero_add, Nat.reduceAdd] at hL ⊢
      have q0 := bAt hj.below s0
      have q1 := bAt hj.below s1
      exact opOK_val (v := .agg #[.int .i64 sl, .bool si]) (w' := W) (by simp [go_sem, execOp, q0, q1]) ⟨rfl, hj.oth (by decide) (by decide) (by decide)⟩
    rintro _ rfl
    simp only [Act.put, List.setIfInBounds_toArray, List.set_cons_succ, List.set_cons_zero]
    refine sv_new ⟨_, rfl⟩ rfl (fun W L vs hvs hL hj hd => ?_) ?_
    · simp only [List.length_append, List.length_cons, List.length_nil, Nat.zero_add, Nat.reduceAdd] at hL ⊢
      exact opOK_val (v := .int .i64 score) (w' := W) (by simp [go_sem, execOp]) ⟨rfl, hj.oth (by decide) (by decide) (by decide)⟩
    rintro _ rfl
    simp only [Act.put, List.setIfInBounds_toArray, List.set_cons_succ, List.set_cons_zero]
    refine sv_new ⟨_, rfl⟩ rfl (fun W L vs hvs hL hj hd => ?_) ?_
    · simp only [List.length_append, List.length_cons, List.length_nil, Nat.zero_add, Nat.reduceAdd] at hL ⊢
      have e1 := hvs 1 (.agg #[.int .i64 l.start, .int .i64 l.gin, .int .i64 l.gout, .slice x n y, .int .i64 l.players, .int .i64 l.turns, .bool l.won]) (by simp)
      obtain ⟨x', y', e2, hs4⟩ := hj.own (hd ⟨1, .data⟩ (by simp) rfl)
      rw [e1] at e2
      cases e2
      refine opOK_call (f := 22) (args := #[.agg #[.int .i64 l.start, .int .i64 l.gin, .int .i64 l.gout, .slice x n y, .int .i64 l.players, .int .i64 l.turns, .bool l.won], .agg #[.int .i64 sl, .bool si], .int .i64 score]) (by simp [go_sem]) ?_
      refine (hways W x y _ hs4).mono ?_
      rintro e w' ⟨rfl, hb3⟩
      exact ⟨_, rfl, rfl, (hj.grow hb3).oth (by decide) (by decide) (by decide)⟩
    rintro _ rfl
    simp only [Act.put, List.setIfInBounds_toArray, List.set_cons_succ, List.set_cons_zero]
    refine sv_new ⟨_, rfl⟩ rfl (fun W L vs hvs hL hj hd => ?_) ?_
    · simp only [List.length_append, List.length_cons, List.length_nil, Nat.zero_add, Nat.reduceAdd] at hL ⊢
      exact opOK_val (v := .tuple #[.int .i64 en, .agg #[.int .i64 el, .int .i64 eh], .int .i64 we]) (w' := W) (by simp [go_sem, execOp]) ⟨rfl, hj.oth (by decide) (by decide) (by decide)⟩
    rintro _ rfl
    simp only [Act.put, List.setIfInBounds_toArray, List.set_cons_succ, List.set_cons_zero]
    refine sv_new ⟨_, rfl⟩ rfl (fun W L vs hvs hL hj hd => ?_) ?_
    · simp only [List.length_append, List.length_cons, List.length_nil, Nat.zero_add, Nat.reduceAdd] at hL ⊢
      exact opOK_val (v := .int .i64 en) (w' := W) (by simp [go_sem, execOp]) ⟨rfl, hj.oth (by decide) (by decide) (by decide)⟩
    rintro _ rfl
    simp only [Act.put, List.setIfInBounds_toArray, List.set_cons_succ, List.set_cons_zero]
    refine sv_new ⟨_, rfl⟩ rfl (fun W L vs hvs hL hj hd => ?_) ?_
    · simp only [List.length_append, List.length_cons, List.length_nil, Nat.zero_add, Nat.reduceAdd] at hL ⊢
      exact opOK_val (v := .agg #[.int .i64 el, .int .i64 eh]) (w' := W) (by simp [go_sem, execOp]) ⟨rfl, hj.oth (by decide) (by decide) (by decide)⟩
    rintro _ rfl
    simp only [Act.put, List.setIfInBounds_toArray, List.set_cons_succ, List.set_cons_zero]
    refine sv_new ⟨_, rfl⟩ rfl (fun W L vs hvs hL hj hd => ?_) ?_
    · simp only [List.length_append, List.length_cons, List.length_nil, Nat.zero_add, Nat.reduceAdd] at hL ⊢
      exact opOK_val (v := .int .i64 we) (w' := W) (by simp [go_sem, execOp]) ⟨rfl, hj.oth (by decide) (by decide) (by decide)⟩
    rintro _ rfl
    simp only [Act.put, List.setIfInBounds_toArray, List.set_cons_succ, List.set_cons_zero]
    refine sv_new ⟨_, 0, rfl⟩ rfl (fun W L vs hvs hL hj hd => ?_) ?_
    · simp only [List.length_append, List.length_cons, List.length_nil, Nat.zero_add, Nat.reduceAdd] at hL ⊢
      exact opOK_val (v := .pointer (some ⟨W.heap.size, 0, none⟩)) (w' := W.alloc (.cells #[.int .i64 0, .int .i64 0] 48)) (by simp [go_sem, execOp]) ⟨⟨_, rfl⟩, hj.new9 hL rfl⟩
    rintro _ ⟨R, rfl⟩
    simp only [Act.put, List.setIfInBounds_toArray, List.set_cons_succ, List.set_cons_zero]
    refine sv_new ⟨_, rfl⟩ rfl (fun W L vs hvs hL hj hd => ?_) ?_
    · simp only [List.length_append, List.length_cons, List.length_nil, Nat.zero_add, Nat.reduceAdd] at hL ⊢
      exact opOK_val (v := .int .i64 en) (w' := W) (by simp [go_sem, execOp]) ⟨rfl, hj.oth (by decide) (by decide) (by decide)⟩
    rintro _ rfl
    simp only [Act.put, List.setIfInBounds_toArray, List.set_cons_succ, List.set_cons_zero]
    refine sv_new ⟨_, rfl⟩ rfl (fun W L vs hvs hL hj hd => ?_) ?_
    · simp only [List.length_append, List.length_cons, List.length_nil, Nat.zero_add, Nat.reduceAdd] at hL ⊢
      have e1 := hvs 9 (.pointer (some ⟨R, 0, none⟩)) (by simp)
      have h9 := hd ⟨9, .data⟩ (by simp) rfl
      obtain ⟨R', B, e2, hR, hB, hk, -⟩ := hj.box h9
      rw [e1] at e2
      cases e2
      exact opOK_store_row 48 (.tmp 8) (.tmp 26) rfl R #[.int .i64 el, .int .i64 eh] (by simp [Act.eval]) (by simp [Act.eval]) 48 B hk (by kernel_rfl) hB (by simp [Value.oneCell']) ⟨rfl, hj.store11 rfl h9 e1 _⟩
    rintro _ rfl
    simp only [Act.put]
    refine sv_new ⟨_, rfl⟩ rfl (fun W L vs hvs hL hj hd => ?_) ?_
    · simp only [List.length_append, List.length_cons, List.length_nil, Nat.zero_add, Nat.reduceAdd] at hL ⊢
      exact opOK_val (v := .int .i64 we) (w' := W) (by simp [go_sem, execOp]) ⟨rfl, hj.oth (by decide) (by decide) (by decide)⟩
    rintro _ rfl
    simp only [Act.put, List.setIfInBounds_toArray, List.set_cons_succ, List.set_cons_zero]
    refine sv_end fun vs w3 hvs hj => ?_
    simp only [List.drop_succ_cons, List.drop_zero]
    have e1 := hvs 9 (.pointer (some ⟨R, 0, none⟩)) (by simp)
    obtain ⟨R', B, e2, hR, -, hk, hBA⟩ := hj.box (by decide)
    rw [e1] at e2
    cases e2
    rw [hBA (by decide)] at hk
    have d0 : w3.cell? ⟨R, 0, none⟩ = some (.int .i64 el) := by rw [cell_of_heap hk]; rfl
    have d1 : w3.cell? ⟨R, 1, none⟩ = some (.int .i64 eh) := by rw [cell_of_heap hk]; rfl
    have HB3 := Lib.hid (bThen HB2.out hj.below)
    have HS3 := Lib.hid (HS2.out.below hj.below)
    have c0 := bAt hj.below c0
    have c1 := bAt hj.below c1
    have c2 := bAt hj.below c2
    have c3 := bAt hj.below c3
    have c4 := bAt hj.below c4
    have c5 := bAt hj.below c5
    have c6 := bAt hj.below c6
    have s0 := bAt hj.below s0
    have s1 := bAt hj.below s1
    clear e1 hvs hj hR hk hBA hown hways HS2
    -- the reference's Check
    go_wp2_with fail
    have hcall := refCheck_any l (.slice a n cap) w3 HS3.out HBD.out
    unfold legV legA at hcall
    obtain ⟨ec, hec⟩ : ∃ g, checkL l = g := ⟨_, rfl⟩
    rw [hec] at hcall
    refine hcall.mono ?_
    rintro e w4 ⟨rfl, hb4⟩
    have HEC := Lib.hid hec
    have HB4 := Lib.hid (bThen HB3.out hb4)
    have HS4 := Lib.hid (HS3.out.below hb4)
    have c0 := bAt hb4 c0
    have c1 := bAt hb4 c1
    have c2 := bAt hb4 c2
    have c3 := bAt hb4 c3
    have c4 := bAt hb4 c4
    have c5 := bAt hb4 c5
    have c6 := bAt hb4 c6
    have s0 := bAt hb4 s0
    have s1 := bAt hb4 s1
    have d0 := bAt hb4 d0
    have d1 := bAt hb4 d1
    clear hcall hb4 hec HS3
    by_cases hec0 : ec = 0
    · have HE0 := Lib.hid hec0
      have d9 : (ec == 0) = true := beq_iff_eq.2 hec0
      have hv := valid_of (by rw [HEC.out]; exact hec0)
      have HV := Lib.hid hv
      have hgo := HGN.out (by rw [HEC.out]; exact hec0)
      have h6 : l.beds.length ≤ 6 := hgo.2.1
      have HC0 : Hid (checkL l = 0) := Lib.hid (HEC.out.trans hec0)
      clear hec0 hv hgo
      go_wp2_with fail
      have hcall := refStand_any l (.slice a n cap) ⟨sl, si⟩ w4
      unfold legV legA stV at hcall
      simp only at hcall
      obtain ⟨ok, hok⟩ : ∃ g, okStand l ⟨sl, si⟩ = g := ⟨_, rfl⟩
      rw [hok] at hcall
      refine hcall.mono ?_
      rintro e w5 ⟨rfl, hb5⟩
      have HOK := Lib.hid hok
      have HB5 := Lib.hid (bThen HB4.out hb5)
      have HS5 := Lib.hid (HS4.out.below hb5)
      have c0 := bAt hb5 c0
      have c1 := bAt hb5 c1
      have c2 := bAt hb5 c2
      have c3 := bAt hb5 c3
      have c4 := bAt hb5 c4
      have c5 := bAt hb5 c5
      have c6 := bAt hb5 c6
      have s0 := bAt hb5 s0
      have s1 := bAt hb5 s1
      have d0 := bAt hb5 d0
      have d1 := bAt hb5 d1
      clear hcall hb5 hok HS4
      cases ok
      · skip
        have hwb : we = 2 ∧ en = 0 ∧ el = 0 ∧ eh = 0 := by
          have h1 := waysE_st score HC0.out HOK.out
          have h2 := waysR_bad (by rw [h1]; exact by decide)
          rw [h2] at HEN HEL HEH
          exact ⟨HWE.out.symm.trans h1, HEN.out.symm, HEL.out.symm, HEH.out.symm⟩
        clear d9
        obtain rfl : we = 2 := hwb.1
        obtain ⟨rfl, rfl, rfl⟩ : en = 0 ∧ el = 0 ∧ eh = 0 := hwb.2
        clear hwb c0 c1 c2 c3 c4 c5 c6 s0 s1
        go_wp2_with fail
        refine (known_any w5 (HT.out.below HB5.out)).mono ?_
        rintro e wz ⟨rfl, hbz⟩
        have HBZ := Lib.hid (bThen HB5.out hbz)
        clear hbz
        go_wp2
        go_returns
        exact ⟨rfl, HBZ.out⟩
      · have hsb : 0 ≤ sl ∧ sl ≤ 1001 := by
          have h1 := HOK.out
          have h2 := HV.out.start
          unfold okStand isIn low5 at h1
          simp only [Bool.and_eq_true, decide_eq_true_eq] at h1
          have h3 := h1.1
          split at h3 <;> omega
        clear d9
        by_cases hr0 : score < 0
        · skip
          have hwb : we = 3 ∧ en = 0 ∧ el = 0 ∧ eh = 0 := by
            have h1 := waysE_rg HC0.out HOK.out (show isIn score 0 240 = false by unfold isIn; simp; omega)
            have h2 := waysR_bad (by rw [h1]; exact by decide)
            rw [h2] at HEN HEL HEH
            exact ⟨HWE.out.symm.trans h1, HEN.out.symm, HEL.out.symm, HEH.out.symm⟩
          obtain rfl : we = 3 := hwb.1
          obtain ⟨rfl, rfl, rfl⟩ : en = 0 ∧ el = 0 ∧ eh = 0 := hwb.2
          clear hwb c0 c1 c2 c3 c4 c5 c6 s0 s1 hsb
          go_wp2_with fail
          refine (known_any w5 (HT.out.below HB5.out)).mono ?_
          rintro e wz ⟨rfl, hbz⟩
          have HBZ := Lib.hid (bThen HB5.out hbz)
          clear hbz
          go_wp2
          go_returns
          exact ⟨rfl, HBZ.out⟩
        · by_cases hr1 : 240 < score
          · skip
            have hwb : we = 3 ∧ en = 0 ∧ el = 0 ∧ eh = 0 := by
              have h1 := waysE_rg HC0.out HOK.out (show isIn score 0 240 = false by unfold isIn; simp; omega)
              have h2 := waysR_bad (by rw [h1]; exact by decide)
              rw [h2] at HEN HEL HEH
              exact ⟨HWE.out.symm.trans h1, HEN.out.symm, HEL.out.symm, HEH.out.symm⟩
            obtain rfl : we = 3 := hwb.1
            obtain ⟨rfl, rfl, rfl⟩ : en = 0 ∧ el = 0 ∧ eh = 0 := hwb.2
            clear hwb c0 c1 c2 c3 c4 c5 c6 s0 s1 hsb
            go_wp2_with fail
            refine (known_any w5 (HT.out.below HB5.out)).mono ?_
            rintro e wz ⟨rfl, hbz⟩
            have HBZ := Lib.hid (bThen HB5.out hbz)
            clear hbz
            go_wp2
            go_returns
            exact ⟨rfl, HBZ.out⟩
          · have HRG : Hid (isIn score 0 240 = true) := Lib.hid (by unfold isIn; simp; omega)
            go_wp2_with fail
            have hcall := refVisits_any l HV.out h6 (.slice a n cap) ⟨sl, si⟩ w5 hsb HS5.out
            unfold legV legA stV at hcall
            simp only at hcall
            refine hcall.mono ?_
            rintro e wa ⟨rv, rfl, hba, hrv⟩
            obtain ⟨ra, rc, rfl⟩ := owns_form hrv
            have HRV := Lib.hid hrv
            have HBA := Lib.hid (bThen HB5.out hba)
            have s0 := bAt hba s0
            have d0 := bAt hba d0
            have d1 := bAt hba d1
            clear hcall hba hrv c0 c1 c2 c3 c4 c5 c6 s1 HS5 hr0 hr1
            obtain ⟨V, hV⟩ : ∃ V, vis5 l ⟨sl, si⟩ = V := ⟨_, rfl⟩
            have hleft : ∀ p ∈ V, 0 ≤ p.1.left ∧ p.1.left ≤ sl := fun p hp => by rw [← hV] at hp; exact vis_left HV.out.good hsb.1 hp
            have hd3 : ∀ p ∈ V, p.2 ≤ 3 := fun p hp => by rw [← hV] at hp; exact vis_d3 l ⟨sl, si⟩ p hp
            have hup : upto sl score V = waysO l ⟨sl, si⟩ score := by rw [← hV]; rfl
            have hrows : visRows l ⟨sl, si⟩ = V.map fun p => visRow p.1 p.2 := by rw [← hV]; rfl
            rw [hrows, List.length_map] at HRV
            rw [hrows, List.length_map]
            obtain ⟨q, hq⟩ : ∃ q, V.length = q := ⟨_, rfl⟩
            have hrsl : SlN 4 (fun x => w5.heap.size ≤ x) wa (.slice ra V.length rc) (V.map fun p => visRow p.1 p.2) := SlN.of_ownsN (by rw [List.length_map]; exact HRV.out) (fun r hr => by obtain ⟨p, _, rfl⟩ := List.mem_map.1 hr; rfl)
            have hqb : q ≤ 1000 := by
              have h1 := new_bd (l := l) (start := ⟨sl, si⟩) (d := 0) (k := 3) (now := ⟨sl, si⟩) h6 (by decide)
              rw [← visRows_eq, hrows, List.length_map] at h1
              omega
            rw [hq] at hrsl ⊢
            have HLEFT := Lib.hid hleft
            have HD3 := Lib.hid hd3
            have HUP := Lib.hid hup
            have HQ := Lib.hid hq
            have HRS := Lib.hid hrsl
            clear hV hleft hd3 hup hrows hq hrsl HRV
            have HC : Hid (Below wa.heap.size wa wa) := Lib.hid ⟨rfl, rfl, rfl, Nat.le_refl _, fun _ _ => rfl⟩
            go_wp2
            go_loopw [11, 12, 13, 15] (fun mv lv hv iv wr => ∃ i : Nat, i ≤ q ∧ mv = .int .i64 ((cntO (upto sl score (V.take i))).1 : Nat) ∧ lv = .int .i64 ((cntO (upto sl score (V.take i))).2.1 : Nat) ∧ hv = .int .i64 ((cntO (upto sl score (V.take i))).2.2 : Nat) ∧ iv = .int .i64 i ∧ Hid (Below wa.heap.size wa wr)) (fun _ _ _ iv _ => q - (intOf iv).toNat)
            case atStart => exact ⟨0, by omega, by simp [upto, agg, cntO], by simp [upto, agg, cntO], by simp [upto, agg, cntO], by go_num, HC⟩
            case round =>
              clear HC
              obtain ⟨i, hi, rfl, rfl, rfl, rfl, HCi⟩ := hrel
              obtain ⟨wo, rfl⟩ : ∃ wo : World, wo = wr := ⟨_, rfl⟩
              have s0 := bAt HCi.out s0
              have d0 := bAt HCi.out d0
              have d1 := bAt HCi.out d1
              have HRo := Lib.hid (HRS.out.below HCi.out)
              have hb9 := upto_bd (sl := sl) (score := score) (V := V.take i) fun p hp => HD3.out p (List.mem_of_mem_take hp)
              have hbl := upto_len (sl := sl) (score := score) (V.take i)
              rw [List.length_take, HQ.out] at hbl
              obtain ⟨⟨x1, x2, x3⟩, hx⟩ : ∃ x, cntO (upto sl score (V.take i)) = x := ⟨_, rfl⟩
              rw [hx] at hb9 hbl ⊢
              simp only at hb9 hbl ⊢
              have hx1 : x1 ≤ 1000 := by omega
              have HX := Lib.hid hx
              clear hx
              by_cases hlt : i < q
              · have hil : i < V.length := by rw [HQ.out]; exact hlt
                obtain ⟨⟨⟨pl, pi, pb, pw⟩, pd⟩, hp⟩ : ∃ p, V[i] = p := ⟨_, rfl⟩
                have htk : V.take (i + 1) = V.take i ++ [(⟨pl, pi, pb, pw⟩, pd)] := by rw [List.take_succ_eq_append_getElem hil, hp]
                have hlf := HLEFT.out V[i] (List.getElem_mem _)
                have hd := HD3.out V[i] (List.getElem_mem _)
                rw [hp] at hlf hd
                simp only at hlf hd
                obtain ⟨b, off, hra, -, -, hc⟩ := HRo.out.cell (i := i) (by rw [List.length_map]; exact hil)
                cases hra
                have hrow : (V.map fun p => visRow p.1 p.2)[i]'(by rw [List.length_map]; exact hil) = [.int .i64 pl, .bool pi, .bool pw, .int .i64 (pd : Int)] := by rw [List.getElem_map, hp]; rfl
                rw [hrow] at hc
                have p0 := hc 0 _ rfl
                have p3 := hc 3 _ rfl
                rw [Nat.add_zero] at p0
                have HTK := Lib.hid htk
                have hwi : IntKind.i64.wrap ((i : Int) + 1) = (i : Int) + 1 := wrap_small _ (by omega) (by omega)
                have hwx : IntKind.i64.wrap ((x1 : Int) + 1) = (x1 : Int) + 1 := wrap_small _ (by omega) (by omega)
                have hwr : IntKind.i64.wrap (sl - pl) = sl - pl := wrap_small _ (by omega) (by omega)
                clear hc hrow hp htk
                by_cases hh : sl - pl = score
                · go_upto_region 15 with fail
                  refine wp_region_seqW (.is (.pointer (some ⟨N + 1, 0, none⟩)) :: .is (.int .i64 sl) :: .is (.slice (some ⟨b, off, none⟩) q rc) :: .is (.int .i64 (i : Int)) :: .is (.pointer (some ⟨b, off + i * 4, none⟩)) :: .is (.pointer (some ⟨b, off + i * 4, none⟩)) :: .is (.pointer (some ⟨b, off + i * 4, none⟩)) :: .is (.int .i64 pl) :: .is (.int .i64 (sl - pl)) :: .is (.int .i64 score) :: .is (.bool true) :: []) rfl mix (by kernel_rfl) (by kernel_rfl) ?_
                  iterate 10
                    refine seq_on (by rfl) (fun w3 hb3 _ => ?_) ?_
                    · have s0' := bAt hb3 s0
                      have p0' := bAt hb3 p0
                      simp [opOK, go_sem, s0', p0', hlt, hwr, Below.refl]
                      try exact rfl
                    simp only [Act.put, List.setIfInBounds_toArray, List.set_cons_succ, List.set_cons_zero]
                  refine seq_on (by rfl) (fun w3 hb3 hH => ?_) ?_
                  · simp [opOK, go_sem, hh, Below.refl]
                    try exact rfl
                  simp only [Act.put, List.setIfInBounds_toArray, List.set_cons_succ, List.set_cons_zero]
                  refine seq_end fun w4 hb4 _ => ?_
                  have HC4 := Lib.hid (bThen HCi.out hb4)
                  have p3 := bAt hb4 p3
                  have hup := upto_hit (sl := sl) (score := score) (V := V.take i) (p := (⟨pl, pi, pb, pw⟩, pd)) hh (show pd ≤ 9 by omega)
                  rw [← HTK.out, HX.out] at hup
                  simp only at hup
                  have HUPI := Lib.hid hup
                  clear hup hb4 p0 s0 d0 d1
                  go_upto_region 16 with fail
                  refine wp_region_seqW (.is (.int .i64 (x1 : Int)) :: .is (.int .i64 ((x1 : Int) + 1)) :: .is (.int .i64 (x2 : Int)) :: .is (.slice (some ⟨b, off, none⟩) q rc) :: .is (.int .i64 (i : Int)) :: .is (.pointer (some ⟨b, off + i * 4, none⟩)) :: .is (.pointer (some ⟨b, off + i * 4 + 3, none⟩)) :: .is (.int .i64 (pd : Int)) :: .is (.int .i64 (min (x2 : Int) (pd : Int))) :: .is (.int .i64 (x3 : Int)) :: .is (.slice (some ⟨b, off, none⟩) q rc) :: .is (.int .i64 (i : Int)) :: .is (.pointer (some ⟨b, off + i * 4, none⟩)) :: .is (.pointer (some ⟨b, off + i * 4 + 3, none⟩)) :: .is (.int .i64 (pd : Int)) :: .is (.int .i64 (max (x3 : Int) (pd : Int))) :: .is (.int .i64 ((x1 : Int) + 1)) :: .is (.int .i64 (min (x2 : Int) (pd : Int))) :: .is (.int .i64 (max (x3 : Int) (pd : Int))) :: []) rfl mix (by kernel_rfl) (by kernel_rfl) ?_
                  iterate 19
                    refine seq_on (by rfl) (fun w3 hb3 _ => ?_) ?_
                    · have p3' := bAt hb3 p3
                      simp [opOK, go_sem, p3', hlt, hwx, Below.refl]
                      try exact rfl
                    simp only [Act.put, List.setIfInBounds_toArray, List.set_cons_succ, List.set_cons_zero]
                  refine seq_end fun w5 hb5 _ => ?_
                  have HC5 := Lib.hid (bThen HC4.out hb5)
                  clear hb5 p3
                  go_wp2
                  go_roundw
                  case rel => exact ⟨i + 1, by omega, by rw [HUPI.out]; simp, by rw [HUPI.out]; simp; omega, by rw [HUPI.out]; simp; omega, by go_num, HC5⟩
                  case measure => simp [intOf]; omega
                · go_upto_region 15 with fail
                  refine wp_region_seqW (.is (.pointer (some ⟨N + 1, 0, none⟩)) :: .is (.int .i64 sl) :: .is (.slice (some ⟨b, off, none⟩) q rc) :: .is (.int .i64 (i : Int)) :: .is (.pointer (some ⟨b, off + i * 4, none⟩)) :: .is (.pointer (some ⟨b, off + i * 4, none⟩)) :: .is (.pointer (some ⟨b, off + i * 4, none⟩)) :: .is (.int .i64 pl) :: .is (.int .i64 (sl - pl)) :: .is (.int .i64 score) :: .is (.bool false) :: []) rfl mix (by kernel_rfl) (by kernel_rfl) ?_
                  iterate 10
                    refine seq_on (by rfl) (fun w3 hb3 _ => ?_) ?_
                    · have s0' := bAt hb3 s0
                      have p0' := bAt hb3 p0
                      simp [opOK, go_sem, s0', p0', hlt, hwr, Below.refl]
                      try exact rfl
                    simp only [Act.put, List.setIfInBounds_toArray, List.set_cons_succ, List.set_cons_zero]
                  refine seq_on (by rfl) (fun w3 hb3 hH => ?_) ?_
                  · simp [opOK, go_sem, hh, Below.refl]
                    try exact rfl
                  simp only [Act.put, List.setIfInBounds_toArray, List.set_cons_succ, List.set_cons_zero]
                  refine seq_end fun w4 hb4 _ => ?_
                  have HC4 := Lib.hid (bThen HCi.out hb4)
                  have p3 := bAt hb4 p3
                  have hup := upto_miss (sl := sl) (score := score) (V := V.take i) (p := (⟨pl, pi, pb, pw⟩, pd)) hh
                  rw [← HTK.out] at hup
                  have HUPI := Lib.hid hup
                  clear hup hb4 p0 s0 d0 d1
                  clear p3
                  go_wp2
                  go_roundw
                  case rel => exact ⟨i + 1, by omega, by rw [HUPI.out, HX.out], by rw [HUPI.out, HX.out], by rw [HUPI.out, HX.out], by go_num, HC4⟩
                  case measure => simp [intOf]; omega
              · obtain rfl : i = q := by omega
                have htk : V.take i = V := List.take_of_length_le (by rw [HQ.out]; exact Nat.le_refl _)
                rw [htk, HUP.out] at HX
                have HBo := Lib.hid (bThen HBA.out HCi.out)
                clear htk HCi HRo s0 hb9 hbl
                by_cases hx0 : x1 = 0
                · have hno : waysO l ⟨sl, si⟩ score = none := by
                    have h1 := upto_none (sl := sl) (score := score) (V := V)
                    rw [HUP.out, HX.out] at h1
                    exact h1.1 hx0
                  subst hx0
                  have hwb : we = 7 ∧ en = 0 ∧ el = 0 ∧ eh = 0 := by
                    have h1 := waysE_none HC0.out HOK.out HRG.out hno
                    have h2 := waysR_bad (by rw [h1]; exact by decide)
                    rw [h2] at HEN HEL HEH
                    exact ⟨HWE.out.symm.trans h1, HEN.out.symm, HEL.out.symm, HEH.out.symm⟩
                  clear hno
                  have hz0 : (((0 : Nat) : Int) == 0) = true := rfl
                  obtain rfl : we = 7 := hwb.1
                  obtain ⟨rfl, rfl, rfl⟩ : en = 0 ∧ el = 0 ∧ eh = 0 := hwb.2
                  clear hwb 
                  go_wp2_with fail
                  refine (known_any wo (HT.out.below HBo.out)).mono ?_
                  rintro e wz ⟨rfl, hbz⟩
                  have HBZ := Lib.hid (bThen HBo.out hbz)
                  clear hbz
                  go_wp2
                  go_returns
                  exact ⟨rfl, HBZ.out⟩
                · have HX0 := Lib.hid hx0
                  obtain ⟨hwe0, hen0, hel0, heh0⟩ : we = 0 ∧ en = (x1 : Int) ∧ el = (x2 : Int) ∧ eh = (x3 : Int) := by
                    cases ho : waysO l ⟨sl, si⟩ score with
                    | none => rw [ho] at HX; have h1 := HX.out; simp [cntO] at h1; exact absurd h1.1.symm hx0
                    | some z =>
                      rw [ho] at HX
                      have h1 := HX.out
                      simp only [cntO, Prod.mk.injEq] at h1
                      obtain ⟨h2, h3⟩ := waysE_ok HC0.out HOK.out HRG.out ho
                      rw [h3] at HEN HEL HEH
                      exact ⟨HWE.out.symm.trans h2, by rw [← HEN.out, h1.1], by rw [← HEL.out, h1.2.1], by rw [← HEH.out, h1.2.2]⟩
                  subst hwe0 hen0 hel0 heh0
                  have hxz : ((x1 : Int) == 0) = false := beq_eq_false_iff_ne.2 (by omega)
                  clear hx0
                  go_upto_region 21 with fail
                  have HTo := Lib.hid (HT.out.below HBo.out)
                  refine wp_region_seqW (.is (.int .i64 0) :: .is (.bool true) :: .is (.bool true) :: .is (.int .i64 (x1 : Int)) :: .is (.int .i64 (x1 : Int)) :: .is (.bool true) :: .is (.bool true) :: .is (.bool true) :: .is (.agg #[.int .i64 (x2 : Int), .int .i64 (x3 : Int)]) :: .is (.int .i64 (x2 : Int)) :: .is (.int .i64 (x3 : Int)) :: .is (.agg #[.int .i64 (x2 : Int), .int .i64 (x3 : Int)]) :: .is (.bool true) :: .is (.bool true) :: .is (.bool true) :: .is (.bool true) :: .is (.bool true) :: .is (.bool true) :: []) rfl mix (by kernel_rfl) (by kernel_rfl) ?_
                  iterate 11
                    refine seq_on (by rfl) (fun w3 hb3 _ => ?_) ?_
                    · have d0' := bAt hb3 d0
                      have d1' := bAt hb3 d1
                      simp [opOK, go_sem, d0', d1', Below.refl]
                      try exact rfl
                    simp only [Act.put, List.setIfInBounds_toArray, List.set_cons_succ, List.set_cons_zero]
                  refine seq_on (by rfl) (fun w3 hb3 hH => ?_) ?_
                  · refine opOK_call (f := 23) (args := #[.int .i64 (x2 : Int), .int .i64 (x3 : Int)]) (by simp [go_sem]) ?_
                    exact (to_any _ _ w3).mono fun e W' ⟨he, hb⟩ => ⟨_, he, rfl, hb⟩
                  simp only [Act.put, List.setIfInBounds_toArray, List.set_cons_succ, List.set_cons_zero]
                  iterate 3
                    refine seq_on (by rfl) (fun w3 hb3 _ => ?_) ?_
                    · have d0' := bAt hb3 d0
                      have d1' := bAt hb3 d1
                      simp [opOK, go_sem, Below.refl]
                      try exact rfl
                    simp only [Act.put, List.setIfInBounds_toArray, List.set_cons_succ, List.set_cons_zero]
                  refine seq_on (by rfl) (fun w3 hb3 hH => ?_) ?_
                  · refine opOK_call (f := 13) (args := #[]) (by simp [go_sem]) ?_
                    exact (known_any w3 (HTo.out.below hb3)).mono fun e W' ⟨he, hb⟩ => ⟨_, he, rfl, hb⟩
                  simp only [Act.put, List.setIfInBounds_toArray, List.set_cons_succ, List.set_cons_zero]
                  iterate 2
                    refine seq_on (by rfl) (fun w3 hb3 _ => ?_) ?_
                    · have d0' := bAt hb3 d0
                      have d1' := bAt hb3 d1
                      simp [opOK, go_sem, Below.refl]
                      try exact rfl
                    simp only [Act.put, List.setIfInBounds_toArray, List.set_cons_succ, List.set_cons_zero]
                  refine seq_end fun w4 hb4 _ => ?_
                  have HB9 := Lib.hid (bThen HBo.out hb4)
                  clear hb4 d0 d1
                  go_wp2
                  go_returns
                  exact ⟨rfl, HB9.out⟩
    · have HNE := Lib.hid hec0
      have d9 : (ec == 0) = false := beq_eq_false_iff_ne.2 hec0
      have d9n : (ec != 0) = true := bne_iff_ne.2 hec0
      have hwb : we = ec ∧ en = 0 ∧ el = 0 ∧ eh = 0 := by
        have h1 := waysE_bad score (s := ⟨sl, si⟩) HEC.out hec0
        have h2 := waysR_bad (by rw [h1]; exact hec0)
        rw [h2] at HEN HEL HEH
        exact ⟨HWE.out.symm.trans h1, HEN.out.symm, HEL.out.symm, HEH.out.symm⟩
      clear hec0
      obtain rfl : we = ec := hwb.1
      obtain ⟨rfl, rfl, rfl⟩ : en = 0 ∧ el = 0 ∧ eh = 0 := hwb.2
      clear hwb c0 c1 c2 c3 c4 c5 c6 s0 s1
      go_wp2_with fail
      refine (known_any w4 (HT.out.below HB4.out)).mono ?_
      rintro e wz ⟨rfl, hbz⟩
      have HBZ := Lib.hid (bThen HB4.out hbz)
      clear hbz
      go_wp2
      go_returns
      exact ⟨rfl, HBZ.out⟩
  · go_wp2_with fail
    refine (known_any w2 (HT.out.below HB2.out)).mono ?_
    rintro e w3 ⟨rfl, hb3⟩
    have HB3 := Lib.hid (bThen HB2.out hb3)
    clear hb3 c0 c1 c2 c3 c4 c5 c6 s0 s1
    go_wp2
    go_returns
    exact ⟨rfl, HB3.out⟩
end Go.Proofs.YtpfpjbglpibdoaaGreatDoor
