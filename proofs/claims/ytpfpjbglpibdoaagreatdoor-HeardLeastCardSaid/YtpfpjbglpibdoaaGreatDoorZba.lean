/- The texts QS0, QS1, QR4, QR5, in build order. -/
import Derived.Test.YtpfpjbglpibdoaaGreatDoorZaz

/- Chapter 5, in plain Lean: HeardSums: the stand that is reached, one bed more. -/
namespace Go.Proofs.YtpfpjbglpibdoaaGreatDoor
open Go.RowKit Go.Oche Go.Proofs

section
variable {l : Lg}
theorem dart_low {s : Std} {h : Ht} (hs : low5 l.gout ≤ s.left) : (dart5 l s h).1.won = true ∨ (dart5 l s h).1.bust = true ∨ low5 l.gout ≤ (dart5 l s h).1.left := by
  unfold dart5
  split
  · exact .inr (.inr hs)
  · split
    · exact .inl rfl
    · split
      · exact .inr (.inl rfl)
      · rename_i h; exact .inr (.inr (by simp only; omega))
theorem dart_goes {s : Std} {h : Ht} (hg : (dart5 l s h).2 = true) (hs : low5 l.gout ≤ s.left) : low5 l.gout ≤ (dart5 l s h).1.std.left := by
  unfold dart5 at hg ⊢
  split
  · exact hs
  · rename_i h1
    rw [if_neg h1] at hg
    split
    · rename_i h2; rw [if_pos h2] at hg; cases hg
    · rename_i h2
      rw [if_neg h2] at hg
      split
      · rename_i h3; rw [if_pos h3] at hg; cases hg
      · rename_i h3; show low5 l.gout ≤ s.left - h.score; omega
theorem from_low : ∀ (k : Nat) (s : Std), low5 l.gout ≤ s.left → ∀ p ∈ from5 l k s, p.1.won = true ∨ p.1.bust = true ∨ low5 l.gout ≤ p.1.left
  | 0, s, hs, p, hp => by
    simp only [from5, List.mem_singleton] at hp
    rw [hp]; exact .inr (.inr hs)
  | k + 1, s, hs, p, hp => by
    rw [from5, List.mem_flatMap] at hp
    obtain ⟨h, _, hp⟩ := hp
    split at hp
    · rename_i hg
      obtain ⟨q, hq, rfl⟩ := List.mem_map.1 hp
      exact from_low k _ (dart_goes hg hs) q hq
    · rw [List.mem_singleton] at hp
      rw [hp]; exact dart_low hs
theorem vis_low {s : Std} (hs : low5 l.gout ≤ s.left) {p : En × Nat} (hp : p ∈ vis5 l s) : p.1.won = true ∨ low5 l.gout ≤ p.1.left := by
  unfold vis5 at hp
  obtain ⟨q, hq, rfl⟩ := List.mem_map.1 hp
  rcases from_low 3 s hs q hq with h | h | h
  · by_cases hb : q.1.bust = true
    · right; unfold noBust; rw [if_pos hb]; exact hs
    · left; unfold noBust; rw [if_neg hb]; exact h
  · right; unfold noBust; rw [if_pos h]; exact hs
  · by_cases hb : q.1.bust = true
    · right; unfold noBust; rw [if_pos hb]; exact hs
    · right; unfold noBust; rw [if_neg hb]; exact h
end
structure StAt (l : Lg) (x : Pl5) (k : Nat) (s : Std) : Prop where
  lo : low5 l.gout ≤ s.left
  hi : s.left ≤ l.start
  inn : s.inn = true ∨ s.left = l.start
  gin : l.gin = 0 → s.inn = true
  at_ : s.left = (if k = 0 then start5 l else aftAt l x.out ((k - 1) * l.players.toNat)).left
section
variable {l : Lg} {x : Pl5}
theorem StAt.start (h : 2 ≤ l.start) : StAt l x 0 ⟨l.start, l.gin == 0⟩ := by
  refine ⟨by show low5 l.gout ≤ l.start; unfold low5; split <;> omega, Int.le_refl _, .inr rfl, fun e => by simp [e], rfl⟩
theorem StAt.bef (hP : 1 ≤ l.players) (hx : Ok5 l x) {k : Nat} {s : Std} (h : StAt l x k s) {sp : Sp} (hsp : x.out[k * l.players.toNat]? = some sp) : sp.bef.left = s.left := by
  rw [hx.bef _ _ hsp, h.at_]
  by_cases e : k = 0
  · rw [if_pos e, if_pos (by rw [e]; omega)]
  · rw [if_neg e, if_neg]
    · congr 2
      obtain ⟨j, rfl⟩ : ∃ j, k = j + 1 := ⟨k - 1, by omega⟩
      rw [Nat.add_sub_cancel, Nat.succ_mul]; omega
    · have : 1 * l.players.toNat ≤ k * l.players.toNat := Nat.mul_le_mul_right _ (by omega)
      omega
theorem StAt.last (hP : 1 ≤ l.players) (hx : Ok5 l x) {k : Nat} {s : Std} (h : StAt l x k s) {sp : Sp} (hsp : x.out[k * l.players.toNat]? = some sp) (hl : ¬ 0 < sp.en.left) : k * l.players.toNat + 1 = x.out.length := by
  have hlow := h.lo
  have hv := hx.vis sp (List.mem_of_getElem? hsp)
  have hlo := vis_low (by rw [h.bef hP hx hsp]; exact hlow) hv
  have hw : sp.en.won = true := by
    rcases hlo with hw | hlo
    · exact hw
    · unfold low5 at hlo; simp only at hlo; split at hlo <;> omega
  have h2 := hx.won _ _ hsp
  rw [hw] at h2
  have h3 : decide (k * l.players.toNat + 1 = x.out.length) = true := by
    cases e : decide (k * l.players.toNat + 1 = x.out.length) with
    | true => rfl
    | false => rw [e] at h2; simp at h2
  exact of_decide_eq_true h3
theorem StAt.next (hg : GoodBeds l) (hP : 1 ≤ l.players) (h0 : 0 ≤ l.start) (hx : Ok5 l x) {k : Nat} {s : Std} (h : StAt l x k s) {sp : Sp} (hsp : x.out[k * l.players.toNat]? = some sp) (hl : 0 < sp.en.left) :
    StAt l x (k + 1) ⟨sp.en.left, s.inn || decide (0 < sp.score)⟩ := by
  have hb := hx.bef _ _ hsp
  have hbl : sp.bef.left = s.left := by
    rw [hb, h.at_]
    by_cases e : k = 0
    · rw [if_pos e, if_pos (by rw [e]; omega)]
    · rw [if_neg e, if_neg]
      · congr 2
        obtain ⟨j, rfl⟩ : ∃ j, k = j + 1 := ⟨k - 1, by omega⟩
        rw [Nat.add_sub_cancel, Nat.succ_mul]; omega
      · have : 1 * l.players.toNat ≤ k * l.players.toNat := Nat.mul_le_mul_right _ (by omega)
        omega
  have hv := hx.vis sp (List.mem_of_getElem? hsp)
  have hlow := h.lo
  have hlo := vis_low (by rw [hbl]; exact hlow) hv
  have hs0 : 0 ≤ sp.bef.left := by rw [hbl]; unfold low5 at hlow; split at hlow <;> omega
  have hll := vis_left hg hs0 hv
  have hhi := h.hi
  refine ⟨?_, by show sp.en.left ≤ l.start; simp only at hll; omega, ?_, fun e => by show (s.inn || _) = true; rw [h.gin e]; rfl, ?_⟩
  · rcases hlo with hw | hlo
    · have := vis_won l hv hw
      simp only at this
      rw [this] at hl
      simp at hl
    · exact hlo
  · by_cases hsc : 0 < sp.score
    · left; show (s.inn || decide (0 < sp.score)) = true; rw [decide_eq_true hsc]; simp
    · rcases h.inn with hi | hi
      · left; show (s.inn || _) = true; rw [hi]; rfl
      · right
        show sp.en.left = l.start
        unfold Sp.score at hsc
        simp only at hll
        omega
  · rw [if_neg (by omega), Nat.add_sub_cancel]
    unfold aftAt
    rw [hsp]; rfl
theorem StAt.ok {k : Nat} {s : Std} (h : StAt l x k s) : okStand l s = true := by
  unfold okStand
  rw [Bool.and_eq_true, Bool.or_eq_true]
  refine ⟨?_, ?_⟩
  · unfold isIn; rw [decide_eq_true h.lo, decide_eq_true h.hi]; rfl
  · rcases h.inn with hi | hi
    · exact .inl hi
    · by_cases e : l.gin = 0
      · exact .inl (h.gin e)
      · right; rw [hi]; simp [e]
end
def moreL (l : Lg) : Lg := { l with beds := l.beds ++ [420] }
/-! ## The scores, as one list -/
def scIs (l : Lg) (s : Std) (j : Nat) : Bool := (vis5 l s).any fun p => !p.1.won && (s.left - p.1.left == (j : Int))
def scOf (l : Lg) (s : Std) : List Int := ((List.range 1002).filter (scIs l s)).map fun (j : Nat) => (j : Int)
def belowN (xs : List Int) (n : Int) : Nat := (xs.filter fun z => decide (z < n)).length
end Go.Proofs.YtpfpjbglpibdoaaGreatDoor

/- Chapter 5: own, whose answer's beds are a row of one's own; what Visits answers, in a drawn region. -/
namespace Go.Proofs.YtpfpjbglpibdoaaGreatDoor
open Go Go.RowKit Go.Oche Go.Proofs

def kOwnL (l : Lg) (n : Nat) : Kn where
  s := fun v => ∃ a c, v = legV l (.slice a n c)
  p := fun v w => ∃ a c, v = legV l (.slice a n c) ∧ Sl (fun _ => True) w (.slice a n c) (ints l.beds)
  m := fun _ _ _ hb ⟨a, c, e, h⟩ => ⟨a, c, e, h.below hb⟩
def kVis (xs : List Int) (wn : Bool) : Kn where
  s := fun v => ∃ a c, v = .tuple #[.slice a xs.length c, .bool wn, .int .i64 0]
  p := fun v w => ∃ a c, v = .tuple #[.slice a xs.length c, .bool wn, .int .i64 0] ∧ Sl (fun _ => True) w (.slice a xs.length c) (ints xs)
  m := fun _ _ _ hb ⟨a, c, e, h⟩ => ⟨a, c, e, h.below hb⟩
def kInts (xs : List Int) : Kn where
  s := fun v => ∃ a c, v = .slice a xs.length c
  p := fun v w => ∃ a c, v = .slice a xs.length c ∧ Sl (fun _ => True) w (.slice a xs.length c) (ints xs)
  m := fun _ _ _ hb ⟨a, c, e, h⟩ => ⟨a, c, e, h.below hb⟩
end Go.Proofs.YtpfpjbglpibdoaaGreatDoor

/- Chapter 5, HeardRight and HeardLeast: plain facts; what is known of values in their drawn regions. -/
namespace Go.Proofs.YtpfpjbglpibdoaaGreatDoor
open Go Go.RowKit Go.Oche Go.Proofs

section
variable {l : Lg} {list : List Rp} {out : List (List Nat)}
theorem none_truth (h : HasTruth l (allS list)) : HasTruth l fun _ => [] := truth_less (fun t y hy => by cases hy) h
theorem checkR_zero (hc : checkL l = 0) (hlen : list.length ≤ 10) (hb : ∀ r ∈ list, badR l.turns r = false) : checkR l list 10 = 0 := by
  unfold checkR
  rw [if_neg (by rw [hc]; simp), if_neg (by simp; omega), if_neg]
  simp only [List.any_eq_true, not_exists, not_and]
  intro r hr
  rw [hb r hr]; simp
theorem dropE_zero (hc : checkL l = 0) (hlen : list.length ≤ 10) (hb : ∀ r ∈ list, badR l.turns r = false) (h : HasTruth l fun _ => []) : dropE l list = 0 := by
  unfold dropE
  rw [if_pos (checkR_zero hc hlen hb), if_pos]
  rw [can_iff]
  refine truth_less (fun t y hy => ?_) h
  obtain ⟨i, -, -, h3⟩ := mem_saidL.1 hy
  cases h3
theorem blameE_zero (hc : checkL l = 0) (hlen : list.length ≤ 10) (hb : ∀ r ∈ list, badR l.turns r = false) : blameE l list = 0 := checkR_zero hc hlen hb
theorem badR_wrong {lies : List Int} {i : Nat} {r : Rp} {T : Int} (h : badR T r = false) : badR T (wrongR lies i r) = false := by
  unfold badR at h
  simp only [Bool.or_eq_false_iff, Bool.not_eq_false'] at h
  obtain ⟨h1, h2, h3⟩ := h
  unfold isIn at h1 h2 h3
  simp only [Bool.and_eq_true, decide_eq_true_eq] at h1 h2 h3
  have hb := wrongR_bd (lies := lies) (i := i) (r := r) ⟨h2.1, h2.2, h3.1, h3.2⟩
  refine badR_no ?_ ?_ ?_
  · rw [hb.1]; exact h1
  · exact ⟨hb.2.1, hb.2.2.1⟩
  · exact ⟨hb.2.2.2.1, hb.2.2.2.2⟩
theorem badR_wrongL {lies : List Int} {T : Int} (h : ∀ r ∈ list, badR T r = false) : ∀ r ∈ wrongL list lies, badR T r = false := fun r hr => by
  unfold wrongL at hr
  obtain ⟨⟨y, i⟩, hy, rfl⟩ := List.mem_map.1 hr
  exact badR_wrong (h y (List.fst_mem_of_mem_zipIdx hy))
theorem pickL_sub {idx : List Nat} (hi : ∀ i ∈ idx, i < list.length) : ∀ r ∈ pickL list idx, r ∈ list := fun r hr => by
  unfold pickL at hr
  obtain ⟨i, h, rfl⟩ := List.mem_map.1 hr
  have := hi i h
  rw [List.getD_eq_getElem?_getD, List.getElem?_eq_getElem this]
  exact List.getElem_mem _
theorem drops_ne (h : Drops l list out) (ht : HasTruth l fun _ => []) : out ≠ [] := by
  obtain ⟨x, hx⟩ := drop_some (list := list) ht
  intro e
  have := (h.mem x).2 hx
  rw [e] at this; cases this
def fewL (so D : Nat) : Nat → List Nat
  | 0 => []
  | i + 1 => if so.testBit i = true ∧ (fewL so D i).length + 1 < D then fewL so D i ++ [i] else fewL so D i
theorem few_ok (so D : Nat) : ∀ i, (fewL so D i).Pairwise (· < ·) ∧ (∀ j ∈ fewL so D i, j < i) ∧ ((fewL so D i).length < D ∨ (fewL so D i).length = 0)
  | 0 => ⟨List.Pairwise.nil, fun _ h => (by cases h), .inr rfl⟩
  | i + 1 => by
    obtain ⟨h1, h2, h3⟩ := few_ok so D i
    unfold fewL
    split
    · rename_i h
      refine ⟨?_, fun j hj => ?_, .inl ?_⟩
      · rw [List.pairwise_append]
        exact ⟨h1, by simp, fun a ha b hb => by rw [List.mem_singleton] at hb; rw [hb]; exact h2 a ha⟩
      · rcases List.mem_append.1 hj with hj | hj
        · have := h2 j hj; omega
        · rw [List.mem_singleton] at hj; omega
      · rw [List.length_append]; simp; omega
    · exact ⟨h1, fun j hj => by have := h2 j hj; omega, h3⟩
theorem blame_few {x : List Nat} (hx : MinS list.length (isBlame l list) (2 ^ list.length) x) (so : Nat) (h0 : 0 < x.length) : HasTruth l (allS (pickL list (fewL so x.length list.length))) := by
  obtain ⟨h1, h2, h3⟩ := few_ok so x.length list.length
  refine Classical.byContradiction fun h => ?_
  have := blame_least hx h1 h2 h
  omega
end
theorem bit8 : ∀ (s : Fin 256) (i : Fin 8), (bits BinOp.and IntKind.u8 (((s.val : Nat) : Int) / 2 ^ i.val) 1 == 1) = s.val.testBit i.val := by decide +kernel
def kAny : Kn := ⟨fun _ => True, fun _ _ => True, fun _ _ _ _ _ => trivial⟩
def kTold (L : List Rp) (n : Nat) : Kn where
  s := fun v => ∃ a c, v = .slice a n c
  p := fun v w => ∃ a c, v = .slice a n c ∧ SlN 3 (fun _ => True) w (.slice a n c) (L.map rpRow)
  m := fun _ _ _ hb ⟨a, c, e, h⟩ => ⟨a, c, e, h.below hb⟩
def kSets (P : List (List Nat) → Prop) : Kn where
  s := fun _ => True
  p := fun v w => ∃ out, P out ∧ SlSl (fun _ => True) w v (out.map nInts)
  m := fun _ _ _ hb ⟨o, e, h⟩ => ⟨o, e, h.below hb⟩
def kSetsT (P : List (List Nat) → Prop) : Kn where
  s := fun v => ∃ u, v = .tuple #[u, .int .i64 0]
  p := fun v w => ∃ u out, v = .tuple #[u, .int .i64 0] ∧ P out ∧ SlSl (fun _ => True) w u (out.map nInts)
  m := fun _ _ _ hb ⟨u, o, e, h1, h⟩ => ⟨u, o, e, h1, h.below hb⟩
def kTup4 (e : Int) : Kn := ⟨fun v => ∃ a b c, v = .tuple #[a, b, c, .int .i64 e], fun _ _ => True, fun _ _ _ _ _ => trivial⟩
def kTupB (L : List Rp) (n : Nat) : Kn where
  s := fun v => ∃ a c, v = .tuple #[.slice a n c, .bool true]
  p := fun v w => ∃ a c, v = .tuple #[.slice a n c, .bool true] ∧ SlN 3 (fun _ => True) w (.slice a n c) (L.map rpRow)
  m := fun _ _ _ hb ⟨a, c, e, h⟩ => ⟨a, c, e, h.below hb⟩
theorem dropsIs {S S' : Nat → Prop} (l : Lg) (bv lv : Value) (list : List Rp) (w : World) (hs : Sl S w bv (ints l.beds)) (hbd : BedsIn l) (hl : SlN 3 S' w lv (list.map rpRow)) (hlen : list.length ≤ 5) (hT : Tab5 w) (h0 : dropE l list = 0) :
    Calls Tryz.prog 30 #[legV l bv, lv] w fun e w' => ∃ v, e = .returned (.tuple #[v, .int .i64 0]) ∧ Below w.heap.size w w' ∧ ∃ out, Drops l list out ∧ SlSl (fun _ => True) w' v (out.map nInts) := by
  refine (drop_any l bv lv list w hs hbd hl (.inl hlen) hT).mono ?_
  rintro e w' ⟨v, out, rfl, hb, -, h2⟩
  obtain ⟨h3, h4⟩ := h2 h0
  exact ⟨v, by rw [h0], hb, out, h3, h4.mono fun _ _ => trivial⟩
theorem blamesIs {S S' : Nat → Prop} (l : Lg) (bv lv : Value) (list : List Rp) (w : World) (hs : Sl S w bv (ints l.beds)) (hbd : BedsIn l) (hl : SlN 3 S' w lv (list.map rpRow)) (hlen : list.length ≤ 5) (hT : Tab5 w) (h0 : blameE l list = 0) :
    Calls Tryz.prog 29 #[legV l bv, lv] w fun e w' => ∃ v, e = .returned (.tuple #[v, .int .i64 0]) ∧ Below w.heap.size w w' ∧ ∃ out, Blames l list out ∧ SlSl (fun _ => True) w' v (out.map nInts) := by
  refine (blame_any l bv lv list w hs hbd hl (.inl hlen) hT).mono ?_
  rintro e w' ⟨v, out, rfl, hb, -, h2⟩
  obtain ⟨h3, h4⟩ := h2 h0
  exact ⟨v, by rw [h0], hb, out, h3, h4.mono fun _ _ => trivial⟩
theorem sets_at {S : Nat → Prop} {W : World} {a : Option Addr} {n c i : Nat} {out : List (List Nat)} {x : List Nat} (h : SlSl S W (.slice a n c) (out.map nInts)) (hx : out[i]? = some x) :
    ∃ b off ua uc, a = some ⟨b, off, none⟩ ∧ W.cell? ⟨b, off + i, none⟩ = some (.slice ua x.length uc) ∧ Sl S W (.slice ua x.length uc) (ints (nInts x)) := by
  obtain ⟨hl, e⟩ := List.getElem?_eq_some_iff.1 hx
  obtain ⟨b, off, u, rfl, -, h1, h2⟩ := h.cell (i := i) (by rw [List.length_map]; exact hl)
  have e2 : (out.map nInts)[i]'(by rw [List.length_map]; exact hl) = nInts x := by rw [List.getElem_map, e]
  rw [e2] at h2
  obtain ⟨ua, uc, rfl, -, -⟩ := h2.form
  have e3 : (ints (nInts x)).length = x.length := by simp [nInts]
  rw [e3] at h1 h2
  exact ⟨b, off, ua, uc, rfl, h1, h2⟩
end Go.Proofs.YtpfpjbglpibdoaaGreatDoor

/- Chapter 5, HeardLeast: plain facts; sets that have a number in common. -/
namespace Go.Proofs.YtpfpjbglpibdoaaGreatDoor
open Go Go.RowKit Go.Oche Go.Proofs

section
variable {l : Lg} {list : List Rp} {out : List (List Nat)}
theorem blame_ne (ht : HasTruth l fun _ => []) {x : List Nat} (hx : MinS list.length (isBlame l list) (2 ^ list.length) x) : x ≠ [] := fun e => (blame_no hx).1 (by
  rw [e]
  refine truth_less (fun t y hy => ?_) ht
  have := (mem_allS.1 hy).1
  cases this)
theorem blames_none (h : Blames l list out) : out = [] ↔ HasTruth l (allS list) := by
  constructor
  · intro e
    refine blame_none.1 fun x hx => ?_
    have := (h.mem x).2 hx
    rw [e] at this; cases this
  · intro ht
    exact List.eq_nil_iff_forall_not_mem.2 fun x hx => blame_none.2 ht x ((h.mem x).1 hx)
theorem pickF_less (k : Nat) (x : List Nat) : pickF (k : Int) x = x.filter (· ≠ k) := by
  unfold pickF
  refine List.filter_congr fun i _ => ?_
  by_cases h : i = k
  · simp [h]
  · simp [h]; omega
def comB (x y : List Nat) (n : Nat) : Bool := (y.take n).any fun z => decide (z ∈ x)
theorem com_succ {x y : List Nat} {n z : Nat} (h : y[n]? = some z) : comB x y (n + 1) = (comB x y n || decide (z ∈ x)) := by
  obtain ⟨hl, e⟩ := List.getElem?_eq_some_iff.1 h
  unfold comB
  rw [List.take_succ_eq_append_getElem hl, e, List.any_append]
  simp
theorem com_all {x y : List Nat} (h : ∃ i, i ∈ x ∧ i ∈ y) : comB x y y.length = true := by
  obtain ⟨i, h1, h2⟩ := h
  unfold comB
  rw [List.take_of_length_le (Nat.le_refl _), List.any_eq_true]
  exact ⟨i, h2, decide_eq_true h1⟩
theorem mem_take_succ {x : List Nat} {m a : Nat} (h : x[m]? = some a) (z : Nat) : decide (z ∈ x.take (m + 1)) = (decide (z ∈ x.take m) || (z == a)) := by
  obtain ⟨hl, e⟩ := List.getElem?_eq_some_iff.1 h
  rw [List.take_succ_eq_append_getElem hl, e]
  by_cases h1 : z ∈ x.take m <;> by_cases h2 : z = a <;> simp [h1, h2]
theorem blame_few2 (ht : HasTruth l fun _ => []) (hB : Blames l list out) {D : Nat} (hD : ∀ x ∈ out, x.length = D) (so : Nat) : HasTruth l (allS (pickL list (fewL so D list.length))) := by
  cases out with
  | nil =>
    refine truth_less (fun t y hy => ?_) ((blames_none hB).1 rfl)
    obtain ⟨h1, h2⟩ := mem_allS.1 hy
    exact mem_allS.2 ⟨pickL_sub (few_ok so D list.length).2.1 _ h1, h2⟩
  | cons x out =>
    have hx := (hB.mem x).1 (List.mem_cons_self ..)
    have h0 := blame_ne ht hx
    have hl := hD x (List.mem_cons_self ..)
    have := blame_few hx so (List.length_pos_iff.2 h0)
    rw [hl] at this; exact this
theorem truth_all {S S' : Nat → Prop} (l : Lg) (bv lv : Value) (list : List Rp) (n : Nat) (hn : l.turns = (n : Int)) (w : World) (hs : Sl S w bv (ints l.beds)) (hbd : BedsIn l) (hl : SlN 3 S' w lv (list.map rpRow)) (hc : checkL l = 0) (hlen : list.length ≤ 100) (hb : ∀ r ∈ list, badR l.turns r = false) :
    Calls Tryz.prog 25 #[legV l bv, lv] w fun e w' => ∃ (a b c : Value) (g : Int), e = .returned (.tuple #[a, b, c, .int .i64 g]) ∧ Below w.heap.size w w' ∧ (g = 0 ∧ HasTruth l (allS list) ∨ g = 9 ∧ ¬ HasTruth l (allS list)) := by
  by_cases h : HasTruth l (allS list)
  · refine (truth_ok l bv lv list n hn w hs hbd hl hc hlen hb h).mono ?_
    rintro e w' ⟨g1, g2, g3, rfl, hb', -, -, -⟩
    exact ⟨_, _, _, 0, rfl, hb', .inl ⟨rfl, h⟩⟩
  · refine (truth_no l bv lv list w hs hbd hl hc hlen hb h).mono ?_
    rintro e w' ⟨rfl, hb'⟩
    exact ⟨_, _, _, 9, rfl, hb', .inr ⟨rfl, h⟩⟩
end
end Go.Proofs.YtpfpjbglpibdoaaGreatDoor
