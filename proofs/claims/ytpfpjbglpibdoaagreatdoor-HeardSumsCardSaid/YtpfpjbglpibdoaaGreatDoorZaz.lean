/- The texts QE, QS0, QS1, WB, RA, in build order. -/
import Derived.Test.YtpfpjbglpibdoaaGreatDoorZay

/- Chapter 5: holds; what a thrown leg and its reports have. -/
namespace Go.Proofs.YtpfpjbglpibdoaaGreatDoor
open Go Go.RowKit Go.Oche Go.Proofs

def SpansAt (W : World) (g n : Nat) (f : Nat → Int × Int) : Prop := W.heap[g]? = some (.cells (spFlat ((List.range n).map f)).toArray 48 (0, 0))
theorem SpansAt.below {W W' : World} {g n : Nat} {f : Nat → Int × Int} (h : SpansAt W g n f) (hb : Below W.heap.size W W') : SpansAt W' g n f := (hb.block g (Array.getElem?_eq_some_iff.1 h).1).trans h
theorem SpansAt.cells {W : World} {g n : Nat} {f : Nat → Int × Int} (h : SpansAt W g n f) {i : Nat} (hi : i < n) : W.cell? ⟨g, i * 2, none⟩ = some (.int .i64 (f i).1) ∧ W.cell? ⟨g, i * 2 + 1, none⟩ = some (.int .i64 (f i).2) := by
  have h2 := spFlat_at (L := (List.range n).map f) (k := i) (by simpa using hi)
  rw [cell_of_heap h, cell_of_heap h]
  simpa using h2
def InSp (out : List Sp) (f1 f2 f3 : Nat → Int × Int) : Prop := ∀ (i : Nat) (sp : Sp), out[i]? = some sp → ((f1 i).1 ≤ sp.score ∧ sp.score ≤ (f1 i).2) ∧ ((f2 i).1 ≤ sp.en.left ∧ sp.en.left ≤ (f2 i).2) ∧ ((f3 i).1 ≤ (sp.darts : Int) ∧ (sp.darts : Int) ≤ (f3 i).2)
/-! ## What a thrown leg and its reports have -/
section
variable {l : Lg}
end
def scF (l : Lg) (list : List Rp) (t : Nat) : Int × Int := (trL (keptL l (allS list) t)).score
def leF (l : Lg) (list : List Rp) (t : Nat) : Int × Int := (trL (keptL l (allS list) t)).left
def daF (l : Lg) (list : List Rp) (t : Nat) : Int × Int := (trL (keptL l (allS list) t)).darts
section
variable (x : Thr) (most : Nat)
theorem legT_turns : (legT x most).turns = ((playX x most).out.length : Int) := rfl
theorem legT_bd : 1 ≤ (legT x most).players ∧ 0 ≤ (legT x most).turns ∧ 0 ≤ (legT x most).start ∧ (legT x most).start ≤ 21 := by
  have h := legB_bd x
  have h2 : (0 : Int) ≤ ((playX x most).out.length : Int) := by omega
  exact ⟨h.2.2.2.2.2.2.1, h2, by show 0 ≤ (legB x).start; omega, h.2.1⟩
theorem legT_in : BedsIn (legT x most) := fun b hb => by
  have := bedsOf_ok (show b ∈ bedsOf x.which from hb); omega
structure RepsOk (list : List Rp) : Prop where
  len : list.length ≤ 90
  bad : ∀ r ∈ list, badR (legT x most).turns r = false
theorem RepsOk.snoc {list : List Rp} (h : RepsOk x most list) (hl : list.length ≤ 89) {r : Rp} (hr : badR (legT x most).turns r = false) : RepsOk x most (list ++ [r]) :=
  ⟨by simp; omega, fun y hy => (List.mem_append.1 hy).elim (h.bad y) fun hy => by rw [List.mem_singleton] at hy; rw [hy]; exact hr⟩
end
end Go.Proofs.YtpfpjbglpibdoaaGreatDoor

/- Chapter 5, in plain Lean: HeardSums: the stand that is reached, one bed more. -/
namespace Go.Proofs.YtpfpjbglpibdoaaGreatDoor
open Go.RowKit Go.Oche Go.Proofs

section
variable {l : Lg}
theorem dart_low {s : Std} {h : Ht} (hs : low5 l.gout ≤ s.left) : (dart5 l s h).1.won = true ∨ (dart5 l s h).1.bust = true ∨ low5 l.gout ≤ (dart5 l s h).1.left := by
  unfold dart5
  split
  · exact .inr (.inr hs)
  · split
    · exact .inl rfl
    · split
      · exact .inr (.inl rfl)
      · rename_i h; exact .inr (.inr (by simp only; omega))
theorem dart_goes {s : Std} {h : Ht} (hg : (dart5 l s h).2 = true) (hs : low5 l.gout ≤ s.left) : low5 l.gout ≤ (dart5 l s h).1.std.left := by
  unfold dart5 at hg ⊢
  split
  · exact hs
  · rename_i h1
    rw [if_neg h1] at hg
    split
    · rename_i h2; rw [if_pos h2] at hg; cases hg
    · rename_i h2
      rw [if_neg h2] at hg
      split
      · rename_i h3; rw [if_pos h3] at hg; cases hg
      · rename_i h3; show low5 l.gout ≤ s.left - h.score; omega
theorem from_low : ∀ (k : Nat) (s : Std), low5 l.gout ≤ s.left → ∀ p ∈ from5 l k s, p.1.won = true ∨ p.1.bust = true ∨ low5 l.gout ≤ p.1.left
  | 0, s, hs, p, hp => by
    simp only [from5, List.mem_singleton] at hp
    rw [hp]; exact .inr (.inr hs)
  | k + 1, s, hs, p, hp => by
    rw [from5, List.mem_flatMap] at hp
    obtain ⟨h, _, hp⟩ := hp
    split at hp
    · rename_i hg
      obtain ⟨q, hq, rfl⟩ := List.mem_map.1 hp
      exact from_low k _ (dart_goes hg hs) q hq
    · rw [List.mem_singleton] at hp
      rw [hp]; exact dart_low hs
theorem vis_low {s : Std} (hs : low5 l.gout ≤ s.left) {p : En × Nat} (hp : p ∈ vis5 l s) : p.1.won = true ∨ low5 l.gout ≤ p.1.left := by
  unfold vis5 at hp
  obtain ⟨q, hq, rfl⟩ := List.mem_map.1 hp
  rcases from_low 3 s hs q hq with h | h | h
  · by_cases hb : q.1.bust = true
    · right; unfold noBust; rw [if_pos hb]; exact hs
    · left; unfold noBust; rw [if_neg hb]; exact h
  · right; unfold noBust; rw [if_pos h]; exact hs
  · by_cases hb : q.1.bust = true
    · right; unfold noBust; rw [if_pos hb]; exact hs
    · right; unfold noBust; rw [if_neg hb]; exact h
end
structure StAt (l : Lg) (x : Pl5) (k : Nat) (s : Std) : Prop where
  lo : low5 l.gout ≤ s.left
  hi : s.left ≤ l.start
  inn : s.inn = true ∨ s.left = l.start
  gin : l.gin = 0 → s.inn = true
  at_ : s.left = (if k = 0 then start5 l else aftAt l x.out ((k - 1) * l.players.toNat)).left
section
variable {l : Lg} {x : Pl5}
theorem StAt.start (h : 2 ≤ l.start) : StAt l x 0 ⟨l.start, l.gin == 0⟩ := by
  refine ⟨by show low5 l.gout ≤ l.start; unfold low5; split <;> omega, Int.le_refl _, .inr rfl, fun e => by simp [e], rfl⟩
theorem StAt.bef (hP : 1 ≤ l.players) (hx : Ok5 l x) {k : Nat} {s : Std} (h : StAt l x k s) {sp : Sp} (hsp : x.out[k * l.players.toNat]? = some sp) : sp.bef.left = s.left := by
  rw [hx.bef _ _ hsp, h.at_]
  by_cases e : k = 0
  · rw [if_pos e, if_pos (by rw [e]; omega)]
  · rw [if_neg e, if_neg]
    · congr 2
      obtain ⟨j, rfl⟩ : ∃ j, k = j + 1 := ⟨k - 1, by omega⟩
      rw [Nat.add_sub_cancel, Nat.succ_mul]; omega
    · have : 1 * l.players.toNat ≤ k * l.players.toNat := Nat.mul_le_mul_right _ (by omega)
      omega
theorem StAt.last (hP : 1 ≤ l.players) (hx : Ok5 l x) {k : Nat} {s : Std} (h : StAt l x k s) {sp : Sp} (hsp : x.out[k * l.players.toNat]? = some sp) (hl : ¬ 0 < sp.en.left) : k * l.players.toNat + 1 = x.out.length := by
  have hlow := h.lo
  have hv := hx.vis sp (List.mem_of_getElem? hsp)
  have hlo := vis_low (by rw [h.bef hP hx hsp]; exact hlow) hv
  have hw : sp.en.won = true := by
    rcases hlo with hw | hlo
    · exact hw
    · unfold low5 at hlo; simp only at hlo; split at hlo <;> omega
  have h2 := hx.won _ _ hsp
  rw [hw] at h2
  have h3 : decide (k * l.players.toNat + 1 = x.out.length) = true := by
    cases e : decide (k * l.players.toNat + 1 = x.out.length) with
    | true => rfl
    | false => rw [e] at h2; simp at h2
  exact of_decide_eq_true h3
theorem StAt.next (hg : GoodBeds l) (hP : 1 ≤ l.players) (h0 : 0 ≤ l.start) (hx : Ok5 l x) {k : Nat} {s : Std} (h : StAt l x k s) {sp : Sp} (hsp : x.out[k * l.players.toNat]? = some sp) (hl : 0 < sp.en.left) :
    StAt l x (k + 1) ⟨sp.en.left, s.inn || decide (0 < sp.score)⟩ := by
  have hb := hx.bef _ _ hsp
  have hbl : sp.bef.left = s.left := by
    rw [hb, h.at_]
    by_cases e : k = 0
    · rw [if_pos e, if_pos (by rw [e]; omega)]
    · rw [if_neg e, if_neg]
      · congr 2
        obtain ⟨j, rfl⟩ : ∃ j, k = j + 1 := ⟨k - 1, by omega⟩
        rw [Nat.add_sub_cancel, Nat.succ_mul]; omega
      · have : 1 * l.players.toNat ≤ k * l.players.toNat := Nat.mul_le_mul_right _ (by omega)
        omega
  have hv := hx.vis sp (List.mem_of_getElem? hsp)
  have hlow := h.lo
  have hlo := vis_low (by rw [hbl]; exact hlow) hv
  have hs0 : 0 ≤ sp.bef.left := by rw [hbl]; unfold low5 at hlow; split at hlow <;> omega
  have hll := vis_left hg hs0 hv
  have hhi := h.hi
  refine ⟨?_, by show sp.en.left ≤ l.start; simp only at hll; omega, ?_, fun e => by show (s.inn || _) = true; rw [h.gin e]; rfl, ?_⟩
  · rcases hlo with hw | hlo
    · have := vis_won l hv hw
      simp only at this
      rw [this] at hl
      simp at hl
    · exact hlo
  · by_cases hsc : 0 < sp.score
    · left; show (s.inn || decide (0 < sp.score)) = true; rw [decide_eq_true hsc]; simp
    · rcases h.inn with hi | hi
      · left; show (s.inn || _) = true; rw [hi]; rfl
      · right
        show sp.en.left = l.start
        unfold Sp.score at hsc
        simp only at hll
        omega
  · rw [if_neg (by omega), Nat.add_sub_cancel]
    unfold aftAt
    rw [hsp]; rfl
theorem StAt.ok {k : Nat} {s : Std} (h : StAt l x k s) : okStand l s = true := by
  unfold okStand
  rw [Bool.and_eq_true, Bool.or_eq_true]
  refine ⟨?_, ?_⟩
  · unfold isIn; rw [decide_eq_true h.lo, decide_eq_true h.hi]; rfl
  · rcases h.inn with hi | hi
    · exact .inl hi
    · by_cases e : l.gin = 0
      · exact .inl (h.gin e)
      · right; rw [hi]; simp [e]
end
def moreL (l : Lg) : Lg := { l with beds := l.beds ++ [420] }
theorem moreL_check {x : Thr} {most : Nat} (hm : most ≤ 8) : checkL (moreL (legT x most)) = 0 := by
  have hb := legB_bd x
  have hl := playX_len x most
  have h0 : ¬ 82 < (moreL (legT x most)).beds.length := by
    have := bedsOf_len x.which
    show ¬ 82 < (bedsOf x.which ++ [420]).length
    rw [List.length_append]; simp; omega
  have h1 : ¬ (okCount (moreL (legT x most)) = false ∨ (moreL (legT x most)).beds = [] ∨ ¬ (moreL (legT x most)).beds.Pairwise (· < ·) ∨ (∃ b ∈ (moreL (legT x most)).beds, isBed5 b = false)) := by
    rintro (h | h | h | ⟨b, hb, h⟩)
    · have : okCount (moreL (legT x most)) = true := by
        show (isIn (legB x).start 2 1001 && isIn (legB x).gin 0 2 && isIn (legB x).gout 0 2) = true
        unfold isIn
        simp only [Bool.and_eq_true, decide_eq_true_eq]; omega
      rw [this] at h; cases h
    · have : bedsOf x.which ++ [420] = [] := h
      simp at this
    · refine h ?_
      show (bedsOf x.which ++ [420]).Pairwise (· < ·)
      rw [List.pairwise_append]
      exact ⟨bedsOf_asc _, by simp, fun a ha b hb => by rw [List.mem_singleton] at hb; have := bedsOf_ok ha; omega⟩
    · rcases List.mem_append.1 (show b ∈ bedsOf x.which ++ [420] from hb) with hb | hb
      · rw [(bedsOf_ok hb).1] at h; cases h
      · rw [List.mem_singleton] at hb; rw [hb] at h; cases h
  have h2 : ¬ (isIn (moreL (legT x most)).players 1 4 = false ∨ isIn (moreL (legT x most)).turns 0 60 = false ∨ ((moreL (legT x most)).won = true ∧ (moreL (legT x most)).turns = 0)) := by
    rintro (h | h | ⟨h, h'⟩)
    · have : isIn (legB x).players 1 4 = true := by unfold isIn; simp only [Bool.and_eq_true, decide_eq_true_eq]; omega
      rw [show (moreL (legT x most)).players = (legB x).players from rfl, this] at h; cases h
    · have : isIn (((playX x most).out.length : Nat) : Int) 0 60 = true := by unfold isIn; simp only [Bool.and_eq_true, decide_eq_true_eq]; omega
      rw [show (moreL (legT x most)).turns = (((playX x most).out.length : Nat) : Int) from rfl, this] at h; cases h
    · have h3 := playX_won x most h
      have h4 : (((playX x most).out.length : Nat) : Int) = 0 := h'
      exact h3 (List.length_eq_zero_iff.1 (by omega))
  unfold checkL
  rw [if_neg h0, if_neg h1, if_neg h2]
/-! ## The scores, as one list -/
theorem asc_eq5 : ∀ {a b : List Int}, a.Pairwise (· < ·) → b.Pairwise (· < ·) → (∀ x, x ∈ a ↔ x ∈ b) → a = b := fun {a b} ha hb h => by
  have hna : a.Nodup := ha.imp fun h => by omega
  have hnb : b.Nodup := hb.imp fun h => by omega
  have hp : a.Perm b := (List.perm_ext_iff_of_nodup hna hnb).2 h
  exact hp.eq_of_pairwise (fun x y _ _ h1 h2 => by omega) ha hb
def scIs (l : Lg) (s : Std) (j : Nat) : Bool := (vis5 l s).any fun p => !p.1.won && (s.left - p.1.left == (j : Int))
def scOf (l : Lg) (s : Std) : List Int := ((List.range 1002).filter (scIs l s)).map fun (j : Nat) => (j : Int)
theorem scOf_is {l : Lg} (hg : GoodBeds l) {s : Std} (hs : 0 ≤ s.left ∧ s.left ≤ 1001) {xs : List Int} (h : IsScores l s xs) : xs = scOf l s := by
  refine asc_eq5 h.1 ?_ fun x => ?_
  · unfold scOf
    rw [List.pairwise_map]
    exact ((List.pairwise_lt_range).filter _).imp fun h => by omega
  · rw [h.2]
    unfold scOf
    rw [List.mem_map]
    constructor
    · rintro ⟨p, hp, hw, rfl⟩
      have hb := vis_left hg hs.1 hp
      refine ⟨(s.left - p.1.left).toNat, List.mem_filter.2 ⟨List.mem_range.2 (by omega), ?_⟩, by omega⟩
      unfold scIs
      refine List.any_eq_true.2 ⟨p, hp, ?_⟩
      rw [hw]
      simp only [Bool.not_false, Bool.true_and, beq_iff_eq]
      omega
    · rintro ⟨j, hj, rfl⟩
      obtain ⟨p, hp, hq⟩ := List.any_eq_true.1 (List.mem_filter.1 hj).2
      rw [Bool.and_eq_true, Bool.not_eq_true', beq_iff_eq] at hq
      exact ⟨p, hp, hq.1, hq.2⟩
theorem scOf_asc (l : Lg) (s : Std) : (scOf l s).Pairwise (· < ·) := by
  unfold scOf
  rw [List.pairwise_map]
  exact ((List.pairwise_lt_range).filter _).imp fun h => by omega
theorem scOf_scores {l : Lg} (hg : GoodBeds l) {s : Std} (hs : 0 ≤ s.left ∧ s.left ≤ 1001) : IsScores l s (scOf l s) := by
  refine ⟨scOf_asc l s, fun x => ?_⟩
  unfold scOf
  rw [List.mem_map]
  constructor
  · rintro ⟨j, hj, rfl⟩
    obtain ⟨p, hp, hq⟩ := List.any_eq_true.1 (List.mem_filter.1 hj).2
    rw [Bool.and_eq_true, Bool.not_eq_true', beq_iff_eq] at hq
    exact ⟨p, hp, hq.1, hq.2⟩
  · rintro ⟨p, hp, hw, rfl⟩
    have hb := vis_left hg hs.1 hp
    refine ⟨(s.left - p.1.left).toNat, List.mem_filter.2 ⟨List.mem_range.2 (by omega), ?_⟩, by omega⟩
    unfold scIs
    refine List.any_eq_true.2 ⟨p, hp, ?_⟩
    rw [hw]
    simp only [Bool.not_false, Bool.true_and, beq_iff_eq]
    omega
theorem scOf_le {l : Lg} (hg : GoodBeds l) {s : Std} (hs : 0 ≤ s.left ∧ s.left ≤ 1001) : ∀ z ∈ scOf l s, z ≤ s.left := fun z hz => by
  obtain ⟨p, hp, _, rfl⟩ := ((scOf_scores hg hs).2 z).1 hz
  have := vis_left hg hs.1 hp
  omega
theorem scOf_nn {l : Lg} {s : Std} : ∀ z ∈ scOf l s, 0 ≤ z := fun z hz => by
  obtain ⟨j, _, rfl⟩ := List.mem_map.1 hz; omega
def belowN (xs : List Int) (n : Int) : Nat := (xs.filter fun z => decide (z < n)).length
theorem belowN_at : ∀ {xs : List Int}, xs.Pairwise (· < ·) → ∀ (n : Int), (n ∈ xs → xs[belowN xs n]? = some n ∧ belowN xs (n + 1) = belowN xs n + 1) ∧ (n ∉ xs → xs[belowN xs n]? ≠ some n ∧ belowN xs (n + 1) = belowN xs n)
  | [], _, n => ⟨fun h => (by cases h), fun _ => ⟨by simp, rfl⟩⟩
  | x :: xs, h, n => by
    rw [List.pairwise_cons] at h
    obtain ⟨h1, h2⟩ := h
    have ih := belowN_at h2 n
    have hz : ∀ (k : Int), k ≤ x → belowN xs k = 0 := fun k hk => by
      unfold belowN
      rw [List.length_eq_zero_iff, List.filter_eq_nil_iff]
      intro z hz
      have := h1 z hz
      simp; omega
    by_cases e : x < n
    · have b1 : belowN (x :: xs) n = belowN xs n + 1 := by unfold belowN; rw [List.filter_cons, if_pos (by simpa using e)]; rfl
      have b2 : belowN (x :: xs) (n + 1) = belowN xs (n + 1) + 1 := by unfold belowN; rw [List.filter_cons, if_pos (by simp; omega)]; rfl
      rw [b1, b2, List.getElem?_cons_succ]
      refine ⟨fun hm => ?_, fun hm => ?_⟩
      · rcases List.mem_cons.1 hm with e2 | hm
        · omega
        · have := ih.1 hm; exact ⟨this.1, by rw [this.2]⟩
      · have := ih.2 fun hm' => hm (List.mem_cons_of_mem _ hm'); exact ⟨this.1, by rw [this.2]⟩
    · have b1 : belowN (x :: xs) n = 0 := by unfold belowN; rw [List.filter_cons, if_neg (by simpa using e)]; exact hz n (by omega)
      rw [b1]
      by_cases e2 : x = n
      · subst e2
        have b2 : belowN (x :: xs) (x + 1) = 1 := by
          unfold belowN
          rw [List.filter_cons, if_pos (by simp; omega)]
          have : (xs.filter fun z => decide (z < x + 1)) = [] := by
            rw [List.filter_eq_nil_iff]; intro z hz; have := h1 z hz; simp; omega
          rw [this]; rfl
        exact ⟨fun _ => ⟨rfl, b2⟩, fun hm => (hm (List.mem_cons_self ..)).elim⟩
      · have b2 : belowN (x :: xs) (n + 1) = 0 := by unfold belowN; rw [List.filter_cons, if_neg (by simp; omega)]; exact hz (n + 1) (by omega)
        rw [b2]
        refine ⟨fun hm => ?_, fun _ => ⟨by simpa using e2, rfl⟩⟩
        rcases List.mem_cons.1 hm with e3 | hm
        · exact (e2 e3.symm).elim
        · have := h1 n hm; omega
theorem belowN_zero {xs : List Int} (h : ∀ z ∈ xs, 0 ≤ z) : belowN xs 0 = 0 := by
  unfold belowN
  rw [List.length_eq_zero_iff, List.filter_eq_nil_iff]
  intro z hz
  have := h z hz
  simp; omega
theorem belowN_all {xs : List Int} {n : Int} (h : ∀ z ∈ xs, z < n) : belowN xs n = xs.length := by
  unfold belowN
  rw [List.filter_eq_self.2 fun z hz => by simpa using h z hz]
end Go.Proofs.YtpfpjbglpibdoaaGreatDoor

/- Chapter 5: own, whose answer's beds are a row of one's own; what Visits answers, in a drawn region. -/
namespace Go.Proofs.YtpfpjbglpibdoaaGreatDoor
open Go Go.RowKit Go.Oche Go.Proofs

set_option maxRecDepth 100000 in
set_option maxHeartbeats 1000000 in
theorem own_row {S : Nat → Prop} (l : Lg) (bv : Value) (w : World) (hs : Sl S w bv (ints l.beds)) (hlen : l.beds.length ≤ 1000) :
    Calls Tryz.prog 14 #[legV l bv] w fun e w' => ∃ bv', e = .returned (legV l bv') ∧ Below w.heap.size w w' ∧ w'.ownsRow w.heap.size 95 1 bv' l.beds.length (ints l.beds) := by
  obtain ⟨a, cap, rfl, h2, h3⟩ := hs.form
  simp only [ints_length] at *
  obtain ⟨w1, hw1⟩ : ∃ x, (w.alloc (.cells #[.int .i64 l.start, .int .i64 l.gin, .int .i64 l.gout, .slice a l.beds.length cap, .int .i64 l.players, .int .i64 l.turns, .bool l.won] 27)).alloc (.cells #[.int .i64 0, .int .i64 0, .int .i64 0, .slice none 0 0, .int .i64 0, .int .i64 0, .bool false] 27) = x := ⟨_, rfl⟩
  have hb1 : Below w.heap.size w w1 := by rw [← hw1]; exact (aB _ _).alloc (by simp) _
  obtain ⟨N, hN⟩ : ∃ N, w.heap.size = N := ⟨_, rfl⟩
  have k : w1.heap[N]? = some (.cells #[.int .i64 l.start, .int .i64 l.gin, .int .i64 l.gout, .slice a l.beds.length cap, .int .i64 l.players, .int .i64 l.turns, .bool l.won] 27 (0, 0)) := by rw [← hw1, ← hN]; exact (Below.heap_alloc _ _ _ (by simp)).trans (World.alloc_heap_new _ _)
  have kz : w1.heap[N + 1]? = some (.cells #[.int .i64 0, .int .i64 0, .int .i64 0, .slice none 0 0, .int .i64 0, .int .i64 0, .bool false] 27 (0, 0)) := by
    rw [← hw1, ← hN]
    have := World.alloc_heap_new (w.alloc (.cells #[.int .i64 l.start, .int .i64 l.gin, .int .i64 l.gout, .slice a l.beds.length cap, .int .i64 l.players, .int .i64 l.turns, .bool l.won] 27)) (.cells #[.int .i64 0, .int .i64 0, .int .i64 0, .slice none 0 0, .int .i64 0, .int .i64 0, .bool false] 27)
    simp only [World.size_alloc] at this
    exact this
  have hs1 : w1.heap.size = N + 2 := by rw [← hw1]; simp; omega
  have c3 : w1.cell? ⟨N, 3, none⟩ = some (.slice a l.beds.length cap) := by rw [cell_of_heap k]; rfl
  have HS := Lib.hid (Sl.toN (hs.below hb1))
  have HB := Lib.hid hb1
  have HW := Lib.hid hw1
  have HK := Lib.hid k
  have HKZ := Lib.hid kz
  have HN := Lib.hid hN
  have HZ1 := Lib.hid hs1
  have hN1 : N < w1.heap.size := by omega
  clear hw1 hb1 k kz hs hs1
  unfold legV legA
  rw [hN]
  clear hN
  go_enter Tryz.func14, Tryz.ntmps14
  go_upto_region 1 with fail
  rw [HW.out, HN.out]
  go_wp2_with (at_builtin; refine wpList_copyOwn rfl (.tmp 3) (.tmp 5) 25 rfl 95 (.int .i64 0) 1 8 Tryz.underlying25 info_bed5 rfl (by decide) rfl _ ((ints l.beds).map fun x => [x]) rfl HS.out (fun r hr u hu => by obtain ⟨x, hx, rfl⟩ := List.mem_map.1 hr; rw [List.mem_singleton] at hu; subst hu; exact ints_one l.beds _ hx) (by simp; omega) (by decide) ?_)
  intro v2 w2 hb2 hs2
  have hsl2 : w2.ownsRow w1.heap.size 95 1 v2 l.beds.length (ints l.beds) := by
    have e : ((ints l.beds).map fun x => [x]).flatten = ints l.beds := flat_one _
    rw [e] at hs2
    simpa using hs2
  obtain ⟨a2, c2, rfl⟩ := owns_form hsl2
  have hk2 := (hb2.block N hN1).trans HK.out
  have hz2 := (hb2.block (N + 1) (by have := HZ1.out; omega)).trans HKZ.out
  have hsz2 := hb2.size
  have c3 : w2.cell? ⟨N, 3, none⟩ = some (.slice a l.beds.length cap) := by rw [cell_of_heap hk2]; rfl
  have f3 : w2.frozen? ⟨N, 3, none⟩ = false := frozen_of_heap hk2
  obtain ⟨w3, hw3⟩ : ∃ x, w2.setCell ⟨N, 3, none⟩ (.slice a2 l.beds.length c2) = x := ⟨_, rfl⟩
  have hk3 : w3.heap[N]? = some (.cells #[.int .i64 l.start, .int .i64 l.gin, .int .i64 l.gout, .slice a2 l.beds.length c2, .int .i64 l.players, .int .i64 l.turns, .bool l.won] 27 (0, 0)) := by rw [← hw3]; exact heap_setCell_at hk2 _
  have hz3 : w3.heap[N + 1]? = some (.cells #[.int .i64 0, .int .i64 0, .int .i64 0, .slice none 0 0, .int .i64 0, .int .i64 0, .bool false] 27 (0, 0)) := by rw [← hw3, Below.heap_setCell _ _ _ _ (show N + 1 ≠ N by omega)]; exact hz2
  have hsl3 : w3.ownsRow w1.heap.size 95 1 (.slice a2 l.beds.length c2) l.beds.length (ints l.beds) := ownsN_kept hsl2 fun g hg => by rw [← hw3, Below.heap_setCell _ _ _ _ (show g ≠ N by have := (hsl2.lt g hg).1; omega)]
  have hb3 : Below w.heap.size w w3 := by rw [← hw3]; exact (HB.out.trans (hb2.mono HB.out.size)).trans ((Below.refl _ _).setCell (by rw [HN.out]; exact Nat.le_refl _) _)
  have hsz3 : w3.heap.size = w2.heap.size := by rw [← hw3]; simp
  have l0 : w3.cell? ⟨N, 0, none⟩ = some (.int .i64 l.start) := by rw [cell_of_heap hk3]; rfl
  have z0 : w3.cell? ⟨N + 1, 0, none⟩ = some (.int .i64 0) := by rw [cell_of_heap hz3]; rfl
  have fz0 : w3.frozen? ⟨N + 1, 0, none⟩ = false := frozen_of_heap hz3
  have l1 : w3.cell? ⟨N, 1, none⟩ = some (.int .i64 l.gin) := by rw [cell_of_heap hk3]; rfl
  have z1 : w3.cell? ⟨N + 1, 1, none⟩ = some (.int .i64 0) := by rw [cell_of_heap hz3]; rfl
  have fz1 : w3.frozen? ⟨N + 1, 1, none⟩ = false := frozen_of_heap hz3
  have l2 : w3.cell? ⟨N, 2, none⟩ = some (.int .i64 l.gout) := by rw [cell_of_heap hk3]; rfl
  have z2 : w3.cell? ⟨N + 1, 2, none⟩ = some (.int .i64 0) := by rw [cell_of_heap hz3]; rfl
  have fz2 : w3.frozen? ⟨N + 1, 2, none⟩ = false := frozen_of_heap hz3
  have l3 : w3.cell? ⟨N, 3, none⟩ = some (.slice a2 l.beds.length c2) := by rw [cell_of_heap hk3]; rfl
  have z3 : w3.cell? ⟨N + 1, 3, none⟩ = some (.slice none 0 0) := by rw [cell_of_heap hz3]; rfl
  have fz3 : w3.frozen? ⟨N + 1, 3, none⟩ = false := frozen_of_heap hz3
  have l4 : w3.cell? ⟨N, 4, none⟩ = some (.int .i64 l.players) := by rw [cell_of_heap hk3]; rfl
  have z4 : w3.cell? ⟨N + 1, 4, none⟩ = some (.int .i64 0) := by rw [cell_of_heap hz3]; rfl
  have fz4 : w3.frozen? ⟨N + 1, 4, none⟩ = false := frozen_of_heap hz3
  have l5 : w3.cell? ⟨N, 5, none⟩ = some (.int .i64 l.turns) := by rw [cell_of_heap hk3]; rfl
  have z5 : w3.cell? ⟨N + 1, 5, none⟩ = some (.int .i64 0) := by rw [cell_of_heap hz3]; rfl
  have fz5 : w3.frozen? ⟨N + 1, 5, none⟩ = false := frozen_of_heap hz3
  have l6 : w3.cell? ⟨N, 6, none⟩ = some (.bool l.won) := by rw [cell_of_heap hk3]; rfl
  have z6 : w3.cell? ⟨N + 1, 6, none⟩ = some (.bool false) := by rw [cell_of_heap hz3]; rfl
  have fz6 : w3.frozen? ⟨N + 1, 6, none⟩ = false := frozen_of_heap hz3
  obtain ⟨w4, hw4⟩ : ∃ x, ((((((w3.setCell ⟨N + 1, 0, none⟩ (.int .i64 l.start)).setCell ⟨N + 1, 1, none⟩ (.int .i64 l.gin)).setCell ⟨N + 1, 2, none⟩ (.int .i64 l.gout)).setCell ⟨N + 1, 3, none⟩ (.slice a2 l.beds.length c2)).setCell ⟨N + 1, 4, none⟩ (.int .i64 l.players)).setCell ⟨N + 1, 5, none⟩ (.int .i64 l.turns)).setCell ⟨N + 1, 6, none⟩ (.bool l.won) = x := ⟨_, rfl⟩
  have hk4 : w4.heap[N + 1]? = some (.cells #[.int .i64 l.start, .int .i64 l.gin, .int .i64 l.gout, .slice a2 l.beds.length c2, .int .i64 l.players, .int .i64 l.turns, .bool l.won] 27 (0, 0)) := by
    rw [← hw4]
    exact heap_setCell_at (heap_setCell_at (heap_setCell_at (heap_setCell_at (heap_setCell_at (heap_setCell_at (heap_setCell_at hz3 _) _) _) _) _) _) _
  have oth : ∀ q, q ≠ N + 1 → w4.heap[q]? = w3.heap[q]? := fun q hq => by
    rw [← hw4, Below.heap_setCell _ _ _ _ (by simpa using hq), Below.heap_setCell _ _ _ _ (by simpa using hq), Below.heap_setCell _ _ _ _ (by simpa using hq), Below.heap_setCell _ _ _ _ (by simpa using hq), Below.heap_setCell _ _ _ _ (by simpa using hq), Below.heap_setCell _ _ _ _ (by simpa using hq), Below.heap_setCell _ _ _ _ (by simpa using hq)]
  have HS4 : Hid (w4.ownsRow w.heap.size 95 1 (.slice a2 l.beds.length c2) l.beds.length (ints l.beds)) := Lib.hid (ownsN_base (ownsN_kept hsl3 fun g hg => oth g (by have := (hsl3.lt g hg).1; have := HZ1.out; omega)) HB.out.size)
  have HB4 : Hid (Below w.heap.size w w4) := Lib.hid (by
    rw [← hw4]
    have hle : w.heap.size ≤ N + 1 := by rw [HN.out]; omega
    exact hb3.trans ((((((((Below.refl _ _).setCell hle _).setCell hle _).setCell hle _).setCell hle _).setCell hle _).setCell hle _).setCell hle _))
  have r0 : w4.cell? ⟨N + 1, 0, none⟩ = some (.int .i64 l.start) := by rw [cell_of_heap hk4]; rfl
  have r1 : w4.cell? ⟨N + 1, 1, none⟩ = some (.int .i64 l.gin) := by rw [cell_of_heap hk4]; rfl
  have r2 : w4.cell? ⟨N + 1, 2, none⟩ = some (.int .i64 l.gout) := by rw [cell_of_heap hk4]; rfl
  have r3 : w4.cell? ⟨N + 1, 3, none⟩ = some (.slice a2 l.beds.length c2) := by rw [cell_of_heap hk4]; rfl
  have r4 : w4.cell? ⟨N + 1, 4, none⟩ = some (.int .i64 l.players) := by rw [cell_of_heap hk4]; rfl
  have r5 : w4.cell? ⟨N + 1, 5, none⟩ = some (.int .i64 l.turns) := by rw [cell_of_heap hk4]; rfl
  have r6 : w4.cell? ⟨N + 1, 6, none⟩ = some (.bool l.won) := by rw [cell_of_heap hk4]; rfl
  have HW3 := Lib.hid hw3
  have HW4 := Lib.hid hw4
  clear hb2 hs2 hsl2 hk2 hz2 hk3 hz3 hsl3 hb3 hk4 oth hw3 hw4
  go_upto_region 2 with fail
  rw [HW3.out]
  go_wp2
  rw [HW4.out]
  refine bodyPost_ret (v := legV l (.slice a2 l.beds.length c2)) (by simp [results, Tryz.results14, go_sem, r0, r1, r2, r3, r4, r5, r6, legV, legA]) rfl ?_
  exact ⟨_, rfl, by rw [← HN.out]; exact HB4.out, by have := HS4.out; rw [HN.out] at this; exact this⟩
def kOwnL (l : Lg) (n : Nat) : Kn where
  s := fun v => ∃ a c, v = legV l (.slice a n c)
  p := fun v w => ∃ a c, v = legV l (.slice a n c) ∧ Sl (fun _ => True) w (.slice a n c) (ints l.beds)
  m := fun _ _ _ hb ⟨a, c, e, h⟩ => ⟨a, c, e, h.below hb⟩
def kVis (xs : List Int) (wn : Bool) : Kn where
  s := fun v => ∃ a c, v = .tuple #[.slice a xs.length c, .bool wn, .int .i64 0]
  p := fun v w => ∃ a c, v = .tuple #[.slice a xs.length c, .bool wn, .int .i64 0] ∧ Sl (fun _ => True) w (.slice a xs.length c) (ints xs)
  m := fun _ _ _ hb ⟨a, c, e, h⟩ => ⟨a, c, e, h.below hb⟩
def kInts (xs : List Int) : Kn where
  s := fun v => ∃ a c, v = .slice a xs.length c
  p := fun v w => ∃ a c, v = .slice a xs.length c ∧ Sl (fun _ => True) w (.slice a xs.length c) (ints xs)
  m := fun _ _ _ hb ⟨a, c, e, h⟩ => ⟨a, c, e, h.below hb⟩
theorem open_zero {l : Lg} {s : Std} (h : checkL l = 0) (h2 : okStand l s = true) : openE l s = 0 := by
  unfold openE
  rw [if_pos h, if_pos h2]
theorem visits_ok {S : Nat → Prop} (l : Lg) (bv : Value) (s : Std) (w : World) (hs : Sl S w bv (ints l.beds)) (hbd : BedsIn l) (hc : checkL l = 0) (ho : okStand l s = true) (hg : GoodBeds l) (h0 : 0 ≤ s.left ∧ s.left ≤ 1001) :
    Calls Tryz.prog 16 #[legV l bv, stV s] w fun e w' => ∃ a c, e = .returned (.tuple #[.slice a (scOf l s).length c, .bool (winsL l s), .int .i64 0]) ∧ Below w.heap.size w w' ∧ Sl (fun _ => True) w' (.slice a (scOf l s).length c) (ints (scOf l s)) ∧ IsScores l s (scOf l s) := by
  refine (visits2_any l bv s w hs hbd).mono ?_
  rintro e w' ⟨sv, xs, wn, rfl, hb, hsl, -, hz⟩
  obtain ⟨h1, rfl⟩ := hz (open_zero hc ho)
  have e := scOf_is hg h0 h1
  rw [← e]
  obtain ⟨a, c, rfl, -, -⟩ := hsl.form
  rw [ints_length] at hsl
  exact ⟨a, c, by rw [ints_length, open_zero hc ho], hb, hsl.mono fun _ _ => trivial, h1⟩
end Go.Proofs.YtpfpjbglpibdoaaGreatDoor

/- Chapter 5: which legs the statements look at. -/
namespace Go.Proofs.YtpfpjbglpibdoaaGreatDoor
open Go Go.RowKit Go.Oche Go.Proofs

def greatB (l : Lg) : Bool := (decide (60 < l.start) && decide (l.start ≤ 1001)) || (decide (6 < l.beds.length) && decide (l.beds.length ≤ 82)) || decide (90 < l.beds.length) || (decide (8 < l.turns) && decide (l.turns ≤ 60))
end Go.Proofs.YtpfpjbglpibdoaaGreatDoor

/- Chapter 5, the reference: beds, gates, the error of a leg. -/
namespace Go.Proofs.YtpfpjbglpibdoaaGreatDoor
open Go Go.RowKit Go.Oche Go.Proofs

end Go.Proofs.YtpfpjbglpibdoaaGreatDoor
