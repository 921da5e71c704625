/- The texts VI, SB, OpH, QA, QB, SeqW, OwS, QC0, in build order. -/
import Derived.Test.YtpfpjbglpibdoaaGreatDoorZar
import Derived.Lib.TrailingZeros
import Derived.Lib.LaidTab
import Derived.LaidMore
import Derived.MakeChecks
import Derived.Stop.Joined
import Derived.Stop.LaidErr
import Derived.Laws.NewBlocks

/- Chapter 5, in plain Lean: HeardLeast and HeardRight. -/
namespace Go.Proofs.YtpfpjbglpibdoaaGreatDoor
open Go.RowKit Go.Oche Go.Proofs

variable {l : Lg}
theorem can_iff {list : List Rp} {which : Nat → Bool} : canL l list which = true ↔ HasTruth l (saidL list which) := by
  unfold canL HasTruth
  rw [List.all_eq_true]
  constructor
  · intro h p hp; exact player_some.1 (h p (List.mem_range.2 hp))
  · intro h p hp; exact player_some.2 (h p (List.mem_range.1 hp))
theorem mem_saidL {list : List Rp} {which : Nat → Bool} {t : Int} {x : Rp} : x ∈ saidL list which t ↔ ∃ i : Nat, list[i]? = some x ∧ x.turn = t ∧ which i = true := by
  unfold saidL
  rw [List.mem_map]
  constructor
  · rintro ⟨⟨y, i⟩, h, rfl⟩
    obtain ⟨h1, h2⟩ := List.mem_filter.1 h
    rw [List.mem_zipIdx_iff_getElem?] at h1
    rw [Bool.and_eq_true, beq_iff_eq] at h2
    exact ⟨i, h1, h2.1, h2.2⟩
  · rintro ⟨i, h1, h2, h3⟩
    exact ⟨(x, i), List.mem_filter.2 ⟨by rw [List.mem_zipIdx_iff_getElem?]; exact h1, by rw [Bool.and_eq_true, beq_iff_eq]; exact ⟨h2, h3⟩⟩, rfl⟩
theorem truth_members {said said' : Int → List Rp} (h : ∀ t x, x ∈ said t ↔ x ∈ said' t) : HasTruth l said ↔ HasTruth l said' :=
  (kept_congr (fun t s x => by
    unfold fitsP
    rw [Bool.eq_iff_iff, List.all_eq_true, List.all_eq_true]
    exact ⟨fun hh r hr => hh r ((h t r).2 hr), fun hh r hr => hh r ((h t r).1 hr)⟩) 0).2
theorem truth_less {said said' : Int → List Rp} (h : ∀ t, ∀ x ∈ said' t, x ∈ said t) (ht : HasTruth l said) : HasTruth l said' := fun p hp => let ⟨r, hr⟩ := ht p hp; ⟨r, hr.less h⟩
def pickL (list : List Rp) (idx : List Nat) : List Rp := idx.map fun i => list.getD i ⟨0, -1, -1⟩
theorem can_pick {list : List Rp} {idx : List Nat} (hi : ∀ i ∈ idx, i < list.length) {which : Nat → Bool} (hw : ∀ i, i < list.length → (which i = true ↔ i ∈ idx)) : HasTruth l (allS (pickL list idx)) ↔ canL l list which = true := by
  rw [can_iff]
  refine truth_members fun t x => ?_
  rw [mem_allS, mem_saidL]
  unfold pickL
  rw [List.mem_map]
  constructor
  · rintro ⟨⟨i, hm, rfl⟩, ht⟩
    have h1 := hi i hm
    refine ⟨i, ?_, ht, (hw i h1).2 hm⟩
    rw [List.getD_eq_getElem?_getD, List.getElem?_eq_getElem h1]; rfl
  · rintro ⟨i, h1, h2, h3⟩
    have h4 := (List.getElem?_eq_some_iff.1 h1).1
    exact ⟨⟨i, (hw i h4).1 h3, by rw [List.getD_eq_getElem?_getD, h1]; rfl⟩, h2⟩
theorem can_all {list : List Rp} : HasTruth l (allS list) ↔ canL l list (fun _ => true) = true := can_iff.symm
theorem can_congr {list : List Rp} {a b : Nat → Bool} (h : ∀ i, i < list.length → a i = b i) : canL l list a = canL l list b := by
  have key : ∀ {a b : Nat → Bool}, (∀ i, i < list.length → a i = b i) → canL l list a = true → canL l list b = true := fun h hc => by
    rw [can_iff] at hc ⊢
    refine (truth_members fun t x => ?_).1 hc
    rw [mem_saidL, mem_saidL]
    constructor
    · rintro ⟨i, h1, h2, h3⟩; exact ⟨i, h1, h2, by rw [← h i (List.getElem?_eq_some_iff.1 h1).1]; exact h3⟩
    · rintro ⟨i, h1, h2, h3⟩; exact ⟨i, h1, h2, by rw [h i (List.getElem?_eq_some_iff.1 h1).1]; exact h3⟩
  rw [Bool.eq_iff_iff]
  exact ⟨key h, key fun i hi => (h i hi).symm⟩
def isBlame (l : Lg) (list : List Rp) (s : Nat) : Bool := !canL l list fun i => s.testBit i
def isDrop (l : Lg) (list : List Rp) (s : Nat) : Bool := canL l list fun i => !s.testBit i
def Blames (l : Lg) (list : List Rp) (out : List (List Nat)) : Prop := IsMin list.length (isBlame l list) (2 ^ list.length) out
def Drops (l : Lg) (list : List Rp) (out : List (List Nat)) : Prop := IsMin list.length (isDrop l list) (2 ^ list.length) out
theorem bits_lt {n s : Nat} : ∀ i ∈ bitsN n s, i < n := fun _ h => (mem_bits.1 h).1
theorem bits_eq {n : Nat} {idx : List Nat} (ha : idx.Pairwise (· < ·)) (hi : ∀ i ∈ idx, i < n) : ∃ s, s < 2 ^ n ∧ bitsN n s = idx := by
  obtain ⟨s, h1, h2⟩ := bits_of (n := n) fun i => decide (i ∈ idx)
  refine ⟨s, h1, ?_⟩
  have hm : ∀ i, i ∈ bitsN n s ↔ i ∈ idx := fun i => by
    rw [mem_bits]
    constructor
    · rintro ⟨h3, h4⟩; rw [h2 i h3] at h4; exact of_decide_eq_true h4
    · intro h; exact ⟨hi i h, by rw [h2 i (hi i h)]; exact decide_eq_true h⟩
  have nd : ∀ {a : List Nat}, a.Pairwise (· < ·) → a.Nodup := fun h => h.imp fun h => by omega
  exact List.Perm.eq_of_pairwise (le := fun a b : Nat => a < b) (fun a b _ _ h1 h2 => by omega) (bits_asc n s) ha ((List.perm_ext_iff_of_nodup (nd (bits_asc n s)) (nd ha)).2 hm)
theorem blame_least {list : List Rp} {x : List Nat} (hx : MinS list.length (isBlame l list) (2 ^ list.length) x) {idx : List Nat} (ha : idx.Pairwise (· < ·)) (hi : ∀ i ∈ idx, i < list.length) (hn : ¬ HasTruth l (allS (pickL list idx))) : x.length ≤ idx.length := by
  obtain ⟨s, h1, h2⟩ := bits_eq ha hi
  rw [← h2]
  refine hx.2 s h1 ?_
  unfold isBlame
  cases e : canL l list fun i => s.testBit i
  · rfl
  · exact (hn ((can_pick hi fun i hl => by rw [← h2, mem_bits]; simp [hl]).2 e)).elim
theorem blame_no {list : List Rp} {x : List Nat} (hx : MinS list.length (isBlame l list) (2 ^ list.length) x) : ¬ HasTruth l (allS (pickL list x)) ∧ x.Pairwise (· < ·) ∧ (∀ i ∈ x, i < list.length) := by
  obtain ⟨⟨s, h1, h2, rfl⟩, -⟩ := hx
  refine ⟨fun h => ?_, bits_asc _ _, bits_lt⟩
  have := (can_pick (which := fun i => s.testBit i) bits_lt fun i hl => by rw [mem_bits]; simp [hl]).1 h
  unfold isBlame at h2
  rw [this] at h2; cases h2
theorem blame_less {list : List Rp} {x : List Nat} (hx : MinS list.length (isBlame l list) (2 ^ list.length) x) {k : Nat} (hk : k ∈ x) : HasTruth l (allS (pickL list (x.filter (· ≠ k)))) := by
  obtain ⟨-, h2, h3⟩ := blame_no hx
  by_cases h : HasTruth l (allS (pickL list (x.filter (· ≠ k))))
  · exact h
  · exfalso
    have hl := blame_least hx (h2.filter _) (fun i hi => h3 i (List.mem_filter.1 hi).1) h
    have : (x.filter (· ≠ k)).length < x.length := by
      refine Nat.lt_of_le_of_ne (List.length_filter_le _ _) fun e => ?_
      have := List.length_filter_eq_length_iff.1 e k hk
      simp at this
    omega
theorem blame_one {list : List Rp} (hP : 1 ≤ l.players) {x : List Nat} (hx : MinS list.length (isBlame l list) (2 ^ list.length) x) : ∃ p : Nat, ∀ i ∈ x, (list.getD i ⟨0, -1, -1⟩).turn % l.players = p := by
  obtain ⟨h1, h2, h3⟩ := blame_no hx
  have hex : ∃ p : Nat, p < l.players.toNat ∧ ¬ ∃ r, Run l (allS (pickL list x)) (turnsL l p) (start5 l) r := by
    by_cases h : ∃ p : Nat, p < l.players.toNat ∧ ¬ ∃ r, Run l (allS (pickL list x)) (turnsL l p) (start5 l) r
    · exact h
    · exact (h1 fun p hp => by
        by_cases hr : ∃ r, Run l (allS (pickL list x)) (turnsL l p) (start5 l) r
        · exact hr
        · exact (h ⟨p, hp, hr⟩).elim).elim
  obtain ⟨p, hp, hn⟩ := hex
  refine ⟨p, fun i hi => ?_⟩
  by_cases e : (list.getD i ⟨0, -1, -1⟩).turn % l.players = p
  · exact e
  · exfalso
    have hmem := blame_less hx hi
    obtain ⟨r, hr⟩ := hmem p hp
    refine hn ⟨r, hr.turn fun j t sp hj hsp => ?_⟩
    have hok := (hr.at_ j t sp hj hsp).2.2
    unfold fitsP at hok ⊢
    rw [List.all_eq_true] at hok ⊢
    intro y hy
    refine hok y ?_
    rw [mem_allS] at hy ⊢
    refine ⟨?_, hy.2⟩
    unfold pickL at hy ⊢
    obtain ⟨q, hq, hqy⟩ := List.mem_map.1 hy.1
    refine List.mem_map.2 ⟨q, List.mem_filter.2 ⟨hq, ?_⟩, hqy⟩
    rw [decide_eq_true_eq]
    intro eq
    apply e
    rw [← eq, hqy, hy.2]
    obtain ⟨-, m, hm⟩ := (mem_turnsF hP (x := t) l.turns.toNat (p : Int) (by omega)).1 (List.mem_of_getElem? hj)
    rw [hm, Int.add_mul_emod_self_right]
    exact Int.emod_eq_of_lt (by omega) (by omega)
theorem blame_drop {list : List Rp} {x y : List Nat} (hx : MinS list.length (isBlame l list) (2 ^ list.length) x) (hy : MinS list.length (isDrop l list) (2 ^ list.length) y) : ∃ i, i ∈ x ∧ i ∈ y := by
  by_cases h : ∃ i, i ∈ x ∧ i ∈ y
  · exact h
  · exfalso
    obtain ⟨⟨s, a1, a2, rfl⟩, -⟩ := hx
    obtain ⟨⟨u, b1, b2, rfl⟩, -⟩ := hy
    unfold isBlame at a2
    unfold isDrop at b2
    have : canL l list (fun i => s.testBit i && decide (i < list.length)) = true := can_less (fun i hi => by
      rw [Bool.and_eq_true, decide_eq_true_eq] at hi
      cases e : u.testBit i
      · rfl
      · exact (h ⟨i, mem_bits.2 ⟨hi.2, hi.1⟩, mem_bits.2 ⟨hi.2, e⟩⟩).elim) b2
    rw [can_congr (b := fun i => s.testBit i) fun i hi => by simp [hi]] at this
    rw [this] at a2; cases a2
theorem blame_none {list : List Rp} : (∀ x, ¬ MinS list.length (isBlame l list) (2 ^ list.length) x) ↔ HasTruth l (allS list) := by
  rw [can_all]
  constructor
  · intro h
    cases e : canL l list fun _ => true
    · exfalso
      obtain ⟨s, h1, h2⟩ := bits_of (n := list.length) fun _ => true
      obtain ⟨x, hx⟩ := MinS.some (n := list.length) (is := isBlame l list) ⟨s, h1, by unfold isBlame; rw [can_congr (b := fun _ => true) fun i hi => h2 i hi, e]; rfl⟩
      exact h x hx
    · rfl
  · rintro h x ⟨⟨s, h1, h2, rfl⟩, -⟩
    unfold isBlame at h2
    rw [can_less (fun i _ => rfl) h] at h2; cases h2
def dropL (list : List Rp) (idx : List Nat) : List Rp := (list.zipIdx.filter fun p => decide (p.2 ∉ idx)).map (·.1)
theorem can_drop {list : List Rp} {idx : List Nat} {which : Nat → Bool} (hw : ∀ i, i < list.length → (which i = true ↔ i ∉ idx)) : HasTruth l (allS (dropL list idx)) ↔ canL l list which = true := by
  rw [can_iff]
  refine truth_members fun t x => ?_
  rw [mem_allS, mem_saidL]
  unfold dropL
  rw [List.mem_map]
  constructor
  · rintro ⟨⟨⟨y, i⟩, h, rfl⟩, ht⟩
    obtain ⟨h1, h2⟩ := List.mem_filter.1 h
    rw [List.mem_zipIdx_iff_getElem?] at h1
    exact ⟨i, h1, ht, (hw i (List.getElem?_eq_some_iff.1 h1).1).2 (by simpa using h2)⟩
  · rintro ⟨i, h1, h2, h3⟩
    exact ⟨⟨(x, i), List.mem_filter.2 ⟨by rw [List.mem_zipIdx_iff_getElem?]; exact h1, by simpa using (hw i (List.getElem?_eq_some_iff.1 h1).1).1 h3⟩, rfl⟩, h2⟩
theorem drop_yes {list : List Rp} {x : List Nat} (hx : MinS list.length (isDrop l list) (2 ^ list.length) x) : HasTruth l (allS (dropL list x)) ∧ x.Pairwise (· < ·) ∧ (∀ i ∈ x, i < list.length) := by
  obtain ⟨⟨s, h1, h2, rfl⟩, -⟩ := hx
  refine ⟨(can_drop (which := fun i => !s.testBit i) fun i hl => ?_).2 h2, bits_asc _ _, bits_lt⟩
  rw [mem_bits]; simp [hl]
theorem drop_least {list : List Rp} {x : List Nat} (hx : MinS list.length (isDrop l list) (2 ^ list.length) x) {idx : List Nat} (ha : idx.Pairwise (· < ·)) (hi : ∀ i ∈ idx, i < list.length) (hn : HasTruth l (allS (dropL list idx))) : x.length ≤ idx.length := by
  obtain ⟨s, h1, h2⟩ := bits_eq ha hi
  rw [← h2]
  refine hx.2 s h1 ?_
  exact (can_drop (which := fun i => !s.testBit i) fun i hl => by rw [← h2, mem_bits]; simp [hl]).1 hn
theorem drop_some {list : List Rp} (h : HasTruth l fun _ => []) : ∃ x, MinS list.length (isDrop l list) (2 ^ list.length) x := by
  obtain ⟨s, h1, h2⟩ := bits_of (n := list.length) fun _ => true
  refine MinS.some ⟨s, h1, ?_⟩
  unfold isDrop
  rw [can_iff]
  refine (truth_members fun t x => ?_).1 h
  rw [mem_saidL]
  constructor
  · intro hx; cases hx
  · rintro ⟨i, h3, -, h4⟩
    rw [h2 i (List.getElem?_eq_some_iff.1 h3).1] at h4; cases h4
theorem drop_zero {list : List Rp} {x : List Nat} (hx : MinS list.length (isDrop l list) (2 ^ list.length) x) : x = [] ↔ HasTruth l (allS list) := by
  constructor
  · rintro rfl
    have h := (drop_yes hx).1
    rw [can_drop (which := fun _ => true) fun i _ => by simp] at h
    exact can_all.2 h
  · intro h
    have := drop_least hx (idx := []) List.Pairwise.nil (by simp) ((can_drop (which := fun _ => true) fun i _ => by simp).2 (can_all.1 h))
    exact List.eq_nil_of_length_eq_zero (by simpa using this)
end Go.Proofs.YtpfpjbglpibdoaaGreatDoor

/- Chapter 5: sets of reports as bits. -/
namespace Go.Proofs.YtpfpjbglpibdoaaGreatDoor
open Go Go.RowKit Go.Oche Go.Proofs

def Tab5 (W : World) : Prop := ∀ i, i < 64 → W.cell? ⟨1, i, none⟩ = some (.int .u8 ((Lib.deBruijn64tab.getD i 0 : Nat) : Int))
theorem Tab5.lt {W : World} (h : Tab5 W) : 1 < W.heap.size := World.block_lt_of_cell? W _ (h 0 (by decide))
theorem Tab5.below {W W' : World} (h : Tab5 W) (hb : Below W.heap.size W W') : Tab5 W' := fun i hi => bAt hb (h i hi)
theorem Tab5.chg {O : Nat → Prop} {W W' : World} (h : Tab5 W) (hc : Chg O W W') (hO : ¬ O 1) : Tab5 W' := fun i hi =>
  (World.cell?_of_block (w := W) (hc.block 1 h.lt hO)).trans (h i hi)
def onesA (s : Int) : Int := IntKind.u64.wrap (bits BinOp.and IntKind.u64 (s / 2) 6148914691236517205 + bits BinOp.and IntKind.u64 s 6148914691236517205)
def onesB (s : Int) : Int := IntKind.u64.wrap (bits BinOp.and IntKind.u64 (onesA s / 4) 3689348814741910323 + bits BinOp.and IntKind.u64 (onesA s) 3689348814741910323)
def onesC (s : Int) : Int := bits BinOp.and IntKind.u64 (IntKind.u64.wrap (onesB s / 16 + onesB s)) 1085102592571150095
def onesD (s : Int) : Int := IntKind.u64.wrap (onesC s + onesC s / 256)
def onesE (s : Int) : Int := IntKind.u64.wrap (onesD s + onesD s / 65536)
def onesF (s : Int) : Int := IntKind.u64.wrap (onesE s + onesE s / 4294967296)
def onesG (s : Int) : Int := bits BinOp.and IntKind.i64 (wrap64 (onesF s)) 127
theorem ones_all : ∀ s : Fin 1024, onesG ((s.val : Nat) : Int) = ((bitsN 10 s.val).length : Int) := by decide +kernel
def tzE (s : Int) : Int := IntKind.u64.wrap (bits BinOp.and IntKind.u64 s (IntKind.u64.wrap (-s)) * 285870213051353865) / 288230376151711744
theorem tz_all : ∀ s : Fin 1024, 0 < s.val → (0 ≤ tzE ((s.val : Nat) : Int) ∧ (tzE ((s.val : Nat) : Int)).toNat < 64 ∧ Lib.deBruijn64tab.getD (tzE ((s.val : Nat) : Int)).toNat 0 = (bitsN 10 s.val).headD 0) := by decide +kernel
theorem low_all : ∀ s : Fin 1024, 0 < s.val → (bitsN 10 s.val = (bitsN 10 s.val).headD 0 :: bitsN 10 (s.val &&& (s.val - 1)) ∧ bits BinOp.and IntKind.u64 ((s.val : Nat) : Int) (IntKind.u64.wrap (((s.val : Nat) : Int) - 1)) = ((s.val &&& (s.val - 1) : Nat) : Int) ∧ (s.val &&& (s.val - 1)) < s.val ∧ (bitsN 10 s.val).headD 0 < 10) := by decide +kernel
theorem bits_few : ∀ n : Fin 11, ∀ s : Fin 1024, s.val < 2 ^ n.val → bitsN 10 s.val = bitsN n.val s.val := by decide +kernel
set_option maxRecDepth 100000 in
theorem ones64_any (s : Nat) (hs : s < 1024) (w : World) : Calls Tryz.prog 112 #[.int .u64 (s : Int)] w fun e w' => e = .returned (.int .i64 ((bitsN 10 s).length : Int)) ∧ w' = w := by
  go_enter Tryz.func112, Tryz.ntmps112
  go_wp2
  go_returns
  refine ⟨?_, rfl⟩
  have h := ones_all ⟨s, hs⟩
  simp only at h
  rw [← h]
  rfl
set_option maxRecDepth 100000 in
theorem ones_any (s : Nat) (hs : s < 1024) (w : World) : Calls Tryz.prog 98 #[.int .u64 (s : Int)] w fun e w' => e = .returned (.int .i64 ((bitsN 10 s).length : Int)) ∧ w' = w := by
  go_enter Tryz.func98, Tryz.ntmps98
  go_wp2_with fail
  refine (ones64_any s hs w).mono ?_
  rintro e w' ⟨rfl, rfl⟩
  go_wp2
  go_returns
  exact ⟨rfl, rfl⟩
set_option maxRecDepth 100000 in
theorem tz64_any (s : Nat) (hs : s < 1024) (h0 : 0 < s) (w : World) (hT : Tab5 w) : Calls Tryz.prog 128 #[.int .u64 (s : Int)] w fun e w' => e = .returned (.int .i64 (((bitsN 10 s).headD 0 : Nat) : Int)) ∧ w' = w := by
  have d0 : ((s : Int) == 0) = false := beq_eq_false_iff_ne.2 (by omega)
  obtain ⟨e1, e2, e3⟩ := tz_all ⟨s, hs⟩ h0
  simp only at e1 e2 e3
  have hlow := (low_all ⟨s, hs⟩ h0).2.2.2
  simp only at hlow
  have hc := hT _ e2
  rw [e3] at hc
  obtain ⟨z, hz⟩ : ∃ z, (bitsN 10 s).headD 0 = z := ⟨_, rfl⟩
  rw [hz] at hc hlow ⊢
  obtain ⟨k, hk⟩ : ∃ k, (tzE (s : Int)).toNat = k := ⟨_, rfl⟩
  rw [hk] at hc e2
  have hE : IntKind.u64.wrap (bits BinOp.and IntKind.u64 (s : Int) (IntKind.u64.wrap (-(s : Int))) * 285870213051353865) / 288230376151711744 = (k : Int) := by
    show tzE (s : Int) = _; omega
  have hzw : IntKind.i64.wrap (z : Int) = z := wrap_small _ (by omega) (by omega)
  clear hz hk e1 e3 hT
  go_enter Tryz.func128, Tryz.ntmps128
  go_wp2
  go_returns
  exact ⟨rfl, rfl⟩
set_option maxRecDepth 100000 in
theorem tz_any (s : Nat) (hs : s < 1024) (h0 : 0 < s) (w : World) (hT : Tab5 w) : Calls Tryz.prog 113 #[.int .u64 (s : Int)] w fun e w' => e = .returned (.int .i64 (((bitsN 10 s).headD 0 : Nat) : Int)) ∧ w' = w := by
  have h64 := tz64_any s hs h0 w hT
  obtain ⟨z, hz⟩ : ∃ z, (bitsN 10 s).headD 0 = z := ⟨_, rfl⟩
  rw [hz] at h64 ⊢
  clear hz hT
  go_enter Tryz.func113, Tryz.ntmps113
  go_wp2_with fail
  refine h64.mono ?_
  rintro e w' ⟨rfl, rfl⟩
  go_wp2
  go_returns
  exact ⟨rfl, rfl⟩
theorem all_all : ∀ n : Fin 11, IntKind.u64.wrap (IntKind.u64.wrap (2 ^ n.val) - 1) = ((2 ^ n.val - 1 : Nat) : Int) := by decide +kernel
set_option maxRecDepth 100000 in
theorem all_any (n : Nat) (hn : n ≤ 10) (w : World) : Calls Tryz.prog 70 #[.int .i64 (n : Int)] w fun e w' => e = .returned (.int .u64 ((2 ^ n - 1 : Nat) : Int)) ∧ w' = w := by
  have ha := all_all ⟨n, by omega⟩
  simp only at ha
  have hn0 : (0 : Int) ≤ (n : Int) := by omega
  go_enter Tryz.func70, Tryz.ntmps70
  go_wp2
  go_returns
  exact ⟨by rw [← ha]; rfl, rfl⟩
end Go.Proofs.YtpfpjbglpibdoaaGreatDoor

/- Chapter 5: arguments that are legs, stands, reports; the table that a row lays. -/
namespace Go.Proofs.YtpfpjbglpibdoaaGreatDoor
open Go.RowKit Go.Oche Go.Proofs Go.ChangeShapes Go.WideShapes Go.ChangeAt Go.Deep
abbrev laid5 : List (String × DataW Unit) := [("math/bits.deBruijn32tab", Rows.laid_math_bits_deBruijn32tab), ("math/bits.deBruijn64tab", Rows.laid_math_bits_deBruijn64tab)]
theorem g64 : Tryz.prog.globalNamed "math/bits.deBruijn64tab" = some 1 := by kernel_rfl
set_option maxRecDepth 100000 in
theorem tab_of_laid {W : World} (h : laidMetH Tryz.prog laid5 W) : Tab5 W := by
  rw [MakeChecks.laidMetH_plain _ _ _ (by kernel_rfl)] at h
  have h2 := laidMet.tail h
  have h3 : laidMet Tryz.prog [("math/bits.deBruijn64tab", Lib.tabData .u8 (Lib.deBruijn64tab.map fun n : Nat => (n : Int)))] W := h2
  have h4 := Lib.tabIs_of_head (t := 222) (n := 64) (e := 5) g64 (by kernel_rfl) Tryz.underlying222 Tryz.underlying5 (by kernel_rfl) (by kernel_rfl) h3
  intro i hi
  have h5 := h4.cell g64 i (by simp [Lib.deBruijn64tab]; omega)
  rw [h5]
  have hl : i < Lib.deBruijn64tab.length := by simp [Lib.deBruijn64tab]; omega
  simp [List.getD, hl]
theorem door_met (os : Os) (args : Array Value) : laidMetH Tryz.prog laid5 ((World.doorLaid Tryz.prog 19 os).forCall (fun _ _ => 0) ⟨#[], args, []⟩).memory :=
  laidMetH_of_parts3 (fuel := 8) (laidMet_of_run' 8 (by kernel_rfl) (by kernel_rfl)) (by kernel_rfl) (by kernel_rfl)
theorem door_shaped (os : Os) (args : Array Value) : ((World.doorLaid Tryz.prog 19 os).forCall (fun _ _ => 0) ⟨#[], args, []⟩).Shaped Tryz.prog := World.shaped_of_RefB (by kernel_rfl) (by kernel_rfl)
section
variable {H : Type} {enc : TypeId × Value → H} {W : World} {base : Nat} {spare : Nat → Bool} {held : Bool} {n : Nat} {v : Value} {x : DataW H × List MemPlace}
theorem list_seven {α : Type} {cs : List α} (h : cs.length = 7) : ∃ a b c d e f g, cs = [a, b, c, d, e, f, g] := by
  match cs, h with
  | [a, b, c, d, e, f, g], _ => exact ⟨a, b, c, d, e, f, g, rfl⟩
end
end Go.Proofs.YtpfpjbglpibdoaaGreatDoor

/- Chapter 5, in plain Lean: a leg that is thrown in bytes: its laws, its beds, the reports that are told of it. -/
namespace Go.Proofs.YtpfpjbglpibdoaaGreatDoor
open Go.RowKit Go.Oche Go.Proofs

def byteL (D : List Int) (i : Nat) : Int := if D = [] then 0 else D.getD (i % D.length) 0
def Bytes (D : List Int) : Prop := ∀ b ∈ D, 0 ≤ b ∧ b < 256
theorem byteL_at {D : List Int} (h : D ≠ []) (i : Nat) : i % D.length < D.length ∧ D[i % D.length]? = some (byteL D i) := by
  have hl : 0 < D.length := List.length_pos_iff.2 h
  have hm := Nat.mod_lt i hl
  refine ⟨hm, ?_⟩
  unfold byteL
  rw [if_neg h, List.getD_eq_getElem?_getD, List.getElem?_eq_getElem hm]; rfl
theorem byteL_bd {D : List Int} (h : Bytes D) (i : Nat) : 0 ≤ byteL D i ∧ byteL D i < 256 := by
  by_cases e : D = []
  · unfold byteL; rw [if_pos e]; omega
  · exact h _ (List.mem_of_getElem? (byteL_at e i).2)
structure Thr where
  st : Int
  inn : Int
  out : Int
  pl : Int
  which : Nat
  darts : List Int
  said : List Int
def beds12 : List Int := [101, 102, 103, 105, 110, 201, 202, 204, 205, 225, 301, 303]
def bedIs (W k : Nat) : Bool := W.testBit k || k == 5
def bedsP (W k : Nat) : List Int := ((List.range k).filter (bedIs W)).map fun k => beds12.getD k 0
def bedsOf (W : Nat) : List Int := (bedsP W 12).take 6
theorem bedsP_succ (W k : Nat) : bedsP W (k + 1) = bedsP W k ++ if bedIs W k = true then [beds12.getD k 0] else [] := by
  unfold bedsP
  rw [List.range_succ, List.filter_append, List.map_append]
  congr 1
  by_cases h : bedIs W k = true
  · rw [if_pos h]; simp [h]
  · rw [if_neg h]; simp [h]
theorem bedsP_more (W k j : Nat) : ∃ r, bedsP W (k + j) = bedsP W k ++ r := by
  unfold bedsP
  rw [List.range_add, List.filter_append, List.map_append]
  exact ⟨_, rfl⟩
theorem bedsP_done {W k : Nat} (hk : k ≤ 12) (hl : (bedsP W k).length ≤ 6) (h : k = 12 ∨ (bedsP W k).length = 6) : bedsP W k = bedsOf W := by
  unfold bedsOf
  rcases h with rfl | h
  · rw [List.take_of_length_le hl]
  · obtain ⟨r, hr⟩ := bedsP_more W k (12 - k)
    rw [show k + (12 - k) = 12 by omega] at hr
    rw [hr, List.take_append_of_le_length (by omega), List.take_of_length_le (by omega)]
theorem bedsP_sub (W : Nat) : (bedsP W 12).Sublist beds12 := by
  have h : beds12 = (List.range 12).map fun k => beds12.getD k 0 := by decide
  rw [h]
  exact List.filter_sublist.map _
theorem bedsOf_sub (W : Nat) : (bedsOf W).Sublist beds12 := (List.take_sublist 6 _).trans (bedsP_sub W)
theorem bedsOf_len (W : Nat) : (bedsOf W).length ≤ 6 := by unfold bedsOf; rw [List.length_take]; omega
theorem bedsOf_ne (W : Nat) : bedsOf W ≠ [] := by
  have h : beds12.getD 5 0 ∈ bedsP W 12 := by
    refine List.mem_map_of_mem (List.mem_filter.2 ⟨by decide, ?_⟩)
    unfold bedIs; simp
  intro e
  unfold bedsOf at e
  rcases List.take_eq_nil_iff.1 e with e | e
  · cases e
  · rw [e] at h; cases h
theorem bed12_ok : ∀ b ∈ beds12, isBed5 b = true ∧ 1 ≤ b.tdiv 100 * b.tmod 100 ∧ b.tdiv 100 * b.tmod 100 ≤ 80 ∧ 100 ≤ b ∧ b < 400 := by decide
theorem bedsOf_ok {W : Nat} {b : Int} (h : b ∈ bedsOf W) : isBed5 b = true ∧ 1 ≤ b.tdiv 100 * b.tmod 100 ∧ b.tdiv 100 * b.tmod 100 ≤ 80 ∧ 100 ≤ b ∧ b < 400 := bed12_ok b ((bedsOf_sub W).subset h)
theorem bedsOf_asc (W : Nat) : (bedsOf W).Pairwise (· < ·) := List.Pairwise.sublist (bedsOf_sub W) (by decide)
def Thr.D (x : Thr) (q : Nat) : Nat := (byteL x.darts q).toNat
def legB (x : Thr) : Lg := { start := 2 + x.st % 20, gin := x.inn % 3, gout := x.out % 3, beds := bedsOf x.which, players := 1 + x.pl % 3, turns := 0, won := false }
theorem legB_bd (x : Thr) : 2 ≤ (legB x).start ∧ (legB x).start ≤ 21 ∧ 0 ≤ (legB x).gin ∧ (legB x).gin ≤ 2 ∧ 0 ≤ (legB x).gout ∧ (legB x).gout ≤ 2 ∧ 1 ≤ (legB x).players ∧ (legB x).players ≤ 3 := by
  unfold legB; simp only; omega
def playX (x : Thr) (most : Nat) : Pl5 := play5 (legB x) x.D most (begin5 (legB x))
def legT (x : Thr) (most : Nat) : Lg := leg5 (legB x) (playX x most)
theorem play_len (l : Lg) (D : Nat → Nat) : ∀ (k : Nat) (s : Pl5), (play5 l D k s).out.length ≤ s.out.length + k ∧ ((s.won = true → s.out ≠ []) → (play5 l D k s).won = true → (play5 l D k s).out ≠ [])
  | 0, s => ⟨Nat.le_refl _, fun h => h⟩
  | k + 1, s => by
    rw [play5]
    split
    · exact ⟨by omega, fun h => h⟩
    · have h := play_len l D k (step5 l D s)
      have h2 : (step5 l D s).out.length = s.out.length + 1 := by simp [step5]
      exact ⟨by omega, fun _ => h.2 fun _ e => by rw [e] at h2; simp at h2⟩
theorem playX_len (x : Thr) (most : Nat) : (playX x most).out.length ≤ most := by
  have := (play_len (legB x) x.D most (begin5 (legB x))).1
  have h : (begin5 (legB x)).out.length = 0 := rfl
  unfold playX; omega
theorem playX_won (x : Thr) (most : Nat) (h : (playX x most).won = true) : (playX x most).out ≠ [] :=
  (play_len (legB x) x.D most (begin5 (legB x))).2 (fun h => by cases h) h
theorem legT_check (x : Thr) {most : Nat} (hm : most ≤ 8) : checkL (legT x most) = 0 := by
  have hb := legB_bd x
  have hl := playX_len x most
  have h0 : ¬ 82 < (legT x most).beds.length := by
    have := bedsOf_len x.which
    show ¬ 82 < (bedsOf x.which).length
    omega
  have h1 : ¬ (okCount (legT x most) = false ∨ (legT x most).beds = [] ∨ ¬ (legT x most).beds.Pairwise (· < ·) ∨ (∃ b ∈ (legT x most).beds, isBed5 b = false)) := by
    rintro (h | h | h | ⟨b, hb, h⟩)
    · have : okCount (legT x most) = true := by
        show (isIn (legB x).start 2 1001 && isIn (legB x).gin 0 2 && isIn (legB x).gout 0 2) = true
        unfold isIn
        simp only [Bool.and_eq_true, decide_eq_true_eq]; omega
      rw [this] at h; cases h
    · exact bedsOf_ne _ h
    · exact h (bedsOf_asc _)
    · rw [(bedsOf_ok hb).1] at h; cases h
  have h2 : ¬ (isIn (legT x most).players 1 4 = false ∨ isIn (legT x most).turns 0 60 = false ∨ ((legT x most).won = true ∧ (legT x most).turns = 0)) := by
    rintro (h | h | ⟨h, h'⟩)
    · have : isIn (legB x).players 1 4 = true := by unfold isIn; simp only [Bool.and_eq_true, decide_eq_true_eq]; omega
      rw [show (legT x most).players = (legB x).players from rfl, this] at h; cases h
    · have : isIn (((playX x most).out.length : Nat) : Int) 0 60 = true := by unfold isIn; simp only [Bool.and_eq_true, decide_eq_true_eq]; omega
      rw [show (legT x most).turns = (((playX x most).out.length : Nat) : Int) from rfl, this] at h; cases h
    · have h3 := playX_won x most h
      have h4 : (((playX x most).out.length : Nat) : Int) = 0 := h'
      exact h3 (List.length_eq_zero_iff.1 (by omega))
  unfold checkL
  rw [if_neg h0, if_neg h1, if_neg h2]
theorem legT_good (x : Thr) (most : Nat) : GoodBeds (legT x most) := fun b hb => by
  have := (bedsOf_ok (show b ∈ bedsOf x.which from hb)).2.1; omega
theorem playX_ok (x : Thr) (most : Nat) : Ok5 (legB x) (playX x most) := Ok5.play (legB_bd x).2.2.2.2.2.2.1 most (Ok5.begin (legB_bd x).2.2.2.2.2.2.1)
theorem Ok5.truth {l : Lg} {x : Pl5} (hp : 1 ≤ l.players) (h : Ok5 l x) {said : Int → List Rp} (hs : ∀ (i : Nat) (sp : Sp), x.out[i]? = some sp → fitsP sp.bef sp.en (said i) = true) :
    HasTruth (leg5 l x) said ∧ ∀ (t : Nat) (sp : Sp), x.out[t]? = some sp → sp ∈ keptL (leg5 l x) said t := by
  have hrun : ∀ p : Nat, p < l.players.toNat → ∃ r, Run (leg5 l x) said (turnsL (leg5 l x) p) (start5 (leg5 l x)) r ∧ ∀ (j : Nat) (sp : Sp), x.out[p + j * l.players.toNat]? = some sp → r[j]? = some sp := fun p hp2 => by
    obtain ⟨r, h1, h2⟩ := Ok5.run hp h hs x.out.length p (by omega)
    rw [if_pos hp2] at h1
    exact ⟨r, h1, h2⟩
  have ht : HasTruth (leg5 l x) said := fun p hp2 => let ⟨r, h1, _⟩ := hrun p hp2; ⟨r, h1⟩
  refine ⟨ht, fun t sp hsp => (kept_mem (l := leg5 l x) hp ht).2 ?_⟩
  obtain ⟨r, h1, h2⟩ := hrun (t % l.players.toNat) (Nat.mod_lt _ (by omega))
  refine ⟨r, h1, h2 _ _ ?_⟩
  have := Nat.mod_add_div t l.players.toNat
  rw [Nat.mul_comm] at this
  show x.out[t % l.players.toNat + t / l.players.toNat * l.players.toNat]? = some sp
  rw [this]; exact hsp
/-! ## A visit, dart by dart -/
def hitK (l : Lg) (k : Nat) : Ht := if k = l.beds.length then miss5 else hitB5 l (l.beds.getD k 0)
theorem thr5_on {l : Lg} {D : Nat → Nat} {k q : Nat} {s : Std} {j : Nat} (hj : D q % (l.beds.length + 1) = j) {x : En} (h : dart5 l s (hitK l j) = (x, true)) : thr5 l D (k + 1) s q = ((thr5 l D k x.std (q + 1)).1, (thr5 l D k x.std (q + 1)).2 + 1) := by
  unfold hitK at h
  rw [thr5]
  simp only [hj, h, if_true]
theorem thr5_off {l : Lg} {D : Nat → Nat} {k q : Nat} {s : Std} {j : Nat} (hj : D q % (l.beds.length + 1) = j) {x : En} (h : dart5 l s (hitK l j) = (x, false)) : thr5 l D (k + 1) s q = (x, 1) := by
  unfold hitK at h
  rw [thr5]
  simp only [hj, h, Bool.false_eq_true, if_false]
theorem hitK_miss {l : Lg} {s : Std} {j : Nat} (hj : j = l.beds.length) : dart5 l s (hitK l j) = (s.en, true) := by
  unfold hitK
  rw [if_pos hj]
  unfold dart5 miss5 Std.en
  simp
theorem hitK_bed {l : Lg} {j : Nat} {b : Int} (hb : l.beds[j]? = some b) : hitK l j = hitB5 l b := by
  have hl := (List.getElem?_eq_some_iff.1 hb).1
  unfold hitK
  rw [if_neg (by omega), List.getD_eq_getElem?_getD, hb]; rfl
theorem dart_out {l : Lg} {s : Std} {b : Int} (hi : s.inn = false) (ho : opens5 b l.gin = false) : dart5 l s (hitB5 l b) = (s.en, true) := by
  unfold dart5 hitB5 Std.en
  simp [hi, ho]
theorem dart_win {l : Lg} {s : Std} {b : Int} (hi : s.inn = true ∨ opens5 b l.gin = true) (h1 : 1 ≤ b.tdiv 100 * b.tmod 100) (hr : s.left - b.tdiv 100 * b.tmod 100 = 0) (ho : opens5 b l.gout = true) : dart5 l s (hitB5 l b) = (⟨0, true, false, true⟩, false) := by
  have e : (s.inn || opens5 b l.gin) = true := by rcases hi with h | h <;> simp [h]
  unfold dart5 hitB5
  simp only [e]
  rw [if_neg (by rintro (h | h); cases h; omega), if_pos ⟨hr, ho⟩]
theorem dart_rest {l : Lg} {s : Std} {b : Int} (hi : s.inn = true ∨ opens5 b l.gin = true) (h1 : 1 ≤ b.tdiv 100 * b.tmod 100) (hw : ¬ (s.left - b.tdiv 100 * b.tmod 100 = 0 ∧ opens5 b l.gout = true)) (hr : low5 l.gout ≤ s.left - b.tdiv 100 * b.tmod 100) : dart5 l s (hitB5 l b) = (⟨s.left - b.tdiv 100 * b.tmod 100, true, false, false⟩, true) := by
  have e : (s.inn || opens5 b l.gin) = true := by rcases hi with h | h <;> simp [h]
  unfold dart5 hitB5
  simp only [e]
  rw [if_neg (by rintro (h | h); cases h; omega), if_neg hw, if_neg (by omega)]
theorem dart_bust {l : Lg} {s : Std} {b : Int} (hi : s.inn = true ∨ opens5 b l.gin = true) (h1 : 1 ≤ b.tdiv 100 * b.tmod 100) (hw : ¬ (s.left - b.tdiv 100 * b.tmod 100 = 0 ∧ opens5 b l.gout = true)) (hr : s.left - b.tdiv 100 * b.tmod 100 < low5 l.gout) : dart5 l s (hitB5 l b) = (⟨0, false, true, false⟩, false) := by
  have e : (s.inn || opens5 b l.gin) = true := by rcases hi with h | h <;> simp [h]
  unfold dart5 hitB5
  simp only [e]
  rw [if_neg (by rintro (h | h); cases h; omega), if_neg hw, if_pos (by omega)]
structure VisAt (l : Lg) (D : Nat → Nat) (E : En × Nat) (q d : Nat) (c : Std) (wn : Bool) : Prop where
  on : wn = false → E = ((thr5 l D (3 - d) c (q + d)).1, (thr5 l D (3 - d) c (q + d)).2 + d)
  off : wn = true → E = (⟨0, true, false, true⟩, d) ∧ c = ⟨0, true⟩
theorem VisAt.start (l : Lg) (D : Nat → Nat) (q : Nat) (s : Std) : VisAt l D (thr5 l D 3 s q) q 0 s false := ⟨fun _ => rfl, fun h => (by cases h)⟩
section
variable {l : Lg} {D : Nat → Nat} {E : En × Nat} {q d : Nat} {c : Std}
theorem VisAt.next (h : VisAt l D E q d c false) (hd : d < 3) {j : Nat} (hj : D (q + d) % (l.beds.length + 1) = j) {x : En} (hx : dart5 l c (hitK l j) = (x, true)) : VisAt l D E q (d + 1) x.std false := by
  refine ⟨fun _ => ?_, fun h => (by cases h)⟩
  rw [h.on rfl, show 3 - d = (3 - (d + 1)) + 1 by omega, thr5_on hj hx, Nat.add_assoc q d 1, Nat.add_assoc, Nat.add_comm 1 d]
theorem VisAt.stop (h : VisAt l D E q d c false) (hd : d < 3) {j : Nat} (hj : D (q + d) % (l.beds.length + 1) = j) {x : En} (hx : dart5 l c (hitK l j) = (x, false)) : E = (x, d + 1) := by
  rw [h.on rfl, show 3 - d = (3 - (d + 1)) + 1 by omega, thr5_off hj hx, Nat.add_comm 1 d]
theorem VisAt.win (h : VisAt l D E q d c false) (hd : d < 3) {j : Nat} (hj : D (q + d) % (l.beds.length + 1) = j) (hx : dart5 l c (hitK l j) = (⟨0, true, false, true⟩, false)) : VisAt l D E q (d + 1) ⟨0, true⟩ true :=
  ⟨fun h => (by cases h), fun _ => ⟨h.stop hd hj hx, rfl⟩⟩
structure VisEnd (V : Sp) (s : Std) (d : Nat) (c : Std) (wn : Bool) : Prop where
  left : V.en.left = c.left
  inn : V.en.inn = c.inn
  won : V.en.won = wn
  darts : V.darts = d
  bef : V.bef = s
theorem VisAt.done {s : Std} {wn : Bool} (h : VisAt l D (thr5 l D 3 s q) q d c wn) (hd : d = 3 ∨ wn = true) : VisEnd (visT l D s q) s d c wn := by
  cases wn
  · obtain rfl : d = 3 := by rcases hd with h | h; exact h; cases h
    have h1 := h.on rfl
    have h2 : thr5 l D 3 s q = (c.en, 3) := by rw [h1]; rfl
    unfold visT
    rw [h2]
    exact ⟨rfl, rfl, rfl, rfl, rfl⟩
  · obtain ⟨h1, rfl⟩ := h.off rfl
    unfold visT
    rw [h1]
    exact ⟨rfl, rfl, rfl, rfl, rfl⟩
theorem VisAt.bust {s : Std} (h : VisAt l D (thr5 l D 3 s q) q d c false) (hd : d < 3) {j : Nat} (hj : D (q + d) % (l.beds.length + 1) = j) (hx : dart5 l c (hitK l j) = (⟨0, false, true, false⟩, false)) : VisEnd (visT l D s q) s (d + 1) s false := by
  have h1 := h.stop hd hj hx
  unfold visT
  rw [h1]
  exact ⟨rfl, rfl, rfl, rfl, rfl⟩
end
structure PlAt (l : Lg) (D : Nat → Nat) (most : Nat) (F x : Pl5) : Prop where
  len : x.out.length ≤ most
  eq : play5 l D (most - x.out.length) x = F
  at_ : x.at_ ≤ 3 * x.out.length
  sts : x.sts.length = l.players.toNat
  bd : ∀ s ∈ x.sts, 0 ≤ s.left ∧ s.left ≤ l.start
theorem PlAt.start {l : Lg} {D : Nat → Nat} {most : Nat} (h0 : 0 ≤ l.start) : PlAt l D most (play5 l D most (begin5 l)) (begin5 l) :=
  ⟨Nat.zero_le _, rfl, Nat.le_refl _, by simp [begin5], fun s hs => by rw [List.eq_of_mem_replicate hs]; exact ⟨h0, Int.le_refl _⟩⟩
theorem PlAt.done {l : Lg} {D : Nat → Nat} {most : Nat} {F x : Pl5} (h : PlAt l D most F x) (hd : x.out.length = most ∨ x.won = true) : x = F := by
  rw [← h.eq]
  rcases hd with hd | hd
  · rw [hd, Nat.sub_self]; rfl
  · cases hk : most - x.out.length with
    | zero => rfl
    | succ k => rw [play5, if_pos hd]
theorem PlAt.step {l : Lg} {D : Nat → Nat} {most : Nat} {F x : Pl5} (h : PlAt l D most F x) (hg : GoodBeds l) (hm : x.out.length < most) (hw : x.won = false) {s : Std} (hs : x.sts[x.out.length % x.sts.length]? = some s) : step5 l D x = ⟨x.sts.set (x.out.length % x.sts.length) (visT l D s x.at_).aft, x.at_ + (visT l D s x.at_).darts, x.out ++ [visT l D s x.at_], (visT l D s x.at_).en.won⟩ ∧ PlAt l D most F (step5 l D x) := by
  have e : step5 l D x = ⟨x.sts.set (x.out.length % x.sts.length) (visT l D s x.at_).aft, x.at_ + (visT l D s x.at_).darts, x.out ++ [visT l D s x.at_], (visT l D s x.at_).en.won⟩ := by
    have hgd : x.sts.getD (x.out.length % x.sts.length) (start5 l) = s := by rw [List.getD_eq_getElem?_getD, hs]; rfl
    unfold step5
    simp only [hgd]
  refine ⟨e, ?_⟩
  have hv := visT_mem l D s x.at_
  have hd := vis_darts l hv
  have hb := h.bd s (List.mem_of_getElem? hs)
  have hl := vis_left hg hb.1 hv
  have h1 := h.eq
  rw [show most - x.out.length = (most - (x.out.length + 1)) + 1 by omega, play5, if_neg (by rw [hw]; simp)] at h1
  have h3 := h.at_
  rw [e] at h1 ⊢
  refine ⟨by simp; omega, by simpa using h1, by simp at hd ⊢; omega, by simpa using h.sts, fun y hy => ?_⟩
  rcases List.mem_or_eq_of_mem_set hy with hy | hy
  · exact h.bd y hy
  · rw [hy]
    simp only [Sp.aft, En.std] at hl ⊢
    omega
/-! ## Reports -/
def repOf (S : List Int) (i : Nat) (sp : Sp) : Rp := ⟨i, if byteL S i % 4 = 0 ∨ byteL S i % 4 = 1 then sp.score else -1, if byteL S i % 4 = 0 ∨ byteL S i % 4 = 2 then sp.en.left else -1⟩
def repIs (S : List Int) (i : Nat) : Bool := decide (byteL S i % 4 < 3) || decide (250 ≤ byteL S i)
def repsN (S : List Int) (out : List Sp) (i : Nat) : List Rp := ((out.take i).zipIdx.filter fun p => repIs S p.2).map fun p => repOf S p.2 p.1
theorem repsN_succ {S : List Int} {out : List Sp} {i : Nat} {sp : Sp} (h : out[i]? = some sp) : repsN S out (i + 1) = repsN S out i ++ if repIs S i = true then [repOf S i sp] else [] := by
  have hl := (List.getElem?_eq_some_iff.1 h).1
  unfold repsN
  rw [List.take_add_one, h, Option.toList_some, List.zipIdx_append, List.filter_append, List.map_append]
  congr 1
  have e : (out.take i).length = i := by rw [List.length_take]; omega
  rw [e]
  by_cases c : repIs S i = true
  · rw [if_pos c]; simp [c]
  · rw [if_neg c]; simp [c]
theorem repsN_len {S : List Int} {out : List Sp} {i : Nat} : (repsN S out i).length ≤ i := by
  unfold repsN
  rw [List.length_map]
  refine Nat.le_trans (List.length_filter_le _ _) ?_
  rw [List.length_zipIdx, List.length_take]; omega
def repsL (x : Thr) (most : Nat) : List Rp := repsN x.said (playX x most).out (playX x most).out.length
theorem repsL_len (x : Thr) (most : Nat) : (repsL x most).length ≤ most := Nat.le_trans repsN_len (playX_len x most)
theorem repsL_mem {x : Thr} {most : Nat} {r : Rp} (h : r ∈ repsL x most) : ∃ (i : Nat) (sp : Sp), (playX x most).out[i]? = some sp ∧ r = repOf x.said i sp := by
  unfold repsL repsN at h
  rw [List.take_length] at h
  obtain ⟨⟨sp, i⟩, hp, rfl⟩ := List.mem_map.1 h
  have h2 := List.mem_zipIdx (List.mem_filter.1 hp).1
  simp only [Nat.zero_add, Nat.sub_zero] at h2
  exact ⟨i, sp, by rw [h2.2.2]; exact List.getElem?_eq_getElem h2.2.1, rfl⟩
theorem repsL_fit (x : Thr) (most : Nat) : ∀ (i : Nat) (sp : Sp), (playX x most).out[i]? = some sp → fitsP sp.bef sp.en (allS (repsL x most) i) = true := by
  intro i sp hsp
  unfold fitsP
  rw [List.all_eq_true]
  intro r hr
  obtain ⟨hm, ht⟩ := mem_allS.1 hr
  obtain ⟨j, sp', hj, rfl⟩ := repsL_mem hm
  have e : j = i := by have : ((j : Nat) : Int) = i := ht; omega
  subst e
  rw [hsp] at hj
  cases hj
  unfold repOf Sp.score
  simp only
  rw [Bool.and_eq_true, Bool.or_eq_true, Bool.or_eq_true]
  refine ⟨?_, ?_⟩
  · split <;> simp
  · split <;> simp
theorem thrown_truth (x : Thr) (most : Nat) : HasTruth (legT x most) (allS (repsL x most)) ∧ ∀ (t : Nat) (sp : Sp), (playX x most).out[t]? = some sp → sp ∈ keptL (legT x most) (allS (repsL x most)) t :=
  (playX_ok x most).truth (legB_bd x).2.2.2.2.2.2.1 (repsL_fit x most)
end Go.Proofs.YtpfpjbglpibdoaaGreatDoor

/- Chapter 5, the statements' small helpers: byteOf, opens, points, beds. -/
namespace Go.Proofs.YtpfpjbglpibdoaaGreatDoor
open Go Go.RowKit Go.Oche Go.Proofs

def u8s (D : List Int) : List Value := D.map (Value.int .u8)
theorem tmodN (a b : Nat) : ((a : Int)).tmod (b : Int) = ((a % b : Nat) : Int) := by rw [Int.tmod_eq_emod_of_nonneg (by omega)]; simp
set_option maxRecDepth 100000 in
theorem byteOf_any {S : Nat → Prop} (D : List Int) (dv : Value) (i : Nat) (w : World) (hs : Sl S w dv (u8s D)) :
    Calls Tryz.prog 73 #[dv, .int .i64 (i : Int)] w fun e w' => e = .returned (.int .u8 (byteL D i)) ∧ w = w' := by
  obtain ⟨a, cap, rfl, h2, h3⟩ := hs.form
  have h4 : ∀ i x, (u8s D)[i]? = some x → ∃ b off, a = some ⟨b, off, none⟩ ∧ S b ∧ w.cell? ⟨b, off + i, none⟩ = some x := by
    obtain ⟨_, _, e1, _, _, h4⟩ := hs
    cases e1
    exact h4
  have hlen : (u8s D).length = D.length := List.length_map ..
  clear hs
  rw [hlen] at h2 ⊢
  by_cases e : D = []
  · subst e
    go_enter Tryz.func73, Tryz.ntmps73
    go_wp2
    go_returns
    exact ⟨rfl, rfl⟩
  · obtain ⟨n, hn⟩ : ∃ n, D.length = n := ⟨_, rfl⟩
    obtain ⟨hlt, hat⟩ := byteL_at e i
    have hn0 : ¬ n = 0 := by rw [← hn]; exact fun h => e (List.length_eq_zero_iff.1 h)
    obtain ⟨v, hv⟩ : ∃ v, byteL D i = v := ⟨_, rfl⟩
    rw [hn] at hlt hat ⊢
    rw [hv] at hat ⊢
    obtain ⟨b, off, rfl, -, hc⟩ := h4 (i % n) (.int .u8 v) (by unfold u8s; rw [List.getElem?_map, hat]; rfl)
    clear h4
    rw [hn] at h2
    have hm : ((i : Int)).tmod (n : Int) = ((i % n : Nat) : Int) := tmodN i n
    obtain ⟨j, hj⟩ : ∃ j, i % n = j := ⟨_, rfl⟩
    rw [hj] at hm hlt hc
    have d0 : ((n : Int) == 0) = false := beq_eq_false_iff_ne.2 (by omega)
    have d1 : ¬ (n : Int) = 0 := by omega
    clear hv hat e hn h2 hj
    go_enter Tryz.func73, Tryz.ntmps73
    go_wp2
    go_returns
    exact ⟨rfl, rfl⟩
theorem opensL_any (b g : Int) (hb : 100 ≤ b ∧ b < 400) (hg : 0 ≤ g ∧ g ≤ 2) (w : World) : Calls Tryz.prog 74 #[.int .i64 b, .int .i64 g] w fun e w' => e = .returned (.bool (opens5 b g)) ∧ w = w' := by
  have d0 : (b != 0) = true := bne_iff_ne.2 (by omega)
  obtain ⟨f, hf⟩ : ∃ f, b.tdiv 100 = f := ⟨_, rfl⟩
  have HF : Hid (b.tdiv 100 = f) := Lib.hid hf
  have hw : wrap64 f = f := by
    have h1 : b.tdiv 100 = b / 100 := Int.tdiv_eq_ediv_of_nonneg (by omega)
    unfold wrap64; omega
  have hg3 : g = 0 ∨ g = 1 ∨ g = 2 := by omega
  clear hb hg
  rcases hg3 with rfl | rfl | rfl
  · go_enter Tryz.func74, Tryz.ntmps74
    go_wp2
    go_returns
    exact ⟨rfl, rfl⟩
  · obtain ⟨c, hc⟩ : ∃ c, (f == 2) = c := ⟨_, rfl⟩
    have HC : Hid (opens5 b 1 = c) := Lib.hid (by rw [← hc, ← hf]; simp [opens5])
    rw [HC.out]
    go_enter Tryz.func74, Tryz.ntmps74
    cases c <;> go_wp2 <;> go_returns <;> exact ⟨rfl, rfl⟩
  · obtain ⟨c, hc⟩ : ∃ c, decide (2 ≤ f) = c := ⟨_, rfl⟩
    have HC : Hid (opens5 b 2 = c) := Lib.hid (by rw [← hc, ← hf]; simp [opens5])
    rw [HC.out]
    go_enter Tryz.func74, Tryz.ntmps74
    cases c <;> go_wp2 <;> go_returns <;> exact ⟨rfl, rfl⟩
theorem points_any (b : Int) (hb : 100 ≤ b ∧ b < 400) (w : World) : Calls Tryz.prog 75 #[.int .i64 b] w fun e w' => e = .returned (.int .i64 (b.tdiv 100 * b.tmod 100)) ∧ w = w' := by
  have h1 : b.tdiv 100 = b / 100 := Int.tdiv_eq_ediv_of_nonneg (by omega)
  have h2 : b.tmod 100 = b % 100 := Int.tmod_eq_emod_of_nonneg (by omega)
  obtain ⟨p, hp⟩ : ∃ p, b.tdiv 100 = p := ⟨_, rfl⟩
  obtain ⟨q, hq⟩ : ∃ q, b.tmod 100 = q := ⟨_, rfl⟩
  have hp3 : p = 1 ∨ p = 2 ∨ p = 3 := by omega
  have hq3 : 0 ≤ q ∧ q < 100 := by omega
  have hw1 : wrap64 p = p := by unfold wrap64; omega
  have hw2 : wrap64 (p * q) = p * q := by unfold wrap64; rcases hp3 with h | h | h <;> rw [h] <;> omega
  rw [hp, hq]
  clear h1 h2 hp3 hq3 hb
  go_enter Tryz.func75, Tryz.ntmps75
  go_wp2
  go_returns
  exact ⟨congrArg (fun z => Ending.returned (Value.int .i64 z)) hw2, rfl⟩
set_option maxRecDepth 100000 in
theorem beds_any (w : World) : Calls Tryz.prog 72 #[] w fun e w' => ∃ g, e = .returned (.slice (some ⟨g, 0, none⟩) 12 12) ∧ Below w.heap.size w w' ∧ w.heap.size ≤ g ∧ w'.heap[g]? = some (.cells (ints beds12).toArray 95 (0, 0)) := by
  go_enter Tryz.func72, Tryz.ntmps72
  obtain ⟨w1, hw1⟩ : ∃ x, w.alloc (.cells #[.int .i64 101, .int .i64 102, .int .i64 103, .int .i64 105, .int .i64 110, .int .i64 201, .int .i64 202, .int .i64 204, .int .i64 205, .int .i64 225, .int .i64 301, .int .i64 303] 95) = x := ⟨_, rfl⟩
  have hb1 : Below w.heap.size w w1 := by rw [← hw1]; exact aB _ _
  have k : w1.heap[w.heap.size]? = some (.cells (ints beds12).toArray 95 (0, 0)) := by rw [← hw1]; exact World.alloc_heap_new _ _
  have HW := Lib.hid hw1
  have HB := Lib.hid hb1
  have HK := Lib.hid k
  clear hw1 hb1 k
  go_wp2
  rw [HW.out]
  go_returns
  exact ⟨_, rfl, HB.out, Nat.le_refl _, HK.out⟩
end Go.Proofs.YtpfpjbglpibdoaaGreatDoor

/- A region that draws its order, walked in the text's order (Seq), all of it. -/
namespace Go.Oche
open Go Go.RowKit
theorem wp_region_seqW {P : Program} {id : Nat} {l : List Oper} {a : Act} {w : World} {Q : Exit → Act → World → Prop} (ks : List Kn) (hlk : ks.length = l.length) (hmix : P.follows .mixedOrders = true) (hB : freeB l.toArray l.length a.tmps.size = true) (hR : readsB l.toArray l.length = true)
    (h : SeqAll P l.toArray w ks (fun a H => ∀ w', Below w.heap.size w w' → (∀ j, j < l.length → H j w') → wpList P l.toArray Q [] a w') ks l a (fun _ _ => True) 0) : (Code.region id l.toArray true).wp P Q a w :=
  wp_region_seq l.length ks hlk hmix hB hR (by rw [List.take_length, List.drop_length]; exact h)
end Go.Oche

/- Rows of one's own that are a literal; slices of new blocks. -/
namespace Go.Proofs.YtpfpjbglpibdoaaGreatDoor
open Go Go.RowKit Go.Oche Go.Proofs

def kMk (lo : Nat) (t : TypeId) (cells : Array Value) (n : Nat) : Kn where
  s := fun v => ∃ b, v = .slice (some ⟨b, 0, none⟩) n n
  p := fun v w => ∃ b, v = .slice (some ⟨b, 0, none⟩) n n ∧ lo ≤ b ∧ w.heap[b]? = some (.cells cells t (0, 0))
  m := fun _ _ _ hb ⟨b, e, h1, h2⟩ => ⟨b, e, h1, (hb.block b (Array.getElem?_eq_some_iff.1 h2).1).trans h2⟩
theorem own_empty {W : World} {base b k : Nat} {e : TypeId} (h : W.heap[b]? = some (.cells #[] e (0, 0))) (hb : base ≤ b) : W.ownsRow base e k (.slice (some ⟨b, 0, none⟩) 0 0) 0 [] :=
  ⟨by simp, .inr ⟨b, 0, #[], rfl, hb, h, Nat.le_refl _, Nat.zero_le _, by simp, by simp⟩⟩
theorem own_mono {W : World} {base base' k n : Nat} {e : TypeId} {v : Value} {xs : List Value} (h : W.ownsRow base e k v n xs) (hb : base' ≤ base) : W.ownsRow base' e k v n xs := by
  refine ⟨h.1, ?_⟩
  rcases h.2 with h | ⟨g, cap, cur, e1, e2, e3⟩
  · exact .inl h
  · exact .inr ⟨g, cap, cur, e1, Nat.le_trans hb e2, e3⟩
end Go.Proofs.YtpfpjbglpibdoaaGreatDoor

/- Chapter 5: what play builds: what is left, who is in, the visits, the beds; each in a row of one's own. -/
namespace Go.Proofs.YtpfpjbglpibdoaaGreatDoor
open Go Go.RowKit Go.Oche Go.Proofs

def thrV (x : Thr) (dv sv : Value) : Value := .agg #[.int .u8 x.st, .int .u8 x.inn, .int .u8 x.out, .int .u8 x.pl, .int .u16 (x.which : Int), dv, sv]
def visRw (sp : Sp) : List Value := [.int .i64 sp.score, .int .i64 sp.en.left, .int .i64 (sp.darts : Int)]
theorem visRw_one (sp : Sp) : ∀ u ∈ visRw sp, u.oneCell' = true := fun u hu => by simp [visRw] at hu; rcases hu with rfl | rfl | rfl <;> rfl
theorem info_bd5 : (Tryz.prog.info? 95).map (fun i => (i.zero, i.size, i.bytes)) = some (some (.int .i64 0), 1, 8) := by kernel_rfl
theorem info_int5 : (Tryz.prog.info? 3).map (fun i => (i.zero, i.size, i.bytes)) = some (some (.int .i64 0), 1, 8) := by kernel_rfl
theorem info_bool5 : (Tryz.prog.info? 4).map (fun i => (i.zero, i.size, i.bytes)) = some (some (.bool false), 1, 1) := by kernel_rfl
theorem info_visit5 : (Tryz.prog.info? 86).map (fun i => (i.zero, i.size, i.bytes)) = some (some (.agg #[.int .i64 0, .int .i64 0, .int .i64 0]), 3, 24) := by kernel_rfl
theorem blk_kept {W W' : World} {row : Option Nat} {q : Nat} {ob : Obj} (hg : W.grownBy W' row) (hq : W.heap[q]? = some ob) (hne : row = none ∨ row ≠ some q) : W'.heap[q]? = some ob := by
  have hl := (Array.getElem?_eq_some_iff.1 hq).1
  rw [← hq]
  refine hg.block q hl fun e => ?_
  rcases hne with h | h
  · rw [h] at e; cases e
  · exact h e.symm
theorem own_cell {W : World} {base n g c : Nat} {e : TypeId} {xs : List Value} (h : W.ownsRow base e 1 (.slice (some ⟨g, 0, none⟩) n c) n xs) {j : Nat} {x : Value} (hx : xs[j]? = some x) : W.cell? ⟨g, j, none⟩ = some x ∧ W.frozen? ⟨g, j, none⟩ = false := by
  rcases h.2 with ⟨e1, _⟩ | ⟨g', cap, cur, e1, h1, h2, h3, h4, h5, h6⟩
  · cases e1
  · cases e1
    refine ⟨?_, frozen_of_heap h2⟩
    rw [cell_of_heap h2]
    rw [← h6, List.getElem?_take] at hx
    split at hx
    · simpa using hx
    · cases hx
theorem own_pos {W : World} {base n k : Nat} {e : TypeId} {v : Value} {xs : List Value} (h : W.ownsRow base e k v n xs) (hn : 0 < n) : ∃ g c, v = .slice (some ⟨g, 0, none⟩) n c := by
  rcases h.2 with ⟨_, h0⟩ | ⟨g, cap, _, rfl, _⟩
  · omega
  · exact ⟨g, cap, rfl⟩
theorem grown_set (W : World) (b o : Nat) (v : Value) : W.grownBy (W.setCell ⟨b, o, none⟩ v) (some b) :=
  ⟨rfl, rfl, rfl, by simp, fun k _ hne => Below.heap_setCell _ _ _ _ (by intro e; exact hne (by simpa using e))⟩
theorem setAt {α : Type} {l : List α} {i : Nat} {a b : α} (h : l[i]? = some b) : (l.set i a)[i]? = some a := by
  have := (List.getElem?_eq_some_iff.1 h).1
  simp [this]
theorem setSelf {α : Type} {l : List α} {i : Nat} {a : α} (h : l[i]? = some a) : l.set i a = l := by
  obtain ⟨h1, h2⟩ := List.getElem?_eq_some_iff.1 h
  rw [← h2]; exact List.set_getElem_self ..
structure PlSt (M : Nat) (W : World) (lV iV oV bV : Value) (ls : List Int) (is : List Bool) (out : List Sp) (bs : List Int) : Prop where
  left : W.ownsRow M 3 1 lV ls.length (ints ls)
  inn : W.ownsRow M 4 1 iV is.length (bools is)
  out : W.ownsRow M 86 3 oV out.length ((out.map visRw).flatten)
  bed : W.ownsRow M 95 1 bV bs.length (ints bs)
section
variable {M : Nat} {W W' : World} {lV iV oV bV : Value} {ls : List Int} {is : List Bool} {out : List Sp} {bs : List Int}
theorem PlSt.below (h : PlSt M W lV iV oV bV ls is out bs) (hb : Below W.heap.size W W') : PlSt M W' lV iV oV bV ls is out bs :=
  ⟨ownsN_below h.left hb, ownsN_below h.inn hb, ownsN_below h.out hb, ownsN_below h.bed hb⟩
theorem PlSt.keptL (h : PlSt M W lV iV oV bV ls is out bs) (hg : W.grownBy W' lV.ownBlock) {v : Value} {x : List Int} (ho : W'.ownsRow M 3 1 v x.length (ints x)) : PlSt M W' v iV oV bV x is out bs :=
  ⟨ho, h.inn.kept hg (ownsN_ne h.inn h.left (by decide)), h.out.kept hg (ownsN_ne h.out h.left (by decide)), h.bed.kept hg (ownsN_ne h.bed h.left (by decide))⟩
theorem PlSt.keptI (h : PlSt M W lV iV oV bV ls is out bs) (hg : W.grownBy W' iV.ownBlock) {v : Value} {x : List Bool} (ho : W'.ownsRow M 4 1 v x.length (bools x)) : PlSt M W' lV v oV bV ls x out bs :=
  ⟨h.left.kept hg (ownsN_ne h.left h.inn (by decide)), ho, h.out.kept hg (ownsN_ne h.out h.inn (by decide)), h.bed.kept hg (ownsN_ne h.bed h.inn (by decide))⟩
theorem PlSt.keptO (h : PlSt M W lV iV oV bV ls is out bs) (hg : W.grownBy W' oV.ownBlock) {v : Value} {x : List Sp} (ho : W'.ownsRow M 86 3 v x.length ((x.map visRw).flatten)) : PlSt M W' lV iV v bV ls is x bs :=
  ⟨h.left.kept hg (ownsN_ne h.left h.out (by decide)), h.inn.kept hg (ownsN_ne h.inn h.out (by decide)), ho, h.bed.kept hg (ownsN_ne h.bed h.out (by decide))⟩
theorem PlSt.pushO (h : PlSt M W lV iV oV bV ls is out bs) (hg : W.grownBy W' oV.ownBlock) {v : Value} {x : Sp} (ho : W'.ownsRow M 86 3 v (out.length + 1) ((out.map visRw).flatten ++ visRw x)) : PlSt M W' lV iV v bV ls is (out ++ [x]) bs :=
  h.keptO hg (by simpa using ho)
theorem PlSt.setL {b c n : Nat} (h : PlSt M W (.slice (some ⟨b, 0, none⟩) n c) iV oV bV ls is out bs) (hn : ls.length = n) (j : Nat) (x : Int) : PlSt M (W.setCell ⟨b, j, none⟩ (.int .i64 x)) (.slice (some ⟨b, 0, none⟩) n c) iV oV bV (ls.set j x) is out bs ∧ W.grownBy (W.setCell ⟨b, j, none⟩ (.int .i64 x)) (some b) := by
  subst hn
  have hs := h.left.stored j (.int .i64 x)
  refine ⟨h.keptL hs.2 ?_, hs.2⟩
  rw [List.length_set, show ints (ls.set j x) = (ints ls).set j (.int .i64 x) from List.map_set ..]
  exact hs.1
theorem PlSt.setI {b c n : Nat} (h : PlSt M W lV (.slice (some ⟨b, 0, none⟩) n c) oV bV ls is out bs) (hn : is.length = n) (j : Nat) (x : Bool) : PlSt M (W.setCell ⟨b, j, none⟩ (.bool x)) lV (.slice (some ⟨b, 0, none⟩) n c) oV bV ls (is.set j x) out bs ∧ W.grownBy (W.setCell ⟨b, j, none⟩ (.bool x)) (some b) := by
  subst hn
  have hs := h.inn.stored j (.bool x)
  refine ⟨h.keptI hs.2 ?_, hs.2⟩
  rw [List.length_set, show bools (is.set j x) = (bools is).set j (.bool x) from List.map_set ..]
  exact hs.1
theorem PlSt.blk (h : PlSt M W lV iV oV bV ls is out bs) {q : Nat} {cs : Array Value} {t : TypeId} {f : Nat × Nat} (hq : W.heap[q]? = some (.cells cs t f)) (h1 : 3 ≠ t) (h2 : 4 ≠ t) (h3 : 95 ≠ t) (h4 : 86 ≠ t ∨ oV.ownBlock ≠ some q) (hg : W.grownBy W' (some q)) : PlSt M W' lV iV oV bV ls is out bs :=
  ⟨h.left.kept hg (ownsN_ne_blk h.left hq h1), h.inn.kept hg (ownsN_ne_blk h.inn hq h2), h.out.kept hg (h4.elim (fun h4 => ownsN_ne_blk h.out hq h4) .inr), h.bed.kept hg (ownsN_ne_blk h.bed hq h3)⟩
end
end Go.Proofs.YtpfpjbglpibdoaaGreatDoor
