/- The texts VI, SB, OpH, SC, Ins, SD, in build order. -/
import Derived.Test.YtpfpjbglpibdoaaGreatDoorZar
import Derived.Lib.TrailingZeros
import Derived.Lib.LaidTab
import Derived.LaidMore
import Derived.MakeChecks
import Derived.Stop.Joined
import Derived.Stop.LaidErr
import Derived.Lib.MinMax

/- Chapter 5, in plain Lean: HeardLeast and HeardRight. -/
namespace Go.Proofs.YtpfpjbglpibdoaaGreatDoor
open Go.RowKit Go.Oche Go.Proofs

variable {l : Lg}
theorem can_iff {list : List Rp} {which : Nat → Bool} : canL l list which = true ↔ HasTruth l (saidL list which) := by
  unfold canL HasTruth
  rw [List.all_eq_true]
  constructor
  · intro h p hp; exact player_some.1 (h p (List.mem_range.2 hp))
  · intro h p hp; exact player_some.2 (h p (List.mem_range.1 hp))
theorem mem_saidL {list : List Rp} {which : Nat → Bool} {t : Int} {x : Rp} : x ∈ saidL list which t ↔ ∃ i : Nat, list[i]? = some x ∧ x.turn = t ∧ which i = true := by
  unfold saidL
  rw [List.mem_map]
  constructor
  · rintro ⟨⟨y, i⟩, h, rfl⟩
    obtain ⟨h1, h2⟩ := List.mem_filter.1 h
    rw [List.mem_zipIdx_iff_getElem?] at h1
    rw [Bool.and_eq_true, beq_iff_eq] at h2
    exact ⟨i, h1, h2.1, h2.2⟩
  · rintro ⟨i, h1, h2, h3⟩
    exact ⟨(x, i), List.mem_filter.2 ⟨by rw [List.mem_zipIdx_iff_getElem?]; exact h1, by rw [Bool.and_eq_true, beq_iff_eq]; exact ⟨h2, h3⟩⟩, rfl⟩
theorem truth_members {said said' : Int → List Rp} (h : ∀ t x, x ∈ said t ↔ x ∈ said' t) : HasTruth l said ↔ HasTruth l said' :=
  (kept_congr (fun t s x => by
    unfold fitsP
    rw [Bool.eq_iff_iff, List.all_eq_true, List.all_eq_true]
    exact ⟨fun hh r hr => hh r ((h t r).2 hr), fun hh r hr => hh r ((h t r).1 hr)⟩) 0).2
def pickL (list : List Rp) (idx : List Nat) : List Rp := idx.map fun i => list.getD i ⟨0, -1, -1⟩
theorem can_all {list : List Rp} : HasTruth l (allS list) ↔ canL l list (fun _ => true) = true := can_iff.symm
theorem can_congr {list : List Rp} {a b : Nat → Bool} (h : ∀ i, i < list.length → a i = b i) : canL l list a = canL l list b := by
  have key : ∀ {a b : Nat → Bool}, (∀ i, i < list.length → a i = b i) → canL l list a = true → canL l list b = true := fun h hc => by
    rw [can_iff] at hc ⊢
    refine (truth_members fun t x => ?_).1 hc
    rw [mem_saidL, mem_saidL]
    constructor
    · rintro ⟨i, h1, h2, h3⟩; exact ⟨i, h1, h2, by rw [← h i (List.getElem?_eq_some_iff.1 h1).1]; exact h3⟩
    · rintro ⟨i, h1, h2, h3⟩; exact ⟨i, h1, h2, by rw [h i (List.getElem?_eq_some_iff.1 h1).1]; exact h3⟩
  rw [Bool.eq_iff_iff]
  exact ⟨key h, key fun i hi => (h i hi).symm⟩
def isBlame (l : Lg) (list : List Rp) (s : Nat) : Bool := !canL l list fun i => s.testBit i
def isDrop (l : Lg) (list : List Rp) (s : Nat) : Bool := canL l list fun i => !s.testBit i
def Blames (l : Lg) (list : List Rp) (out : List (List Nat)) : Prop := IsMin list.length (isBlame l list) (2 ^ list.length) out
def Drops (l : Lg) (list : List Rp) (out : List (List Nat)) : Prop := IsMin list.length (isDrop l list) (2 ^ list.length) out
theorem bits_lt {n s : Nat} : ∀ i ∈ bitsN n s, i < n := fun _ h => (mem_bits.1 h).1
theorem bits_eq {n : Nat} {idx : List Nat} (ha : idx.Pairwise (· < ·)) (hi : ∀ i ∈ idx, i < n) : ∃ s, s < 2 ^ n ∧ bitsN n s = idx := by
  obtain ⟨s, h1, h2⟩ := bits_of (n := n) fun i => decide (i ∈ idx)
  refine ⟨s, h1, ?_⟩
  have hm : ∀ i, i ∈ bitsN n s ↔ i ∈ idx := fun i => by
    rw [mem_bits]
    constructor
    · rintro ⟨h3, h4⟩; rw [h2 i h3] at h4; exact of_decide_eq_true h4
    · intro h; exact ⟨hi i h, by rw [h2 i (hi i h)]; exact decide_eq_true h⟩
  have nd : ∀ {a : List Nat}, a.Pairwise (· < ·) → a.Nodup := fun h => h.imp fun h => by omega
  exact List.Perm.eq_of_pairwise (le := fun a b : Nat => a < b) (fun a b _ _ h1 h2 => by omega) (bits_asc n s) ha ((List.perm_ext_iff_of_nodup (nd (bits_asc n s)) (nd ha)).2 hm)
def dropL (list : List Rp) (idx : List Nat) : List Rp := (list.zipIdx.filter fun p => decide (p.2 ∉ idx)).map (·.1)
theorem can_drop {list : List Rp} {idx : List Nat} {which : Nat → Bool} (hw : ∀ i, i < list.length → (which i = true ↔ i ∉ idx)) : HasTruth l (allS (dropL list idx)) ↔ canL l list which = true := by
  rw [can_iff]
  refine truth_members fun t x => ?_
  rw [mem_allS, mem_saidL]
  unfold dropL
  rw [List.mem_map]
  constructor
  · rintro ⟨⟨⟨y, i⟩, h, rfl⟩, ht⟩
    obtain ⟨h1, h2⟩ := List.mem_filter.1 h
    rw [List.mem_zipIdx_iff_getElem?] at h1
    exact ⟨i, h1, ht, (hw i (List.getElem?_eq_some_iff.1 h1).1).2 (by simpa using h2)⟩
  · rintro ⟨i, h1, h2, h3⟩
    exact ⟨⟨(x, i), List.mem_filter.2 ⟨by rw [List.mem_zipIdx_iff_getElem?]; exact h1, by simpa using (hw i (List.getElem?_eq_some_iff.1 h1).1).1 h3⟩, rfl⟩, h2⟩
theorem drop_yes {list : List Rp} {x : List Nat} (hx : MinS list.length (isDrop l list) (2 ^ list.length) x) : HasTruth l (allS (dropL list x)) ∧ x.Pairwise (· < ·) ∧ (∀ i ∈ x, i < list.length) := by
  obtain ⟨⟨s, h1, h2, rfl⟩, -⟩ := hx
  refine ⟨(can_drop (which := fun i => !s.testBit i) fun i hl => ?_).2 h2, bits_asc _ _, bits_lt⟩
  rw [mem_bits]; simp [hl]
theorem drop_least {list : List Rp} {x : List Nat} (hx : MinS list.length (isDrop l list) (2 ^ list.length) x) {idx : List Nat} (ha : idx.Pairwise (· < ·)) (hi : ∀ i ∈ idx, i < list.length) (hn : HasTruth l (allS (dropL list idx))) : x.length ≤ idx.length := by
  obtain ⟨s, h1, h2⟩ := bits_eq ha hi
  rw [← h2]
  refine hx.2 s h1 ?_
  exact (can_drop (which := fun i => !s.testBit i) fun i hl => by rw [← h2, mem_bits]; simp [hl]).1 hn
theorem drop_zero {list : List Rp} {x : List Nat} (hx : MinS list.length (isDrop l list) (2 ^ list.length) x) : x = [] ↔ HasTruth l (allS list) := by
  constructor
  · rintro rfl
    have h := (drop_yes hx).1
    rw [can_drop (which := fun _ => true) fun i _ => by simp] at h
    exact can_all.2 h
  · intro h
    have := drop_least hx (idx := []) List.Pairwise.nil (by simp) ((can_drop (which := fun _ => true) fun i _ => by simp).2 (can_all.1 h))
    exact List.eq_nil_of_length_eq_zero (by simpa using this)
end Go.Proofs.YtpfpjbglpibdoaaGreatDoor

/- Chapter 5: sets of reports as bits. -/
namespace Go.Proofs.YtpfpjbglpibdoaaGreatDoor
open Go Go.RowKit Go.Oche Go.Proofs

def Tab5 (W : World) : Prop := ∀ i, i < 64 → W.cell? ⟨1, i, none⟩ = some (.int .u8 ((Lib.deBruijn64tab.getD i 0 : Nat) : Int))
theorem Tab5.lt {W : World} (h : Tab5 W) : 1 < W.heap.size := World.block_lt_of_cell? W _ (h 0 (by decide))
theorem Tab5.below {W W' : World} (h : Tab5 W) (hb : Below W.heap.size W W') : Tab5 W' := fun i hi => bAt hb (h i hi)
theorem Tab5.chg {O : Nat → Prop} {W W' : World} (h : Tab5 W) (hc : Chg O W W') (hO : ¬ O 1) : Tab5 W' := fun i hi =>
  (World.cell?_of_block (w := W) (hc.block 1 h.lt hO)).trans (h i hi)
def onesA (s : Int) : Int := IntKind.u64.wrap (bits BinOp.and IntKind.u64 (s / 2) 6148914691236517205 + bits BinOp.and IntKind.u64 s 6148914691236517205)
def onesB (s : Int) : Int := IntKind.u64.wrap (bits BinOp.and IntKind.u64 (onesA s / 4) 3689348814741910323 + bits BinOp.and IntKind.u64 (onesA s) 3689348814741910323)
def onesC (s : Int) : Int := bits BinOp.and IntKind.u64 (IntKind.u64.wrap (onesB s / 16 + onesB s)) 1085102592571150095
def onesD (s : Int) : Int := IntKind.u64.wrap (onesC s + onesC s / 256)
def onesE (s : Int) : Int := IntKind.u64.wrap (onesD s + onesD s / 65536)
def onesF (s : Int) : Int := IntKind.u64.wrap (onesE s + onesE s / 4294967296)
def onesG (s : Int) : Int := bits BinOp.and IntKind.i64 (wrap64 (onesF s)) 127
theorem ones_all : ∀ s : Fin 1024, onesG ((s.val : Nat) : Int) = ((bitsN 10 s.val).length : Int) := by decide +kernel
def tzE (s : Int) : Int := IntKind.u64.wrap (bits BinOp.and IntKind.u64 s (IntKind.u64.wrap (-s)) * 285870213051353865) / 288230376151711744
theorem tz_all : ∀ s : Fin 1024, 0 < s.val → (0 ≤ tzE ((s.val : Nat) : Int) ∧ (tzE ((s.val : Nat) : Int)).toNat < 64 ∧ Lib.deBruijn64tab.getD (tzE ((s.val : Nat) : Int)).toNat 0 = (bitsN 10 s.val).headD 0) := by decide +kernel
theorem low_all : ∀ s : Fin 1024, 0 < s.val → (bitsN 10 s.val = (bitsN 10 s.val).headD 0 :: bitsN 10 (s.val &&& (s.val - 1)) ∧ bits BinOp.and IntKind.u64 ((s.val : Nat) : Int) (IntKind.u64.wrap (((s.val : Nat) : Int) - 1)) = ((s.val &&& (s.val - 1) : Nat) : Int) ∧ (s.val &&& (s.val - 1)) < s.val ∧ (bitsN 10 s.val).headD 0 < 10) := by decide +kernel
theorem bits_few : ∀ n : Fin 11, ∀ s : Fin 1024, s.val < 2 ^ n.val → bitsN 10 s.val = bitsN n.val s.val := by decide +kernel
set_option maxRecDepth 100000 in
theorem ones64_any (s : Nat) (hs : s < 1024) (w : World) : Calls Tryz.prog 112 #[.int .u64 (s : Int)] w fun e w' => e = .returned (.int .i64 ((bitsN 10 s).length : Int)) ∧ w' = w := by
  go_enter Tryz.func112, Tryz.ntmps112
  go_wp2
  go_returns
  refine ⟨?_, rfl⟩
  have h := ones_all ⟨s, hs⟩
  simp only at h
  rw [← h]
  rfl
set_option maxRecDepth 100000 in
theorem ones_any (s : Nat) (hs : s < 1024) (w : World) : Calls Tryz.prog 98 #[.int .u64 (s : Int)] w fun e w' => e = .returned (.int .i64 ((bitsN 10 s).length : Int)) ∧ w' = w := by
  go_enter Tryz.func98, Tryz.ntmps98
  go_wp2_with fail
  refine (ones64_any s hs w).mono ?_
  rintro e w' ⟨rfl, rfl⟩
  go_wp2
  go_returns
  exact ⟨rfl, rfl⟩
set_option maxRecDepth 100000 in
theorem tz64_any (s : Nat) (hs : s < 1024) (h0 : 0 < s) (w : World) (hT : Tab5 w) : Calls Tryz.prog 128 #[.int .u64 (s : Int)] w fun e w' => e = .returned (.int .i64 (((bitsN 10 s).headD 0 : Nat) : Int)) ∧ w' = w := by
  have d0 : ((s : Int) == 0) = false := beq_eq_false_iff_ne.2 (by omega)
  obtain ⟨e1, e2, e3⟩ := tz_all ⟨s, hs⟩ h0
  simp only at e1 e2 e3
  have hlow := (low_all ⟨s, hs⟩ h0).2.2.2
  simp only at hlow
  have hc := hT _ e2
  rw [e3] at hc
  obtain ⟨z, hz⟩ : ∃ z, (bitsN 10 s).headD 0 = z := ⟨_, rfl⟩
  rw [hz] at hc hlow ⊢
  obtain ⟨k, hk⟩ : ∃ k, (tzE (s : Int)).toNat = k := ⟨_, rfl⟩
  rw [hk] at hc e2
  have hE : IntKind.u64.wrap (bits BinOp.and IntKind.u64 (s : Int) (IntKind.u64.wrap (-(s : Int))) * 285870213051353865) / 288230376151711744 = (k : Int) := by
    show tzE (s : Int) = _; omega
  have hzw : IntKind.i64.wrap (z : Int) = z := wrap_small _ (by omega) (by omega)
  clear hz hk e1 e3 hT
  go_enter Tryz.func128, Tryz.ntmps128
  go_wp2
  go_returns
  exact ⟨rfl, rfl⟩
set_option maxRecDepth 100000 in
theorem tz_any (s : Nat) (hs : s < 1024) (h0 : 0 < s) (w : World) (hT : Tab5 w) : Calls Tryz.prog 113 #[.int .u64 (s : Int)] w fun e w' => e = .returned (.int .i64 (((bitsN 10 s).headD 0 : Nat) : Int)) ∧ w' = w := by
  have h64 := tz64_any s hs h0 w hT
  obtain ⟨z, hz⟩ : ∃ z, (bitsN 10 s).headD 0 = z := ⟨_, rfl⟩
  rw [hz] at h64 ⊢
  clear hz hT
  go_enter Tryz.func113, Tryz.ntmps113
  go_wp2_with fail
  refine h64.mono ?_
  rintro e w' ⟨rfl, rfl⟩
  go_wp2
  go_returns
  exact ⟨rfl, rfl⟩
theorem all_all : ∀ n : Fin 11, IntKind.u64.wrap (IntKind.u64.wrap (2 ^ n.val) - 1) = ((2 ^ n.val - 1 : Nat) : Int) := by decide +kernel
set_option maxRecDepth 100000 in
theorem all_any (n : Nat) (hn : n ≤ 10) (w : World) : Calls Tryz.prog 70 #[.int .i64 (n : Int)] w fun e w' => e = .returned (.int .u64 ((2 ^ n - 1 : Nat) : Int)) ∧ w' = w := by
  have ha := all_all ⟨n, by omega⟩
  simp only at ha
  have hn0 : (0 : Int) ≤ (n : Int) := by omega
  go_enter Tryz.func70, Tryz.ntmps70
  go_wp2
  go_returns
  exact ⟨by rw [← ha]; rfl, rfl⟩
end Go.Proofs.YtpfpjbglpibdoaaGreatDoor

/- Chapter 5: arguments that are legs, stands, reports; the table that a row lays. -/
namespace Go.Proofs.YtpfpjbglpibdoaaGreatDoor
open Go.RowKit Go.Oche Go.Proofs Go.ChangeShapes Go.WideShapes Go.ChangeAt Go.Deep
abbrev laid5 : List (String × DataW Unit) := [("math/bits.deBruijn32tab", Rows.laid_math_bits_deBruijn32tab), ("math/bits.deBruijn64tab", Rows.laid_math_bits_deBruijn64tab)]
theorem g64 : Tryz.prog.globalNamed "math/bits.deBruijn64tab" = some 1 := by kernel_rfl
set_option maxRecDepth 100000 in
theorem tab_of_laid {W : World} (h : laidMetH Tryz.prog laid5 W) : Tab5 W := by
  rw [MakeChecks.laidMetH_plain _ _ _ (by kernel_rfl)] at h
  have h2 := laidMet.tail h
  have h3 : laidMet Tryz.prog [("math/bits.deBruijn64tab", Lib.tabData .u8 (Lib.deBruijn64tab.map fun n : Nat => (n : Int)))] W := h2
  have h4 := Lib.tabIs_of_head (t := 222) (n := 64) (e := 5) g64 (by kernel_rfl) Tryz.underlying222 Tryz.underlying5 (by kernel_rfl) (by kernel_rfl) h3
  intro i hi
  have h5 := h4.cell g64 i (by simp [Lib.deBruijn64tab]; omega)
  rw [h5]
  have hl : i < Lib.deBruijn64tab.length := by simp [Lib.deBruijn64tab]; omega
  simp [List.getD, hl]
theorem door_met (os : Os) (args : Array Value) : laidMetH Tryz.prog laid5 ((World.doorLaid Tryz.prog 19 os).forCall (fun _ _ => 0) ⟨#[], args, []⟩).memory :=
  laidMetH_of_parts3 (fuel := 8) (laidMet_of_run' 8 (by kernel_rfl) (by kernel_rfl)) (by kernel_rfl) (by kernel_rfl)
theorem door_shaped (os : Os) (args : Array Value) : ((World.doorLaid Tryz.prog 19 os).forCall (fun _ _ => 0) ⟨#[], args, []⟩).Shaped Tryz.prog := World.shaped_of_RefB (by kernel_rfl) (by kernel_rfl)
section
variable {H : Type} {enc : TypeId × Value → H} {W : World} {base : Nat} {spare : Nat → Bool} {held : Bool} {n : Nat} {v : Value} {x : DataW H × List MemPlace}
theorem open_boolc (h : DataW.trod enc Tryz.prog W base spare held n 4 [v] = some x) : ∃ b, v = .bool b := by
  obtain ⟨b, hb, _⟩ := DataW.trod_bool Tryz.underlying4 h
  simp only [List.cons.injEq, and_true] at hb
  exact ⟨b, hb⟩
theorem open_gatec (h : DataW.trod enc Tryz.prog W base spare held n 22 [v] = some x) : ∃ z, v = .int .i64 z := by
  obtain ⟨z, hz, _, hw⟩ := DataW.trod_int Tryz.underlying22 h
  simp only [List.cons.injEq, and_true] at hz
  exact ⟨z, hz⟩
theorem open_beds (h : DataW.trod enc Tryz.prog W base spare held n 25 [v] = some x) : ∃ xs : List Int, Sl (fun _ => True) W v (ints xs) ∧ ∀ b ∈ xs, I64' b := by
  obtain ⟨xs, h1, h2⟩ := open_nums Tryz.underlying25 Tryz.underlying95 (by kernel_rfl) h
  exact ⟨xs, h1, fun b hb => wf_i64 (h2 b hb)⟩
theorem open_count {cs : List Value} (h : DataW.trod enc Tryz.prog W base spare held n 24 cs = some x) : ∃ a b c : Int, cs = [.int .i64 a, .int .i64 b, .int .i64 c] := by
  obtain ⟨y0, y1, y2, m, _, hl, h0, h1, h2⟩ := Go.Deep.trod_struct3 Tryz.underlying24 h
  have c0 : Tryz.prog.cellsOf 3 = 1 := by kernel_rfl
  have c1 : Tryz.prog.cellsOf 22 = 1 := by kernel_rfl
  have c2 : Tryz.prog.cellsOf 24 = 3 := by kernel_rfl
  rw [c2] at hl
  obtain ⟨u0, u1, u2, rfl⟩ := list_three hl
  rw [c0] at h0
  rw [c1] at h1 h2
  obtain ⟨a, rfl, _⟩ := open_i64c (v := u0) h0
  obtain ⟨b, rfl⟩ := open_gatec (v := u1) h1
  obtain ⟨c, rfl⟩ := open_gatec (v := u2) h2
  exact ⟨a, b, c, rfl⟩
theorem list_seven {α : Type} {cs : List α} (h : cs.length = 7) : ∃ a b c d e f g, cs = [a, b, c, d, e, f, g] := by
  match cs, h with
  | [a, b, c, d, e, f, g], _ => exact ⟨a, b, c, d, e, f, g, rfl⟩
set_option maxRecDepth 100000 in
theorem open_leg {r : Reach} {b0 : Nat} {d : DataW H} {p : List MemPlace} (hv : Value.okWide Tryz.prog W r b0 27 v) (h : DataW.Trod enc Tryz.prog W base spare held 27 v d p) :
    ∃ (l : Lg) (bv : Value), v = legV l bv ∧ Sl (fun _ => True) W bv (ints l.beds) ∧ BedsIn l := by
  obtain ⟨cs, rfl, hsz⟩ := okWide_struct Tryz.underlying27 hv
  obtain ⟨fuel, hf⟩ := h
  obtain ⟨xs, n, _, _, hl, hlen, hfs⟩ := DataW.trod_struct Tryz.underlying27 hf
  have k0 : Tryz.prog.cellsOf 27 = 7 := by kernel_rfl
  have k1 : Tryz.prog.cellsOf 24 = 3 := by kernel_rfl
  have k2 : Tryz.prog.cellsOf 25 = 1 := by kernel_rfl
  have k3 : Tryz.prog.cellsOf 3 = 1 := by kernel_rfl
  have k4 : Tryz.prog.cellsOf 4 = 1 := by kernel_rfl
  obtain ⟨l0⟩ := cs
  have hl7 : l0.length = 7 := by rw [k0] at hl; exact hl
  obtain ⟨u0, u1, u2, u3, u4, u5, u6, rfl⟩ := list_seven hl7
  match xs, hlen with
  | [y0, y1, y2, y3, y4], _ =>
    have h0 : DataW.trod enc Tryz.prog W base spare held n 24 (([u0, u1, u2, u3, u4, u5, u6].drop 0).take (Tryz.prog.cellsOf 24)) = some y0 := hfs 0 _ rfl
    have h1 : DataW.trod enc Tryz.prog W base spare held n 25 (([u0, u1, u2, u3, u4, u5, u6].drop 3).take (Tryz.prog.cellsOf 25)) = some y1 := hfs 1 _ rfl
    have h2 : DataW.trod enc Tryz.prog W base spare held n 3 (([u0, u1, u2, u3, u4, u5, u6].drop 4).take (Tryz.prog.cellsOf 3)) = some y2 := hfs 2 _ rfl
    have h3 : DataW.trod enc Tryz.prog W base spare held n 3 (([u0, u1, u2, u3, u4, u5, u6].drop 5).take (Tryz.prog.cellsOf 3)) = some y3 := hfs 3 _ rfl
    have h4 : DataW.trod enc Tryz.prog W base spare held n 4 (([u0, u1, u2, u3, u4, u5, u6].drop 6).take (Tryz.prog.cellsOf 4)) = some y4 := hfs 4 _ rfl
    rw [k1] at h0
    rw [k2] at h1
    rw [k3] at h2 h3
    rw [k4] at h4
    obtain ⟨a, b, c, e⟩ := open_count (show DataW.trod enc Tryz.prog W base spare held n 24 [u0, u1, u2] = some y0 from h0)
    obtain ⟨bs, hb1, hb2⟩ := open_beds (show DataW.trod enc Tryz.prog W base spare held n 25 [u3] = some y1 from h1)
    obtain ⟨pl, rfl, _⟩ := open_i64c (show DataW.trod enc Tryz.prog W base spare held n 3 [u4] = some y2 from h2)
    obtain ⟨tu, rfl, _⟩ := open_i64c (show DataW.trod enc Tryz.prog W base spare held n 3 [u5] = some y3 from h3)
    obtain ⟨wo, rfl⟩ := open_boolc (show DataW.trod enc Tryz.prog W base spare held n 4 [u6] = some y4 from h4)
    simp only [List.cons.injEq, and_true] at e
    obtain ⟨rfl, rfl, rfl⟩ := e
    refine ⟨⟨a, b, c, bs, pl, tu, wo⟩, u3, rfl, hb1, fun z hz => ?_⟩
    have := hb2 z hz
    unfold I64' at this
    omega
end
end Go.Proofs.YtpfpjbglpibdoaaGreatDoor

/- Chapter 5: lists of numbers compared. -/
namespace Go.Proofs.YtpfpjbglpibdoaaGreatDoor
open Go.RowKit Go.Oche Go.Proofs

theorem isNaNi_any (a : Int) (w : World) : Calls Tryz.prog 137 #[.int .i64 a] w fun e w' => e = .returned (.bool false) ∧ w = w' := by
  go_enter Tryz.func137, Tryz.ntmps137
  go_wp2
  go_ret
  exact ⟨ret_bool (by simp), rfl⟩
theorem compareI_any (a b : Int) (w : World) : Calls Tryz.prog 115 #[.int .i64 a, .int .i64 b] w fun e w' => e = .returned (.int .i64 (cmp3 a b)) ∧ w = w' := by
  obtain ⟨c, hc⟩ : ∃ c, cmp3 a b = c := ⟨_, rfl⟩
  unfold cmp3 at hc
  have hc' := hc
  have H := Lib.hid hc
  rw [show cmp3 a b = c from hc']
  clear hc hc'
  go_enter Tryz.func115, Tryz.ntmps115
  go_wp2_with (go_at_call 137; refine (isNaNi_any _ _).mono ?_; rintro e w' ⟨rfl, rfl⟩)
  all_goals
    go_ret
    refine ⟨ret_int ?_, rfl⟩
    rw [← H.out]
    repeat' (first | omega | split)
def cmpL : List Int → List Int → Int
  | [], [] => 0
  | [], _ :: _ => -1
  | _ :: _, [] => 1
  | a :: as', b :: bs => if cmp3 a b = 0 then cmpL as' bs else cmp3 a b
theorem cmpL_step {xs ys : List Int} {i : Nat} (h : i < xs.length) (h' : i < ys.length) : cmpL (xs.drop i) (ys.drop i) = if cmp3 xs[i] ys[i] = 0 then cmpL (xs.drop (i + 1)) (ys.drop (i + 1)) else cmp3 xs[i] ys[i] := by
  rw [List.drop_eq_getElem_cons h, List.drop_eq_getElem_cons h', cmpL]
theorem cmpL_end {xs ys : List Int} {i : Nat} (h : ¬ i < xs.length) : cmpL (xs.drop i) (ys.drop i) = if i < ys.length then -1 else 0 := by
  rw [List.drop_eq_nil_of_le (by omega)]
  by_cases c : i < ys.length
  · rw [if_pos c, List.drop_eq_getElem_cons c]; rfl
  · rw [if_neg c, List.drop_eq_nil_of_le (by omega)]; rfl
theorem cmpL_more {xs ys : List Int} {i : Nat} (h : i < xs.length) (h' : ¬ i < ys.length) : cmpL (xs.drop i) (ys.drop i) = 1 := by
  have e : ys.drop i = [] := List.drop_eq_nil_of_le (by omega)
  rw [List.drop_eq_getElem_cons h, e]; rfl
set_option maxRecDepth 100000 in
set_option maxHeartbeats 1000000 in
theorem compareL_any {S S' : Nat → Prop} (xs ys : List Int) (u v : Value) (w : World) (hx : Sl S w u (ints xs)) (hy : Sl S' w v (ints ys)) :
    Calls Tryz.prog 101 #[u, v] w fun e w' => e = .returned (.int .i64 (cmpL xs ys)) ∧ w = w' := by
  obtain ⟨a, cap, rfl, h2, h3⟩ := hx.form
  obtain ⟨a', cap', rfl, h2', h3'⟩ := hy.form
  simp only [ints_length] at *
  unfold maxLen at h3 h3'
  obtain ⟨res, hres⟩ : ∃ r, cmpL xs ys = r := ⟨_, rfl⟩
  rw [hres]
  have HR := Lib.hid hres
  have HX := Lib.hid hx
  have HY := Lib.hid hy
  obtain ⟨n, hn⟩ : ∃ n, xs.length = n := ⟨_, rfl⟩
  obtain ⟨m, hm⟩ : ∃ n, ys.length = n := ⟨_, rfl⟩
  have HN := Lib.hid hn
  have HM := Lib.hid hm
  rw [hn] at h2 HX ⊢
  rw [hm] at h2' HY ⊢
  clear hres hx hy hn hm
  go_enter Tryz.func101, Tryz.ntmps101
  go_wp2
  go_loopw [11] (fun iv wr => ∃ i : Nat, i ≤ n ∧ iv = .int .i64 i ∧ Hid (cmpL (xs.drop i) (ys.drop i) = res) ∧ Hid (w = wr)) (fun iv _ => n - (intOf iv).toNat)
  case atStart => exact ⟨0, by omega, by go_num, HR, Lib.hid rfl⟩
  case round =>
    obtain ⟨i, hi, rfl, HI, HW⟩ := hrel
    have hw := HW.out
    subst hw
    clear HR
    by_cases hlt : i < n
    · obtain ⟨x, hxx⟩ : ∃ x, xs[i]'(by rw [HN.out]; exact hlt) = x := ⟨_, rfl⟩
      obtain ⟨b, off, rfl, -, hc⟩ := Sl.at_ HX.out (intsAt (by rw [HN.out]; exact hlt))
      rw [hxx] at hc
      have HXX := Lib.hid hxx
      clear hxx
      by_cases hlt2 : i < m
      · obtain ⟨y, hyy⟩ : ∃ y, ys[i]'(by rw [HM.out]; exact hlt2) = y := ⟨_, rfl⟩
        obtain ⟨b', off', rfl, -, hc'⟩ := Sl.at_ HY.out (intsAt (by rw [HM.out]; exact hlt2))
        rw [hyy] at hc'
        have d1 : decide (m ≤ i) = false := decide_eq_false (by omega)
        have d1i : decide ((m : Int) ≤ (i : Int)) = false := decide_eq_false (by omega)
        obtain ⟨c, hcc⟩ : ∃ c, cmp3 x y = c := ⟨_, rfl⟩
        have HI2 : Hid (res = if c = 0 then cmpL (xs.drop (i + 1)) (ys.drop (i + 1)) else c) := Lib.hid (by
          rw [← HI.out, cmpL_step (by rw [HN.out]; exact hlt) (by rw [HM.out]; exact hlt2), HXX.out, hyy, hcc])
        clear hyy HI
        have hcall := compareI_any x y w
        rw [hcc] at hcall
        clear hcc
        go_wp2_with fail
        refine hcall.mono ?_
        rintro e w1 ⟨rfl, rfl⟩
        obtain ⟨z, hz⟩ : ∃ z, (c != 0) = z := ⟨_, rfl⟩
        have HZ := Lib.hid hz
        cases z
        · have hc0 : c = 0 := by simpa using HZ.out
          have HI3 : Hid (cmpL (xs.drop (i + 1)) (ys.drop (i + 1)) = res) := Lib.hid (by rw [HI2.out, if_pos hc0])
          have hwi : IntKind.i64.wrap ((i : Int) + 1) = (i : Int) + 1 := wrap_small _ (by omega) (by omega)
          clear hc0 HI2
          go_wp2
          go_roundw
          case rel => exact ⟨i + 1, by omega, by go_num, HI3, Lib.hid (by trivial)⟩
          case measure => simp [intOf]; omega
        · have hc0 : ¬ c = 0 := by simpa using HZ.out
          have hr : res = c := by rw [HI2.out, if_neg hc0]
          clear HI2 hc0
          subst hr
          go_wp2
          go_returns
          exact ⟨rfl, rfl⟩
      · have hr : res = 1 := by rw [← HI.out]; exact cmpL_more (by rw [HN.out]; exact hlt) (by rw [HM.out]; exact hlt2)
        have d1 : decide (m ≤ i) = true := decide_eq_true (by omega)
        have d1i : decide ((m : Int) ≤ (i : Int)) = true := decide_eq_true (by omega)
        clear HI
        subst hr
        go_wp2
        go_returns
        exact ⟨rfl, rfl⟩
    · obtain rfl : i = n := by omega
      have hr : res = if i < m then -1 else 0 := by rw [← HI.out, cmpL_end (by rw [HN.out]; omega), HM.out]
      by_cases hlt2 : i < m
      · rw [if_pos hlt2] at hr
        have d1 : decide (i < m) = true := decide_eq_true (by omega)
        have d1i : decide ((i : Int) < (m : Int)) = true := decide_eq_true (by omega)
        clear HI
        subst hr
        go_wp2
        go_returns
        exact ⟨rfl, rfl⟩
      · rw [if_neg hlt2] at hr
        have d1 : decide (i < m) = false := decide_eq_false (by omega)
        have d1i : decide ((i : Int) < (m : Int)) = false := decide_eq_false (by omega)
        clear HI
        subst hr
        go_wp2
        go_returns
        exact ⟨rfl, rfl⟩
end Go.Proofs.YtpfpjbglpibdoaaGreatDoor

/- Insertion sort of distinct things, in plain Lean: r is greater first; of equals the lesser number first. -/
namespace Go.Oche
open Go Go.RowKit

def befo (r : Int → Int) (x y : Int) : Prop := r y < r x ∨ (r x = r y ∧ x < y)
def at0 (l : List Int) (i : Nat) : Int := l.getD i 0
theorem at0_eq {l : List Int} {i : Nat} (h : i < l.length) : at0 l i = l[i] := by rw [at0, List.getD_eq_getElem?_getD, List.getElem?_eq_getElem h]; rfl
structure SegOk (r : Int → Int) (xs : List Int) (a b i : Nat) (ys : List Int) : Prop where
  len : ys.length = xs.length
  out : ∀ q, q < a ∨ i ≤ q → at0 ys q = at0 xs q
  ord : ∀ p q, a ≤ p → p < q → q < i → befo r (at0 ys p) (at0 ys q)
  low : ∀ p q, a ≤ p → p < i → i ≤ q → q < b → at0 ys p < at0 xs q
  perm : ys.Perm xs
structure SlideOk (r : Int → Int) (ys : List Int) (a i j : Nat) (zs : List Int) : Prop where
  len : zs.length = ys.length
  at_ : ∀ q, q < ys.length → at0 zs q = if q < j then at0 ys q else if q = j then at0 ys i else if q ≤ i then at0 ys (q - 1) else at0 ys q
  gt : ∀ q, j ≤ q → q < i → r (at0 ys q) < r (at0 ys i)
  perm : zs.Perm ys
  rng : a ≤ j ∧ j ≤ i
theorem SegOk.start {r : Int → Int} {xs : List Int} {a b : Nat} (_hb : b ≤ xs.length) (h : ∀ p q, a ≤ p → p < q → q < b → at0 xs p < at0 xs q) : SegOk r xs a b (a + 1) xs :=
  ⟨rfl, fun _ _ => rfl, fun p q h1 h2 h3 => by omega, fun p q h1 h2 h3 h4 => h p q h1 (by omega) h4, List.Perm.refl _⟩
theorem SlideOk.start {r : Int → Int} {ys : List Int} {a i : Nat} (ha : a ≤ i) : SlideOk r ys a i i ys := by
  refine ⟨rfl, fun q hq => ?_, fun q h1 h2 => by omega, List.Perm.refl _, ha, Nat.le_refl _⟩
  by_cases h1 : q < i
  · rw [if_pos h1]
  · rw [if_neg h1]
    by_cases h2 : q = i
    · rw [if_pos h2, h2]
    · rw [if_neg h2, if_neg (by omega)]
theorem at0_set {l : List Int} {i : Nat} (h : i < l.length) (x : Int) (q : Nat) : at0 (l.set i x) q = if q = i then x else at0 l q := by
  unfold at0
  by_cases e : q = i
  · subst e; rw [if_pos rfl, List.getD_eq_getElem?_getD, List.getElem?_set_self h]; rfl
  · rw [if_neg e, List.getD_eq_getElem?_getD, List.getElem?_set_ne (fun h => e h.symm), ← List.getD_eq_getElem?_getD]
theorem SlideOk.step {r : Int → Int} {ys zs : List Int} {a i j : Nat} (h : SlideOk r ys a i j zs) (hj : a < j) (hi : i < ys.length) (hlt : r (at0 zs (j - 1)) < r (at0 zs j)) :
    SlideOk r ys a i (j - 1) ((zs.set j (at0 zs (j - 1))).set (j - 1) (at0 zs j)) := by
  obtain ⟨hl, hat, hgt, hp, hr1, hr2⟩ := h
  have e1 : at0 zs (j - 1) = at0 ys (j - 1) := by rw [hat _ (by omega), if_pos (by omega)]
  have e2 : at0 zs j = at0 ys i := by rw [hat _ (by omega), if_neg (by omega), if_pos rfl]
  refine ⟨by simp [hl], fun q hq => ?_, fun q h1 h2 => ?_, ?_, by omega, by omega⟩
  · rw [at0_set (by simp; omega), at0_set (by omega), e1, e2]
    by_cases h1 : q = j - 1
    · rw [if_pos h1, if_neg (by omega), if_pos h1]
    · rw [if_neg h1]
      by_cases h2 : q = j
      · rw [if_pos h2, if_neg (by omega), if_neg (by omega), if_pos (by omega), h2]
      · rw [if_neg h2, hat q hq]
        by_cases h3 : q < j
        · rw [if_pos h3, if_pos (by omega)]
        · rw [if_neg h3, if_neg h2, if_neg (show ¬ q < j - 1 by omega), if_neg h1]
  · by_cases e : q = j - 1
    · subst e; rw [e1, e2] at hlt; exact hlt
    · exact hgt q (by omega) h2
  · refine List.Perm.trans ?_ hp
    have hz1 : j < zs.length := by omega
    have hz2 : j - 1 < zs.length := by omega
    have := List.set_set_perm hz1 hz2
    rw [← at0_eq hz1, ← at0_eq hz2] at this
    exact this
theorem SegOk.next {r : Int → Int} {xs ys zs : List Int} {a b i j : Nat} (h : SegOk r xs a b i ys) (s : SlideOk r ys a i j zs) (hi : i < b) (hb : b ≤ xs.length) (ha : a ≤ i) (hx : ∀ p q, a ≤ p → p < q → q < b → at0 xs p < at0 xs q)
    (hend : j = a ∨ ¬ r (at0 zs (j - 1)) < r (at0 zs j)) : SegOk r xs a b (i + 1) zs := by
  obtain ⟨hl, hout, hord, hlow, hperm⟩ := h
  obtain ⟨sl, sat, sgt, sp, sr1, sr2⟩ := s
  have xi : at0 ys i = at0 xs i := hout i (.inr (Nat.le_refl _))
  have lo : ∀ p, a ≤ p → p < i → at0 ys p < at0 ys i := fun p h1 h2 => by rw [xi]; exact hlow p i h1 h2 (Nat.le_refl _) hi
  have hend' : j = a ∨ r (at0 ys i) ≤ r (at0 ys (j - 1)) := by
    rcases hend with h | h
    · exact .inl h
    · by_cases hja : j = a
      · exact .inl hja
      · right
        rw [sat _ (by omega), if_pos (by omega), sat _ (by omega), if_neg (by omega), if_pos rfl] at h
        omega
  refine ⟨by omega, fun q hq => ?_, fun p q h1 h2 h3 => ?_, fun p q h1 h2 h3 h4 => ?_, sp.trans hperm⟩
  · by_cases hql : q < ys.length
    · rw [sat q hql]
      rcases hq with hq | hq
      · rw [if_pos (by omega)]; exact hout q (.inl hq)
      · rw [if_neg (by omega), if_neg (by omega), if_neg (by omega)]; exact hout q (.inr (by omega))
    · have e1 : at0 zs q = 0 := by rw [at0, List.getD_eq_getElem?_getD, List.getElem?_eq_none (by omega)]; rfl
      have e2 : at0 xs q = 0 := by rw [at0, List.getD_eq_getElem?_getD, List.getElem?_eq_none (by omega)]; rfl
      rw [e1, e2]
  · rw [sat p (by omega), sat q (by omega)]
    by_cases p1 : p < j
    · rw [if_pos p1]
      by_cases q1 : q < j
      · rw [if_pos q1]; exact hord p q h1 h2 (by omega)
      · rw [if_neg q1]
        by_cases q2 : q = j
        · rw [if_pos q2]
          have l1 := lo p h1 (by omega)
          rcases hend' with e | e
          · omega
          · by_cases e3 : p = j - 1
            · subst e3; unfold befo; omega
            · have := hord p (j - 1) h1 (by omega) (by omega)
              have l2 := lo (j - 1) (by omega) (by omega)
              unfold befo at this ⊢
              omega
        · rw [if_neg q2, if_pos (by omega)]; exact hord p (q - 1) h1 (by omega) (by omega)
    · rw [if_neg p1, if_neg (show ¬ q < j by omega), if_neg (show ¬ q = j by omega), if_pos (show q ≤ i by omega)]
      by_cases p2 : p = j
      · rw [if_pos p2]; exact .inl (sgt (q - 1) (by omega) (by omega))
      · rw [if_neg p2, if_pos (by omega)]; exact hord (p - 1) (q - 1) (by omega) (by omega) (by omega)
  · rw [sat p (by omega)]
    by_cases p1 : p < j
    · rw [if_pos p1]; exact hlow p q h1 (by omega) (by omega) h4
    · rw [if_neg p1]
      by_cases p2 : p = j
      · rw [if_pos p2, xi]; exact hx i q ha (by omega) h4
      · rw [if_neg p2, if_pos (by omega)]; exact hlow (p - 1) q (by omega) (by omega) (by omega) h4
end Go.Oche

/- Chapter 5: insertion sort of lists (slices.insertionSortCmpFunc), slices.SortFunc of at most 12. The elements of the row are told by numbers: V is a number's slice, dec its list. -/
namespace Go.Proofs.YtpfpjbglpibdoaaGreatDoor
open Go.RowKit Go.Oche Go.Proofs

theorem rowLen {W : World} {base n : Nat} {e : TypeId} {v : Value} {xs : List Value} (h : W.ownsRow base e 1 v n xs) : xs.length = n := by have := h.1; simpa using this
theorem mapV_set (V : Int → Value) (xs : List Int) (i : Nat) (x : Int) : (xs.map V).set i (V x) = (xs.set i x).map V := by simp [List.map_set]
theorem mapV_at (V : Int → Value) {l : List Int} {i : Nat} (h : i < l.length) : (l.map V)[i]? = some (V l[i]) := by simp [h]
def ReadsK (V : Int → Value) (dec : Int → List Int) (g : Nat) (xs : List Int) (W : World) : Prop := ∀ x ∈ xs, Sl (fun q => q ≠ g) W (V x) (ints (dec x))
theorem ReadsK.grown {V : Int → Value} {dec : Int → List Int} {g : Nat} {xs : List Int} {W W' : World} (h : ReadsK V dec g xs W) (hg : W.grownBy W' (some g)) : ReadsK V dec g xs W' := fun x hx =>
  (h x hx).cells fun b o hb hs => by
    obtain ⟨y, hy⟩ := Option.isSome_iff_exists.1 hs
    exact World.cell?_of_block (w := W) (hg.block b (World.block_lt_of_cell? W _ hy) fun e => hb (Option.some.inj e))
theorem ReadsK.perm {V : Int → Value} {dec : Int → List Int} {g : Nat} {xs ys : List Int} {W : World} (h : ReadsK V dec g xs W) (hp : ys.Perm xs) : ReadsK V dec g ys W := fun x hx => h x (hp.mem_iff.1 hx)
structure SegB (xs : List Int) (i : Nat) (ys : List Int) : Prop where
  perm : ys.Perm xs
  asc : ∀ p q, p < q → q < i → at0 ys p ≤ at0 ys q
structure SlideB (xs : List Int) (i j : Nat) (zs : List Int) : Prop where
  perm : zs.Perm xs
  le : j ≤ i
  asc : ∀ p q, p < q → q ≤ i → p ≠ j → q ≠ j → at0 zs p ≤ at0 zs q
  low : ∀ q, j < q → q ≤ i → at0 zs j ≤ at0 zs q
theorem SegB.start (xs : List Int) : SegB xs 1 xs := ⟨List.Perm.refl _, fun p q h1 h2 => by omega⟩
theorem SegB.slide {xs : List Int} {i : Nat} {ys : List Int} (h : SegB xs i ys) : SlideB xs i i ys :=
  ⟨h.perm, Nat.le_refl _, fun p q h1 h2 _ h4 => h.asc p q h1 (by omega), fun q h1 h2 => by omega⟩
theorem SlideB.next {xs : List Int} {i j : Nat} {zs : List Int} (h : SlideB xs i j zs) (hj : j = 0 ∨ at0 zs (j - 1) ≤ at0 zs j) : SegB xs (i + 1) zs := by
  refine ⟨h.perm, fun p q h1 h2 => ?_⟩
  by_cases e : p = j
  · subst e; exact h.low q h1 (by omega)
  by_cases e2 : q = j
  · subst e2
    rcases hj with e3 | e3
    · omega
    by_cases e4 : p = q - 1
    · subst e4; exact e3
    · exact Int.le_trans (h.asc p (q - 1) (by omega) (by omega) e (by omega)) e3
  · exact h.asc p q h1 (by omega) e e2
theorem swap_perm {l : List Int} {i j : Nat} (hi : i < l.length) (hj : j < l.length) : ((l.set j (at0 l i)).set i (at0 l j)).Perm l := by
  rw [at0_eq hi, at0_eq hj]
  exact List.set_set_perm hj hi
theorem SlideB.step {xs : List Int} {i j : Nat} {zs : List Int} (h : SlideB xs i j zs) (hj : 0 < j) (hi : i < zs.length) (hlt : at0 zs j < at0 zs (j - 1)) : SlideB xs i (j - 1) ((zs.set j (at0 zs (j - 1))).set (j - 1) (at0 zs j)) := by
  have hle := h.le
  have key : ∀ p, at0 ((zs.set j (at0 zs (j - 1))).set (j - 1) (at0 zs j)) p = if p = j - 1 then at0 zs j else if p = j then at0 zs (j - 1) else at0 zs p := fun p => by
    rw [at0_set (by simp; omega), at0_set (by omega)]
  refine ⟨(swap_perm (by omega) (by omega)).trans h.perm, by omega, fun p q h1 h2 h3 h4 => ?_, fun q h1 h2 => ?_⟩
  · rw [key, key, if_neg h3, if_neg h4]
    by_cases e : p = j
    · rw [if_pos e, if_neg (by omega)]; exact h.asc (j - 1) q (by omega) h2 (by omega) (by omega)
    · rw [if_neg e]
      by_cases e2 : q = j
      · rw [if_pos e2]; exact h.asc p (j - 1) (by omega) (by omega) (by omega) (by omega)
      · rw [if_neg e2]; exact h.asc p q h1 h2 e e2
  · rw [key, key, if_pos rfl, if_neg (by omega)]
    by_cases e : q = j
    · rw [if_pos e]; omega
    · rw [if_neg e]; exact h.low q (by omega) h2
set_option maxRecDepth 100000 in
set_option maxHeartbeats 4000000 in
theorem insK_any (V : Int → Value) (dec : Int → List Int) (base g c n : Nat) (xs : List Int) (w : World) (hr : ReadsK V dec g xs w) (hcmp : ∀ x ∈ xs, ∀ y ∈ xs, (cmpL (dec x) (dec y) < 0 ↔ x < y)) (ho : w.ownsRow base 35 1 (.slice (some ⟨g, 0, none⟩) n c) n (xs.map V)) (hn : n ≤ 100) :
    Calls Tryz.prog 129 #[.slice (some ⟨g, 0, none⟩) n c, .int .i64 0, .int .i64 n, .func (.func 101) #[] #[]] w fun e w' =>
      e = .returned (.tuple #[]) ∧ ∃ ys, w'.ownsRow base 35 1 (.slice (some ⟨g, 0, none⟩) n c) n (ys.map V) ∧ w.grownBy w' (some g) ∧ SegB xs (max 1 n) ys := by
  have hxl := rowLen ho
  rw [List.length_map] at hxl
  have HO := Lib.hid ho
  have HRD := Lib.hid hr
  have HCM := Lib.hid hcmp
  have hw0 : IntKind.i64.wrap ((0 : Int) + 1) = 1 := by decide
  clear ho hr hcmp
  go_enter Tryz.func129, Tryz.ntmps129
  go_wp2_with fail
  clear hw0
  go_loopw [8] (fun iv wr => ∃ (i : Nat) (ys : List Int), 1 ≤ i ∧ i ≤ max 1 n ∧ iv = .int .i64 i ∧ Hid (SegB xs i ys) ∧ Hid (wr.ownsRow base 35 1 (.slice (some ⟨g, 0, none⟩) n c) n (ys.map V)) ∧ Hid (w.grownBy wr (some g))) (fun iv _ => n - (intOf iv).toNat)
  case atStart => exact ⟨1, xs, by omega, by omega, by go_num, Lib.hid (SegB.start xs), HO, Lib.hid ⟨rfl, rfl, rfl, Nat.le_refl _, fun _ _ _ => rfl⟩⟩
  case round =>
    clear HO
    obtain ⟨i, ys, hi1, hi2, rfl, HS, HO, HG⟩ := hrel
    by_cases hlt : i < n
    · obtain ⟨wo, rfl⟩ : ∃ wo : World, wo = wr := ⟨_, rfl⟩
      go_wp2_with fail
      go_loopw [9] (fun jv wi => ∃ (j : Nat) (zs : List Int), jv = .int .i64 j ∧ Hid (SlideB xs i j zs) ∧ Hid (wi.ownsRow base 35 1 (.slice (some ⟨g, 0, none⟩) n c) n (zs.map V)) ∧ Hid (w.grownBy wi (some g))) (fun jv _ => (intOf jv).toNat)
      case atStart => exact ⟨i, ys, rfl, Lib.hid HS.out.slide, HO, HG⟩
      case round =>
        clear HO HG
        obtain ⟨j, zs, rfl, HZ, HO, HG⟩ := hrel
        have hj2 := HZ.out.le
        have HZL : zs.length = n := by have := HZ.out.perm.length_eq; omega
        obtain ⟨wi, rfl⟩ : ∃ wi : World, wi = wr := ⟨_, rfl⟩
        by_cases hja : 0 < j
        · have d1 : decide ((0 : Int) < (j : Int)) = true := decide_eq_true (by omega)
          have d1n : decide (0 < j) = true := decide_eq_true hja
          obtain ⟨m, hm⟩ : ∃ m, j = m + 1 := ⟨j - 1, by omega⟩
          have hwm : IntKind.i64.wrap ((j : Int) - 1) = (m : Int) := by rw [IntKind.wrap_i64]; omega
          obtain ⟨x, hx⟩ : ∃ x, at0 zs j = x := ⟨_, rfl⟩
          obtain ⟨y, hy⟩ : ∃ y, at0 zs m = y := ⟨_, rfl⟩
          have hxm : x ∈ xs := HZ.out.perm.mem_iff.1 (by rw [← hx, at0_eq (by omega)]; exact List.getElem_mem _)
          have hym : y ∈ xs := HZ.out.perm.mem_iff.1 (by rw [← hy, at0_eq (by omega)]; exact List.getElem_mem _)
          have HCX : Hid (cmpL (dec x) (dec y) < 0 ↔ x < y) := Lib.hid (HCM.out x hxm y hym)
          have HSX := Lib.hid ((HRD.out.grown HG.out) x hxm)
          have HSY := Lib.hid ((HRD.out.grown HG.out) y hym)
          have k1 : wi.cell? ⟨g, j, none⟩ = some (V x) := by rw [HO.out.cellAt j (by omega), mapV_at V (by omega), ← at0_eq (by omega), hx]
          have k0 : wi.cell? ⟨g, m, none⟩ = some (V y) := by rw [HO.out.cellAt m (by omega), mapV_at V (by omega), ← at0_eq (by omega), hy]
          obtain ⟨D, hD⟩ : ∃ D, cmpL (dec x) (dec y) = D := ⟨_, rfl⟩
          have HD := Lib.hid hD
          obtain ⟨ax, cx, hvx, -, -⟩ := HSX.out.form
          obtain ⟨ay, cy, hvy, -, -⟩ := HSY.out.form
          rw [ints_length] at hvx hvy
          have HVX := Lib.hid hvx
          have HVY := Lib.hid hvy
          rw [hvx] at k1
          rw [hvy] at k0
          clear hD hxm hym hvx hvy
          have hm1n : j < n := by omega
          have hmn : m < n := by omega
          obtain ⟨bb, hbb⟩ : ∃ bb, decide (D < 0) = bb := ⟨_, rfl⟩
          have HX := Lib.hid hx
          have HY := Lib.hid hy
          have HBB := Lib.hid hbb
          have HM := Lib.hid hm
          clear hx hy hbb hm
          go_wp2_with fail
          refine wp_region_seq 17 [.is ?_, .is ?_, .is (.bool true), .is (.bool true), .is ?_, .is ?_, .is ?_, .is ?_, .is ?_, .is ?_, .is ?_, .is ?_, .is ?_, .is ?_, .is (.int .i64 D), .is (.bool bb), .is (.bool bb)] rfl mix (by kernel_rfl) (by kernel_rfl) ?seqm
          case seqm =>
            simp only [List.take_succ_cons, List.take_zero]
            iterate 4
              refine seq_is rfl (fun w1 hb1 _ => ?_) ?_
              · simp [opOK, go_sem, hja, Below.refl]
                try exact rfl
              simp only [Act.put, List.setIfInBounds_toArray, List.set_cons_succ, List.set_cons_zero]
            iterate 10
              refine seq_on (by rfl) (fun w1 hb1 _ => ?_) ?_
              · have k0' := bAt hb1 k0
                have k1' := bAt hb1 k1
                simp [opOK, go_sem, k0', k1', hwm, hm1n, hmn, Below.refl]
                try exact rfl
              simp only [Act.put, List.setIfInBounds_toArray, List.set_cons_succ, List.set_cons_zero]
            refine seq_on (by rfl) (fun w1 hb1 _ => ?_) ?_
            · have h1 := HSX.out.below hb1
              have h2 := HSY.out.below hb1
              rw [HVX.out] at h1
              rw [HVY.out] at h2
              refine opOK_call (f := 101) (args := #[.slice ax (dec x).length cx, .slice ay (dec y).length cy]) (by simp [go_sem]) ?_
              refine (compareL_any (dec x) (dec y) _ _ w1 h1 h2).mono ?_
              rintro e w2 ⟨rfl, rfl⟩
              exact ⟨_, rfl, by rw [HD.out], Below.refl _ _⟩
            simp only [Act.put, List.setIfInBounds_toArray, List.set_cons_succ, List.set_cons_zero]
            refine seq_on (by rfl) (fun w1 hb1 _ => ?_) ?_
            · simp [opOK, go_sem, HBB.out, Below.refl]
              try exact rfl
            simp only [Act.put, List.setIfInBounds_toArray, List.set_cons_succ, List.set_cons_zero]
            refine seq_is rfl (fun w1 hb1 _ => ?_) ?_
            · simp [opOK, go_sem, Below.refl]
              try exact rfl
            simp only [Act.put, List.setIfInBounds_toArray, List.set_cons_succ, List.set_cons_zero]
            refine seq_end fun w6 hb6 _ => ?_
            simp only [List.drop_succ_cons, List.drop_zero]
            have hO6 := ownsN_below HO.out hb6
            have HO6 := Lib.hid hO6
            have hg6 := grownBy_trans HG.out (grownBy_below _ hb6)
            have HG6 := Lib.hid hg6
            have l1 := bAt hb6 k1
            have l0 := bAt hb6 k0
            have l1f := hO6.frozenAt j
            have l0f := hO6.frozenAt m
            clear k0 k1 hO6 hg6 hb6
            cases bb
            · go_wp2_with fail
              go_roundw
              case rel => exact ⟨i + 1, zs, by omega, by omega, by go_num, Lib.hid (HZ.out.next (.inr (by
                have h1 := of_decide_eq_false HBB.out
                have h2 := HM.out
                subst h2
                rw [Nat.add_sub_cancel, HX.out, HY.out]; rw [← HD.out, HCX.out] at h1; omega))), HO6, HG6⟩
              case measure => simp [intOf]; omega
            · go_wp2_with fail
              have hO6 := HO6.out
              obtain ⟨hO8, hg8⟩ := hO6.stored j (V y)
              rw [mapV_set] at hO8
              rw [HVY.out] at hO8 hg8
              have HO8 := Lib.hid hO8
              have HG8 := Lib.hid (grownBy_trans HG6.out hg8)
              have HZ9 : Hid (SlideB xs i m ((zs.set j y).set m x)) := Lib.hid (by
                have h2 := HM.out
                subst h2
                have h1 := of_decide_eq_true HBB.out
                have := HZ.out.step hja (by omega) (by rw [Nat.add_sub_cancel, HX.out, HY.out]; rw [← HD.out] at h1; exact HCX.out.1 h1)
                rw [Nat.add_sub_cancel, HX.out, HY.out] at this
                exact this)
              have hmj : ¬ m = j := by have := HM.out; omega
              obtain ⟨w8, hw8⟩ : ∃ w8, w6.setCell ⟨g, j, none⟩ (.slice ay (dec y).length cy) = w8 := ⟨_, rfl⟩
              rw [hw8] at HO8 HG8
              have HW8 := Lib.hid hw8
              clear hO6 hO8 hg8 hw8
              refine wp_region_gen 17 (fun i v _ => match i with
                | 0 | 2 | 5 | 10 => v = .slice (some ⟨g, 0, none⟩) n c
                | 1 | 3 | 6 | 11 => v = .int .i64 j
                | 4 | 7 => v = .int .i64 m
                | 8 | 16 => v = .pointer (some ⟨g, m, none⟩)
                | 9 => v = .slice ay (dec y).length cy
                | 12 | 14 => v = .pointer (some ⟨g, j, none⟩)
                | 13 => v = .slice ax (dec x).length cx
                | _ => True) (JSt 15 [9, 13] (fun W => W = w6.drew) (fun W => W = w8.drew)) mix (by kernel_rfl) (JSt.start rfl) ?_ ?_
              · refine ⟨?_, ?_, ?_, ?_, ?_, ?_, ?_, ?_, ?_, ?_, ?_, ?_, ?_, ?_, ?_, ?_, ?_, trivial⟩
                all_goals refine gen_plain rfl fun a W S hSi hJ hpre ht' => ?_
                all_goals
                  simp [Region.binds] at hpre
                  have t0 := ht' 0 rfl
                  have t9 := ht' 9 rfl
                  simp at t0 t9
                iterate 9
                  (· simp [opOK, go_sem, hpre, t0, t9, hwm, hmn]
                     refine ⟨hJ.read (by omega), ?_⟩
                     intro j _ _ v h _
                     exact h)
                · have hW := hJ.look (i := 9) (by simp) hSi
                  have q0 : W.cell? ⟨g, m, none⟩ = some (.slice ay (dec y).length cy) := by rw [hW]; exact l0
                  simp [opOK, go_sem, hpre, q0]
                  refine ⟨hJ.read (by omega), ?_⟩
                  intro j _ _ v h _
                  exact h
                iterate 3
                  (· simp [opOK, go_sem, hpre, t0, t9, hm1n]
                     refine ⟨hJ.read (by omega), ?_⟩
                     intro j _ _ v h _
                     exact h)
                · have hW := hJ.look (i := 13) (by simp) hSi
                  have q0 : W.cell? ⟨g, j, none⟩ = some (.slice ax (dec x).length cx) := by rw [hW]; exact l1
                  simp [opOK, go_sem, hpre, q0]
                  refine ⟨hJ.read (by omega), ?_⟩
                  intro j _ _ v h _
                  exact h
                · simp [opOK, go_sem, hpre, hm1n]
                  refine ⟨hJ.read (by omega), ?_⟩
                  intro j _ _ v h _
                  exact h
                · have hW := hJ.off hSi
                  have q0 : W.cell? ⟨g, j, none⟩ = some (.slice ax (dec x).length cx) := by rw [hW]; exact l1
                  have q1 : W.frozen? ⟨g, j, none⟩ = false := by rw [hW]; exact l1f
                  have e8 : W.setCell ⟨g, j, none⟩ (.slice ay (dec y).length cy) = w8.drew := by rw [hW, ← HW8.out]; rfl
                  simp [opOK, go_sem, hpre, q0, q1, e8]
                  refine ⟨JSt.write (by simp [hpre]) rfl, ?_⟩
                  intro j hj _ v h _
                  exact h
                · simp [opOK, go_sem, hpre, hmn]
                  refine ⟨hJ.read (by omega), ?_⟩
                  intro j _ _ v h _
                  exact h
              · intro W' hJ
                have hW := hJ.on (by decide)
                subst hW
                simp only [List.take_succ_cons, List.take_zero, List.drop_succ_cons, List.drop_zero, EndAll]
                rintro _ rfl _ rfl _ rfl _ rfl _ rfl _ rfl _ rfl _ rfl _ rfl _ rfl _ rfl _ rfl _ rfl _ rfl _ rfl v15 - _ rfl
                have q0 : w8.cell? ⟨g, m, none⟩ = some (.slice ay (dec y).length cy) := by rw [← HW8.out, World.cell?_setCell_other _ _ _ _ (by intro e; cases e; exact hmj rfl)]; exact l0
                have q0f := HO8.out.frozenAt m
                obtain ⟨hO9, hg9⟩ := HO8.out.stored m (V x)
                rw [mapV_set] at hO9
                rw [HVX.out] at hO9 hg9
                have HO9 := Lib.hid hO9
                have HG9 := Lib.hid (grownBy_trans HG8.out hg9)
                clear hO9 hg9 l0 l1 l0f l1f hJ
                go_wp2_with fail
                go_roundw
                case rel => exact ⟨m, _, rfl, HZ9, HO9, Lib.hid ⟨HG9.out.os, HG9.out.tape, HG9.out.output, HG9.out.size, HG9.out.block⟩⟩
                case measure => simp [intOf]; have := HM.out; omega
        · have d1 : decide ((0 : Int) < (j : Int)) = false := decide_eq_false (by omega)
          have d1n : decide (0 < j) = false := decide_eq_false hja
          go_wp2_with fail
          refine wp_region_seq 17 [.is ?_, .is ?_, .is (.bool false), .is (.bool false), .is undef, .is undef, .is undef, .is undef, .is undef, .is undef, .is undef, .is undef, .is undef, .is undef, .is undef, .is undef, .is (.bool false)] rfl mix (by kernel_rfl) (by kernel_rfl) ?seqm
          case seqm =>
            simp only [List.take_succ_cons, List.take_zero]
            iterate 4
              refine seq_is rfl (fun w1 hb1 _ => ?_) ?_
              · simp [opOK, go_sem, hja, Below.refl]
                try exact rfl
              simp only [Act.put, List.setIfInBounds_toArray, List.set_cons_succ, List.set_cons_zero]
            iterate 12
              refine seq_off (by rfl) ?_
              simp only [Act.put, List.setIfInBounds_toArray, List.set_cons_succ, List.set_cons_zero]
            refine seq_is rfl (fun w1 hb1 _ => ?_) ?_
            · simp [opOK, go_sem, Below.refl]
              try exact rfl
            simp only [Act.put, List.setIfInBounds_toArray, List.set_cons_succ, List.set_cons_zero]
            refine seq_end fun w6 hb6 _ => ?_
            simp only [List.drop_succ_cons, List.drop_zero]
            have HO6 := Lib.hid (ownsN_below HO.out hb6)
            have HG6 := Lib.hid (grownBy_trans HG.out (grownBy_below _ hb6))
            clear hb6
            go_wp2_with fail
            go_roundw
            case rel => exact ⟨i + 1, zs, by omega, by omega, by go_num, Lib.hid (HZ.out.next (.inl (by omega))), HO6, HG6⟩
            case measure => simp [intOf]; omega
    · obtain rfl : i = max 1 n := by omega
      go_wp2
      go_returns
      exact ⟨rfl, ys, HO.out, HG.out, HS.out⟩
end Go.Proofs.YtpfpjbglpibdoaaGreatDoor
