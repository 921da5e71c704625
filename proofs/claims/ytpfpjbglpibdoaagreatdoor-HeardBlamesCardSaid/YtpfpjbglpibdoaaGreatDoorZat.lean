/- The texts SE, SF, SG, SH, SI, SJ, in build order. -/
import Derived.Test.YtpfpjbglpibdoaaGreatDoorZas

/- Chapter 5: slices.SortFunc of at most 12 lists. -/
namespace Go.Proofs.YtpfpjbglpibdoaaGreatDoor
open Go.RowKit Go.Oche Go.Proofs

set_option maxRecDepth 100000 in
set_option maxHeartbeats 4000000 in
theorem pdqK_any (V : Int → Value) (dec : Int → List Int) (base g c n L : Nat) (xs : List Int) (w : World) (hr : ReadsK V dec g xs w) (hcmp : ∀ x ∈ xs, ∀ y ∈ xs, (cmpL (dec x) (dec y) < 0 ↔ x < y)) (ho : w.ownsRow base 35 1 (.slice (some ⟨g, 0, none⟩) n c) n (xs.map V)) (hn : n ≤ 12) :
    Calls Tryz.prog 114 #[.slice (some ⟨g, 0, none⟩) n c, .int .i64 0, .int .i64 n, .int .i64 L, .func (.func 101) #[] #[]] w fun e w' =>
      e = .returned (.tuple #[]) ∧ ∃ ys, w'.ownsRow base 35 1 (.slice (some ⟨g, 0, none⟩) n c) n (ys.map V) ∧ w.grownBy w' (some g) ∧ SegB xs (max 1 n) ys := by
  have d1 : decide ((n : Int) ≤ 12) = true := decide_eq_true (by omega)
  have d1n : decide (n ≤ 12) = true := decide_eq_true hn
  have hw0 : IntKind.i64.wrap (n : Int) = n := wrap_small _ (by omega) (by omega)
  have HO := Lib.hid ho
  have HRD := Lib.hid hr
  have HCM := Lib.hid hcmp
  clear ho hr hcmp
  go_enter Tryz.func114, Tryz.ntmps114
  go_wp2_with fail
  go_loopw [1, 2, 3] (fun av bv lv wr => av = .int .i64 0 ∧ bv = .int .i64 n ∧ lv = .int .i64 L ∧ Hid (wr = w)) (fun _ _ _ _ => 0)
  case atStart => exact ⟨rfl, rfl, rfl, Lib.hid rfl⟩
  case round =>
    obtain ⟨rfl, rfl, rfl, HW⟩ := hrel
    go_wp2_with fail
    have hw := HW.out
    subst hw
    refine (insK_any V dec base g c n xs _ HRD.out HCM.out HO.out (by omega)).mono ?_
    rintro e w1 ⟨rfl, ys, h1, h2, h3⟩
    have H1 := Lib.hid h1
    have H2 := Lib.hid h2
    have H3 := Lib.hid h3
    clear h1 h2 h3
    go_wp2
    go_returns
    exact ⟨rfl, ys, H1.out, H2.out, H3.out⟩
set_option maxRecDepth 100000 in
set_option maxHeartbeats 4000000 in
theorem sortK_any (V : Int → Value) (dec : Int → List Int) (base g c n : Nat) (xs : List Int) (w : World) (hr : ReadsK V dec g xs w) (hcmp : ∀ x ∈ xs, ∀ y ∈ xs, (cmpL (dec x) (dec y) < 0 ↔ x < y)) (ho : w.ownsRow base 35 1 (.slice (some ⟨g, 0, none⟩) n c) n (xs.map V)) (hn : n ≤ 12) :
    Calls Tryz.prog 100 #[.slice (some ⟨g, 0, none⟩) n c, .func (.func 101) #[] #[]] w fun e w' =>
      e = .returned (.tuple #[]) ∧ ∃ ys, w'.ownsRow base 35 1 (.slice (some ⟨g, 0, none⟩) n c) n (ys.map V) ∧ w.grownBy w' (some g) ∧ SegB xs (max 1 n) ys := by
  have hw0 : IntKind.u64.wrap (n : Int) = n := by rw [IntKind.wrap_u64]; omega
  have HO := Lib.hid ho
  have HRD := Lib.hid hr
  have HCM := Lib.hid hcmp
  clear ho hr hcmp
  go_enter Tryz.func100, Tryz.ntmps100
  go_wp2_with fail
  refine (Tryz.bits_Len n w (by omega) (by omega)).mono ?_
  rintro e w0 ⟨rfl, rfl⟩
  go_wp2_with fail
  refine (pdqK_any V dec base g c n _ xs _ HRD.out HCM.out HO.out hn).mono ?_
  rintro e w1 ⟨rfl, ys, h1, h2, h3⟩
  have H1 := Lib.hid h1
  have H2 := Lib.hid h2
  have H3 := Lib.hid h3
  clear h1 h2 h3
  go_wp2
  go_returns
  exact ⟨rfl, ys, H1.out, H2.out, H3.out⟩
set_option maxRecDepth 100000 in
theorem sortK0_any (w : World) : Calls Tryz.prog 100 #[.slice none 0 0, .func (.func 101) #[] #[]] w fun e w' => e = .returned (.tuple #[]) ∧ w' = w := by
  go_enter Tryz.func100, Tryz.ntmps100
  go_wp2_with fail
  refine (Tryz.bits_Len 0 w (by omega) (by omega)).mono ?_
  rintro e w0 ⟨rfl, rfl⟩
  obtain ⟨L, hL⟩ : ∃ L, Lib.bitLen (0 : Int).toNat = L := ⟨_, rfl⟩
  rw [hL]
  clear hL
  go_wp2_with fail
  refine Calls.mono (R := fun e w' => e = .returned (.tuple #[]) ∧ w' = w0) ?_ ?_
  · go_enter Tryz.func114, Tryz.ntmps114
    go_wp2_with fail
    go_loopw [1, 2, 3] (fun av bv lv wr => av = .int .i64 0 ∧ bv = .int .i64 0 ∧ lv = .int .i64 L ∧ Hid (wr = w0)) (fun _ _ _ _ => 0)
    case atStart => exact ⟨rfl, rfl, rfl, Lib.hid rfl⟩
    case round =>
      obtain ⟨rfl, rfl, rfl, HW⟩ := hrel
      go_wp2_with fail
      have hw := HW.out
      subst hw
      refine Calls.mono (R := fun e w' => e = .returned (.tuple #[]) ∧ w' = wr) ?_ ?_
      · go_enter Tryz.func129, Tryz.ntmps129
        go_wp2_with fail
        go_loopw [8] (fun iv wi => iv = .int .i64 1 ∧ Hid (wi = wr)) (fun _ _ => 0)
        case atStart => exact ⟨rfl, Lib.hid rfl⟩
        case round =>
          obtain ⟨rfl, HW⟩ := hrel
          go_wp2
          go_returns
          exact ⟨rfl, HW.out⟩
      · rintro e w1 ⟨rfl, rfl⟩
        go_wp2
        go_returns
        exact ⟨rfl, rfl⟩
  · rintro e w1 ⟨rfl, rfl⟩
    go_wp2
    go_returns
    exact ⟨rfl, rfl⟩
end Go.Proofs.YtpfpjbglpibdoaaGreatDoor

/- Chapter 5: the numbers of a set. -/
namespace Go.Proofs.YtpfpjbglpibdoaaGreatDoor
open Go Go.RowKit Go.Oche Go.Proofs

def nInts (l : List Nat) : List Int := l.map fun (i : Nat) => (i : Int)
theorem nInts_snoc (l : List Nat) (z : Nat) : nInts (l ++ [z]) = nInts l ++ [(z : Int)] := by simp [nInts]
theorem bits_len (n s : Nat) : (bitsN n s).length ≤ n := Nat.le_trans (List.length_filter_le _ _) (by simp)
set_option maxRecDepth 100000 in
set_option maxHeartbeats 1000000 in
theorem numbers_any (s : Nat) (hs : s < 1024) (w : World) (hT : Tab5 w) : Calls Tryz.prog 99 #[.int .u64 (s : Int)] w fun e w' =>
    ∃ v, e = .returned v ∧ Below w.heap.size w w' ∧ w'.ownsRow w.heap.size 3 1 v (bitsN 10 s).length (ints (nInts (bitsN 10 s))) := by
  obtain ⟨N, hN⟩ : ∃ N, w.heap.size = N := ⟨_, rfl⟩
  rw [hN]
  have HT := Lib.hid hT
  have HN := Lib.hid hN
  have hbl := bits_len 10 s
  clear hT hN
  go_enter Tryz.func99, Tryz.ntmps99
  go_wp2
  go_loopw [0, 2] (fun sv lv wr => ∃ (t : Nat) (l : List Nat), sv = .int .u64 t ∧ t < 1024 ∧ Hid (Below w.heap.size w wr) ∧ Hid (bitsN 10 s = l ++ bitsN 10 t) ∧ Hid (wr.ownsRow N 3 1 lv l.length (ints (nInts l)))) (fun sv _ _ => (intOf sv).toNat)
  case atStart => exact ⟨s, [], rfl, hs, Lib.hid (Below.refl _ _), Lib.hid rfl, Lib.hid ⟨rfl, .inl ⟨rfl, rfl⟩⟩⟩
  case round =>
    obtain ⟨t, l, rfl, ht, HB, HL, HO⟩ := hrel
    obtain ⟨a, c, rfl⟩ := owns_form HO.out
    have hll : l.length ≤ 10 := by have := congrArg List.length HL.out; rw [List.length_append] at this; omega
    obtain ⟨wo, rfl⟩ : ∃ wo : World, wo = wr := ⟨_, rfl⟩
    by_cases h0 : 0 < t
    · have d0 : decide ((0 : Int) < (t : Int)) = true := decide_eq_true (by omega)
      have hcall := tz_any t ht h0 wo (HT.out.below HB.out)
      obtain ⟨e1, e2, e3, e4⟩ := low_all ⟨t, ht⟩ h0
      simp only at e1 e2 e3 e4
      obtain ⟨z, hz⟩ : ∃ z, (bitsN 10 t).headD 0 = z := ⟨_, rfl⟩
      rw [hz] at hcall e1 e4
      obtain ⟨t', ht'⟩ : ∃ t', t &&& (t - 1) = t' := ⟨_, rfl⟩
      rw [ht'] at e1 e2 e3
      have HL2 : Hid (bitsN 10 s = (l ++ [z]) ++ bitsN 10 t') := Lib.hid (by rw [HL.out, e1, List.append_assoc]; rfl)
      have hw1 : IntKind.u64.wrap ((t : Int) - 1) = (t : Int) - 1 := by rw [IntKind.wrap_u64]; omega
      have e5 : bits BinOp.and IntKind.u64 (t : Int) ((t : Int) - 1) = (t' : Int) := by rw [hw1] at e2; exact e2
      clear hz ht' e1 HL
      go_wp2_with fail
      refine hcall.mono ?_
      rintro e w1 ⟨rfl, rfl⟩
      have hNw : N ≤ w1.heap.size := by have := HB.out.size; have := HN.out; omega
      go_wp2_with (at_builtin; refine wpList_append1 rfl (.tmp 9) (.tmp 12) 35 rfl N 3 (.int .i64 0) 8 Tryz.underlying35 info_i5 rfl (.slice a l.length c) l.length _ rfl (HO.out.alloc _) w1.heap.size 0 1 (.int .i64 z) rfl (cell_new _ _ _) rfl (by omega) (by decide) (by simp; omega) ?_)
      intro g' c' w2 ho2 hg2 hat2
      have HB2 : Hid (Below w.heap.size w w2) := Lib.hid (HB.out.trans ((bThen (aB w1 (.cells #[.int .i64 (z : Int)] 3)) (Below.refl _ _)).mono HB.out.size |>.trans (below_grownBy hg2 (by have := HB.out.size; simp; omega) fun q hq => by rw [HN.out]; exact (HO.out.lt q hq).1)))
      have HO2 : Hid (w2.ownsRow N 3 1 (.slice (some ⟨g', 0, none⟩) (l.length + 1) c') (l ++ [z]).length (ints (nInts (l ++ [z])))) := Lib.hid (by
        rw [nInts_snoc, ints_append, List.length_append]; exact ho2)
      clear ho2 hg2 hat2 hcall
      go_wp2
      go_roundw
      case rel => exact ⟨t', l ++ [z], by simp, by omega, HB2, HL2, HO2⟩
      case measure => simp [intOf]; omega
    · obtain rfl : t = 0 := by omega
      have HL3 : Hid (bitsN 10 s = l) := Lib.hid (by
        rw [HL.out, show bitsN 10 0 = [] by decide]; simp)
      clear HL
      go_wp2
      go_returns
      exact ⟨_, rfl, by rw [← HN.out]; exact HB.out, by rw [HL3.out]; exact HO.out⟩
end Go.Proofs.YtpfpjbglpibdoaaGreatDoor

/- Chapter 5: the smallest sets, in plain Lean, and their row in memory. -/
namespace Go.Proofs.YtpfpjbglpibdoaaGreatDoor
open Go Go.RowKit Go.Oche Go.Proofs

structure LeastInv (n : Nat) (is : Nat → Bool) (k least : Nat) (ss : List Nat) : Prop where
  asc : ss.Pairwise (· < ·)
  mem : ∀ s, s ∈ ss ↔ s < k ∧ is s = true ∧ (bitsN n s).length = least
  low : ∀ s, s < k → is s = true → least ≤ (bitsN n s).length
  le : least ≤ n
  emp : ss = [] → least = n
section
variable {n : Nat} {is : Nat → Bool} {k least : Nat} {ss : List Nat}
theorem LeastInv.start : LeastInv n is 0 n [] := ⟨List.Pairwise.nil, fun s => ⟨fun h => (by simp at h), fun h => (by have := h.1; omega)⟩, fun s h => (by omega), Nat.le_refl _, fun _ => rfl⟩
theorem LeastInv.skip (h : LeastInv n is k least ss) (hk : least < (bitsN n k).length ∨ is k = false) : LeastInv n is (k + 1) least ss := by
  refine ⟨h.asc, fun s => ?_, fun s hs hi => ?_, h.le, h.emp⟩
  · rw [h.mem]
    constructor
    · rintro ⟨h1, h2⟩; exact ⟨by omega, h2⟩
    · rintro ⟨h1, h2, h3⟩
      refine ⟨?_, h2, h3⟩
      by_cases e : s = k
      · subst e
        rcases hk with hk | hk
        · omega
        · rw [hk] at h2; cases h2
      · omega
  · by_cases e : s = k
    · subst e
      rcases hk with hk | hk
      · omega
      · rw [hk] at hi; cases hi
    · exact h.low s (by omega) hi
theorem LeastInv.new (h : LeastInv n is k least ss) (hi : is k = true) (hl : (bitsN n k).length < least) : LeastInv n is (k + 1) (bitsN n k).length [k] := by
  refine ⟨by simp, fun s => ?_, fun s hs hs2 => ?_, bits_len n k, fun e => by cases e⟩
  · rw [List.mem_singleton]
    constructor
    · rintro rfl; exact ⟨by omega, hi, rfl⟩
    · rintro ⟨h1, h2, h3⟩
      by_cases e : s = k
      · exact e
      · have := h.low s (by omega) h2; omega
  · by_cases e : s = k
    · subst e; exact Nat.le_refl _
    · have := h.low s (by omega) hs2; omega
theorem LeastInv.more (h : LeastInv n is k least ss) (hi : is k = true) (hl : (bitsN n k).length = least) : LeastInv n is (k + 1) least (ss ++ [k]) := by
  refine ⟨List.pairwise_append.2 ⟨h.asc, by simp, fun a ha b hb => by rw [List.mem_singleton] at hb; subst hb; exact ((h.mem a).1 ha).1⟩, fun s => ?_, fun s hs hs2 => ?_, h.le, fun e => by simp at e⟩
  · rw [List.mem_append, List.mem_singleton, h.mem]
    constructor
    · rintro (⟨h1, h2⟩ | rfl)
      · exact ⟨by omega, h2⟩
      · exact ⟨by omega, hi, hl⟩
    · rintro ⟨h1, h2, h3⟩
      by_cases e : s = k
      · exact .inr e
      · exact .inl ⟨by omega, h2, h3⟩
  · by_cases e : s = k
    · subst e; omega
    · exact h.low s (by omega) hs2
theorem LeastInv.min (h : LeastInv n is k least ss) (x : List Nat) : MinS n is k x ↔ ∃ s ∈ ss, x = bitsN n s := by
  constructor
  · rintro ⟨⟨s, h1, h2, rfl⟩, h4⟩
    refine ⟨s, (h.mem s).2 ⟨h1, h2, ?_⟩, rfl⟩
    have hlow := h.low s h1 h2
    cases ss with
    | nil => have := h.emp rfl; have := bits_len n s; omega
    | cons t ss =>
      obtain ⟨a1, a2, a3⟩ := (h.mem t).1 (by simp)
      have := h4 t a1 a2
      omega
  · rintro ⟨s, hs, rfl⟩
    obtain ⟨a1, a2, a3⟩ := (h.mem s).1 hs
    exact ⟨⟨s, a1, a2, rfl⟩, fun t ht hi => by rw [a3]; exact h.low t ht hi⟩
end
def rev5 (s : Nat) : Nat := (if s.testBit 0 then 16 else 0) + (if s.testBit 1 then 8 else 0) + (if s.testBit 2 then 4 else 0) + (if s.testBit 3 then 2 else 0) + (if s.testBit 4 then 1 else 0)
def kS (s : Nat) : Int := 31 - (rev5 s : Int)
def iS (x : Int) : Nat := rev5 (31 - x).toNat
def decS5 (x : Int) : List Int := nInts (bitsN 10 (iS x))
theorem iS_all : ∀ s : Fin 32, iS (kS s.val) = s.val := by decide +kernel
theorem cmpS_all : ∀ s t : Fin 32, (bitsN 10 s.val).length = (bitsN 10 t.val).length → (cmpL (decS5 (kS s.val)) (decS5 (kS t.val)) < 0 ↔ kS s.val < kS t.val) := by decide +kernel
theorem smallS_all : ∀ s t : Fin 32, (bitsN 10 s.val).length = (bitsN 10 t.val).length → kS s.val < kS t.val → smallerN (bitsN 10 s.val) (bitsN 10 t.val) = true := by decide +kernel
theorem few_all : ∀ c : Fin 11, ((List.range 32).filter fun s => (bitsN 10 s).length == c.val).length ≤ 10 := by decide +kernel
theorem asc_nodup {ss : List Nat} (h : ss.Pairwise (· < ·)) : ss.Nodup := h.imp fun h => by omega
theorem LeastInv.few {n : Nat} {is : Nat → Bool} {k least : Nat} {ss : List Nat} (h : LeastInv n is k least ss) (hn : n ≤ 5) (hk : k ≤ 2 ^ n) : ss.length ≤ 10 := by
  have h5 : 2 ^ n ≤ 32 := Nat.le_trans (Nat.pow_le_pow_right (by decide) hn) (by decide)
  have hle := h.le
  refine Nat.le_trans (List.Nodup.length_le_of_subset (asc_nodup h.asc) fun s hs => ?_) (few_all ⟨least, by omega⟩)
  obtain ⟨a1, a2, a3⟩ := (h.mem s).1 hs
  rw [List.mem_filter, List.mem_range]
  refine ⟨by omega, ?_⟩
  rw [bits_few ⟨n, by omega⟩ ⟨s, by omega⟩ (by simp only; omega), a3]
  simp
theorem LeastInv.done {n : Nat} {is : Nat → Bool} {least : Nat} {ss : List Nat} (h : LeastInv n is (2 ^ n) least ss) (hn : n ≤ 5) {ys : List Int} (hp : ys.Perm (ss.map kS)) (hs : ∀ p q, p < q → q < max 1 ss.length → at0 ys p ≤ at0 ys q) :
    IsMin n is (2 ^ n) (ys.map fun y => bitsN n (iS y)) := by
  have h5 : 2 ^ n ≤ 32 := Nat.le_trans (Nat.pow_le_pow_right (by decide) hn) (by decide)
  have hlt : ∀ s ∈ ss, s < 32 ∧ s < 2 ^ n := fun s hs => by have := ((h.mem s).1 hs).1; omega
  have hyl : ys.length = ss.length := by have := hp.length_eq; simpa using this
  have hmem : ∀ y, y ∈ ys ↔ ∃ s ∈ ss, kS s = y := fun y => by rw [hp.mem_iff, List.mem_map]
  have hnd : (ss.map kS).Nodup := List.Pairwise.map kS (R := fun a b => a < b ∧ a < 32 ∧ b < 32) (fun a b hab e => by
    have e1 := iS_all ⟨a, hab.2.1⟩
    have e2 := iS_all ⟨b, hab.2.2⟩
    simp only at e1 e2
    rw [e, e2] at e1
    omega) (h.asc.imp_of_mem fun {a b} ha hb hab => ⟨hab, (hlt a ha).1, (hlt b hb).1⟩)
  have hnd2 : ys.Nodup := hp.nodup_iff.2 hnd
  refine ⟨?_, fun x => ?_⟩
  · rw [List.pairwise_map]
    refine List.pairwise_iff_getElem.2 fun p q hp' hq' hpq => ?_
    have hle := hs p q hpq (by omega)
    rw [at0_eq hp', at0_eq hq'] at hle
    have hne : ys[p] ≠ ys[q] := fun e => by have := (List.getElem_inj hnd2).1 e; omega
    obtain ⟨s, hs1, e1⟩ := (hmem ys[p]).1 (List.getElem_mem _)
    obtain ⟨t, ht1, e2⟩ := (hmem ys[q]).1 (List.getElem_mem _)
    rw [← e1, ← e2] at hle hne ⊢
    rw [show iS (kS s) = s from iS_all ⟨s, (hlt s hs1).1⟩, show iS (kS t) = t from iS_all ⟨t, (hlt t ht1).1⟩]
    have b1 := bits_few ⟨n, by omega⟩ ⟨s, by have := (hlt s hs1).1; omega⟩ (hlt s hs1).2
    have b2 := bits_few ⟨n, by omega⟩ ⟨t, by have := (hlt t ht1).1; omega⟩ (hlt t ht1).2
    simp only at b1 b2
    rw [← b1, ← b2]
    refine smallS_all ⟨s, (hlt s hs1).1⟩ ⟨t, (hlt t ht1).1⟩ ?_ (by simp only; omega)
    simp only
    rw [b1, b2, ((h.mem s).1 hs1).2.2, ((h.mem t).1 ht1).2.2]
  · rw [h.min, List.mem_map]
    constructor
    · rintro ⟨y, hy, rfl⟩
      obtain ⟨s, hs1, rfl⟩ := (hmem y).1 hy
      exact ⟨s, hs1, by rw [show iS (kS s) = s from iS_all ⟨s, (hlt s hs1).1⟩]⟩
    · rintro ⟨s, hs1, rfl⟩
      exact ⟨kS s, (hmem _).2 ⟨s, hs1, rfl⟩, by rw [show iS (kS s) = s from iS_all ⟨s, (hlt s hs1).1⟩]⟩
theorem Sl.of_ownsB {base n : Nat} {e : TypeId} {w : World} {v : Value} {xs : List Value} (h : w.ownsRow base e 1 v n xs) : Sl (fun k => base ≤ k ∧ v.ownBlock = some k) w v xs := by
  obtain ⟨hl, h | ⟨g, cap, cur, rfl, hb, hg, hn, hm, hs, ht⟩⟩ := h
  · obtain ⟨rfl, rfl⟩ := h
    have : xs = [] := List.eq_nil_of_length_eq_zero (by simpa using hl)
    subst this
    exact Sl.nil _ _
  · refine ⟨some ⟨g, 0, none⟩, cap, by simp [hl], by omega, hm, fun i x hx => ⟨g, 0, rfl, ⟨hb, rfl⟩, ?_⟩⟩
    have hi : i < xs.length := (List.getElem?_eq_some_iff.1 hx).1
    simp only [World.cell?, hg, Nat.zero_add]
    rw [← ht, List.getElem?_take] at hx
    split at hx
    · simpa using hx
    · cases hx
structure SetsRow (N : Nat) (V : Int → Value) (ss : List Nat) (v : Value) (W : World) : Prop where
  row : W.ownsRow N 35 1 v ss.length ((ss.map kS).map V)
  reads : ∀ s ∈ ss, Sl (fun q => N ≤ q ∧ v.ownBlock ≠ some q) W (V (kS s)) (ints (nInts (bitsN 10 s)))
section
variable {N : Nat} {V : Int → Value} {ss : List Nat} {v : Value} {W W' : World}
theorem SetsRow.zero (N : Nat) (V : Int → Value) (W : World) : SetsRow N V [] (.slice none 0 0) W := ⟨World.ownsRow_nil _ _ _ _, fun s hs => by cases hs⟩
theorem SetsRow.chg {O : Nat → Prop} (h : SetsRow N V ss v W) (hc : Chg O W W') (hO : ∀ q, O q → q < N) : SetsRow N V ss v W' :=
  ⟨ownsN_kept h.row fun g hg => hc.block g (h.row.lt g hg).2 fun e => by have := hO g e; have := (h.row.lt g hg).1; omega, fun s hs => (h.reads s hs).cells fun b o hb hs2 => by
    obtain ⟨x, hx⟩ := Option.isSome_iff_exists.1 hs2
    exact World.cell?_of_block (w := W) (hc.block b (World.block_lt_of_cell? W _ hx) fun e => by have := hO b e; have := hb.1; omega)⟩
theorem SetsRow.below (h : SetsRow N V ss v W) (hb : Below W.heap.size W W') : SetsRow N V ss v W' := h.chg (O := fun _ => False) (Chg.below hb) fun _ e => e.elim
theorem SetsRow.add {g c k : Nat} {u : Value} (h : SetsRow N V ss v W) (hk : ∀ s ∈ ss, s < k) (hk32 : k < 32) (hu : Sl (fun q => N ≤ q ∧ v.ownBlock ≠ some q ∧ q < W.heap.size) W u (ints (nInts (bitsN 10 k))))
    (ho : W'.ownsRow N 35 1 (.slice (some ⟨g, 0, none⟩) (ss.length + 1) c) (ss.length + 1) ((ss.map kS).map V ++ [u])) (hg : W.grownBy W' v.ownBlock) (hat : v.ownBlock = some g ∨ W.heap.size ≤ g) :
    SetsRow N (fun x => if x = kS k then u else V x) (ss ++ [k]) (.slice (some ⟨g, 0, none⟩) (ss.length + 1) c) W' := by
  have hne : ∀ s ∈ ss, kS s ≠ kS k := fun s hs e => by
    have e1 := iS_all ⟨s, by have := hk s hs; omega⟩
    have e2 := iS_all ⟨k, hk32⟩
    simp only at e1 e2
    rw [e, e2] at e1
    have := hk s hs
    omega
  have keep : ∀ (x : Value) (l : List Value) (T : Nat → Prop), (∀ q, T q → N ≤ q ∧ v.ownBlock ≠ some q) → Sl T W x l → Sl (fun q => N ≤ q ∧ (Value.slice (some ⟨g, 0, none⟩) (ss.length + 1) c).ownBlock ≠ some q) W' x l := fun x l T hT hsl => by
    refine ((hsl.lt).cells fun b o hb hs2 => ?_).mono fun q hq => ⟨(hT q hq.1).1, fun e => ?_⟩
    · obtain ⟨y, hy⟩ := Option.isSome_iff_exists.1 hs2
      exact World.cell?_of_block (w := W) (hg.block b hb.2 fun e => (hT b hb.1).2 e.symm)
    · have e2 : g = q := by simpa [Value.ownBlock] using e
      subst e2
      rcases hat with h1 | h1
      · exact (hT g hq.1).2 h1
      · have := hq.2; omega
  refine ⟨?_, fun s hs => ?_⟩
  · have e : ((ss ++ [k]).map kS).map (fun x => if x = kS k then u else V x) = (ss.map kS).map V ++ [u] := by
      rw [List.map_append, List.map_append]
      congr 1
      · rw [List.map_map, List.map_map]
        refine List.map_congr_left fun s hs => ?_
        simp only [Function.comp_apply, if_neg (hne s hs)]
      · simp
    rw [e, List.length_append]
    exact ho
  · rcases List.mem_append.1 hs with hs | hs
    · simp only [if_neg (hne s hs)]
      exact keep _ _ _ (fun q hq => hq) (h.reads s hs)
    · rw [List.mem_singleton] at hs
      subst hs
      simp only [if_true]
      exact keep _ _ _ (fun q hq => ⟨hq.1, hq.2.1⟩) hu
theorem SetsRow.apart {u : Value} {M m : Nat} {xs : List Value} (h : SetsRow N V ss v W) (ho : W.ownsRow M 3 1 u m xs) (hM : N ≤ M) : Sl (fun q => N ≤ q ∧ v.ownBlock ≠ some q ∧ q < W.heap.size) W u xs :=
  ((Sl.of_ownsB ho).lt).mono fun q hq => ⟨by have := hq.1.1; omega, fun e => by
    rcases ownsN_ne h.row ho (by decide) with z | z
    · rw [z] at e; cases e
    · exact z (by rw [e, hq.1.2]), hq.2⟩
end
end Go.Proofs.YtpfpjbglpibdoaaGreatDoor

/- Chapter 5: the smallest sets with some property. -/
namespace Go.Proofs.YtpfpjbglpibdoaaGreatDoor
open Go Go.RowKit Go.Oche Go.Proofs

theorem info_sl5 : (Tryz.prog.info? 35).map (fun i => (i.zero, i.size, i.bytes)) = some (some (.slice none 0 0), 1, 24) := by kernel_rfl
structure PredOk (l : Lg) (w0 : World) (gb hb kb n fn : Nat) (lb : Array Value) (isN : Nat → Bool) : Prop where
  enters : Enters Tryz.prog fn
  run : ∀ (F : Nat → Prop) (s : Nat) (W : World), s < 2 ^ n → GameAt l F W gb hb kb → Chg (fun q => q = kb) w0 W → (∀ q, F q → q < W.heap.size) →
    Calls Tryz.prog fn (#[.int .u64 (s : Int)] ++ lb) W fun e W' => e = .returned (.bool (isN s)) ∧ GameAt l F W' gb hb kb ∧ Chg (fun q => q = kb) W W'
structure SmSt (l : Lg) (w0 : World) (gb hb kb n : Nat) (F0 : Nat → Prop) (isN : Nat → Bool) (k least : Nat) (ss : List Nat) (V : Int → Value) (v : Value) (F : Nat → Prop) (W : World) : Prop where
  inv : LeastInv n isN k least ss
  row : SetsRow w0.heap.size V ss v W
  game : GameAt l F W gb hb kb
  chg : Chg (fun q => q = kb) w0 W
  sub : ∀ q, F0 q → F q
  lt : ∀ q, F q → q < W.heap.size
  own : ∀ g, v.ownBlock = some g → F g
set_option maxRecDepth 100000 in
set_option maxHeartbeats 2000000 in
theorem smallest_any {F0 : Nat → Prop} {gb hb kb : Nat} (l : Lg) (n fn : Nat) (lb : Array Value) (isN : Nat → Bool) (hn : n ≤ 5) (w : World) (hp : PredOk l w gb hb kb n fn lb isN) (hG : GameAt l F0 w gb hb kb) (hF0 : ∀ q, F0 q → q < w.heap.size) (hT : Tab5 w) (hk1 : kb ≠ 1) :
    Calls Tryz.prog 66 #[.int .i64 (n : Int), .func (.func fn) #[] lb] w fun e w' => ∃ v out, e = .returned v ∧ IsMin n isN (2 ^ n) out ∧ SlSl (fun q => w.heap.size ≤ q) w' v (out.map nInts) ∧ GameAt l F0 w' gb hb kb ∧ Chg (fun q => q = kb) w w' := by
  obtain ⟨m, hm⟩ : ∃ m, 2 ^ n = m := ⟨_, rfl⟩
  have hm32 : 1 ≤ m ∧ m ≤ 32 := ⟨by rw [← hm]; exact Nat.one_le_two_pow, by rw [← hm]; exact Nat.le_trans (Nat.pow_le_pow_right (by decide) hn) (by decide)⟩
  have hall := all_any n (by omega) w
  rw [hm] at hall
  have hma : IntKind.u64.wrap (((m - 1 : Nat) : Int) + 1) = (m : Int) := by rw [IntKind.wrap_u64]; omega
  have hkl := hG.lt
  have HS0 : Hid (SmSt l w gb hb kb n F0 isN 0 n [] (fun _ => undef) (.slice none 0 0) F0 w) := Lib.hid
    ⟨LeastInv.start, SetsRow.zero _ _ _, hG, Chg.refl, fun _ h => h, hF0, fun g h => by simp [Value.ownBlock] at h⟩
  have HM := Lib.hid hm
  have HP := Lib.hid hp
  have HF0 := Lib.hid hF0
  have HT := Lib.hid hT
  have HFF : Hid (F0 gb ∧ F0 hb ∧ F0 kb) := Lib.hid ⟨hG.fg, hG.fh, hG.fk⟩
  clear hm hp hF0 hT hG
  go_enter Tryz.func66, Tryz.ntmps66
  go_wp2_with fail
  refine hall.mono ?_
  rintro e w1 ⟨rfl, rfl⟩
  clear hall
  go_wp2
  go_loopw [4, 5, 12] (fun v lv sv wr => ∃ (k least : Nat) (ss : List Nat) (V : Int → Value) (F : Nat → Prop), lv = .int .i64 least ∧ sv = .int .u64 k ∧ k ≤ m ∧ Hid (SmSt l w1 gb hb kb n F0 isN k least ss V v F wr)) (fun _ _ sv _ => m - (intOf sv).toNat)
  case atStart => exact ⟨0, n, [], fun _ => undef, F0, rfl, rfl, by omega, HS0⟩
  case round =>
    clear HS0
    obtain ⟨k, least, ss, V, F, rfl, rfl, hk, HS⟩ := hrel
    obtain ⟨wo, rfl⟩ : ∃ wo : World, wo = wr := ⟨_, rfl⟩
    obtain ⟨va, vc, rfl⟩ := owns_form HS.out.row.row
    have hle := HS.out.inv.le
    by_cases hlt : k < m
    · have hbn := bits_few ⟨n, by omega⟩ ⟨k, by omega⟩ (by simp only; rw [HM.out]; exact hlt)
      simp only at hbn
      have hones := ones_any k (by omega) wo
      rw [hbn] at hones
      obtain ⟨c, hc⟩ : ∃ c, (bitsN n k).length = c := ⟨_, rfl⟩
      rw [hc] at hones
      have hcn : c ≤ n := by rw [← hc]; exact bits_len n k
      have HC := Lib.hid hc
      have HBN := Lib.hid hbn
      have hwk : IntKind.u64.wrap ((k : Int) + 1) = (k : Int) + 1 := by rw [IntKind.wrap_u64]; omega
      clear hc hbn
      go_wp2_with fail
      refine hones.mono ?_
      rintro e w2 ⟨rfl, rfl⟩
      clear hones
      by_cases hgt : least < c
      · have HS2 : Hid (SmSt l w1 gb hb kb n F0 isN (k + 1) least ss V (.slice va ss.length vc) F w2) := Lib.hid
          ⟨HS.out.inv.skip (.inl (by rw [HC.out]; exact hgt)), HS.out.row, HS.out.game, HS.out.chg, HS.out.sub, HS.out.lt, HS.out.own⟩
        have d1 : decide (least < c) = true := decide_eq_true hgt
        have d1i : decide ((least : Int) < (c : Int)) = true := decide_eq_true (by omega)
        clear HS
        go_wp2
        go_roundw
        case rel => exact ⟨k + 1, least, ss, V, F, rfl, by go_num, by omega, HS2⟩
        case measure => simp [intOf]; omega
      · have d1 : decide (least < c) = false := decide_eq_false hgt
        have d1i : decide ((least : Int) < (c : Int)) = false := decide_eq_false (by omega)
        have hen := HP.out.enters
        unfold Enters at hen
        have hrun := HP.out.run F k w2 (by rw [HM.out]; exact hlt) HS.out.game HS.out.chg HS.out.lt
        go_wp2_with fail
        refine hrun.mono ?_
        rintro e w3 ⟨rfl, hG3, hC3⟩
        have HROW := Lib.hid (HS.out.row.chg hC3 fun q e => by rw [e]; exact hkl.2.2)
        have HG3 := Lib.hid hG3
        have HC3 := Lib.hid (HS.out.chg.trans hC3)
        have HT3 := Lib.hid (HT.out.chg HC3.out (fun e => hk1 e.symm))
        have hsz3 := HC3.out.size
        have hsz23 := hC3.size
        clear hen hrun hG3 hC3
        cases his : isN k
        · have HS3 : Hid (SmSt l w1 gb hb kb n F0 isN (k + 1) least ss V (.slice va ss.length vc) F w3) := Lib.hid
            ⟨HS.out.inv.skip (.inr his), HROW.out, HG3.out, HC3.out, HS.out.sub, fun q hq => by have := HS.out.lt q hq; omega, HS.out.own⟩
          go_wp2
          go_roundw
          case rel => exact ⟨k + 1, least, ss, V, F, rfl, by go_num, by omega, HS3⟩
          case measure => simp [intOf]; omega
        · have HIS := Lib.hid his
          clear his
          by_cases hnew : c < least
          · have d2 : decide (c < least) = true := decide_eq_true hnew
            have d2i : decide ((c : Int) < (least : Int)) = true := decide_eq_true (by omega)
            have hk' : ∀ s ∈ ([] : List Nat), s < k := fun s hs => by cases hs
            have hsl : ([] : List Nat).length ≤ 10 := by decide
            have HR3 := Lib.hid (SetsRow.zero w1.heap.size V w3)
            have HKK := Lib.hid hk'
            clear hk'
            have hnum := numbers_any k (by omega) w3 (HT3.out)
            go_wp2_with fail
            refine hnum.mono ?_
            rintro e w4 ⟨u, rfl, hb4, ho4⟩
            obtain ⟨ua, uc, rfl⟩ := owns_form ho4
            have HR4 := Lib.hid (HR3.out.below hb4)
            have HU4 := Lib.hid (SetsRow.apart HR4.out ho4 hsz3)
            have HG4 := Lib.hid (HG3.out.below hb4)
            have HC4 := Lib.hid (HC3.out.thenB hb4)
            have hsz4 := hb4.size
            clear hnum hb4 ho4 HR3
            go_wp2_with (at_builtin; refine wpList_append1 rfl (.tmp 30) (.tmp 33) 66 rfl w1.heap.size 35 (.slice none 0 0) 24 Tryz.underlying66 info_sl5 rfl (.slice none 0 0) 0 _ rfl (HR4.out.row.alloc _) w4.heap.size 0 1 (.slice ua (bitsN 10 k).length uc) rfl (cell_new _ _ _) rfl (by omega) (by decide) (by simp; omega) ?_)
            intro g' c' w5 ho5 hg5 hat5
            have hba := aB w4 (.cells #[.slice ua (bitsN 10 k).length uc] 35)
            have hR5 := (HR4.out.below hba).add (g := g') (c := c') (k := k) HKK.out (by omega) ((HU4.out.below hba).mono fun q hq => ⟨hq.1, hq.2.1, by have := hba.size; omega⟩) ho5 hg5 (hat5.elim .inl fun e => .inr (by rw [e]; simp))
            have hgl := hR5.row.lt g' (by simp [Value.ownBlock])
            have HS5 : Hid (SmSt l w1 gb hb kb n F0 isN (k + 1) c ([] ++ [k]) (fun x => if x = kS k then .slice ua (bitsN 10 k).length uc else V x) (.slice (some ⟨g', 0, none⟩) (0 + 1) c') (fun q => F q ∨ q = g') w5) := Lib.hid
              ⟨by have := HS.out.inv.new HIS.out (by rw [HC.out]; exact hnew); rw [HC.out] at this; exact this, hR5, ((HG4.out.below hba).more (F' := fun q => F q ∨ q = g') (fun q hq => hq.elim .inl fun e => by
                  rcases hat5 with z | z
                  · left; rw [e]; cases z
                  · right; rw [e, z]; simp) (fun q hq => .inl hq)).grown hg5 (fun x hx => by
                  have h1 := (HR4.out.row.lt x hx).1
                  exact ⟨by omega, by omega, by omega, .inl (.inl (by cases hx))⟩),
                (HC4.out.thenB hba).thenG hg5 (fun x hx hlt => by have := (HR4.out.row.lt x hx).1; omega), fun q hq => .inl (HS.out.sub q hq), fun q hq => by
                  rcases hq with hq | hq
                  · have h1 := HS.out.lt q hq; have h2 := hg5.size; have h3 := hba.size; omega
                  · rw [hq]; exact hgl.2, fun g hg => .inr (by simpa [Value.ownBlock] using hg.symm)⟩
            clear hba hR5 hgl ho5 hg5 hat5 HR4 HU4 HG4 HC4
            go_wp2
            go_roundw
            case rel => exact ⟨k + 1, c, [] ++ [k], _, _, rfl, by go_num, by omega, HS5⟩
            case measure => simp [intOf]; omega
          · have d2 : decide (c < least) = false := decide_eq_false hnew
            have d2i : decide ((c : Int) < (least : Int)) = false := decide_eq_false (by omega)
            have hk' : ∀ s ∈ (ss : List Nat), s < k := fun s hs => ((HS.out.inv.mem s).1 hs).1
            have hsl : (ss : List Nat).length ≤ 10 := by have := HS.out.inv.few hn (by rw [HM.out]; omega); omega
            have HR3 := Lib.hid (HROW.out)
            have HKK := Lib.hid hk'
            clear hk'
            have hnum := numbers_any k (by omega) w3 (HT3.out)
            go_wp2_with fail
            refine hnum.mono ?_
            rintro e w4 ⟨u, rfl, hb4, ho4⟩
            obtain ⟨ua, uc, rfl⟩ := owns_form ho4
            have HR4 := Lib.hid (HR3.out.below hb4)
            have HU4 := Lib.hid (SetsRow.apart HR4.out ho4 hsz3)
            have HG4 := Lib.hid (HG3.out.below hb4)
            have HC4 := Lib.hid (HC3.out.thenB hb4)
            have hsz4 := hb4.size
            clear hnum hb4 ho4 HR3
            go_wp2_with (at_builtin; refine wpList_append1 rfl (.tmp 30) (.tmp 33) 66 rfl w1.heap.size 35 (.slice none 0 0) 24 Tryz.underlying66 info_sl5 rfl (.slice va ss.length vc) ss.length _ rfl (HR4.out.row.alloc _) w4.heap.size 0 1 (.slice ua (bitsN 10 k).length uc) rfl (cell_new _ _ _) rfl (by omega) (by decide) (by simp; omega) ?_)
            intro g' c' w5 ho5 hg5 hat5
            have hba := aB w4 (.cells #[.slice ua (bitsN 10 k).length uc] 35)
            have hR5 := (HR4.out.below hba).add (g := g') (c := c') (k := k) HKK.out (by omega) ((HU4.out.below hba).mono fun q hq => ⟨hq.1, hq.2.1, by have := hba.size; omega⟩) (by rw [List.map_map]; exact ho5) hg5 (hat5.elim .inl fun e => .inr (by rw [e]; simp))
            have hgl := hR5.row.lt g' (by simp [Value.ownBlock])
            have HS5 : Hid (SmSt l w1 gb hb kb n F0 isN (k + 1) least (ss ++ [k]) (fun x => if x = kS k then .slice ua (bitsN 10 k).length uc else V x) (.slice (some ⟨g', 0, none⟩) (ss.length + 1) c') (fun q => F q ∨ q = g') w5) := Lib.hid
              ⟨HS.out.inv.more HIS.out (by rw [HC.out]; omega), hR5, ((HG4.out.below hba).more (F' := fun q => F q ∨ q = g') (fun q hq => hq.elim .inl fun e => by
                  rcases hat5 with z | z
                  · left; rw [e]; exact HS.out.own g' z
                  · right; rw [e, z]; simp) (fun q hq => .inl hq)).grown hg5 (fun x hx => by
                  have h1 := (HR4.out.row.lt x hx).1
                  exact ⟨by omega, by omega, by omega, .inl (.inl (HS.out.own x hx))⟩),
                (HC4.out.thenB hba).thenG hg5 (fun x hx hlt => by have := (HR4.out.row.lt x hx).1; omega), fun q hq => .inl (HS.out.sub q hq), fun q hq => by
                  rcases hq with hq | hq
                  · have h1 := HS.out.lt q hq; have h2 := hg5.size; have h3 := hba.size; omega
                  · rw [hq]; exact hgl.2, fun g hg => .inr (by simpa [Value.ownBlock] using hg.symm)⟩
            clear hba hR5 hgl ho5 hg5 hat5 HR4 HU4 HG4 HC4
            go_wp2
            go_roundw
            case rel => exact ⟨k + 1, least, ss ++ [k], _, _, rfl, by go_num, by omega, HS5⟩
            case measure => simp [intOf]; omega
    · obtain rfl : k = m := by omega
      have hfew := HS.out.inv.few hn (by rw [HM.out]; exact Nat.le_refl _)
      have hinv := HS.out.inv
      rw [← HM.out] at hinv
      have HINV := Lib.hid hinv
      have hss : ∀ s ∈ ss, s < 32 ∧ s < 2 ^ n := fun s hs => by have := ((hinv.mem s).1 hs).1; rw [HM.out] at this ⊢; omega
      have HSS := Lib.hid hss
      clear hinv hss
      rcases HS.out.row.row.2 with ⟨hnil, h0⟩ | ⟨g, cap, cur, hsome, -⟩
      · simp only [Value.slice.injEq] at hnil
        obtain ⟨rfl, h00, rfl⟩ := hnil
        have hss0 : ss = [] := List.eq_nil_of_length_eq_zero h00
        subst hss0
        have HMIN : Hid (IsMin n isN (2 ^ n) []) := Lib.hid (HINV.out.done hn (ys := []) (by simp) (fun p q h1 h2 => by simp at h2; omega))
        have hsort := sortK0_any wo
        go_wp2_with fail
        refine hsort.mono ?_
        rintro e w2 ⟨rfl, rfl⟩
        go_wp2
        go_returns
        exact ⟨_, [], rfl, HMIN.out, ⟨[], Sl.nil _ _, rfl, fun i hi => by simp at hi⟩, HS.out.game.less HS.out.sub HFF.out.1 HFF.out.2.1 HFF.out.2.2, HS.out.chg⟩
      · cases hsome
        have hsort := sortK_any V decS5 w1.heap.size g vc ss.length (ss.map kS) wo (fun x hx => by
            obtain ⟨s, hs, rfl⟩ := List.mem_map.1 hx
            have h1 := HS.out.row.reads s hs
            unfold decS5
            rw [show iS (kS s) = s from iS_all ⟨s, (HSS.out s hs).1⟩]
            exact h1.mono fun q hq e => hq.2 (by rw [e]; rfl)) (fun x hx y hy => by
            obtain ⟨s, hs, rfl⟩ := List.mem_map.1 hx
            obtain ⟨t, ht, rfl⟩ := List.mem_map.1 hy
            have b1 := bits_few ⟨n, by omega⟩ ⟨s, by have := (HSS.out s hs).1; omega⟩ (HSS.out s hs).2
            have b2 := bits_few ⟨n, by omega⟩ ⟨t, by have := (HSS.out t ht).1; omega⟩ (HSS.out t ht).2
            simp only at b1 b2
            exact cmpS_all ⟨s, (HSS.out s hs).1⟩ ⟨t, (HSS.out t ht).1⟩ (by simp only; rw [b1, b2, ((HINV.out.mem s).1 hs).2.2, ((HINV.out.mem t).1 ht).2.2])) HS.out.row.row (by omega)
        go_wp2_with fail
        refine hsort.mono ?_
        rintro e w2 ⟨rfl, ys, ho2, hg2, hseg⟩
        have hyl : ys.length = ss.length := by have := hseg.perm.length_eq; simpa using this
        have HMIN := Lib.hid (HINV.out.done hn (ys := ys) hseg.perm hseg.asc)
        have HSL : Hid (SlSl (fun q => w1.heap.size ≤ q) w2 (.slice (some ⟨g, 0, none⟩) ss.length vc) ((ys.map fun y => bitsN n (iS y)).map nInts)) := Lib.hid (by
          refine ⟨ys.map V, Sl.of_owns ho2, by simp, fun i hi => ?_⟩
          simp only [List.length_map] at hi
          obtain ⟨s, hs, e1⟩ := List.mem_map.1 (hseg.perm.mem_iff.1 (List.getElem_mem hi))
          refine ⟨V ys[i], by simp [hi], ?_⟩
          have h1 := HS.out.row.reads s hs
          have b1 := bits_few ⟨n, by omega⟩ ⟨s, by have := (HSS.out s hs).1; omega⟩ (HSS.out s hs).2
          simp only at b1
          simp only [List.getElem_map]
          rw [← e1, show iS (kS s) = s from iS_all ⟨s, (HSS.out s hs).1⟩, ← b1]
          refine (h1.cells fun b o hb hs2 => ?_).mono fun q hq => hq.1
          obtain ⟨x, hx⟩ := Option.isSome_iff_exists.1 hs2
          exact World.cell?_of_block (w := wo) (hg2.block b (World.block_lt_of_cell? wo _ hx) fun e => hb.2 e.symm))
        have HG2 : Hid (GameAt l F0 w2 gb hb kb) := Lib.hid ((HS.out.game.grown hg2 (fun x hx => by
          cases hx
          have h1 := (HS.out.row.row.lt g rfl).1
          exact ⟨by omega, by omega, by omega, .inl (HS.out.own g rfl)⟩)).less HS.out.sub HFF.out.1 HFF.out.2.1 HFF.out.2.2)
        have HC2 : Hid (Chg (fun q => q = kb) w1 w2) := Lib.hid (HS.out.chg.thenG hg2 fun x hx hlt => by cases hx; have h1 := (HS.out.row.row.lt g rfl).1; omega)
        clear hsort ho2 hg2 hseg
        go_wp2
        go_returns
        exact ⟨_, _, rfl, HMIN.out, HSL.out, HG2.out, HC2.out⟩
end Go.Proofs.YtpfpjbglpibdoaaGreatDoor

/- Chapter 5: the properties of sets of reports; Blame. -/
namespace Go.Proofs.YtpfpjbglpibdoaaGreatDoor
open Go Go.RowKit Go.Oche Go.Proofs

set_option maxRecDepth 100000 in
set_option maxHeartbeats 2000000 in
theorem blame1_ok {S : Nat → Prop} {gb hb kb : Nat} (l : Lg) (hv : Valid l) (list : List Rp) (lv : Value) (r : Nat) (w0 : World) (hl : SlN 3 S w0 lv (list.map rpRow)) (hS : ¬ S kb) (hlen : list.length ≤ 5)
    (hr : w0.heap[r]? = some (.cells #[.pointer (some ⟨gb, 0, none⟩), lv] 126 (0, 0))) (hrk : r ≠ kb) : PredOk l w0 gb hb kb list.length 67 #[.pointer (some ⟨r, 0, none⟩)] (isBlame l list) := by
  refine ⟨enters_of Tryz.func67 (by kernel_rfl) rfl, fun F s W hs hG hC hF => ?_⟩
  obtain ⟨a, cap, rfl, h2, h3⟩ := hl.form
  simp only [List.length_map] at *
  unfold maxLen at h3
  obtain ⟨n, hn⟩ : ∃ n, list.length = n := ⟨_, rfl⟩
  have hlW : SlN 3 S W (.slice a list.length cap) (list.map rpRow) := hl.chg hC fun q hq e => hS (by rw [← e]; exact hq)
  have hs10 : s < 1024 := Nat.lt_of_lt_of_le hs (Nat.le_trans (Nat.pow_le_pow_right (by decide) hlen) (by decide))
  have hcan := can_any l hv list (.slice a list.length cap) s hs10 (by omega) W hlW hS hG hF
  obtain ⟨res, hres⟩ : ∃ b, canL l list (fun i => s.testBit i) = b := ⟨_, rfl⟩
  have hib : isBlame l list s = !res := by unfold isBlame; rw [hres]
  rw [hib]
  rw [hres] at hcan
  have hk := (hC.block r (Array.getElem?_eq_some_iff.1 hr).1 hrk).trans hr
  rw [hn] at hk hcan
  have b0 : W.cell? ⟨r, 0, none⟩ = some (.pointer (some ⟨gb, 0, none⟩)) := by rw [cell_of_heap hk]; rfl
  have b1 : W.cell? ⟨r, 1, none⟩ = some (.slice a n cap) := by rw [cell_of_heap hk]; rfl
  clear hl hlW hr hk hG hC hF hib hres hn hs h2
  show Calls Tryz.prog 67 #[.int .u64 (s : Int), .pointer (some ⟨r, 0, none⟩)] W _
  go_enter Tryz.func67, Tryz.ntmps67
  go_wp2_with fail
  refine hcan.mono ?_
  rintro e w' ⟨rfl, hG, hC⟩
  have HG := Lib.hid hG
  have HC := Lib.hid hC
  clear hG hC hcan b0 b1
  go_wp2
  go_returns
  exact ⟨rfl, HG.out, HC.out⟩
def blameE (l : Lg) (list : List Rp) : Int := checkR l list 10
set_option maxRecDepth 100000 in
set_option maxHeartbeats 2000000 in
theorem blame_any {S S' : Nat → Prop} (l : Lg) (bv lv : Value) (list : List Rp) (w : World) (hs : Sl S w bv (ints l.beds)) (hbd : BedsIn l) (hl : SlN 3 S' w lv (list.map rpRow)) (hlen : list.length ≤ 5 ∨ 10 < list.length) (hT : Tab5 w) :
    Calls Tryz.prog 29 #[legV l bv, lv] w fun e w' => ∃ v out, e = .returned (.tuple #[v, .int .i64 (blameE l list)]) ∧ Below w.heap.size w w' ∧
      (blameE l list ≠ 0 → v = .slice none 0 0) ∧ (blameE l list = 0 → Blames l list out ∧ SlSl (fun q => w.heap.size ≤ q) w' v (out.map nInts)) := by
  obtain ⟨a, cap, rfl, h2, h3⟩ := hs.form
  obtain ⟨a', cap', rfl, h2', h3'⟩ := hl.form
  simp only [ints_length, List.length_map] at *
  unfold maxLen at h3 h3'
  obtain ⟨n, hn⟩ : ∃ n, list.length = n := ⟨_, rfl⟩
  rw [hn] at h2' hl ⊢
  obtain ⟨w1, hw1⟩ : ∃ x, w.alloc (.cells #[.int .i64 l.start, .int .i64 l.gin, .int .i64 l.gout, .slice a l.beds.length cap, .int .i64 l.players, .int .i64 l.turns, .bool l.won] 27) = x := ⟨_, rfl⟩
  have hb1 : Below w.heap.size w w1 := by rw [← hw1]; exact aB _ _
  have k : w1.heap[w.heap.size]? = some (.cells #[.int .i64 l.start, .int .i64 l.gin, .int .i64 l.gout, .slice a l.beds.length cap, .int .i64 l.players, .int .i64 l.turns, .bool l.won] 27 (0, 0)) := by rw [← hw1]; exact World.alloc_heap_new _ _
  have c0 : w1.cell? ⟨w.heap.size, 0, none⟩ = some (.int .i64 l.start) := by rw [cell_of_heap k]; rfl
  have c1 : w1.cell? ⟨w.heap.size, 1, none⟩ = some (.int .i64 l.gin) := by rw [cell_of_heap k]; rfl
  have c2 : w1.cell? ⟨w.heap.size, 2, none⟩ = some (.int .i64 l.gout) := by rw [cell_of_heap k]; rfl
  have c3 : w1.cell? ⟨w.heap.size, 3, none⟩ = some (.slice a l.beds.length cap) := by rw [cell_of_heap k]; rfl
  have c4 : w1.cell? ⟨w.heap.size, 4, none⟩ = some (.int .i64 l.players) := by rw [cell_of_heap k]; rfl
  have c5 : w1.cell? ⟨w.heap.size, 5, none⟩ = some (.int .i64 l.turns) := by rw [cell_of_heap k]; rfl
  have c6 : w1.cell? ⟨w.heap.size, 6, none⟩ = some (.bool l.won) := by rw [cell_of_heap k]; rfl
  obtain ⟨ec, hec⟩ : ∃ e, checkR l list 10 = e := ⟨_, rfl⟩
  have HEC := Lib.hid hec
  rw [show blameE l list = ec from hec]
  have HN := Lib.hid hn
  have HW := Lib.hid hw1
  have HB := Lib.hid hb1
  have HS := Lib.hid (hs.below hb1)
  have HL := Lib.hid ((hl.lt (by decide)).below hb1)
  have HBD := Lib.hid hbd
  have HT := Lib.hid hT
  have HLEN := Lib.hid hlen
  have hsz1 := hb1.size
  clear hw1 hb1 k hs hl hbd hec hn hT hlen
  unfold legV legA
  go_enter Tryz.func29, Tryz.ntmps29
  go_upto_region 1 with fail
  rw [HW.out]
  go_wp2_with fail
  have hca := checkR_any l (.slice a l.beds.length cap) (.slice a' n cap') list 10 w1 HS.out HBD.out HL.out
  unfold legV legA at hca
  rw [HEC.out] at hca
  refine hca.mono ?_
  rintro e w2 ⟨rfl, hb2⟩
  have HB2 := Lib.hid (bThen HB.out hb2)
  have HS2 := Lib.hid (HS.out.below hb2)
  have HL2 := Lib.hid (HL.out.below hb2)
  have c0 := bAt hb2 c0
  have c1 := bAt hb2 c1
  have c2 := bAt hb2 c2
  have c3 := bAt hb2 c3
  have c4 := bAt hb2 c4
  have c5 := bAt hb2 c5
  have c6 := bAt hb2 c6
  have hsz2 := hb2.size
  clear hb2 hca
  obtain ⟨z, hz⟩ : ∃ z, (ec != 0) = z := ⟨_, rfl⟩
  have HZ := Lib.hid hz
  cases z
  · have he : ec = 0 := by simpa using HZ.out
    have hck : checkL l = 0 := by
      have := HEC.out
      unfold checkR at this
      by_cases c : checkL l = 0
      · exact c
      · rw [if_pos c, he] at this; exact (c this).elim
    have hl10 : list.length ≤ 10 := by
      have := HEC.out
      unfold checkR at this
      rw [if_neg (by simp [hck]), he] at this
      by_cases c : (10 : Int) < (list.length : Int)
      · rw [if_pos (decide_eq_true c)] at this; cases this
      · omega
    have hv := valid_of hck
    have hl5 : list.length ≤ 5 := HLEN.out.elim id fun h => by omega
    have hn5 : n ≤ 5 := by rw [← HN.out]; exact hl5
    have HV := Lib.hid hv
    subst he
    clear hv hck hz
    go_wp2_with fail
    have hng := newGame_any l (.slice a l.beds.length cap) w2 HV.out HS2.out HBD.out
    unfold legV legA at hng
    refine hng.mono ?_
    rintro e w3 ⟨gb, hb, kb, rfl, hb3, hG3, hg1, hg2, hg3⟩
    have HB3 := Lib.hid (bThen HB2.out hb3)
    have HL3 := Lib.hid (HL2.out.below hb3)
    have HG3 := Lib.hid hG3
    have hsz3 := hb3.size
    clear hng hb3 hG3 c0 c1 c2 c3 c4 c5 c6 HS2
    obtain ⟨w4, hw4⟩ : ∃ x, w3.alloc (.cells #[.pointer (some ⟨gb, 0, none⟩), .slice a' n cap'] 126) = x := ⟨_, rfl⟩
    have hb4 : Below w3.heap.size w3 w4 := by rw [← hw4]; exact aB _ _
    obtain ⟨R, hR⟩ : ∃ R, w3.heap.size = R := ⟨_, rfl⟩
    have k4 : w4.heap[R]? = some (.cells #[.pointer (some ⟨gb, 0, none⟩), .slice a' n cap'] 126 (0, 0)) := by rw [← hw4, ← hR]; exact World.alloc_heap_new _ _
    have HB4 := Lib.hid (bThen HB3.out hb4)
    have HG4 := Lib.hid (HG3.out.below hb4)
    have HW4 := Lib.hid hw4
    have hltG := HG3.out.lt
    have hszw := HT.out.lt
    have hp := blame1_ok (hb := hb) (kb := kb) l HV.out list (.slice a' n cap') R w4 (HL3.out.below hb4) (fun h => by have := h.2; omega) hl5 k4 (by omega)
    rw [HN.out] at hp
    have hsm := smallest_any (F0 := fun q => q = gb ∨ q = hb ∨ q = kb) l n _ _ _ hn5 w4 hp (HG4.out.less (fun q h => h) (.inl rfl) (.inr (.inl rfl)) (.inr (.inr rfl))) (fun q hq => by have h1 := HG4.out.lt; rcases hq with rfl | rfl | rfl <;> omega) (HT.out.below HB4.out) (by omega)
    clear hw4 hb4 k4 HG3 HL3 hp HG4
    go_upto_region 5 with fail
    rw [HW4.out]
    go_wp2_with fail
    refine hsm.mono ?_
    rintro e w5 ⟨v, out, rfl, hmin, hsl, hG5, hC5⟩
    have HMIN : Hid (Blames l list out) := Lib.hid (by unfold Blames; rw [HN.out]; exact hmin)
    have hsz4 := HB4.out.size
    have hsz34 : w3.heap.size ≤ w4.heap.size := by rw [← HW4.out]; simp
    have HSL := Lib.hid (hsl.mono (S' := fun q => w.heap.size ≤ q) fun q hq => by omega)
    have HB5 : Hid (Below w.heap.size w w5) := Lib.hid (HB4.out.trans (hC5.mono (O' := fun q => w.heap.size ≤ q) (fun q hq e => by omega) |> fun h => ⟨h.os, h.tape, h.output, h.size, fun q hq => h.block q (by omega) (by omega)⟩))
    clear hsm hmin hsl hG5 hC5
    go_wp2
    go_returns
    exact ⟨v, rfl, HB5.out, out, HMIN.out, HSL.out⟩
  · have HNE : Hid (ec ≠ 0) := Lib.hid (by simpa using HZ.out)
    clear c0 c1 c2 c3 c4 c5 c6
    go_wp2
    go_returns
    exact ⟨_, [], rfl, HB2.out, fun _ => rfl, fun e => (HNE.out e).elim⟩
end Go.Proofs.YtpfpjbglpibdoaaGreatDoor

/- Chapter 5: without which reports all others can be right; Drop. -/
namespace Go.Proofs.YtpfpjbglpibdoaaGreatDoor
open Go Go.RowKit Go.Oche Go.Proofs

theorem andNot_all : ∀ n : Fin 6, ∀ s : Fin 32, s.val < 2 ^ n.val → ∃ d : Fin 32, bits BinOp.andNot IntKind.u64 ((2 ^ n.val - 1 : Nat) : Int) ((s.val : Nat) : Int) = ((d.val : Nat) : Int) ∧ d.val < 2 ^ n.val ∧ ∀ i : Fin 6, i.val < n.val → d.val.testBit i.val = !s.val.testBit i.val := by decide +kernel
structure JC (w0 : World) (kb i : Nat) (Q : World → Prop) (L : Nat → Bool) (W : World) : Prop where
  chg : Chg (fun q => q = kb) w0 W
  pre : L i = false → Below w0.heap.size w0 W
  post : L i = true → Q W
section
variable {w0 W W' : World} {kb i : Nat} {Q : World → Prop} {L : Nat → Bool}
theorem JC.start : JC w0 kb i Q (fun _ => false) w0.drew := ⟨⟨rfl, rfl, rfl, Nat.le_refl _, fun _ _ _ => rfl⟩, fun _ => ⟨rfl, rfl, rfl, Nat.le_refl _, fun _ _ => rfl⟩, fun h => (by cases h)⟩
theorem JC.read (h : JC w0 kb i Q L W) {k : Nat} (hn : i ≠ k) : JC w0 kb i Q (setB L k) W := ⟨h.chg, by rw [setB_ne hn]; exact h.pre, by rw [setB_ne hn]; exact h.post⟩
theorem JC.cell (h : JC w0 kb i Q L W) {q o : Nat} {x : Value} (hv : w0.cell? ⟨q, o, none⟩ = some x) (hq : q ≠ kb) : W.cell? ⟨q, o, none⟩ = some x :=
  (World.cell?_of_block (w := w0) (h.chg.block q (World.block_lt_of_cell? w0 _ hv) hq)).trans hv
theorem JC.call (h : JC w0 kb i Q L W) (hc : Chg (fun q => q = kb) W W') (hq : Q W') : JC w0 kb i Q (setB L i) W' :=
  ⟨h.chg.trans hc, fun e => (by rw [setB_eq] at e; cases e), fun _ => hq⟩
end
set_option maxRecDepth 100000 in
set_option maxHeartbeats 2000000 in
theorem drop1_ok {S : Nat → Prop} {gb hb kb : Nat} (l : Lg) (hv : Valid l) (list : List Rp) (lv : Value) (r x : Nat) (w0 : World) (hl : SlN 3 S w0 lv (list.map rpRow)) (hS : ¬ S kb) (hlen : list.length ≤ 5)
    (hr : w0.heap[r]? = some (.cells #[.pointer (some ⟨gb, 0, none⟩), lv] 126 (0, 0))) (hrk : r ≠ kb) (hx : w0.cell? ⟨x, 0, none⟩ = some lv) (hxk : x ≠ kb) :
    PredOk l w0 gb hb kb list.length 69 #[.pointer (some ⟨r, 0, none⟩), .pointer (some ⟨x, 0, none⟩)] (isDrop l list) := by
  refine ⟨enters_of Tryz.func69 (by kernel_rfl) rfl, fun F s W hs hG hC hF => ?_⟩
  obtain ⟨a, cap, rfl, h2, h3⟩ := hl.form
  simp only [List.length_map] at *
  unfold maxLen at h3
  have hlW : SlN 3 S W (.slice a list.length cap) (list.map rpRow) := hl.chg hC fun q hq e => hS (by rw [← e]; exact hq)
  have hs32 : s < 32 := Nat.lt_of_lt_of_le hs (Nat.le_trans (Nat.pow_le_pow_right (by decide) hlen) (by decide))
  obtain ⟨⟨d, hd⟩, e1, e2, e3⟩ := andNot_all ⟨list.length, by omega⟩ ⟨s, hs32⟩ hs
  simp only at e1 e2 e3
  have hd10 : d < 1024 := by omega
  have hcan : ∀ W', Below W.heap.size W W' → Calls Tryz.prog 68 #[.agg #[.pointer (some ⟨gb, 0, none⟩), .slice a list.length cap], .int .u64 (d : Int)] W' fun e w' => e = .returned (.bool (canL l list fun i => d.testBit i)) ∧ GameAt l F w' gb hb kb ∧ Chg (fun q => q = kb) W' w' :=
    fun W' hb' => can_any l hv list (.slice a list.length cap) d hd10 (by omega) W' (hlW.below hb') hS (hG.below hb') (fun q hq => Nat.lt_of_lt_of_le (hF q hq) hb'.size)
  have hcc : canL l list (fun i => d.testBit i) = isDrop l list s := can_congr fun i hi => e3 ⟨i, by omega⟩ hi
  rw [hcc] at hcan
  have hall := all_any list.length (by omega)
  obtain ⟨res, hres⟩ : ∃ b, isDrop l list s = b := ⟨_, rfl⟩
  rw [hres] at hcan ⊢
  obtain ⟨m, hm⟩ : ∃ m, 2 ^ list.length - 1 = m := ⟨_, rfl⟩
  rw [hm] at hall e1
  obtain ⟨n, hn⟩ : ∃ n, list.length = n := ⟨_, rfl⟩
  rw [hn] at hcan hall
  have hk := (hC.block r (Array.getElem?_eq_some_iff.1 hr).1 hrk).trans hr
  have hkx : W.cell? ⟨x, 0, none⟩ = some (.slice a list.length cap) := (World.cell?_of_block (w := w0) (hC.block x (World.block_lt_of_cell? w0 _ hx) hxk)).trans hx
  rw [hn] at hk hkx
  have b0 : W.cell? ⟨r, 0, none⟩ = some (.pointer (some ⟨gb, 0, none⟩)) := by rw [cell_of_heap hk]; rfl
  have b1 : W.cell? ⟨r, 1, none⟩ = some (.slice a n cap) := by rw [cell_of_heap hk]; rfl
  have HCAN := Lib.hid hcan
  have HALL := Lib.hid hall
  have HE1 := Lib.hid e1
  clear hl hlW hr hk hG hC hF hres hn hs h2 hcan hall hm e1 e2 e3 hcc hx
  show Calls Tryz.prog 69 #[.int .u64 (s : Int), .pointer (some ⟨r, 0, none⟩), .pointer (some ⟨x, 0, none⟩)] W _
  go_enter Tryz.func69, Tryz.ntmps69
  go_upto_region 1 with fail
  refine wp_region_seqV 8 ((fun v => v = .agg #[.pointer (some ⟨gb, 0, none⟩), .slice a n cap]) :: (fun v => v = .slice a n cap) :: (fun v => v = .int .i64 (n : Int)) :: (fun v => v = .int .u64 (m : Int)) :: (fun v => v = .int .u64 (s : Int)) :: (fun v => v = .int .u64 (d : Int)) :: (fun v => v = .bool res) :: (fun v => v = .bool res) :: []) (fun L _ W' => JC W kb 6 (fun w' => GameAt l F w' gb hb kb) L W') rfl mix (by kernel_rfl) (by kernel_rfl) (fun _ _ _ _ _ h => h) (fun _ => JC.start) ?_
  simp only [List.take_succ_cons, List.take_zero]
  iterate 3
    refine sv_rd rfl (fun _ _ _ h => h.read (by simp)) (fun W' L vs hvs hL hj => ?_) ?_
    · have b0' := hj.cell b0 hrk
      have b1' := hj.cell b1 hrk
      have bx' := hj.cell hkx hxk
      simp [opOK, go_sem, b0', b1', bx']
      try exact rfl
    simp only [Act.put, List.setIfInBounds_toArray, List.set_cons_succ, List.set_cons_zero]
  refine sv_rd rfl (fun _ _ _ h => h.read (by simp)) (fun W' L vs hvs hL hj => ?_) ?_
  · refine opOK_call (f := 70) (args := #[.int .i64 (n : Int)]) (by simp [go_sem]) ?_
    refine (HALL.out W').mono ?_
    rintro e w' ⟨rfl, rfl⟩
    exact ⟨_, rfl, rfl, rfl⟩
  simp only [Act.put, List.setIfInBounds_toArray, List.set_cons_succ, List.set_cons_zero]
  iterate 2
    refine sv_rd rfl (fun _ _ _ h => h.read (by simp)) (fun W' L vs hvs hL hj => ?_) ?_
    · simp [opOK, go_sem, HE1.out]
      try exact rfl
    simp only [Act.put, List.setIfInBounds_toArray, List.set_cons_succ, List.set_cons_zero]
  refine sv_new ⟨_, rfl⟩ rfl (fun W' L vs hvs hL hj hd => ?_) ?_
  · simp only [List.length_append, List.length_cons, List.length_nil, Nat.zero_add, Nat.reduceAdd] at hL ⊢
    refine opOK_call (f := 68) (args := #[.agg #[.pointer (some ⟨gb, 0, none⟩), .slice a n cap], .int .u64 (d : Int)]) (by simp [go_sem]) ?_
    refine (HCAN.out W' (hj.pre hL)).mono ?_
    rintro e w' ⟨rfl, hG, hC⟩
    exact ⟨_, rfl, rfl, hj.call hC hG⟩
  rintro _ rfl
  simp only [Act.put, List.setIfInBounds_toArray, List.set_cons_succ, List.set_cons_zero]
  refine sv_rd rfl (fun _ _ _ h => h.read (by simp)) (fun W' L vs hvs hL hj => ?_) ?_
  · simp [opOK, go_sem]
    try exact rfl
  simp only [Act.put, List.setIfInBounds_toArray, List.set_cons_succ, List.set_cons_zero]
  refine sv_end fun vs w' hvs hj => ?_
  simp only [List.drop_succ_cons, List.drop_zero]
  have HG := Lib.hid (hj.post (by decide))
  have HC := Lib.hid hj.chg
  clear hj b0 b1 hkx
  go_wp2
  go_returns
  exact ⟨rfl, HG.out, HC.out⟩
end Go.Proofs.YtpfpjbglpibdoaaGreatDoor
