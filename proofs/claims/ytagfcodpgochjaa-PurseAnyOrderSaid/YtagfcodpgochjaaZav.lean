/- The texts WA, in build order. -/
import Derived.Test.YtagfcodpgochjaaZau
import Derived.Deep.CutBlock
import Derived.Deep.QuietTactic
import Derived.BigQuiet

/- Chapter 12: PurseAnyOrder. -/
namespace Go.Proofs.Ytagfcodpgochjaa
open Go.RowKit Go.Oche Go.Proofs

/-- The first i moves, in some order, and some of them again. -/
structure AnyM (L ms : List Mv) (i : Nat) : Prop where
  mem : ∀ x, x ∈ ms ↔ x ∈ L.take i
  len : ms.length ≤ 2 * i
theorem AnyM.more {L ms : List Mv} {i at_ : Nat} (h : AnyM L ms i) (hi : i < L.length) : AnyM L (ms.take at_ ++ [L[i]] ++ ms.drop at_) (i + 1) := by
  refine ⟨fun x => ?_, by have := h.len; simp; omega⟩
  rw [List.take_succ_eq_append_getElem hi, List.mem_append, List.mem_append, List.mem_append, ← h.mem x]
  conv => rhs; rw [← List.take_append_drop at_ ms, List.mem_append]
  simp only [List.mem_singleton]
  constructor
  · rintro ((h | h) | h)
    · exact .inl (.inl h)
    · exact .inr h
    · exact .inl (.inr h)
  · rintro ((h | h) | h)
    · exact .inl (.inl h)
    · exact .inr h
    · exact .inl (.inr h)
theorem AnyM.twice {L ms : List Mv} {i : Nat} (h : AnyM L ms (i + 1)) (hl : ms.length ≤ 2 * i + 1) (hi : i < L.length) : AnyM L (ms ++ [L[i]]) (i + 1) := by
  refine ⟨fun x => ?_, by simp; omega⟩
  rw [List.mem_append, h.mem x, List.mem_singleton]
  refine ⟨fun h' => h'.elim id fun e => ?_, .inl⟩
  rw [e, List.take_succ_eq_append_getElem hi]
  exact List.mem_append_right _ (List.mem_singleton.2 rfl)
theorem movs_one (l : List Mv) : ∀ r ∈ l.map mvRow, ∀ u ∈ r, u.oneCell' = true := by
  intro r hr u hu
  obtain ⟨t, _, rfl⟩ := List.mem_map.1 hr
  simp only [mvRow, List.mem_cons, List.not_mem_nil, or_false] at hu
  rcases hu with rfl | rfl | rfl | rfl <;> rfl
theorem q4_bd {MV : List Q4} (hM : ∀ x ∈ MV, U16x4 x) (i : Nat) : U16x4 (MV.getD i (0, 0, 0, 0)) := by
  rw [List.getD_eq_getElem?_getD]
  cases hg : MV[i]? with
  | none => unfold U16x4; simp
  | some x => exact hM x (List.mem_of_getElem? hg)
theorem bookL_bd {XS : List Int} {n : Nat} (h : ∀ x ∈ XS, 0 ≤ x ∧ x ≤ 65535) : ∀ x ∈ bookL XS n, 0 ≤ x ∧ x ≤ 65535 := by
  intro x hx
  obtain ⟨i, _, rfl⟩ := List.mem_map.1 hx
  rw [List.getD_eq_getElem?_getD]
  cases hg : XS[i]? with
  | none => simp
  | some y => exact h y (List.mem_of_getElem? hg)
theorem mem_movK {MV : List Q4} {n k : Nat} {x : Mv} (h : x ∈ movK MV n k) : ∃ i, i < k ∧ x = movOf n i (MV.getD i (0, 0, 0, 0)) := by
  obtain ⟨i, hi, rfl⟩ := List.mem_map.1 h
  exact ⟨i, by simpa using hi, rfl⟩
theorem movK_ok {MV : List Q4} {n k : Nat} (hM : ∀ x ∈ MV, U16x4 x) (hn : 2 ≤ n ∧ n ≤ 10) (hk : k ≤ 30 := by omega) : MvOk n (movK MV n k) := by
  refine ⟨fun x hx => ?_, fun x hx y hy e => ?_⟩
  · obtain ⟨i, hi, rfl⟩ := mem_movK hx
    have hb := q4_bd hM i
    generalize MV.getD i (0, 0, 0, 0) = x at *
    obtain ⟨x1, x2, x3, x4⟩ := x
    unfold U16x4 at hb
    simp only at hb
    have h1 := Int.emod_nonneg x2 (show (n : Int) ≠ 0 by omega)
    have h2 := Int.emod_lt_of_pos x2 (show (0 : Int) < n by omega)
    have h3 := Int.emod_nonneg x3 (show (n : Int) - 1 ≠ 0 by omega)
    have h4 := Int.emod_lt_of_pos x3 (show (0 : Int) < (n : Int) - 1 by omega)
    have h5 := Int.emod_nonneg (x2 % n + 1 + x3 % ((n : Int) - 1)) (show (n : Int) ≠ 0 by omega)
    have h6 := Int.emod_lt_of_pos (x2 % n + 1 + x3 % ((n : Int) - 1)) (show (0 : Int) < n by omega)
    have h7 : x2 % n ≠ (x2 % n + 1 + x3 % ((n : Int) - 1)) % n := by
      generalize x2 % (n : Int) = f at *
      generalize x3 % ((n : Int) - 1) = d at *
      by_cases c : f + 1 + d < n
      · rw [Int.emod_eq_of_lt (by omega) c]; omega
      · have : (f + 1 + d) % (n : Int) = f + 1 + d - n := by
          rw [← Int.sub_emod_right, Int.emod_eq_of_lt (by omega) (by omega)]
        rw [this]; omega
    unfold movOf moveErr isIn
    simp only
    generalize x2 % (n : Int) = f at *
    generalize (f + 1 + x3 % ((n : Int) - 1)) % (n : Int) = t at *
    have e1 : (decide (40 * (x1 % 1000) + (i : Int) ≥ 0) && decide (40 * (x1 % 1000) + (i : Int) ≤ 1000000)) = true := by simp; omega
    rw [if_neg (by simp at e1 ⊢; omega), if_neg (by simp; omega), if_neg h7, if_neg (by simp; omega)]
  · obtain ⟨i, hi, rfl⟩ := mem_movK hx
    obtain ⟨j, hj, rfl⟩ := mem_movK hy
    have : i = j := by
      unfold movOf at e
      simp only at e
      omega
    rw [this]
theorem movK_nodup (MV : List Q4) (n : Nat) {k : Nat} (hk : k ≤ 30) : ((movK MV n k).map (·.1)).Nodup := by
  unfold movK
  rw [List.map_map]
  refine List.pairwise_map.2 (List.Pairwise.imp_of_mem (fun {a b} ha hb hab => ?_) List.pairwise_lt_range)
  have h1 := List.mem_range.1 ha
  have h2 := List.mem_range.1 hb
  simp only [Function.comp_apply, movOf, ne_eq]
  omega
theorem movK_amt {MV : List Q4} {n k : Nat} (hM : ∀ x ∈ MV, U16x4 x) : ∀ x ∈ movK MV n k, x.2.2.2 ≤ 65536 := by
  intro x hx
  obtain ⟨i, hi, rfl⟩ := mem_movK hx
  have hb := q4_bd hM i
  unfold U16x4 at hb
  unfold movOf
  simp only
  omega
/-- A slice of numbers. -/
def kSlF (xs : List Int) : Kn where
  s := fun v => ∃ a c, v = .slice a xs.length c
  p := fun v w => Sl (fun _ => True) w v (ints xs)
  m := fun _ _ _ hb h => h.below hb
theorem Sl.formI {S : Nat → Prop} {w : World} {v : Value} {xs : List Int} (h : Sl S w v (ints xs)) : ∃ a c, v = .slice a xs.length c := by
  obtain ⟨a, c, e, _, _⟩ := Sl.form h
  exact ⟨a, c, by rw [e, ints_length]⟩
/-- Two slices, by value. -/
def kPair (xs ys : List Int) : Kn where
  s := fun v => ∃ a b, v = .agg #[a, b]
  p := fun v w => ∃ a b, v = .agg #[a, b] ∧ Sl (fun _ => True) w a (ints xs) ∧ Sl (fun _ => True) w b (ints ys)
  m := fun _ _ _ hb ⟨a, b, h1, h2, h3⟩ => ⟨a, b, h1, h2.below hb, h3.below hb⟩
/-- An empty slice. -/
def kEmp : Kn where
  s := fun v => ∃ q, v = .slice (some ⟨q, 0, none⟩) 0 0
  p := fun _ _ => True
  m := fun _ _ _ _ h => h
def sumD (has op : List Int) (k : Nat) : Int := ((List.range k).map fun j => has.getD j 0 - op.getD j 0).sum
theorem sumD_succ (has op : List Int) (k : Nat) : sumD has op (k + 1) = sumD has op k + (has.getD k 0 - op.getD k 0) := by
  unfold sumD; rw [List.range_succ, List.map_append, List.sum_append]; simp
theorem sumD_bd {has op : List Int} {n : Nat} (h : ∀ j, j < n → -1966080 ≤ has.getD j 0 - op.getD j 0 ∧ has.getD j 0 - op.getD j 0 ≤ 1966080) : ∀ k, k ≤ n → -(1966080 * (k : Int)) ≤ sumD has op k ∧ sumD has op k ≤ 1966080 * (k : Int)
  | 0, _ => by simp [sumD]
  | k + 1, hk => by
    have h1 := sumD_bd h k (by omega)
    have h2 := h k (by omega)
    rw [sumD_succ, Int.natCast_add, Int.mul_add]
    omega
def sumX (L : List Mv) (k m : Nat) : Int := ((L.take m).map (delta k)).sum
theorem sumX_succ {L : List Mv} {k m : Nat} (h : m < L.length) : sumX L k (m + 1) = sumX L k m + delta k L[m] := by
  unfold sumX; rw [List.take_succ_eq_append_getElem h, List.map_append, List.sum_append]; simp
theorem delta_eq {k : Nat} {x : Mv} (h : 0 ≤ x.2.1 ∧ 0 ≤ x.2.2.1) : delta k x = (if (x.2.1 == (k : Int)) = true then -x.2.2.2 else 0) + (if (x.2.2.1 == (k : Int)) = true then x.2.2.2 else 0) := by
  unfold delta
  have e1 : (x.2.1.toNat = k) ↔ ((x.2.1 == (k : Int)) = true) := by rw [beq_iff_eq]; omega
  have e2 : (x.2.2.1.toNat = k) ↔ ((x.2.2.1 == (k : Int)) = true) := by rw [beq_iff_eq]; omega
  simp only [e1, e2]
set_option maxRecDepth 100000 in
set_option maxHeartbeats 20000000 in
theorem purseAnyOrder_any {S S' S'' S3 : Nat → Prop} (OP CR : List Int) (MV : List Q4) (TU : List Int) (vo vc vm vt : Value) (w : World) (hs : Sl S w vo (OP.map (Value.int .u16))) (hs' : Sl S' w vc (CR.map (Value.int .u16))) (hm : SlN 4 S'' w vm (MV.map (row4 .u16))) (ht : Sl S3 w vt (TU.map (Value.int .u8)))
    (hO : ∀ x ∈ OP, 0 ≤ x ∧ x ≤ 65535) (hC : ∀ x ∈ CR, 0 ≤ x ∧ x ≤ 65535) (hM : ∀ x ∈ MV, U16x4 x) (hT : ∀ x ∈ TU, 0 ≤ x ∧ x ≤ 255) :
    Calls Try.prog 8 #[.agg #[vo, vc, vm], vt] w fun e w' => e = .returned (.bool true) ∧ Below w.heap.size w w' := by
  obtain ⟨ta, tcap, rfl, t2, t3⟩ := ht.form
  simp only [List.length_map] at t2
  rw [List.length_map] at *
  unfold maxLen at t3
  obtain ⟨n, hn⟩ : ∃ n, tillN OP = n := ⟨_, rfl⟩
  have hn1 : 2 ≤ n ∧ n ≤ 10 := by rw [← hn]; unfold tillN; omega
  have HS := Lib.hid hs
  have HS' := Lib.hid hs'
  have HM := Lib.hid hm
  have HT := Lib.hid ht
  have HO := Lib.hid hO
  have HC := Lib.hid hC
  have HMB := Lib.hid hM
  have HTB := Lib.hid hT
  have HNN := Lib.hid hn
  have HN1 := Lib.hid hn1
  clear hs hs' hm ht hO hC hM hT hn hn1
  obtain ⟨N, hN⟩ : ∃ N, w.heap.size = N := ⟨_, rfl⟩
  obtain ⟨w0, hw0⟩ : ∃ w0, w.alloc (.cells #[vo, vc, vm] 53) = w0 := ⟨_, rfl⟩
  have hb0 : Below w.heap.size w w0 := by rw [← hw0]; exact aB _ _
  have f0 : w0.heap[N]? = some (.cells #[vo, vc, vm] 53 (0, 0)) := by rw [← hw0, ← hN]; exact World.alloc_heap_new _ _
  have x0 : w0.cell? ⟨N, 0, none⟩ = some vo := by rw [cell_of_heap f0]; rfl
  have x1 : w0.cell? ⟨N, 1, none⟩ = some vc := by rw [cell_of_heap f0]; rfl
  have x2 : w0.cell? ⟨N, 2, none⟩ = some vm := by rw [cell_of_heap f0]; rfl
  have HB0 := Lib.hid hb0
  have HW0 := Lib.hid hw0
  have HN := Lib.hid hN
  have HF0 := Lib.hid f0
  clear hb0 hw0 f0 hN
  go_enter Try.func8, Try.ntmps8
  go_wp2_with fail
  rw [HW0.out, HN.out]
  refine (book_any OP CR vo vc vm w0 (HS.out.below HB0.out) (HS'.out.below HB0.out) HO.out HC.out).mono ?_
  rintro e w1 ⟨ro, rc, rfl, hb1, so, sc⟩
  rw [HNN.out] at so sc
  obtain ⟨ao, co, rfl, _, _⟩ := so.form
  obtain ⟨ac, cc, rfl, _, _⟩ := sc.form
  simp only [ints_length, bookL_length] at so sc ⊢
  obtain ⟨B, hB⟩ : ∃ B, w1.heap.size = B := ⟨_, rfl⟩
  obtain ⟨w2, hw2⟩ : ∃ w2, w1.alloc (.cells #[.slice ao n co, .slice ac n cc] 55) = w2 := ⟨_, rfl⟩
  have hb2 : Below w0.heap.size w0 w2 := bThen hb1 (by rw [← hw2]; exact aB _ _)
  have f2 : w2.heap[B]? = some (.cells #[.slice ao n co, .slice ac n cc] 55 (0, 0)) := by rw [← hw2, ← hB]; exact World.alloc_heap_new _ _
  have z0 : (w1.alloc (.cells #[.slice ao n co, .slice ac n cc] 55)).cell? ⟨B, 0, none⟩ = some (.slice ao n co) := by rw [hw2, cell_of_heap f2]; rfl
  have y0 : (w1.alloc (.cells #[.slice ao n co, .slice ac n cc] 55)).cell? ⟨N, 0, none⟩ = some vo := by rw [hw2]; exact bAt hb2 x0
  have y1 : (w1.alloc (.cells #[.slice ao n co, .slice ac n cc] 55)).cell? ⟨N, 1, none⟩ = some vc := by rw [hw2]; exact bAt hb2 x1
  have y2 : (w1.alloc (.cells #[.slice ao n co, .slice ac n cc] 55)).cell? ⟨N, 2, none⟩ = some vm := by rw [hw2]; exact bAt hb2 x2
  have HB2 := Lib.hid (bThen HB0.out hb2)
  have HSO : Hid (Sl (fun _ => True) w2 (.slice ao n co) (ints (bookL OP n))) := Lib.hid ((so.mono fun _ _ => trivial).below (by rw [← hw2]; exact aB _ _))
  have HSC : Hid (Sl (fun _ => True) w2 (.slice ac n cc) (ints (bookL CR n))) := Lib.hid ((sc.mono fun _ _ => trivial).below (by rw [← hw2]; exact aB _ _))
  have HF2 := Lib.hid f2
  have HW2 := Lib.hid hw2
  clear hb1 so sc hw2 f2 hb2 x0 x1 x2
  go_wp2_with fail
  rw [HW2.out]
  refine (moves_any MV vo vc vm n w2 (HM.out.below HB2.out) HMB.out HN1.out).mono ?_
  rintro e w3 ⟨rl, rfl, hb3, hl3⟩
  obtain ⟨K, hK⟩ : ∃ K, min MV.length 30 = K := ⟨_, rfl⟩
  rw [hK] at hl3
  have hK30 : K ≤ 30 := by omega
  obtain ⟨L, hL⟩ : ∃ L, movK MV n K = L := ⟨_, rfl⟩
  have hLl : L.length = K := by rw [← hL]; simp
  rw [hL] at hl3
  obtain ⟨al, cl, rfl, l2, l3⟩ := hl3.form
  rw [List.length_map, hLl] at l2 ⊢
  obtain ⟨Q, hQ⟩ : ∃ Q, w3.heap.size = Q := ⟨_, rfl⟩
  obtain ⟨w4, hw4⟩ : ∃ w4, w3.alloc (.cells #[] 44) = w4 := ⟨_, rfl⟩
  have hb4 : Below w3.heap.size w3 w4 := by rw [← hw4]; exact aB _ _
  have o4 : w4.ownsRow Q 44 4 (.slice (some ⟨Q, 0, none⟩) 0 0) 0 [] := by
    rw [← hw4, ← hQ]
    exact World.ownsRow_made (e := 44) (size := 4) (base := w3.heap.size) w3 #[] 0 (Nat.le_refl _) (Nat.zero_le _) rfl
  have HQ4 : Hid (Q + 1 ≤ w4.heap.size) := Lib.hid (by rw [← hw4, ← hQ]; simp)
  have HL3 := Lib.hid (hl3.mono (S' := fun _ => True) fun _ _ => trivial)
  have HB3 := Lib.hid (bThen HB2.out hb3)
  have HB23 := Lib.hid hb3
  have HB4 : Hid (Below Q w3 w4) := Lib.hid (by rw [← hQ]; exact hb4)
  have HO4 := Lib.hid o4
  have HW4 := Lib.hid hw4
  have HQ := Lib.hid hQ
  have HLL := Lib.hid hLl
  have HLE := Lib.hid hL
  have HKE := Lib.hid hK
  have HF3 := Lib.hid ((hb3.block B (Array.getElem?_eq_some_iff.1 HF2.out).1).trans HF2.out)
  unfold maxLen at l3
  clear hb3 hl3 hb4 o4 hw4 hQ hLl hL hK y0 y1 y2 z0
  go_wp2_with fail
  rw [HW4.out, HQ.out]
  go_loopw [7, 8] (fun mv iv wr => ∃ (i g c : Nat) (ms : List Mv), mv = .slice (some ⟨g, 0, none⟩) ms.length c ∧ iv = .int .i64 (i : Int) ∧ i ≤ K ∧ Hid (AnyM L ms i) ∧ Hid (wr.ownsRow Q 44 4 (.slice (some ⟨g, 0, none⟩) ms.length c) ms.length (ms.map mvRow).flatten) ∧ Hid (Below Q w3 wr) ∧ Hid (Q + 1 ≤ wr.heap.size)) (fun _ iv _ => K - (intOf iv).toNat)
  case atStart => exact ⟨0, Q, 0, [], rfl, rfl, Nat.zero_le _, Lib.hid ⟨by simp, Nat.zero_le _⟩, HO4, HB4, HQ4⟩
  case round =>
    obtain ⟨i, g, c, ms, rfl, rfl, hi, HA, HR, HBr, HSr⟩ := hrel
    obtain ⟨wo, rfl⟩ : ∃ wo : World, wo = wr := ⟨_, rfl⟩
    clear HO4 HB4 HQ4 HW4
    by_cases hlt : i < K
    · as_aux_lemma =>
      have hms : ms.length ≤ 2 * i := HA.out.len
      go_upto_if 36 with fail
      go_cut [9] from 28 to 73 (fun av wc => ∃ p : Nat, p ≤ ms.length ∧ av = .int .i64 (p : Int) ∧ wc = wo)
      case first =>
        by_cases hTU : TU.length = 0
        · have d1 : decide (0 < TU.length) = false := decide_eq_false (by omega)
          rw [d1]
          go_wp2_with fail
          go_meet
          case rel => exact ⟨0, Nat.zero_le _, rfl, rfl⟩
        · have d1 : decide (0 < TU.length) = true := decide_eq_true (by omega)
          rw [d1]
          have hbi : i % TU.length < TU.length := Nat.mod_lt _ (by omega)
          obtain ⟨bi, hbie⟩ : ∃ bi, i % TU.length = bi := ⟨_, rfl⟩
          rw [hbie] at hbi
          obtain ⟨y, hy⟩ : ∃ y, TU[bi] = y := ⟨_, rfl⟩
          have hyb := HTB.out TU[bi] (List.getElem_mem hbi)
          rw [hy] at hyb
          obtain ⟨bb, ob, rfl, _, hcb⟩ := cellW2 (HT.out.below (bThen HB3.out (by rw [HQ.out]; exact HBr.out))) (k := bi) (by simpa using hbi)
          simp only [List.getElem_map, hy] at hcb
          have tm1 : (i : Int).tmod (TU.length : Int) = (bi : Int) := by rw [Int.tmod_eq_emod_of_nonneg (by omega), ← hbie]; omega
          have wbi : IntKind.i64.wrap (bi : Int) = (bi : Int) := wrap_small _ (by omega) (by omega)
          obtain ⟨p, hp⟩ : ∃ p : Nat, y % ((ms.length : Int) + 1) = p := ⟨(y % ((ms.length : Int) + 1)).toNat, by have := Int.emod_nonneg y (show (ms.length : Int) + 1 ≠ 0 by omega); omega⟩
          have hpC : p ≤ ms.length := by have := Int.emod_lt_of_pos y (show (0 : Int) < (ms.length : Int) + 1 by omega); omega
          have tm2 : y.tmod ((ms.length : Int) + 1) = (p : Int) := by rw [Int.tmod_eq_emod_of_nonneg hyb.1]; exact hp
          have wy1 : IntKind.i64.wrap y = y := wrap_small _ (by omega) (by omega)
          have nz1 : ¬ (TU.length : Int) = 0 := by omega
          have nz2 : ¬ (ms.length : Int) + 1 = 0 := by omega
          have bil : (bi : Int) < (TU.length : Int) := by omega
          have bi0 : (0 : Int) ≤ (bi : Int) := by omega
          clear hbie hy hyb hp
          go_wp2_with fail
          go_meet
          case rel => exact ⟨p, hpC, by go_num, rfl⟩
      case rest =>
        obtain ⟨p, hp, rfl, rfl⟩ := hcut
        obtain ⟨wo, rfl⟩ : ∃ wo, wo = wc := ⟨_, rfl⟩
        have hiL : i < L.length := by rw [HLL.out]; exact hlt
        obtain ⟨x, hx⟩ : ∃ x, L[i] = x := ⟨_, rfl⟩
        obtain ⟨bl, ol, hal, _, _, hcl⟩ := (HL3.out.below (by rw [HQ.out]; exact HBr.out : Below w3.heap.size w3 wo)).cell (i := i) (by simpa using hiL)
        simp only [List.getElem_map, hx, mvRow] at hcl
        have q0 := hcl 0 _ rfl
        have q1 := hcl 1 _ rfl
        have q2 := hcl 2 _ rfl
        have q3 := hcl 3 _ rfl
        simp only [Nat.add_zero] at q0
        cases hal
        have hfo := HR.out.form'
        have hki : (i : Int) < (K : Int) := by omega
        have hpi : (p : Int) ≤ (ms.length : Int) := by omega
        have hpc : (p : Int) ≤ (c : Int) := by omega
        have hmc : (ms.length : Int) ≤ (c : Int) := by omega
        have HX : Hid (L[i] = x) := Lib.hid hx
        clear hx hcl
        go_wp2_with fail
        obtain ⟨XA, hXA⟩ : ∃ l, ((ms.take p).map mvRow).flatten = l := ⟨_, rfl⟩
        obtain ⟨XC, hXC⟩ : ∃ l, ((ms.drop p).map mvRow).flatten = l := ⟨_, rfl⟩
        obtain ⟨US, hUS⟩ : ∃ l, mvRow x = l := ⟨_, rfl⟩
        have HXA := Lib.hid hXA
        have HXC := Lib.hid hXC
        have HUS := Lib.hid hUS
        have hLA : XA.length = p * 4 := by rw [← hXA, flat_len (size := 4) (fun r hr => by obtain ⟨t, _, rfl⟩ := List.mem_map.1 hr; rfl)]; simp; omega
        have hLC : XC.length = (ms.length - p) * 4 := by rw [← hXC, flat_len (size := 4) (fun r hr => by obtain ⟨t, _, rfl⟩ := List.mem_map.1 hr; rfl)]; simp
        have hFl : (ms.map mvRow).flatten = XA ++ XC := by rw [← hXA, ← hXC, ← List.flatten_append, ← List.map_append, List.take_append_drop]
        have hCA : ∀ W : World, Below wo.heap.size wo W → ∀ (j : Nat) (u : Value), XA[j]? = some u → W.cell? ⟨g, j, none⟩ = some u := fun W hW j u hj => by
          have hjl := (List.getElem?_eq_some_iff.1 hj).1
          have hr := ownsN_below HR.out hW
          rw [hr.cellAt j (by omega), hFl, List.getElem?_append_left hjl, hj]
        have hCC : ∀ W : World, Below wo.heap.size wo W → ∀ (j : Nat) (u : Value), XC[j]? = some u → W.cell? ⟨g, p * 4 + j, none⟩ = some u := fun W hW j u hj => by
          have hjl := (List.getElem?_eq_some_iff.1 hj).1
          have hr := ownsN_below HR.out hW
          rw [hr.cellAt (p * 4 + j) (by omega), hFl, List.getElem?_append_right (by omega), show p * 4 + j - XA.length = j by omega, hj]
        have HLA := Lib.hid hLA
        have HLC := Lib.hid hLC
        have HCA := Lib.hid hCA
        have HCC := Lib.hid hCC
        have HOA : Hid (∀ u ∈ XA, u.oneCell' = true) := Lib.hid fun u hu => by
          rw [← hXA] at hu
          obtain ⟨r, hr, hu⟩ := List.mem_flatten.1 hu
          exact movs_one _ r hr u hu
        have HOC : Hid (∀ u ∈ XC, u.oneCell' = true) := Lib.hid fun u hu => by
          rw [← hXC] at hu
          obtain ⟨r, hr, hu⟩ := List.mem_flatten.1 hu
          exact movs_one _ r hr u hu
        have HOU : Hid (∀ u ∈ US, u.oneCell' = true) := Lib.hid fun u hu => by
          rw [← hUS] at hu
          exact movs_one [x] _ (by simp) u hu
        have HLU : Hid (US.length = 1 * 4) := Lib.hid (by rw [← hUS]; rfl)
        have HFL := Lib.hid hFl
        clear hXA hXC hUS hLA hLC hFl hCA hCC
        obtain ⟨off, hoff⟩ : ∃ off, off = if p = c then 0 else p * 4 := ⟨_, rfl⟩
        have HOFF := Lib.hid hoff
        clear hoff
        refine wp_region_seqV 15 ((fun v => ∃ q, v = .slice (some ⟨q, 0, none⟩) 0 0) :: (fun v => v = .slice (some ⟨g, 0, none⟩) ms.length c) :: (fun v => v = .int .i64 (p : Int)) :: (fun v => v = .slice (some ⟨g, 0, none⟩) p c) :: (fun _ => True) :: (fun v => v = .slice (some ⟨bl, ol, none⟩) K cl) :: (fun v => v = .int .i64 (i : Int)) :: (fun v => v = .pointer (some ⟨bl, ol + i * 4, none⟩)) :: (fun v => v = mvV x) :: (fun v => ∃ q, v = .slice (some ⟨q, 0, none⟩) 1 1) :: (fun _ => True) :: (fun v => v = .slice (some ⟨g, 0, none⟩) ms.length c) :: (fun v => v = .int .i64 (p : Int)) :: (fun v => v = .slice (some ⟨g, off, none⟩) (ms.length - p) (c - p)) :: (fun _ => True) :: []) (JIns wo 0 4 9 10 14 44 4 p (ms.length - p) US XA XC) rfl mix (by kernel_rfl) (by kernel_rfl) (fun _ _ _ _ hc h => h.congr hc) (fun _ => .start) ?_
        simp only [List.take_succ_cons, List.take_zero]
        refine sv_new ⟨.slice (some ⟨0, 0, none⟩) 0 0, 0, rfl⟩ rfl (fun u1 L1 vs1 hvs1 hL1 hJ1 hd => ?_) ?_
        · simp [opOK, go_sem]
          exact hJ1.mk0 hL1 (by decide) (by decide) (by decide) (by decide)
        rintro _ ⟨b49, rfl⟩
        simp only [Act.put, List.setIfInBounds_toArray, List.set_cons_succ, List.set_cons_zero, List.nil_append]
        refine sv_rd rfl (fun _ _ _ h => h.read (by simp) (by simp) (by simp) (by simp) (by simp)) (fun u1 L1 vs1 hvs1 hL1 hJ1 => ?_) ?_
        · simp [opOK, go_sem]
        simp only [Act.put, List.setIfInBounds_toArray, List.set_cons_succ, List.set_cons_zero, List.nil_append, List.cons_append]
        refine sv_rd rfl (fun _ _ _ h => h.read (by simp) (by simp) (by simp) (by simp) (by simp)) (fun u1 L1 vs1 hvs1 hL1 hJ1 => ?_) ?_
        · simp [opOK, go_sem]
        simp only [Act.put, List.setIfInBounds_toArray, List.set_cons_succ, List.set_cons_zero, List.nil_append, List.cons_append]
        refine sv_rd rfl (fun _ _ _ h => h.read (by simp) (by simp) (by simp) (by simp) (by simp)) (fun u1 L1 vs1 hvs1 hL1 hJ1 => ?_) ?_
        · simp [opOK, go_sem, hpc]
          trace_state
        simp only [Act.put, List.setIfInBounds_toArray, List.set_cons_succ, List.set_cons_zero, List.nil_append, List.cons_append]
        refine sv_new ⟨undef, trivial⟩ rfl (fun u1 L1 vs1 hvs1 hL1 hJ1 hd => ?_) ?_
        · have h0 := hd ⟨0, .data⟩ (by simp) rfl
          have hnil := hJ1.nil h0 hL1
          rw [hvs1 0 _ rfl] at hnil
          refine opOK_mono (opOK_appendN_at (.tmp 49) (.tmp 52) 40 rfl wo.heap.size 44 (.agg #[.int .i64 0, .int .i64 0, .int .i64 0, .int .i64 0]) 4 32 Try.underlying40 info44 rfl (by decide) _ 0 [] rfl hnil g 0 p c XA rfl HLA.out (fun j u hj => by rw [Nat.zero_add]; exact HCA.out u1 hJ1.b j u hj) HOA.out (by omega) (by decide) hJ1.b.size) ?_
          rintro v' w' ⟨h1, h2, h3⟩
          rw [Nat.zero_add, List.nil_append] at h1
          rw [← hvs1 0 _ rfl] at h2 h3
          exact ⟨trivial, hJ1.apA hL1 h0 h2 h1 h3 (by decide) (by decide) (by decide) (by decide)⟩
        rintro v4 -
        simp only [Act.put, List.setIfInBounds_toArray, List.set_cons_succ, List.set_cons_zero, List.nil_append, List.cons_append]
        refine sv_rd rfl (fun _ _ _ h => h.read (by simp) (by simp) (by simp) (by simp) (by simp)) (fun u1 L1 vs1 hvs1 hL1 hJ1 => ?_) ?_
        · simp [opOK, go_sem]
        simp only [Act.put, List.setIfInBounds_toArray, List.set_cons_succ, List.set_cons_zero, List.nil_append, List.cons_append]
        refine sv_rd rfl (fun _ _ _ h => h.read (by simp) (by simp) (by simp) (by simp) (by simp)) (fun u1 L1 vs1 hvs1 hL1 hJ1 => ?_) ?_
        · simp [opOK, go_sem]
        simp only [Act.put, List.setIfInBounds_toArray, List.set_cons_succ, List.set_cons_zero, List.nil_append, List.cons_append]
        refine sv_rd rfl (fun _ _ _ h => h.read (by simp) (by simp) (by simp) (by simp) (by simp)) (fun u1 L1 vs1 hvs1 hL1 hJ1 => ?_) ?_
        · simp [opOK, go_sem, hki]
        simp only [Act.put, List.setIfInBounds_toArray, List.set_cons_succ, List.set_cons_zero, List.nil_append, List.cons_append]
        refine sv_rd rfl (fun _ _ _ h => h.read (by simp) (by simp) (by simp) (by simp) (by simp)) (fun u1 L1 vs1 hvs1 hL1 hJ1 => ?_) ?_
        · have c0 := bAt hJ1.b q0
          have c1 := bAt hJ1.b q1
          have c2 := bAt hJ1.b q2
          have c3 := bAt hJ1.b q3
          simp [opOK, go_sem, c0, c1, c2, c3, mvV]
        simp only [Act.put, List.setIfInBounds_toArray, List.set_cons_succ, List.set_cons_zero, List.nil_append, List.cons_append]
        refine sv_new ⟨.slice (some ⟨0, 0, none⟩) 1 1, 0, rfl⟩ rfl (fun u1 L1 vs1 hvs1 hL1 hJ1 hd => ?_) ?_
        · simp [opOK, go_sem, mvV]
          exact hJ1.mkL hL1 (fun j u hj => by rw [← HUS.out] at hj; simpa [mvRow] using hj) (by decide) (by decide) (by decide) (by decide)
        rintro _ ⟨b58, rfl⟩
        simp only [Act.put, List.setIfInBounds_toArray, List.set_cons_succ, List.set_cons_zero, List.nil_append, List.cons_append]
        refine sv_new ⟨undef, trivial⟩ rfl (fun u1 L1 vs1 hvs1 hL1 hJ1 hd => ?_) ?_
        · have h4 := hd ⟨4, .data⟩ (by simp) rfl
          have h9 := hd ⟨9, .data⟩ (by simp) rfl
          have hra := hJ1.ra h4 hL1
          rw [hvs1 4 _ rfl] at hra
          obtain ⟨q, eq, hq, hl⟩ := hJ1.lit h9
          rw [hvs1 9 _ rfl] at eq
          cases eq
          obtain ⟨_, hl2, _, _⟩ := hl hL1
          refine opOK_mono (opOK_appendN_at (.tmp 53) (.tmp 58) 40 rfl wo.heap.size 44 (.agg #[.int .i64 0, .int .i64 0, .int .i64 0, .int .i64 0]) 4 32 Try.underlying40 info44 rfl (by decide) v4 p XA rfl hra b58 0 1 1 US rfl HLU.out (fun j u hj => by rw [Nat.zero_add]; exact hl2 j u hj) HOU.out (by omega) (by decide) hJ1.b.size) ?_
          rintro v' w' ⟨h1, h2, h3⟩
          rw [← hvs1 4 _ rfl] at h2
          exact ⟨trivial, hJ1.apB hL1 h4 h9 h2 h1 (by decide) (by decide) (by decide) (by decide)⟩
        rintro v10 -
        simp only [Act.put, List.setIfInBounds_toArray, List.set_cons_succ, List.set_cons_zero, List.nil_append, List.cons_append]
        refine sv_rd rfl (fun _ _ _ h => h.read (by simp) (by simp) (by simp) (by simp) (by simp)) (fun u1 L1 vs1 hvs1 hL1 hJ1 => ?_) ?_
        · simp [opOK, go_sem]
        simp only [Act.put, List.setIfInBounds_toArray, List.set_cons_succ, List.set_cons_zero, List.nil_append, List.cons_append]
        refine sv_rd rfl (fun _ _ _ h => h.read (by simp) (by simp) (by simp) (by simp) (by simp)) (fun u1 L1 vs1 hvs1 hL1 hJ1 => ?_) ?_
        · simp [opOK, go_sem]
        simp only [Act.put, List.setIfInBounds_toArray, List.set_cons_succ, List.set_cons_zero, List.nil_append, List.cons_append]
        refine sv_rd rfl (fun _ _ _ h => h.read (by simp) (by simp) (by simp) (by simp) (by simp)) (fun u1 L1 vs1 hvs1 hL1 hJ1 => ?_) ?_
        · simp [opOK, go_sem, hpi]
          rw [HOFF.out]
          by_cases e : c = p
          · rw [if_pos e, if_pos e.symm]
          · rw [if_neg e, if_neg (Ne.symm e)]
        simp only [Act.put, List.setIfInBounds_toArray, List.set_cons_succ, List.set_cons_zero, List.nil_append, List.cons_append]
        refine sv_new ⟨undef, trivial⟩ rfl (fun u1 L1 vs1 hvs1 hL1 hJ1 hd => ?_) ?_
        · have h10 := hd ⟨10, .data⟩ (by simp) rfl
          have hrb := hJ1.rb h10 hL1
          rw [hvs1 10 _ rfl] at hrb
          refine opOK_mono (opOK_appendN_at (.tmp 59) (.tmp 62) 40 rfl wo.heap.size 44 (.agg #[.int .i64 0, .int .i64 0, .int .i64 0, .int .i64 0]) 4 32 Try.underlying40 info44 rfl (by decide) v10 (p + 1) (XA ++ US) rfl hrb g off (ms.length - p) (c - p) XC rfl HLC.out (fun j u hj => by
            have hjl := (List.getElem?_eq_some_iff.1 hj).1
            rw [HLC.out] at hjl
            have e : off = p * 4 := by rw [HOFF.out, if_neg (by omega)]
            rw [e]; exact HCC.out u1 hJ1.b j u hj) HOC.out (by omega) (by decide) hJ1.b.size) ?_
          rintro v' w' ⟨h1, h2, h3⟩
          rw [← hvs1 10 _ rfl] at h2
          exact ⟨trivial, hJ1.apC hL1 h10 h2 h1 (by decide) (by decide) (by decide) (by decide)⟩
        rintro v14 -
        simp only [Act.put, List.setIfInBounds_toArray, List.set_cons_succ, List.set_cons_zero, List.nil_append, List.cons_append]
        refine sv_end fun vs6 w6 hvs6 hJ6 => ?_
        simp only [List.drop_succ_cons, List.drop_zero]
        have h14 := hJ6.rc (by decide)
        rw [hvs6 14 _ rfl] at h14
        have hb6 := hJ6.b
        have hAn : AnyM L (ms.take p ++ [L[i]] ++ ms.drop p) (i + 1) := HA.out.more hiL
        have hlen6 : p + 1 + (ms.length - p) = ms.length + 1 := by omega
        rw [hlen6] at h14
        obtain ⟨m2, hm2⟩ : ∃ m2, ms.take p ++ [L[i]] ++ ms.drop p = m2 := ⟨_, rfl⟩
        have hm2l : m2.length = ms.length + 1 := by rw [← hm2]; simp; omega
        have hfl2 : (m2.map mvRow).flatten = XA ++ US ++ XC := by rw [← hm2, HX.out]; simp only [List.map_append, List.flatten_append, HXA.out, HXC.out, List.map_cons, List.map_nil, List.flatten_cons, List.flatten_nil, List.append_nil, HUS.out]
        rw [← hfl2] at h14
        rw [hm2] at hAn
        obtain ⟨g2, c2, rfl⟩ := ownsRow_succ h14
        have HR6 : Hid (w6.ownsRow Q 44 4 (.slice (some ⟨g2, 0, none⟩) (ms.length + 1) c2) (ms.length + 1) (m2.map mvRow).flatten) := Lib.hid (ownsN_base h14 (by have := HSr.out; omega))
        have HB6 : Hid (Below wo.heap.size wo w6) := Lib.hid hb6
        have HA6 := Lib.hid hAn
        have HM2 := Lib.hid hm2l
        clear hb6 hJ6 hvs6 h14 hAn hlen6 hm2 hm2l hfl2
        have hp3 : (p : Int).tmod 3 = ((p % 3 : Nat) : Int) := by rw [Int.tmod_eq_emod_of_nonneg (by omega)]; omega
        obtain ⟨p3, hpe⟩ : ∃ p3, p % 3 = p3 := ⟨_, rfl⟩
        rw [hpe] at hp3
        have r0 := bAt HB6.out q0
        have r1 := bAt HB6.out q1
        have r2 := bAt HB6.out q2
        have r3 := bAt HB6.out q3
        have HBQ : Hid (Below Q w3 w6) := Lib.hid (HBr.out.trans (HB6.out.mono (by have := HSr.out; omega)))
        have HSQ : Hid (Q + 1 ≤ w6.heap.size) := Lib.hid (by have := HSr.out; have := HB6.out.size; omega)
        have hwi : IntKind.i64.wrap ((i : Int) + 1) = (i : Int) + 1 := wrap_small _ (by omega) (by omega)
        have hwp : IntKind.i64.wrap (p3 : Int) = (p3 : Int) := wrap_small _ (by omega) (by omega)
        clear q0 q1 q2 q3 hpe
        by_cases h1 : p3 = 1
        · have t1 : (p3 == 1) = true := beq_iff_eq.2 h1
          have t1i : ((p3 : Int) == 1) = true := beq_iff_eq.2 (by omega)
          clear h1
          obtain ⟨Z, hZ⟩ : ∃ Z, w6.heap.size = Z := ⟨_, rfl⟩
          obtain ⟨wa, hwa⟩ : ∃ wa, w6.alloc (.cells #[.int .i64 x.1, .int .i64 x.2.1, .int .i64 x.2.2.1, .int .i64 x.2.2.2] 44) = wa := ⟨_, rfl⟩
          have hba : Below w6.heap.size w6 wa := by rw [← hwa]; exact aB _ _
          have hpa : wa.heap[Z]? = some (.cells #[.int .i64 x.1, .int .i64 x.2.1, .int .i64 x.2.2.1, .int .i64 x.2.2.2] 44 (0, 0)) := by rw [← hwa, ← hZ]; exact World.alloc_heap_new _ _
          have HBA := Lib.hid hba
          have HPA := Lib.hid hpa
          have HWA := Lib.hid hwa
          have HRA := Lib.hid (ownsN_below HR6.out hba)
          have HNA : Hid (Q ≤ wa.heap.size) := Lib.hid (by have := HSQ.out; have := hba.size; omega)
          clear hba hpa hwa
          go_wp2_with (at_builtin; rw [HWA.out]; refine wpList_appendN rfl (.tmp 67) (.tmp 72) 40 rfl Q 44 (.agg #[.int .i64 0, .int .i64 0, .int .i64 0, .int .i64 0]) 4 32 Try.underlying40 info44 rfl (by decide) _ (ms.length + 1) _ rfl HRA.out Z 0 1 1 (mvRow x) rfl rfl (fun j u hj => by rw [cell_of_heap HPA.out, Nat.zero_add]; simpa [mvRow] using hj) (fun u hu => movs_one [x] _ (by simp) u hu) (by omega) (by decide) HNA.out ?_)
          intro v' we hown hgr hat
          obtain ⟨g3, c3, rfl⟩ := ownsRow_succ hown
          have hA2 := HA6.out.twice (by rw [HM2.out]; omega) hiL
          obtain ⟨m3, hm3⟩ : ∃ m3, m2 ++ [L[i]] = m3 := ⟨_, rfl⟩
          have hm3l : m3.length = ms.length + 1 + 1 := by rw [← hm3]; simp [HM2.out]
          have hfl3 : (m3.map mvRow).flatten = (m2.map mvRow).flatten ++ mvRow x := by rw [← hm3, HX.out, flat_snoc]
          rw [← hfl3] at hown
          rw [hm3] at hA2
          have HRf : Hid (we.ownsRow Q 44 4 (.slice (some ⟨g3, 0, none⟩) m3.length c3) m3.length (m3.map mvRow).flatten) := Lib.hid (by rw [hm3l]; exact hown)
          have HBf : Hid (Below Q w3 we) := Lib.hid ((HBQ.out.trans (HBA.out.mono (by have := HSQ.out; omega))).trans (below_grownBy hgr HNA.out fun q hq => (HRA.out.lt q hq).1))
          have HSf : Hid (Q + 1 ≤ we.heap.size) := Lib.hid (by have := HSQ.out; have := HBA.out.size; have := hgr.size; omega)
          have HAf := Lib.hid hA2
          have hm3L : m3.length = ms.length + 1 + 1 := hm3l
          have HM3 := Lib.hid hm3L
          clear hown hgr hat hA2 hm3 hm3l hfl3 hm3L r0 r1 r2 r3 hZ
          go_wp2
          go_roundw
          case rel => exact ⟨i + 1, g3, c3, m3, by rw [HM3.out], by go_num, by omega, HAf, HRf, HBf, HSf⟩
          case measure => simp [intOf]; omega
        · have t1 : (p3 == 1) = false := beq_eq_false_iff_ne.2 h1
          have t1i : ((p3 : Int) == 1) = false := beq_eq_false_iff_ne.2 (by omega)
          clear h1
          go_wp2
          go_roundw
          case rel => exact ⟨i + 1, g2, c2, m2, by rw [HM2.out], by go_num, by omega, HA6, by rw [HM2.out]; exact HR6, HBQ, HSQ⟩
          case measure => simp [intOf]; omega
    · obtain rfl : i = K := by omega
      as_aux_lemma =>
      have hms : ms.length ≤ 2 * i := HA.out.len
      have HMEM : Hid (∀ x, x ∈ L ↔ x ∈ ms) := Lib.hid fun x => by
        have := HA.out.mem x
        rw [List.take_of_length_le (by rw [HLL.out]; exact Nat.le_refl _)] at this
        exact this.symm
      have HB3o : Hid (Below w2.heap.size w2 wo) := Lib.hid (bThen HB23.out (by rw [HQ.out]; exact HBr.out))
      have HBo : Hid (Below w.heap.size w wo) := Lib.hid (bThen HB2.out HB3o.out)
      have HOw := Lib.hid (HSO.out.below HB3o.out)
      have HCw := Lib.hid (HSC.out.below HB3o.out)
      have HLw : Hid (SlN 4 (fun _ => True) wo (.slice al i cl) (L.map mvRow)) := Lib.hid (by
        have := HL3.out.below (by rw [HQ.out]; exact HBr.out : Below w3.heap.size w3 wo)
        rwa [List.length_map, HLL.out] at this)
      have HMw : Hid (SlN 4 (fun _ => True) wo (.slice (some ⟨g, 0, none⟩) ms.length c) (ms.map mvRow)) := Lib.hid ((SlN.of_ownsN (rows := ms.map mvRow) (by simpa using HR.out) (fun r hr => by obtain ⟨t, _, rfl⟩ := List.mem_map.1 hr; rfl)).mono fun _ _ => trivial)
      have hF := (HB3o.out.block B (Array.getElem?_eq_some_iff.1 HF2.out).1).trans HF2.out
      have g0 : wo.cell? ⟨B, 0, none⟩ = some (.slice ao n co) := by rw [cell_of_heap hF]; rfl
      have g1 : wo.cell? ⟨B, 1, none⟩ = some (.slice ac n cc) := by rw [cell_of_heap hF]; rfl
      have hn10 : n ≤ 10 := HN1.out.2
      have hLl : L.length ≤ 30 := by rw [HLL.out]; exact hK30
      have HLI : Hid (L.length = i) := Lib.hid HLL.out
      obtain ⟨R1, P1, Q1, hR1⟩ : ∃ R P Q, postRes (bookL OP n) (bookL CR n) L = (R, P, Q) := ⟨_, _, _, rfl⟩
      obtain ⟨R2, P2, Q2, hR2⟩ : ∃ R P Q, postRes (bookL OP n) (bookL CR n) ms = (R, P, Q) := ⟨_, _, _, rfl⟩
      have HR1 := Lib.hid hR1
      have HR2 := Lib.hid hR2
      clear hF hR1 hR2
      have mL : ∀ v w w', Below w.heap.size w w' → SlN 4 (fun _ => True) w v (L.map mvRow) → SlN 4 (fun _ => True) w' v (L.map mvRow) := fun v w w' hb h => h.below hb
      have mM : ∀ v w w', Below w.heap.size w w' → SlN 4 (fun _ => True) w v (ms.map mvRow) → SlN 4 (fun _ => True) w' v (ms.map mvRow) := fun v w w' hb h => h.below hb
      have mR1 : ∀ v w w', Below w.heap.size w w' → Sl (fun _ => True) w v (ints R1) → Sl (fun _ => True) w' v (ints R1) := fun v w w' hb h => h.below hb
      have mR2 : ∀ v w w', Below w.heap.size w w' → Sl (fun _ => True) w v (ints R2) → Sl (fun _ => True) w' v (ints R2) := fun v w w' hb h => h.below hb
      go_wp2_with fail
      refine wp_region_seqW (.is (.pointer (some ⟨B, 0, none⟩)) :: .is (.slice ao n co) :: kSlF (bookL OP n) :: .is (.pointer (some ⟨B, 1, none⟩)) :: .is (.slice ac n cc) :: kSlF (bookL CR n) :: kPair (bookL OP n) (bookL CR n) :: kEmp :: .is (.slice al i cl) :: kV (fun v w => SlN 4 (fun _ => True) w v (L.map mvRow)) mL :: kTup3 (.int .i64 P1) (.int .i64 Q1) (fun v w => Sl (fun _ => True) w v (ints R1)) mR1 :: kTup3 (.int .i64 P1) (.int .i64 Q1) (fun v w => Sl (fun _ => True) w v (ints R1)) mR1 :: kV (fun v w => Sl (fun _ => True) w v (ints R1)) mR1 :: .is (.int .i64 P1) :: .is (.int .i64 Q1) :: kV (fun v w => Sl (fun _ => True) w v (ints R1)) mR1 :: .is (.int .i64 P1) :: .is (.int .i64 Q1) :: []) rfl mix (by kernel_rfl) (by kernel_rfl) ?_
      refine seq_is rfl (fun u1 hb1 _ => ?_) ?_
      · simp [opOK, go_sem, Below.refl]
      simp only [Act.put, List.setIfInBounds_toArray, List.set_cons_succ, List.set_cons_zero]
      refine seq_is rfl (fun u1 hb1 _ => ?_) ?_
      · have c0 := bAt hb1 g0
        simp [opOK, go_sem, c0, Below.refl]
      simp only [Act.put, List.setIfInBounds_toArray, List.set_cons_succ, List.set_cons_zero]
      refine seq_new ⟨_, none, 0, rfl⟩ (by rfl) (fun u1 hb1 _ => ?_) ?_
      · refine opOK_call (f := 13) (args := #[.slice ao n co]) (by simp [go_sem]) ?_
        refine (copyInts_any (bookL OP n) _ u1 (HOw.out.below hb1) (by simp; omega)).mono ?_
        rintro e u2 ⟨r, rfl, hb2, hs2⟩
        exact ⟨_, rfl, hb2, Sl.formI hs2, hs2.mono fun _ _ => trivial⟩
      rintro _ ⟨a2, k2, rfl⟩
      simp only [Act.put, List.setIfInBounds_toArray, List.set_cons_succ, List.set_cons_zero]
      refine seq_is rfl (fun u1 hb1 _ => ?_) ?_
      · simp [opOK, go_sem, Below.refl]
      simp only [Act.put, List.setIfInBounds_toArray, List.set_cons_succ, List.set_cons_zero]
      refine seq_is rfl (fun u1 hb1 _ => ?_) ?_
      · have c1 := bAt hb1 g1
        simp [opOK, go_sem, c1, Below.refl]
      simp only [Act.put, List.setIfInBounds_toArray, List.set_cons_succ, List.set_cons_zero]
      refine seq_new ⟨_, none, 0, rfl⟩ (by rfl) (fun u1 hb1 _ => ?_) ?_
      · refine opOK_call (f := 13) (args := #[.slice ac n cc]) (by simp [go_sem]) ?_
        refine (copyInts_any (bookL CR n) _ u1 (HCw.out.below hb1) (by simp; omega)).mono ?_
        rintro e u2 ⟨r, rfl, hb2, hs2⟩
        exact ⟨_, rfl, hb2, Sl.formI hs2, hs2.mono fun _ _ => trivial⟩
      rintro _ ⟨a5, k5, rfl⟩
      simp only [Act.put, List.setIfInBounds_toArray, List.set_cons_succ, List.set_cons_zero]
      refine seq_new ⟨_, undef, undef, rfl⟩ (by rfl) (fun u1 hb1 hH => ?_) ?_
      · have h2 := hH ⟨2, .data⟩ (by simp) rfl
        have h5 := hH ⟨5, .data⟩ (by simp) rfl
        simp only [addH, if_true] at h2 h5
        have h2' : Sl (fun _ => True) u1 (.slice a2 (bookL OP n).length k2) (ints (bookL OP n)) := by simpa [kSlF] using h2
        have h5' : Sl (fun _ => True) u1 (.slice a5 (bookL CR n).length k5) (ints (bookL CR n)) := by simpa [kSlF] using h5
        simp only [bookL_length] at h2' h5'
        simp [opOK, go_sem]
        exact ⟨Below.refl _ _, ⟨_, _, rfl⟩, _, _, rfl, h2', h5'⟩
      rintro _ ⟨pa, pb, rfl⟩
      simp only [Act.put, List.setIfInBounds_toArray, List.set_cons_succ, List.set_cons_zero]
      refine seq_new ⟨_, 0, rfl⟩ (by rfl) (fun u1 hb1 _ => ?_) ?_
      · simp [opOK, go_sem]
        exact ⟨aB _ _, ⟨_, rfl⟩, trivial⟩
      rintro _ ⟨qe, rfl⟩
      simp only [Act.put, List.setIfInBounds_toArray, List.set_cons_succ, List.set_cons_zero]
      refine seq_is rfl (fun u1 hb1 _ => ?_) ?_
      · simp [opOK, go_sem, Below.refl]
      simp only [Act.put, List.setIfInBounds_toArray, List.set_cons_succ, List.set_cons_zero]
      refine seq_new ⟨undef, trivial⟩ (by rfl) (fun u1 hb1 _ => ?_) ?_
      · refine opOK_mono (opOK_copyB (.tmp 82) (.tmp 83) 40 rfl 44 (.agg #[.int .i64 0, .int .i64 0, .int .i64 0, .int .i64 0]) 4 32 Try.underlying40 info44 rfl (by decide) qe rfl _ (L.map mvRow) rfl (HLw.out.below hb1) (movs_one L) (by simp; omega) (by decide)) ?_
        exact fun v' w' h => ⟨h.1, trivial, h.2⟩
      rintro v9 -
      simp only [Act.put, List.setIfInBounds_toArray, List.set_cons_succ, List.set_cons_zero]
      refine seq_new ⟨_, undef, rfl⟩ (by rfl) (fun u1 hb1 hH => ?_) ?_
      · obtain ⟨a1, b1, e1, h1, h2⟩ := hH ⟨6, .data⟩ (by simp) rfl
        have h9 := hH ⟨9, .data⟩ (by simp) rfl
        simp only [addH, if_true] at h9
        have h9' : SlN 4 (fun _ => True) u1 v9 (L.map mvRow) := by simpa [kV] using h9
        cases e1
        refine opOK_call (f := 25) (args := #[.agg #[pa, pb], v9]) (by simp [go_sem]) ?_
        refine (post_any (bookL OP n) (bookL CR n) L pa pb v9 u1 h1 h2 h9').mono ?_
        rintro e u2 ⟨r, rfl, hb2, hs2⟩
        rw [HR1.out] at hs2
        exact ⟨_, rfl, hb2, ⟨r, by rw [HR1.out]⟩, r, by rw [HR1.out], hs2.mono fun _ _ => trivial⟩
      rintro _ ⟨r2, rfl⟩
      simp only [Act.put, List.setIfInBounds_toArray, List.set_cons_succ, List.set_cons_zero]
      refine seq_new ⟨_, undef, rfl⟩ (by rfl) (fun u1 hb1 hH => ?_) ?_
      · have h := hH ⟨10, .data⟩ (by simp) rfl
        simp only [addH, if_true] at h
        simp [opOK, go_sem]
        exact ⟨Below.refl _ _, ⟨_, rfl⟩, by simpa using h⟩
      rintro _ ⟨r3, rfl⟩
      simp only [Act.put, List.setIfInBounds_toArray, List.set_cons_succ, List.set_cons_zero]
      refine seq_new ⟨undef, trivial⟩ (by rfl) (fun u1 hb1 hH => ?_) ?_
      · obtain ⟨r, e, h⟩ := hH ⟨11, .data⟩ (by simp) rfl
        cases e
        simp [opOK, go_sem]
        exact ⟨Below.refl _ _, trivial, h⟩
      rintro r4 -
      simp only [Act.put, List.setIfInBounds_toArray, List.set_cons_succ, List.set_cons_zero]
      refine seq_is rfl (fun u1 hb1 _ => ?_) ?_
      · simp [opOK, go_sem, Below.refl]
      simp only [Act.put, List.setIfInBounds_toArray, List.set_cons_succ, List.set_cons_zero]
      refine seq_is rfl (fun u1 hb1 _ => ?_) ?_
      · simp [opOK, go_sem, Below.refl]
      simp only [Act.put, List.setIfInBounds_toArray, List.set_cons_succ, List.set_cons_zero]
      refine seq_new ⟨undef, trivial⟩ (by rfl) (fun u1 hb1 hH => ?_) ?_
      · have h := hH ⟨12, .data⟩ (by simp) rfl
        simp only [addH, if_true] at h
        simp [opOK, go_sem]
        exact ⟨Below.refl _ _, trivial, by simpa [kV] using h⟩
      rintro r5 -
      simp only [Act.put, List.setIfInBounds_toArray, List.set_cons_succ, List.set_cons_zero]
      refine seq_is rfl (fun u1 hb1 _ => ?_) ?_
      · simp [opOK, go_sem, Below.refl]
      simp only [Act.put, List.setIfInBounds_toArray, List.set_cons_succ, List.set_cons_zero]
      refine seq_is rfl (fun u1 hb1 _ => ?_) ?_
      · simp [opOK, go_sem, Below.refl]
      simp only [Act.put, List.setIfInBounds_toArray, List.set_cons_succ, List.set_cons_zero]
      refine seq_end fun w5 hb5 hH => ?_
      have h15 := hH 15 (by decide)
      simp only [addH, if_true] at h15
      have HRR1 : Hid (Sl (fun _ => True) w5 r5 (ints R1)) := Lib.hid (by simpa [kV] using h15)
      have HBB5 := Lib.hid hb5
      clear hH h15
      have HO5 := Lib.hid (HOw.out.below HBB5.out)
      have HC5 := Lib.hid (HCw.out.below HBB5.out)
      have HM5 := Lib.hid (HMw.out.below HBB5.out)
      replace g0 := bAt HBB5.out g0
      replace g1 := bAt HBB5.out g1
      go_wp2_with fail
      refine wp_region_seqW (.is (.pointer (some ⟨B, 0, none⟩)) :: .is (.slice ao n co) :: kSlF (bookL OP n) :: .is (.pointer (some ⟨B, 1, none⟩)) :: .is (.slice ac n cc) :: kSlF (bookL CR n) :: kPair (bookL OP n) (bookL CR n) :: kEmp :: .is (.slice (some ⟨g, 0, none⟩) ms.length c) :: kV (fun v w => SlN 4 (fun _ => True) w v (ms.map mvRow)) mM :: kTup3 (.int .i64 P2) (.int .i64 Q2) (fun v w => Sl (fun _ => True) w v (ints R2)) mR2 :: kTup3 (.int .i64 P2) (.int .i64 Q2) (fun v w => Sl (fun _ => True) w v (ints R2)) mR2 :: kV (fun v w => Sl (fun _ => True) w v (ints R2)) mR2 :: .is (.int .i64 P2) :: .is (.int .i64 Q2) :: kV (fun v w => Sl (fun _ => True) w v (ints R2)) mR2 :: .is (.int .i64 P2) :: .is (.int .i64 Q2) :: []) rfl mix (by kernel_rfl) (by kernel_rfl) ?_
      refine seq_is rfl (fun u1 hb1 _ => ?_) ?_
      · simp [opOK, go_sem, Below.refl]
      simp only [Act.put, List.setIfInBounds_toArray, List.set_cons_succ, List.set_cons_zero]
      refine seq_is rfl (fun u1 hb1 _ => ?_) ?_
      · have c0 := bAt hb1 g0
        simp [opOK, go_sem, c0, Below.refl]
      simp only [Act.put, List.setIfInBounds_toArray, List.set_cons_succ, List.set_cons_zero]
      refine seq_new ⟨_, none, 0, rfl⟩ (by rfl) (fun u1 hb1 _ => ?_) ?_
      · refine opOK_call (f := 13) (args := #[.slice ao n co]) (by simp [go_sem]) ?_
        refine (copyInts_any (bookL OP n) _ u1 (HO5.out.below hb1) (by simp; omega)).mono ?_
        rintro e u2 ⟨r, rfl, hb2, hs2⟩
        exact ⟨_, rfl, hb2, Sl.formI hs2, hs2.mono fun _ _ => trivial⟩
      rintro _ ⟨a2, k2, rfl⟩
      simp only [Act.put, List.setIfInBounds_toArray, List.set_cons_succ, List.set_cons_zero]
      refine seq_is rfl (fun u1 hb1 _ => ?_) ?_
      · simp [opOK, go_sem, Below.refl]
      simp only [Act.put, List.setIfInBounds_toArray, List.set_cons_succ, List.set_cons_zero]
      refine seq_is rfl (fun u1 hb1 _ => ?_) ?_
      · have c1 := bAt hb1 g1
        simp [opOK, go_sem, c1, Below.refl]
      simp only [Act.put, List.setIfInBounds_toArray, List.set_cons_succ, List.set_cons_zero]
      refine seq_new ⟨_, none, 0, rfl⟩ (by rfl) (fun u1 hb1 _ => ?_) ?_
      · refine opOK_call (f := 13) (args := #[.slice ac n cc]) (by simp [go_sem]) ?_
        refine (copyInts_any (bookL CR n) _ u1 (HC5.out.below hb1) (by simp; omega)).mono ?_
        rintro e u2 ⟨r, rfl, hb2, hs2⟩
        exact ⟨_, rfl, hb2, Sl.formI hs2, hs2.mono fun _ _ => trivial⟩
      rintro _ ⟨a5, k5, rfl⟩
      simp only [Act.put, List.setIfInBounds_toArray, List.set_cons_succ, List.set_cons_zero]
      refine seq_new ⟨_, undef, undef, rfl⟩ (by rfl) (fun u1 hb1 hH => ?_) ?_
      · have h2 := hH ⟨2, .data⟩ (by simp) rfl
        have h5 := hH ⟨5, .data⟩ (by simp) rfl
        simp only [addH, if_true] at h2 h5
        have h2' : Sl (fun _ => True) u1 (.slice a2 (bookL OP n).length k2) (ints (bookL OP n)) := by simpa [kSlF] using h2
        have h5' : Sl (fun _ => True) u1 (.slice a5 (bookL CR n).length k5) (ints (bookL CR n)) := by simpa [kSlF] using h5
        simp only [bookL_length] at h2' h5'
        simp [opOK, go_sem]
        exact ⟨Below.refl _ _, ⟨_, _, rfl⟩, _, _, rfl, h2', h5'⟩
      rintro _ ⟨pa, pb, rfl⟩
      simp only [Act.put, List.setIfInBounds_toArray, List.set_cons_succ, List.set_cons_zero]
      refine seq_new ⟨_, 0, rfl⟩ (by rfl) (fun u1 hb1 _ => ?_) ?_
      · simp [opOK, go_sem]
        exact ⟨aB _ _, ⟨_, rfl⟩, trivial⟩
      rintro _ ⟨qe, rfl⟩
      simp only [Act.put, List.setIfInBounds_toArray, List.set_cons_succ, List.set_cons_zero]
      refine seq_is rfl (fun u1 hb1 _ => ?_) ?_
      · simp [opOK, go_sem, Below.refl]
      simp only [Act.put, List.setIfInBounds_toArray, List.set_cons_succ, List.set_cons_zero]
      refine seq_new ⟨undef, trivial⟩ (by rfl) (fun u1 hb1 _ => ?_) ?_
      · refine opOK_mono (opOK_copyB (.tmp 97) (.tmp 98) 40 rfl 44 (.agg #[.int .i64 0, .int .i64 0, .int .i64 0, .int .i64 0]) 4 32 Try.underlying40 info44 rfl (by decide) qe rfl _ (ms.map mvRow) rfl (HM5.out.below hb1) (movs_one ms) (by simp; omega) (by decide)) ?_
        exact fun v' w' h => ⟨h.1, trivial, h.2⟩
      rintro v9 -
      simp only [Act.put, List.setIfInBounds_toArray, List.set_cons_succ, List.set_cons_zero]
      refine seq_new ⟨_, undef, rfl⟩ (by rfl) (fun u1 hb1 hH => ?_) ?_
      · obtain ⟨a1, b1, e1, h1, h2⟩ := hH ⟨6, .data⟩ (by simp) rfl
        have h9 := hH ⟨9, .data⟩ (by simp) rfl
        simp only [addH, if_true] at h9
        have h9' : SlN 4 (fun _ => True) u1 v9 (ms.map mvRow) := by simpa [kV] using h9
        cases e1
        refine opOK_call (f := 25) (args := #[.agg #[pa, pb], v9]) (by simp [go_sem]) ?_
        refine (post_any (bookL OP n) (bookL CR n) ms pa pb v9 u1 h1 h2 h9').mono ?_
        rintro e u2 ⟨r, rfl, hb2, hs2⟩
        rw [HR2.out] at hs2
        exact ⟨_, rfl, hb2, ⟨r, by rw [HR2.out]⟩, r, by rw [HR2.out], hs2.mono fun _ _ => trivial⟩
      rintro _ ⟨r2, rfl⟩
      simp only [Act.put, List.setIfInBounds_toArray, List.set_cons_succ, List.set_cons_zero]
      refine seq_new ⟨_, undef, rfl⟩ (by rfl) (fun u1 hb1 hH => ?_) ?_
      · have h := hH ⟨10, .data⟩ (by simp) rfl
        simp only [addH, if_true] at h
        simp [opOK, go_sem]
        exact ⟨Below.refl _ _, ⟨_, rfl⟩, by simpa using h⟩
      rintro _ ⟨r3, rfl⟩
      simp only [Act.put, List.setIfInBounds_toArray, List.set_cons_succ, List.set_cons_zero]
      refine seq_new ⟨undef, trivial⟩ (by rfl) (fun u1 hb1 hH => ?_) ?_
      · obtain ⟨r, e, h⟩ := hH ⟨11, .data⟩ (by simp) rfl
        cases e
        simp [opOK, go_sem]
        exact ⟨Below.refl _ _, trivial, h⟩
      rintro r4 -
      simp only [Act.put, List.setIfInBounds_toArray, List.set_cons_succ, List.set_cons_zero]
      refine seq_is rfl (fun u1 hb1 _ => ?_) ?_
      · simp [opOK, go_sem, Below.refl]
      simp only [Act.put, List.setIfInBounds_toArray, List.set_cons_succ, List.set_cons_zero]
      refine seq_is rfl (fun u1 hb1 _ => ?_) ?_
      · simp [opOK, go_sem, Below.refl]
      simp only [Act.put, List.setIfInBounds_toArray, List.set_cons_succ, List.set_cons_zero]
      refine seq_new ⟨undef, trivial⟩ (by rfl) (fun u1 hb1 hH => ?_) ?_
      · have h := hH ⟨12, .data⟩ (by simp) rfl
        simp only [addH, if_true] at h
        simp [opOK, go_sem]
        exact ⟨Below.refl _ _, trivial, by simpa [kV] using h⟩
      rintro r6 -
      simp only [Act.put, List.setIfInBounds_toArray, List.set_cons_succ, List.set_cons_zero]
      refine seq_is rfl (fun u1 hb1 _ => ?_) ?_
      · simp [opOK, go_sem, Below.refl]
      simp only [Act.put, List.setIfInBounds_toArray, List.set_cons_succ, List.set_cons_zero]
      refine seq_is rfl (fun u1 hb1 _ => ?_) ?_
      · simp [opOK, go_sem, Below.refl]
      simp only [Act.put, List.setIfInBounds_toArray, List.set_cons_succ, List.set_cons_zero]
      refine seq_end fun w6 hb6 hH => ?_
      have h15 := hH 15 (by decide)
      simp only [addH, if_true] at h15
      have HRR2 : Hid (Sl (fun _ => True) w6 r6 (ints R2)) := Lib.hid (by simpa [kV] using h15)
      have HBB6 := Lib.hid hb6
      clear hH h15
      have HRR16 := Lib.hid (HRR1.out.below HBB6.out)
      have HB6o : Hid (Below w.heap.size w w6) := Lib.hid (bThen (bThen HBo.out HBB5.out) HBB6.out)
      have HL6 := Lib.hid ((HLw.out.below HBB5.out).below HBB6.out)
      have HM6 := Lib.hid (HM5.out.below HBB6.out)
      have HO6 := Lib.hid (HO5.out.below HBB6.out)
      have HC6 := Lib.hid (HC5.out.below HBB6.out)
      replace g0 := bAt HBB6.out g0
      replace g1 := bAt HBB6.out g1
      have hMv : MvOk (bookL OP n).length L := by rw [bookL_length, ← HLE.out]; exact movK_ok HMB.out HN1.out
      have hlaw := any_order (op := bookL OP n) (cr := bookL CR n) (L := L) (M := ms) (by simpa using HN1.out) (by simp) (bookL_bd HO.out) (bookL_bd HC.out) hMv (by rw [← HLE.out]; exact movK_nodup _ _ (by omega)) (by rw [← HLE.out]; exact movK_amt HMB.out) (by omega) (by omega) HMEM.out
      rw [HR1.out, HR2.out] at hlaw
      simp only [Prod.mk.injEq, bookL_length] at hlaw
      have HMV := Lib.hid hMv
      have HAMT : Hid (∀ x ∈ L, x.2.2.2 ≤ 65536) := Lib.hid (by rw [← HLE.out]; exact movK_amt HMB.out)
      clear hMv
      rcases hlaw with ⟨has, ⟨e1, e2, e3⟩, ⟨e4, e5, e6⟩, hl, hv, hsum⟩ | ⟨a1, a2, y, ⟨e1, e2, e3⟩, ⟨e4, e5, e6⟩, hy1, hy2⟩
      · subst e1 e2 e3 e4 e5 e6
        obtain ⟨has, hhas⟩ : ∃ l, l = R2 := ⟨R2, rfl⟩
        subst hhas
        obtain ⟨a5, c5, rfl⟩ := Sl.formI HRR16.out
        obtain ⟨a6, c6, rfl⟩ := Sl.formI HRR2.out
        have hamt : ∀ x ∈ L, 0 ≤ x.2.2.2 ∧ x.2.2.2 ≤ 65536 := fun x hx => by
          have h1 := (moveErr_zero (by rw [← bookL_length OP n]; exact HMV.out.valid x hx : moveErr n x = 0)).2.2.2.2
          have h2 := HAMT.out x hx
          omega
        have hdl : ∀ j, j < n → -1966080 ≤ has.getD j 0 - (bookL OP n).getD j 0 ∧ has.getD j 0 - (bookL OP n).getD j 0 ≤ 1966080 := fun j hj => by
          have h1 := (hv j hj).2
          have h2 := deltas_bd (i := j) hamt
          omega
        have HHL : Hid (has.length = n) := Lib.hid hl
        have HHV := Lib.hid hv
        have HSUM : Hid (sumD has (bookL OP n) n = 0) := Lib.hid hsum
        have HSB : Hid (∀ k, k ≤ n → -(1966080 * (k : Int)) ≤ sumD has (bookL OP n) k ∧ sumD has (bookL OP n) k ≤ 1966080 * (k : Int)) := Lib.hid (sumD_bd hdl)
        have HAM := Lib.hid hamt
        have hR5 := HRR16.out
        have hR6 := HRR2.out
        rw [hl] at hR5 hR6 ⊢
        have HR5 := Lib.hid hR5
        have HR6 := Lib.hid hR6
        clear hl hv hsum hamt hdl hR5 hR6 HRR16 HRR2
        go_wp2_with fail
        simp only [bookL_length]
        go_loopw [16, 17, 18, 19] (fun sv iv _ _ wr => ∃ k : Nat, k ≤ n ∧ iv = .int .i64 (k : Int) ∧ sv = .int .i64 (sumD has (bookL OP n) k) ∧ Hid (Below w6.heap.size w6 wr)) (fun _ iv _ _ _ => n - (intOf iv).toNat)
        case atStart => exact ⟨0, Nat.zero_le _, rfl, rfl, Lib.hid (Below.refl _ _)⟩
        case round =>
          obtain ⟨k, hk, rfl, rfl, HBk⟩ := hrel
          obtain ⟨wk, rfl⟩ : ∃ wk : World, wk = wr := ⟨_, rfl⟩
          by_cases hlt : k < n
          · as_aux_lemma =>
            have hBk := HBk.out
            have hkc : k < (bookL CR n).length := by simpa using hlt
            have hko : k < (bookL OP n).length := by simpa using hlt
            have hkh : k < has.length := by rw [HHL.out]; exact hlt
            obtain ⟨bo, oo, hao, _, po⟩ := (HO6.out.below hBk).cell hko
            cases hao
            obtain ⟨bc, oc, hac, _, pc⟩ := (HC6.out.below hBk).cell hkc
            cases hac
            obtain ⟨b5, o5, ha5, _, p5⟩ := (HR5.out.below hBk).cell hkh
            cases ha5
            obtain ⟨b6, o6, ha6, _, p6⟩ := (HR6.out.below hBk).cell hkh
            cases ha6
            have e0 := bAt hBk g0
            have e1 := bAt hBk g1
            obtain ⟨h, hh⟩ : ∃ h, has[k] = h := ⟨_, rfl⟩
            obtain ⟨ob, hob⟩ : ∃ x, (bookL OP n)[k] = x := ⟨_, rfl⟩
            obtain ⟨cb, hcb⟩ : ∃ x, (bookL CR n)[k] = x := ⟨_, rfl⟩
            rw [hh] at p5 p6
            rw [hob] at po
            rw [hcb] at pc
            have go : (bookL OP n).getD k 0 = ob := by rw [← hob]; exact getD_at hko
            have gc : (bookL CR n).getD k 0 = cb := by rw [← hcb]; exact getD_at hkc
            have gh : has.getD k 0 = h := by rw [← hh]; exact getD_at hkh
            have obb : 0 ≤ ob ∧ ob ≤ 65535 := by rw [← hob]; exact bookL_bd HO.out _ (List.getElem_mem hko)
            have cbb : 0 ≤ cb ∧ cb ≤ 65535 := by rw [← hcb]; exact bookL_bd HC.out _ (List.getElem_mem hkc)
            have hvk := HHV.out k (by simpa using hlt)
            rw [go, gc, gh] at hvk
            have hall : sumX L k i = (L.map (delta k)).sum := by unfold sumX; rw [List.take_of_length_le (by rw [HLI.out]; exact Nat.le_refl _)]
            have hsd0 := HSB.out k (by omega)
            have hsd1 := HSB.out (k + 1) (by omega)
            have hsds : sumD has (bookL OP n) (k + 1) = sumD has (bookL OP n) k + (h - ob) := by rw [sumD_succ, go, gh]
            rw [hsds] at hsd1
            obtain ⟨sd, hsd⟩ : ∃ x, sumD has (bookL OP n) k = x := ⟨_, rfl⟩
            rw [hsd] at hsd0 hsd1 hsds ⊢
            have HSDS := Lib.hid hsds
            have HFIN : Hid (h = ob + sumX L k i) := Lib.hid (by rw [hall]; exact hvk.2)
            have hcrd := hvk.1
            have hxb : ∀ m, -1966080 ≤ sumX L k m ∧ sumX L k m ≤ 1966080 := fun m => by
              have h1 := deltas_bd (i := k) (L := L.take m) fun x hx => HAM.out x (List.mem_of_mem_take hx)
              have h2 : (L.take m).length ≤ 30 := Nat.le_trans (List.length_take_le' _ _) hLl
              unfold sumX; omega
            have HXB := Lib.hid hxb
            have hhb : -1966080 ≤ h ∧ h ≤ 2031615 := by have h1 := hxb i; have h2 := HFIN.out; omega
            clear hvk hall hsds hsd hh hob hcb go gc gh hxb
            have b0k : (0 : Int) ≤ (k : Int) := by omega
            have bkn : (k : Int) < (n : Int) := by omega
            go_wp2_with fail
            go_loop [18, 19] (fun wv jv => ∃ (j : Nat) (s : Int), j ≤ i ∧ jv = .int .i64 (j : Int) ∧ wv = .int .i64 s ∧ Hid (s = ob + sumX L k j)) (fun _ jv => i - (intOf jv).toNat)
            case atStart => exact ⟨0, ob, Nat.zero_le _, rfl, rfl, Lib.hid (by simp [sumX])⟩
            case round =>
              obtain ⟨j, s, hj, rfl, rfl, HS⟩ := hrel
              have hsb : -1966080 ≤ s ∧ s ≤ 2031615 := by have := HXB.out j; have := HS.out; omega
              by_cases hjl : j < i
              · have hjL : j < L.length := by rw [HLI.out]; exact hjl
                obtain ⟨x, hx⟩ : ∃ x, L[j] = x := ⟨_, rfl⟩
                obtain ⟨bl2, ol2, hal, _, _, hcl⟩ := (HL6.out.below hBk).cell (i := j) (by simpa using hjL)
                simp only [List.getElem_map, hx, mvRow] at hcl
                have q1 := hcl 1 _ rfl
                have q2 := hcl 2 _ rfl
                have q3 := hcl 3 _ rfl
                cases hal
                have hxa := HAM.out L[j] (List.getElem_mem hjL)
                have hxv := moveErr_zero (by rw [← bookL_length OP n]; exact HMV.out.valid _ (List.getElem_mem hjL) : moveErr n L[j] = 0)
                rw [hx] at hxa hxv
                have hx2 : 0 ≤ x.2.1 ∧ 0 ≤ x.2.2.1 := by omega
                have HD : Hid (sumX L k (j + 1) = sumX L k j + ((if (x.2.1 == (k : Int)) = true then -x.2.2.2 else 0) + (if (x.2.2.1 == (k : Int)) = true then x.2.2.2 else 0))) := Lib.hid (by rw [sumX_succ hjL, hx, delta_eq hx2])
                have hjn : (j : Int) < (i : Int) := by omega
                have hj0 : (0 : Int) ≤ (j : Int) := by omega
                obtain ⟨x0, x1, x2, am⟩ := x
                simp only at hxa hxv q1 q2 q3 HD
                clear hcl hx hxv hx2
                by_cases t1 : (x1 == (k : Int)) = true
                · by_cases t2 : (x2 == (k : Int)) = true
                  · have HE : Hid (s - am + am = ob + sumX L k (j + 1)) := Lib.hid (by rw [HD.out, if_pos t1, if_pos t2, HS.out]; omega)
                    go_wp2_with fail
                    go_round
                    case rel => exact ⟨j + 1, s - am + am, by omega, by go_num, by go_num, HE⟩
                    case measure => simp [intOf]; omega
                  · have HE : Hid (s - am = ob + sumX L k (j + 1)) := Lib.hid (by rw [HD.out, if_pos t1, if_neg t2, HS.out]; omega)
                    have t2 : (x2 == (k : Int)) = false := by simpa using t2
                    go_wp2_with fail
                    go_round
                    case rel => exact ⟨j + 1, s - am, by omega, by go_num, by go_num, HE⟩
                    case measure => simp [intOf]; omega
                · by_cases t2 : (x2 == (k : Int)) = true
                  · have HE : Hid (s + am = ob + sumX L k (j + 1)) := Lib.hid (by rw [HD.out, if_neg t1, if_pos t2, HS.out]; omega)
                    have t1 : (x1 == (k : Int)) = false := by simpa using t1
                    go_wp2_with fail
                    go_round
                    case rel => exact ⟨j + 1, s + am, by omega, by go_num, by go_num, HE⟩
                    case measure => simp [intOf]; omega
                  · have HE : Hid (s = ob + sumX L k (j + 1)) := Lib.hid (by rw [HD.out, if_neg t1, if_neg t2, HS.out]; omega)
                    have t1 : (x1 == (k : Int)) = false := by simpa using t1
                    have t2 : (x2 == (k : Int)) = false := by simpa using t2
                    go_wp2_with fail
                    go_round
                    case rel => exact ⟨j + 1, s, by omega, by go_num, by go_num, HE⟩
                    case measure => simp [intOf]; omega
              · obtain rfl : j = i := by omega
                have hse : s = h := by rw [HS.out]; exact HFIN.out.symm
                clear HS
                subst hse
                have u1w : IntKind.i64.wrap (-cb) = -cb := wrap_small _ (by omega) (by omega)
                have u2w : IntKind.i64.wrap (s - ob) = s - ob := wrap_small _ (by omega) (by omega)
                have u3w : IntKind.i64.wrap (sd + (s - ob)) = sd + (s - ob) := wrap_small _ (by omega) (by omega)
                have dlt : decide (s < -cb) = false := decide_eq_false (by omega)
                have dlt2 : ¬ s < -cb := by omega
                go_wp2_with fail
                refine wp_region_seqW (.is ?_ :: .is ?_ :: .is ?_ :: .is ?_ :: .is ?_ :: .is ?_ :: .is ?_ :: .is ?_ :: .is ?_ :: .is ?_ :: .is ?_ :: .is ?_ :: .is ?_ :: .is ?_ :: .is ?_ :: .is ?_ :: .is ?_ :: .is ?_ :: .is ?_ :: .is ?_ :: .is ?_ :: .is ?_ :: .is ?_ :: .is ?_ :: .is ?_ :: .is ?_ :: .is ?_ :: []) rfl mix (by kernel_rfl) (by kernel_rfl) ?_
                rotate_left 27
                iterate 27
                  first
                    | refine seq_is rfl (fun u1 hb1 _ => ?_) ?_
                    | refine seq_on (by rfl) (fun u1 hb1 _ => ?_) ?_
                  · have c5' := bAt hb1 p5
                    have c6' := bAt hb1 p6
                    have cc' := bAt hb1 pc
                    have c1' := bAt hb1 e1
                    simp [opOK, go_sem, c5', c6', cc', c1', b0k, bkn, u1w, Below.refl]
                    try exact rfl
                  simp only [Act.put, List.setIfInBounds_toArray, List.set_cons_succ, List.set_cons_zero]
                refine seq_end fun w8 hb8 _ => ?_
                have p5' := bAt hb8 p5
                have po' := bAt hb8 po
                have e0' := bAt hb8 e0
                have HBT8 := Lib.hid (bThen hBk hb8)
                clear hb8 p5 p6 po pc e0 e1
                go_wp2_with fail
                go_quiet (fail)
                go_wp2_with fail
                go_roundw
                case rel => exact ⟨k + 1, by omega, by go_num, by rw [HSDS.out], Lib.hid (bThen HBT8.out (bDrew _ _))⟩
                case measure => simp [intOf]; omega
          · obtain rfl : k = n := by omega
            rw [HSUM.out]
            go_wp2_with fail
            refine (known_any wk).mono ?_
            rintro e w7 ⟨rfl, hb7⟩
            have HBT := Lib.hid (bThen (bThen HB6o.out HBk.out) hb7)
            clear hb7
            go_wp2
            go_ret
            exact ⟨rfl, HBT.out⟩
      · subst e1 e2 e3 e4 e5 e6
        obtain ⟨a5, c5, rfl⟩ := Sl.formI HRR16.out
        obtain ⟨a6, c6, rfl⟩ := Sl.formI HRR2.out
        simp only [List.length_nil]
        obtain ⟨ha1, hy1'⟩ := List.getElem?_eq_some_iff.1 hy1
        obtain ⟨ha2, hy2'⟩ := List.getElem?_eq_some_iff.1 hy2
        obtain ⟨b1, o1, hal1, _, _, hc1⟩ := HL6.out.cell (i := a1) (by simpa using ha1)
        obtain ⟨b2, o2, hal2, _, _, hc2⟩ := HM6.out.cell (i := a2) (by simpa using ha2)
        simp only [List.getElem_map, hy1', mvRow] at hc1
        simp only [List.getElem_map, hy2', mvRow] at hc2
        have c0 := hc1 0 _ rfl
        have c1 := hc1 1 _ rfl
        have c2 := hc1 2 _ rfl
        have c3 := hc1 3 _ rfl
        have d0 := hc2 0 _ rfl
        have d1 := hc2 1 _ rfl
        have d2 := hc2 2 _ rfl
        have d3 := hc2 3 _ rfl
        simp only [Nat.add_zero] at c0 d0
        cases hal1
        cases hal2
        simp only [Nat.zero_add] at d0 d1 d2 d3
        have hai : a1 < i := by rw [← HLI.out]; exact ha1
        have p1 : (0 : Int) ≤ (a1 : Int) := by omega
        have p2 : (0 : Int) ≤ (a2 : Int) := by omega
        have p3 : (a1 : Int) < (i : Int) := by omega
        have p4 : (a2 : Int) < (ms.length : Int) := by omega
        clear hy1 hy2 hy1' hy2' hc1 hc2
        go_wp2_with fail
        refine wp_region_seqW (.is ?_ :: .is ?_ :: .is ?_ :: .is ?_ :: .is ?_ :: .is ?_ :: .is ?_ :: .is ?_ :: .is ?_ :: .is ?_ :: .is ?_ :: .is ?_ :: .is ?_ :: .is ?_ :: .is ?_ :: .is ?_ :: .is ?_ :: .is ?_ :: .is ?_ :: .is ?_ :: .is ?_ :: .is ?_ :: .is ?_ :: .is ?_ :: .is ?_ :: .is ?_ :: .is ?_ :: .is ?_ :: .is ?_ :: .is ?_ :: .is ?_ :: .is ?_ :: .is ?_ :: .is ?_ :: .is ?_ :: .is ?_ :: .is ?_ :: .is ?_ :: .is ?_ :: .is (.bool true) :: .is ?_ :: .is ?_ :: []) rfl mix (by kernel_rfl) (by kernel_rfl) ?_
        rotate_left 41
        iterate 39
          first
            | refine seq_is rfl (fun u1 hb1 _ => ?_) ?_
            | refine seq_on (by rfl) (fun u1 hb1 _ => ?_) ?_
          · have c0' := bAt hb1 c0
            have c1' := bAt hb1 c1
            have c2' := bAt hb1 c2
            have c3' := bAt hb1 c3
            have d0' := bAt hb1 d0
            have d1' := bAt hb1 d1
            have d2' := bAt hb1 d2
            have d3' := bAt hb1 d3
            simp [opOK, go_sem, c0', c1', c2', c3', d0', d1', d2', d3', p1, p2, p3, p4, Below.refl]
            try exact rfl
          simp only [Act.put, List.setIfInBounds_toArray, List.set_cons_succ, List.set_cons_zero]
        refine seq_on (by rfl) (fun u1 hb1 _ => ?_) ?_
        · refine opOK_call (f := 12) (args := #[]) (by simp [go_sem]) ?_
          refine (known_any u1).mono ?_
          rintro e u2 ⟨rfl, hb2⟩
          exact ⟨_, rfl, rfl, hb2⟩
        simp only [Act.put, List.setIfInBounds_toArray, List.set_cons_succ, List.set_cons_zero]
        iterate 2
          refine seq_is rfl (fun u1 hb1 _ => ?_) ?_
          · simp [opOK, go_sem, Below.refl]
            try exact rfl
          simp only [Act.put, List.setIfInBounds_toArray, List.set_cons_succ, List.set_cons_zero]
        refine seq_end fun w7 hb7 _ => ?_
        have HBT := Lib.hid (bThen HB6o.out hb7)
        clear hb7
        go_wp2
        go_ret
        exact ⟨rfl, HBT.out⟩
end Go.Proofs.Ytagfcodpgochjaa
