/- The texts WD, WC, in build order. -/
import Derived.Test.YtpfpjbglpibdoaaGreatDoorZax
import Derived.Deep.WholeRow

/- Chapter 5: the scores of visits that do not win, as HeardVisits collects them. -/
namespace Go.Proofs.YtpfpjbglpibdoaaGreatDoor
open Go.RowKit Go.Oche Go.Proofs

def seenB (V : List (En × Nat)) (a : Int) (j : Nat) : Bool := V.any fun p => !p.1.won && (a - p.1.left == (j : Int))
def seenL (V : List (En × Nat)) (a : Int) : List Bool := (List.range 1002).map (seenB V a)
def wonB (V : List (En × Nat)) : Bool := V.any fun p => p.1.won
theorem seenL_nil (a : Int) : seenL [] a = List.replicate 1002 false := by
  unfold seenL
  refine List.ext_getElem (by rw [List.length_map, List.length_range, List.length_replicate]) fun j h1 h2 => ?_
  rw [List.getElem_map, List.getElem_replicate]
  rfl
theorem seenL_won {V : List (En × Nat)} {a : Int} {p : En × Nat} (h : p.1.won = true) : seenL (V ++ [p]) a = seenL V a := by
  unfold seenL seenB
  refine List.map_congr_left fun j _ => ?_
  simp [h]
theorem seenL_set {V : List (En × Nat)} {a : Int} {p : En × Nat} {k : Nat} (h : p.1.won = false) (hk : a - p.1.left = k) (hk2 : k < 1002) : seenL (V ++ [p]) a = (seenL V a).set k true := by
  refine List.ext_getElem (by simp [seenL]) fun j h1 h2 => ?_
  rw [List.getElem_set]
  simp only [seenL, List.getElem_map, List.getElem_range]
  unfold seenB
  rw [List.any_append]
  simp only [List.any_cons, List.any_nil, h, Bool.not_false, Bool.true_and, Bool.or_false, hk]
  by_cases e : k = j
  · subst e; simp
  · rw [if_neg e]
    have : ((k : Int) == (j : Int)) = false := beq_eq_false_iff_ne.2 (by omega)
    rw [this, Bool.or_false]
theorem wonB_snoc (V : List (En × Nat)) (p : En × Nat) : wonB (V ++ [p]) = (wonB V || p.1.won) := by simp [wonB]
def rightL (V : List (En × Nat)) (a : Int) (i : Nat) : List Int := ((List.range i).filter (seenB V a)).map fun (j : Nat) => (j : Int)
theorem rightL_succ (V : List (En × Nat)) (a : Int) (i : Nat) : rightL V a (i + 1) = rightL V a i ++ if seenB V a i = true then [(i : Int)] else [] := by
  unfold rightL
  rw [List.range_succ, List.filter_append, List.map_append]
  congr 1
  by_cases h : seenB V a i = true
  · rw [if_pos h]; simp [h]
  · rw [if_neg h]; simp [h]
theorem rightL_len (V : List (En × Nat)) (a : Int) (i : Nat) : (rightL V a i).length ≤ i := by
  unfold rightL
  rw [List.length_map]
  exact Nat.le_trans (List.length_filter_le _ _) (by simp)
theorem asc_eq : ∀ {a b : List Int}, a.Pairwise (· < ·) → b.Pairwise (· < ·) → (∀ x, x ∈ a ↔ x ∈ b) → a = b := fun {a b} ha hb h => by
  have hna : a.Nodup := ha.imp fun h => by omega
  have hnb : b.Nodup := hb.imp fun h => by omega
  have hp : a.Perm b := (List.perm_ext_iff_of_nodup hna hnb).2 h
  exact hp.eq_of_pairwise (fun x y _ _ h1 h2 => by omega) ha hb
theorem rightL_is {l : Lg} (hg : GoodBeds l) {s : Std} (hs : 0 ≤ s.left ∧ s.left ≤ 1001) {xs : List Int} (h : IsScores l s xs) : xs = rightL (vis5 l s) s.left 1002 := by
  refine asc_eq h.1 ?_ fun x => ?_
  · unfold rightL
    rw [List.pairwise_map]
    exact ((List.pairwise_lt_range).filter _).imp fun h => by omega
  · rw [h.2]
    unfold rightL
    rw [List.mem_map]
    constructor
    · rintro ⟨p, hp, hw, rfl⟩
      have hb := vis_left hg hs.1 hp
      refine ⟨(s.left - p.1.left).toNat, List.mem_filter.2 ⟨List.mem_range.2 (by omega), ?_⟩, by omega⟩
      unfold seenB
      refine List.any_eq_true.2 ⟨p, hp, ?_⟩
      rw [hw]
      simp only [Bool.not_false, Bool.true_and, beq_iff_eq]
      omega
    · rintro ⟨j, hj, rfl⟩
      obtain ⟨_, h2⟩ := List.mem_filter.1 hj
      obtain ⟨p, hp, hq⟩ := List.any_eq_true.1 h2
      rw [Bool.and_eq_true, Bool.not_eq_true', beq_iff_eq] at hq
      exact ⟨p, hp, hq.1, hq.2⟩
theorem zc42 : Tryz.zeroCells42 = (bools (List.replicate 1002 false)).toArray := by kernel_rfl
theorem one42 : Tryz.zeroCells42.all (·.oneCell') = true := by
  rw [zc42, List.all_toArray, List.all_eq_true]
  intro x hx
  obtain ⟨b, _, rfl⟩ := List.mem_map.1 hx
  rfl
theorem size42 : Tryz.zeroCells42.size = 1002 := by rw [zc42, List.size_toArray, bools_length, List.length_replicate]
theorem info42 : (Tryz.prog.info? 42).map (·.size) = some 1002 := by kernel_rfl
theorem store42 (w : World) : (storeCells ⟨w.heap.size, 0, none⟩ Tryz.zeroCells42.toList).run Tryz.prog (w.alloc (.cells Tryz.zeroCells42 42)) = .ok () (w.alloc (.cells Tryz.zeroCells42 42)) :=
  run_storeCells_new (P := Tryz.prog) w 42 Tryz.zeroCells42 Tryz.zeroCells42 (by rw [size42]; exact info42) rfl one42
theorem heap42 (w : World) (a : Int) : (w.alloc (.cells Tryz.zeroCells42 42)).heap[w.heap.size]? = some (.cells (bools (seenL [] a)).toArray 42 (0, 0)) := by
  rw [seenL_nil, ← zc42]; exact World.alloc_heap_new _ _
end Go.Proofs.YtpfpjbglpibdoaaGreatDoor

/- Chapter 5: HeardVisits, the walk. -/
namespace Go.Proofs.YtpfpjbglpibdoaaGreatDoor
open Go Go.RowKit Go.Oche Go.Proofs

set_option maxRecDepth 100000 in
set_option maxHeartbeats 4000000 in
theorem heardVisits_any {S : Nat → Prop} (l : Lg) (bv : Value) (s : Std) (w : World) (hs : Sl S w bv (ints l.beds)) (hbd : BedsIn l) (hT : Tab5 w) :
    Calls Tryz.prog 3 #[legV l bv, stV s] w fun e w' => e = .returned (.bool true) ∧ Below w.heap.size w w' := by
  obtain ⟨a, cap, rfl, h2, h3⟩ := hs.form
  obtain ⟨sl, si⟩ := s
  simp only [ints_length] at *
  unfold maxLen at h3
  obtain ⟨n, hn⟩ : ∃ n, l.beds.length = n := ⟨_, rfl⟩
  rw [hn] at h2 hs ⊢
  obtain ⟨w1, hw1⟩ : ∃ x, (w.alloc (.cells #[.int .i64 l.start, .int .i64 l.gin, .int .i64 l.gout, .slice a n cap, .int .i64 l.players, .int .i64 l.turns, .bool l.won] 27)).alloc (.cells #[.int .i64 sl, .bool si] 29) = x := ⟨_, rfl⟩
  have hb1 : Below w.heap.size w w1 := by rw [← hw1]; exact (aB _ _).alloc (by simp) _
  obtain ⟨N, hN⟩ : ∃ N, w.heap.size = N := ⟨_, rfl⟩
  have k : w1.heap[N]? = some (.cells #[.int .i64 l.start, .int .i64 l.gin, .int .i64 l.gout, .slice a n cap, .int .i64 l.players, .int .i64 l.turns, .bool l.won] 27 (0, 0)) := by rw [← hw1, ← hN]; exact (Below.heap_alloc _ _ _ (by simp)).trans (World.alloc_heap_new _ _)
  have k2 : w1.heap[N + 1]? = some (.cells #[.int .i64 sl, .bool si] 29 (0, 0)) := by
    rw [← hw1, ← hN]
    have := World.alloc_heap_new (w.alloc (.cells #[.int .i64 l.start, .int .i64 l.gin, .int .i64 l.gout, .slice a n cap, .int .i64 l.players, .int .i64 l.turns, .bool l.won] 27)) (.cells #[.int .i64 sl, .bool si] 29)
    simp only [World.size_alloc] at this
    exact this
  have c0 : w1.cell? ⟨N, 0, none⟩ = some (.int .i64 l.start) := by rw [cell_of_heap k]; rfl
  have c1 : w1.cell? ⟨N, 1, none⟩ = some (.int .i64 l.gin) := by rw [cell_of_heap k]; rfl
  have c2 : w1.cell? ⟨N, 2, none⟩ = some (.int .i64 l.gout) := by rw [cell_of_heap k]; rfl
  have c3 : w1.cell? ⟨N, 3, none⟩ = some (.slice a n cap) := by rw [cell_of_heap k]; rfl
  have c4 : w1.cell? ⟨N, 4, none⟩ = some (.int .i64 l.players) := by rw [cell_of_heap k]; rfl
  have c5 : w1.cell? ⟨N, 5, none⟩ = some (.int .i64 l.turns) := by rw [cell_of_heap k]; rfl
  have c6 : w1.cell? ⟨N, 6, none⟩ = some (.bool l.won) := by rw [cell_of_heap k]; rfl
  have s0 : w1.cell? ⟨N + 1, 0, none⟩ = some (.int .i64 sl) := by rw [cell_of_heap k2]; rfl
  have s1 : w1.cell? ⟨N + 1, 1, none⟩ = some (.bool si) := by rw [cell_of_heap k2]; rfl
  have HS := Lib.hid (hs.below hb1)
  have HB := Lib.hid hb1
  have HW := Lib.hid hw1
  have HT := Lib.hid hT
  have HBD := Lib.hid hbd
  have HLN := Lib.hid hn
  have HN := Lib.hid hN
  unfold legV legA stV
  simp only
  clear hs hb1 hw1 hT hbd hn k k2 hN
  go_enter Tryz.func3, Tryz.ntmps3
  go_upto_region 1 with fail
  rw [HW.out, HN.out]
  go_wp2_with fail
  have hcall := great_any l (.slice a n cap) w1 HS.out
  unfold legV legA at hcall
  obtain ⟨g, hg⟩ : ∃ g, greatB l = g := ⟨_, rfl⟩
  rw [hg] at hcall
  refine hcall.mono ?_
  rintro e w2 ⟨rfl, hb2⟩
  have HG := Lib.hid hg
  have HB2 := Lib.hid (bThen HB.out hb2)
  have HS2 := Lib.hid (HS.out.below hb2)
  have c0 := bAt hb2 c0
  have c1 := bAt hb2 c1
  have c2 := bAt hb2 c2
  have c3 := bAt hb2 c3
  have c4 := bAt hb2 c4
  have c5 := bAt hb2 c5
  have c6 := bAt hb2 c6
  have s0 := bAt hb2 s0
  have s1 := bAt hb2 s1
  clear hcall hb2 hg
  cases g
  · have hgn := great_no HG.out
    have hn90 : n ≤ 90 := by rw [← HLN.out]; exact hgn.1
    have HGN := Lib.hid hgn.2
    clear hgn
    go_wp2_with fail
    have hcall := own_any l (.slice a n cap) w2 HS2.out (by rw [HLN.out]; omega)
    unfold legV legA at hcall
    refine hcall.mono ?_
    rintro e w3 ⟨bv3, rfl, hb3, hs3⟩
    obtain ⟨a3, cap3, rfl, -, -⟩ := hs3.form
    rw [ints_length, HLN.out] at hs3 ⊢
    have HB3 := Lib.hid (bThen HB2.out hb3)
    have HS3 := Lib.hid (HS2.out.below hb3)
    have HO3 := Lib.hid hs3
    clear hcall hs3
    go_upto_region 4 with fail
    obtain ⟨w4, hw4⟩ : ∃ x, w3.alloc (.cells #[.int .i64 l.start, .int .i64 l.gin, .int .i64 l.gout, .slice a3 n cap3, .int .i64 l.players, .int .i64 l.turns, .bool l.won] 27) = x := ⟨_, rfl⟩
    have hb4 : Below w3.heap.size w3 w4 := by rw [← hw4]; exact aB _ _
    obtain ⟨Q, hQ⟩ : ∃ Q, w3.heap.size = Q := ⟨_, rfl⟩
    have k4 : w4.heap[Q]? = some (.cells #[.int .i64 l.start, .int .i64 l.gin, .int .i64 l.gout, .slice a3 n cap3, .int .i64 l.players, .int .i64 l.turns, .bool l.won] 27 (0, 0)) := by rw [← hw4, ← hQ]; exact World.alloc_heap_new _ _
    have o0 : w4.cell? ⟨Q, 0, none⟩ = some (.int .i64 l.start) := by rw [cell_of_heap k4]; rfl
    have o1 : w4.cell? ⟨Q, 1, none⟩ = some (.int .i64 l.gin) := by rw [cell_of_heap k4]; rfl
    have o2 : w4.cell? ⟨Q, 2, none⟩ = some (.int .i64 l.gout) := by rw [cell_of_heap k4]; rfl
    have o3 : w4.cell? ⟨Q, 3, none⟩ = some (.slice a3 n cap3) := by rw [cell_of_heap k4]; rfl
    have o4 : w4.cell? ⟨Q, 4, none⟩ = some (.int .i64 l.players) := by rw [cell_of_heap k4]; rfl
    have o5 : w4.cell? ⟨Q, 5, none⟩ = some (.int .i64 l.turns) := by rw [cell_of_heap k4]; rfl
    have o6 : w4.cell? ⟨Q, 6, none⟩ = some (.bool l.won) := by rw [cell_of_heap k4]; rfl
    have c0 := bAt hb3 c0
    have c1 := bAt hb3 c1
    have c2 := bAt hb3 c2
    have c3 := bAt hb3 c3
    have c4 := bAt hb3 c4
    have c5 := bAt hb3 c5
    have c6 := bAt hb3 c6
    have s0 := bAt hb3 s0
    have s1 := bAt hb3 s1
    have c0 := bAt hb4 c0
    have c1 := bAt hb4 c1
    have c2 := bAt hb4 c2
    have c3 := bAt hb4 c3
    have c4 := bAt hb4 c4
    have c5 := bAt hb4 c5
    have c6 := bAt hb4 c6
    have s0 := bAt hb4 s0
    have s1 := bAt hb4 s1
    have HB4 := Lib.hid (bThen HB3.out hb4)
    have HS4 := Lib.hid (HS3.out.below hb4)
    have HO4 := Lib.hid (HO3.out.below hb4)
    rw [hw4, hQ]
    clear hb3 hb4 hw4 k4 HS3 HO3 hQ
    -- Check
    go_wp2_with fail
    have hcall := check_any l (.slice a3 n cap3) w4 HO4.out HBD.out
    unfold legV legA at hcall
    obtain ⟨ec, hec⟩ : ∃ g, checkL l = g := ⟨_, rfl⟩
    rw [hec] at hcall
    refine hcall.mono ?_
    rintro e w5 ⟨rfl, hb5⟩
    have HEC := Lib.hid hec
    have HB5 := Lib.hid (bThen HB4.out hb5)
    have HS5 := Lib.hid (HS4.out.below hb5)
    have HO5 := Lib.hid (HO4.out.below hb5)
    have c0 := bAt hb5 c0
    have c1 := bAt hb5 c1
    have c2 := bAt hb5 c2
    have c3 := bAt hb5 c3
    have c4 := bAt hb5 c4
    have c5 := bAt hb5 c5
    have c6 := bAt hb5 c6
    have s0 := bAt hb5 s0
    have s1 := bAt hb5 s1
    have o0 := bAt hb5 o0
    have o1 := bAt hb5 o1
    have o2 := bAt hb5 o2
    have o3 := bAt hb5 o3
    have o4 := bAt hb5 o4
    have o5 := bAt hb5 o5
    have o6 := bAt hb5 o6
    clear hcall hb5 hec HS4 HO4
    -- Visits
    go_wp2_with fail
    have hcall := visits2_any l (.slice a3 n cap3) ⟨sl, si⟩ w5 HO5.out HBD.out
    unfold legV legA stV at hcall
    simp only at hcall
    obtain ⟨eo, heo⟩ : ∃ g, openE l ⟨sl, si⟩ = g := ⟨_, rfl⟩
    rw [heo] at hcall
    refine hcall.mono ?_
    rintro e w6 ⟨sv, xs, wn, rfl, hb6, hxs, hbad, hgood⟩
    have HEO : Hid (eo = if ec = 0 then (if okStand l ⟨sl, si⟩ = true then 0 else 2) else ec) := Lib.hid (by rw [← heo, ← HEC.out]; rfl)
    have HX6 := Lib.hid hxs
    have HBAD := Lib.hid hbad
    have HGOOD := Lib.hid hgood
    have HB6 := Lib.hid (bThen HB5.out hb6)
    have HS6 := Lib.hid (HS5.out.below hb6)
    have HO6 := Lib.hid (HO5.out.below hb6)
    have c0 := bAt hb6 c0
    have c1 := bAt hb6 c1
    have c2 := bAt hb6 c2
    have c3 := bAt hb6 c3
    have c4 := bAt hb6 c4
    have c5 := bAt hb6 c5
    have c6 := bAt hb6 c6
    have s0 := bAt hb6 s0
    have s1 := bAt hb6 s1
    have o0 := bAt hb6 o0
    have o1 := bAt hb6 o1
    have o2 := bAt hb6 o2
    have o3 := bAt hb6 o3
    have o4 := bAt hb6 o4
    have o5 := bAt hb6 o5
    have o6 := bAt hb6 o6
    clear hcall hb6 heo hxs hbad hgood HS5 HO5
    -- the reference's Check
    go_wp2_with fail
    have hcall := refCheck_any l (.slice a n cap) w6 HS6.out HBD.out
    unfold legV legA at hcall
    rw [HEC.out] at hcall
    refine hcall.mono ?_
    rintro e w7 ⟨rfl, hb7⟩
    have HB7 := Lib.hid (bThen HB6.out hb7)
    have HS7 := Lib.hid (HS6.out.below hb7)
    have HO7 := Lib.hid (HO6.out.below hb7)
    have HX7 := Lib.hid (HX6.out.below hb7)
    have c0 := bAt hb7 c0
    have c1 := bAt hb7 c1
    have c2 := bAt hb7 c2
    have c3 := bAt hb7 c3
    have c4 := bAt hb7 c4
    have c5 := bAt hb7 c5
    have c6 := bAt hb7 c6
    have s0 := bAt hb7 s0
    have s1 := bAt hb7 s1
    have o0 := bAt hb7 o0
    have o1 := bAt hb7 o1
    have o2 := bAt hb7 o2
    have o3 := bAt hb7 o3
    have o4 := bAt hb7 o4
    have o5 := bAt hb7 o5
    have o6 := bAt hb7 o6
    clear hcall hb7 HS6 HO6 HX6
    have hne : (ec != ec) = false := by simp
    have hsm := same_any l (.slice a3 n cap3) (.slice a n cap) w7 HO7.out HS7.out
    unfold legV legA at hsm
    go_wp2_with fail
    refine hsm.mono ?_
    rintro e w8 ⟨rfl, hb8⟩
    have HB8 := Lib.hid (bThen HB7.out hb8)
    have HS8 := Lib.hid (HS7.out.below hb8)
    have HX8 := Lib.hid (HX7.out.below hb8)
    have c0 := bAt hb8 c0
    have c1 := bAt hb8 c1
    have c2 := bAt hb8 c2
    have c3 := bAt hb8 c3
    have c4 := bAt hb8 c4
    have c5 := bAt hb8 c5
    have c6 := bAt hb8 c6
    have s0 := bAt hb8 s0
    have s1 := bAt hb8 s1
    clear hsm hb8 HS7 HO7 HX7 o0 o1 o2 o3 o4 o5 o6 hne
    by_cases hec0 : ec = 0
    · have HE0 := Lib.hid hec0
      have d9 : (ec == 0) = true := beq_iff_eq.2 hec0
      have hv := valid_of (by rw [HEC.out]; exact hec0)
      have HV := Lib.hid hv
      have hgo := HGN.out (by rw [HEC.out]; exact hec0)
      have h6 : l.beds.length ≤ 6 := hgo.2.1
      clear hec0 hv hgo
      go_wp2_with fail
      have hcall := refStand_any l (.slice a n cap) ⟨sl, si⟩ w8
      unfold legV legA stV at hcall
      simp only at hcall
      obtain ⟨ok, hok⟩ : ∃ g, okStand l ⟨sl, si⟩ = g := ⟨_, rfl⟩
      rw [hok] at hcall
      refine hcall.mono ?_
      rintro e w9 ⟨rfl, hb9⟩
      have HOK := Lib.hid hok
      have HB9 := Lib.hid (bThen HB8.out hb9)
      have HS9 := Lib.hid (HS8.out.below hb9)
      have HX9 := Lib.hid (HX8.out.below hb9)
      have c0 := bAt hb9 c0
      have c1 := bAt hb9 c1
      have c2 := bAt hb9 c2
      have c3 := bAt hb9 c3
      have c4 := bAt hb9 c4
      have c5 := bAt hb9 c5
      have c6 := bAt hb9 c6
      have s0 := bAt hb9 s0
      have s1 := bAt hb9 s1
      clear hcall hb9 hok HS8 HX8
      cases ok
      · have heo2 : eo = 2 := by rw [HEO.out, if_pos HE0.out, HOK.out]; rfl
        obtain ⟨hx0, hw0⟩ := HBAD.out (by rw [heo2]; decide)
        clear HEO
        subst heo2 hx0 hw0
        obtain ⟨xa, xc, rfl, -, -⟩ := HX9.out.form
        rw [show (ints []).length = 0 from rfl]
        clear c0 c1 c2 c3 c4 c5 c6 s0 s1
        go_wp2_with fail
        refine (known_any w9 (HT.out.below HB9.out)).mono ?_
        rintro e wz ⟨rfl, hbz⟩
        have HBZ := Lib.hid (bThen HB9.out hbz)
        clear hbz
        go_wp2
        go_returns
        exact ⟨rfl, HBZ.out⟩
      · have heo2 : eo = 0 := by rw [HEO.out, if_pos HE0.out, HOK.out]; rfl
        clear HEO
        subst heo2
        obtain ⟨hxs, rfl⟩ := HGOOD.out rfl
        have HXS := Lib.hid hxs
        have hsb : 0 ≤ sl ∧ sl ≤ 1001 := by
          have h1 := HOK.out
          have h2 := HV.out.start
          unfold okStand isIn low5 at h1
          simp only [Bool.and_eq_true, decide_eq_true_eq] at h1
          have h3 := h1.1
          split at h3 <;> omega
        clear hxs
        go_wp2_with fail
        have hcall := refVisits_any l HV.out h6 (.slice a n cap) ⟨sl, si⟩ w9 hsb HS9.out
        unfold legV legA stV at hcall
        simp only at hcall
        refine hcall.mono ?_
        rintro e wa ⟨rv, rfl, hba, hrv⟩
        obtain ⟨ra, rc, rfl⟩ := owns_form hrv
        have HRV := Lib.hid hrv
        have HBA := Lib.hid (bThen HB9.out hba)
        have HXA := Lib.hid (HX9.out.below hba)
        have s0 := bAt hba s0
        have s1 := bAt hba s1
        clear hcall hba hrv c0 c1 c2 c3 c4 c5 c6 HX9 HS9
        obtain ⟨V, hV⟩ : ∃ V, vis5 l ⟨sl, si⟩ = V := ⟨_, rfl⟩
        have hleft : ∀ p ∈ V, 0 ≤ p.1.left ∧ p.1.left ≤ sl := fun p hp => by rw [← hV] at hp; exact vis_left HV.out.good hsb.1 hp
        have hxr : xs = rightL V sl 1002 := by rw [← hV]; exact rightL_is HV.out.good hsb HXS.out
        have hwn : winsL l ⟨sl, si⟩ = wonB V := by rw [← hV]; rfl
        have hrows : visRows l ⟨sl, si⟩ = V.map fun p => visRow p.1 p.2 := by rw [← hV]; rfl
        rw [hwn]
        rw [hrows, List.length_map] at HRV
        rw [hrows, List.length_map]
        obtain ⟨q, hq⟩ : ∃ q, V.length = q := ⟨_, rfl⟩
        have hrsl : SlN 4 (fun x => w9.heap.size ≤ x) wa (.slice ra V.length rc) (V.map fun p => visRow p.1 p.2) := SlN.of_ownsN (by rw [List.length_map]; exact HRV.out) (fun r hr => by obtain ⟨p, _, rfl⟩ := List.mem_map.1 hr; rfl)
        have hqb : q ≤ 1000 := by
          have h1 := new_bd (l := l) (start := ⟨sl, si⟩) (d := 0) (k := 3) (now := ⟨sl, si⟩) h6 (by decide)
          rw [← visRows_eq, hrows, List.length_map] at h1
          omega
        rw [hq] at hrsl ⊢
        have HLEFT := Lib.hid hleft
        have HXR := Lib.hid hxr
        have HQ := Lib.hid hq
        have HRS := Lib.hid (hrsl.lt (by decide))
        clear hV hleft hxr hwn hrows hq hrsl HRV HXS HGOOD HBAD
        have hst := store42 wa
        go_upto_region 15 with fail
        clear hst
        have hNE0 : N + 1 < wa.heap.size := World.block_lt_of_cell? wa _ s0
        obtain ⟨wb, hwb⟩ : ∃ x, wa.alloc (.cells Tryz.zeroCells42 42) = x := ⟨_, rfl⟩
        have hbb : Below wa.heap.size wa wb := by rw [← hwb]; exact aB _ _
        obtain ⟨E, hE⟩ : ∃ E, wa.heap.size = E := ⟨_, rfl⟩
        have hNE : N + 1 < E := by rw [← hE]; exact hNE0
        have hkE : wb.heap[E]? = some (.cells (bools (seenL [] sl)).toArray 42 (0, 0)) := by rw [← hwb, ← hE]; exact heap42 wa sl
        have HBB := Lib.hid (bThen HBA.out hbb)
        have HXL : Hid (Sl (fun x => w5.heap.size ≤ x ∧ x < wa.heap.size) wb sv (ints xs)) := Lib.hid (HXA.out.lt.below hbb)
        have HRB := Lib.hid (HRS.out.below hbb)
        have s0 := bAt hbb s0
        have s1 := bAt hbb s1
        have HKE := Lib.hid hkE
        have HC0 : Hid (Chg (fun x => x = E) wb wb) := Lib.hid Chg.refl
        have hN1E : N + 1 < E := hNE
        rw [hwb, hE]
        clear hbb hwb hkE HXA HRS
        have HEE := Lib.hid hE
        have hq63 : q ≤ 1000 := hqb
        go_wp2
        go_loopw [12, 14] (fun cv iv wr => ∃ i : Nat, i ≤ q ∧ cv = .bool (wonB (V.take i)) ∧ iv = .int .i64 i ∧ Hid (wr.heap[E]? = some (.cells (bools (seenL (V.take i) sl)).toArray 42 (0, 0))) ∧ Hid (Chg (fun x => x = E) wb wr)) (fun _ iv _ => q - (intOf iv).toNat)
        case atStart => exact ⟨0, by omega, by simp [wonB], by go_num, HKE, HC0⟩
        case round =>
          clear HKE HC0
          obtain ⟨i, hi, rfl, rfl, HKi, HCi⟩ := hrel
          obtain ⟨wo, rfl⟩ : ∃ wo : World, wo = wr := ⟨_, rfl⟩
          have hszo := HCi.out.size
          have s0 : wo.cell? ⟨N + 1, 0, none⟩ = some (.int .i64 sl) := (World.cell?_of_block (w := wb) (HCi.out.block _ (World.block_lt_of_cell? wb _ s0) (show ¬ N + 1 = E by omega))).trans s0
          have HRo := Lib.hid (HRB.out.chg HCi.out fun x hx e => by have := hx.2; have := HEE.out; omega)
          obtain ⟨cb, hcb⟩ : ∃ b, wonB (V.take i) = b := ⟨_, rfl⟩
          rw [hcb]
          have HCB := Lib.hid hcb
          clear hcb
          by_cases hlt : i < q
          · have hil : i < V.length := by rw [HQ.out]; exact hlt
            obtain ⟨⟨⟨pl, pi, pb, pw⟩, pd⟩, hp⟩ : ∃ p, V[i] = p := ⟨_, rfl⟩
            have htk : V.take (i + 1) = V.take i ++ [(⟨pl, pi, pb, pw⟩, pd)] := by rw [List.take_succ_eq_append_getElem hil, hp]
            have hlf := HLEFT.out V[i] (List.getElem_mem _)
            rw [hp] at hlf
            simp only at hlf
            obtain ⟨b, off, hra, -, -, hc⟩ := HRo.out.cell (i := i) (by rw [List.length_map]; exact hil)
            cases hra
            have hrow : (V.map fun p => visRow p.1 p.2)[i]'(by rw [List.length_map]; exact hil) = [.int .i64 pl, .bool pi, .bool pw, .int .i64 (pd : Int)] := by rw [List.getElem_map, hp]; rfl
            rw [hrow] at hc
            have p0 := hc 0 _ rfl
            have p2 := hc 2 _ rfl
            rw [Nat.add_zero] at p0
            have HTK := Lib.hid htk
            have hwi : IntKind.i64.wrap ((i : Int) + 1) = (i : Int) + 1 := wrap_small _ (by omega) (by omega)
            clear hc hrow hp htk
            cases pw
            · obtain ⟨jj, hjj⟩ : ∃ j : Nat, sl - pl = j := ⟨(sl - pl).toNat, by omega⟩
              have hj2 : jj < 1002 := by omega
              have hj3 : (jj : Int) < 1002 := by omega
              have hwr : IntKind.i64.wrap (sl - pl) = (jj : Int) := by rw [← hjj]; exact wrap_small _ (by omega) (by omega)
              have HJJ := Lib.hid hjj
              have hkc : wo.cell? ⟨E, jj, none⟩ = some (.bool (seenB (V.take i) sl jj)) := by
                rw [cell_of_heap HKi.out]
                simp [bools, seenL, hj2]
              have hfz : wo.frozen? ⟨E, jj, none⟩ = false := frozen_of_heap HKi.out
              clear hjj
              go_upto_region 20 with fail
              refine wp_region_seq 10 [.is (.pointer (some ⟨N + 1, 0, none⟩)), .is (.int .i64 sl), .is (.slice (some ⟨b, off, none⟩) q rc), .is (.int .i64 (i : Int)), .is (.pointer (some ⟨b, off + i * 4, none⟩)), .is (.pointer (some ⟨b, off + i * 4, none⟩)), .is (.pointer (some ⟨b, off + i * 4, none⟩)), .is (.int .i64 pl), .is (.int .i64 (jj : Int)), .is (.pointer (some ⟨E, jj, none⟩))] rfl mix (by kernel_rfl) (by kernel_rfl) ?seqm
              case seqm =>
                simp only [List.take_succ_cons, List.take_zero]
                iterate 10
                  refine seq_on (by rfl) (fun w3 hb3 _ => ?_) ?_
                  · have s0' := bAt hb3 s0
                    have p0' := bAt hb3 p0
                    simp [opOK, go_sem, s0', p0', hlt, hwr, hj3, Below.refl]
                    try exact rfl
                  simp only [Act.put, List.setIfInBounds_toArray, List.set_cons_succ, List.set_cons_zero]
                refine seq_end fun w3 hb3 _ => ?_
                simp only [List.drop_succ_cons, List.drop_zero]
                have hk3 := (hb3.block E (Array.getElem?_eq_some_iff.1 HKi.out).1).trans HKi.out
                have hkc3 := bAt hb3 hkc
                have hfz3 : w3.frozen? ⟨E, jj, none⟩ = false := frozen_of_heap hk3
                obtain ⟨w4, hw4⟩ : ∃ x, w3.setCell ⟨E, jj, none⟩ (.bool true) = x := ⟨_, rfl⟩
                have HK4 : Hid (w4.heap[E]? = some (.cells (bools (seenL (V.take (i + 1)) sl)).toArray 42 (0, 0))) := Lib.hid (by
                  rw [← hw4, HTK.out, seenL_set (p := (⟨pl, pi, pb, false⟩, pd)) rfl HJJ.out hj2]
                  have := heap_setCell_at (v := .bool true) (o := jj) hk3
                  simpa [bools, List.map_set] using this)
                have HC4 : Hid (Chg (fun x => x = E) wb w4) := Lib.hid (by
                  rw [← hw4]
                  refine (HCi.out.thenB hb3).thenG (o := some E) ⟨rfl, rfl, rfl, by simp, fun x hx hn => ?_⟩ fun x hx _ => (Option.some.inj hx).symm
                  exact Below.heap_setCell _ _ _ _ (fun e => hn (by rw [e])))
                have hcb2 : wonB (V.take (i + 1)) = cb := by rw [HTK.out, wonB_snoc, HCB.out]; simp
                have HCB2 := Lib.hid hcb2
                have HW4 := Lib.hid hw4
                clear hb3 hk3 hw4 hkc hfz p0 p2 hcb2
                go_wp2
                rw [HW4.out]
                go_roundw
                case rel => exact ⟨i + 1, by omega, by rw [HCB2.out], by go_num, HK4, HC4⟩
                case measure => simp [intOf]; omega
            · have HK4 : Hid (wo.heap[E]? = some (.cells (bools (seenL (V.take (i + 1)) sl)).toArray 42 (0, 0))) := Lib.hid (by rw [HTK.out, seenL_won rfl]; exact HKi.out)
              have hcb2 : wonB (V.take (i + 1)) = true := by rw [HTK.out, wonB_snoc]; simp
              have HCB2 := Lib.hid hcb2
              clear hcb2
              go_wp2
              go_roundw
              case rel => exact ⟨i + 1, by omega, by rw [HCB2.out], by go_num, HK4, HCi⟩
              case measure => simp [intOf]; omega
          · obtain rfl : i = q := by omega
            have htk : V.take i = V := List.take_of_length_le (by rw [HQ.out]; exact Nat.le_refl _)
            have HKf : Hid (wo.heap[E]? = some (.cells (bools (seenL V sl)).toArray 42 (0, 0))) := Lib.hid (by have := HKi.out; rw [htk] at this; exact this)
            have hcbw : cb = wonB V := by rw [← HCB.out, htk]
            have HBo : Hid (Below w.heap.size w wo) := Lib.hid (HBB.out.trans ⟨HCi.out.os, HCi.out.tape, HCi.out.output, HCi.out.size, fun x hx => HCi.out.block x (Nat.lt_of_lt_of_le hx HBB.out.size) (by have := HN.out; omega)⟩)
            have HXo : Hid (Sl (fun x => w5.heap.size ≤ x ∧ x < wa.heap.size) wo sv (ints xs)) := Lib.hid ((HXL.out).cells fun b o hb hs => by
              obtain ⟨x, hx⟩ := Option.isSome_iff_exists.1 hs
              exact World.cell?_of_block (w := wb) (HCi.out.block b (World.block_lt_of_cell? wb _ hx) (by have := hb.2; have := HEE.out; omega)))
            clear HKi HCi htk HCB HRo s0
            rw [hcbw]
            obtain ⟨M, hM⟩ : ∃ M, wo.heap.size = M := ⟨_, rfl⟩
            obtain ⟨wp, hwp⟩ : ∃ x, wo.alloc (.cells #[] 3) = x := ⟨_, rfl⟩
            have HRP : Hid (wp.ownsRow M 3 1 (.slice (some ⟨M, 0, none⟩) 0 0) (rightL V sl 0).length (ints (rightL V sl 0))) := Lib.hid (by rw [← hwp, ← hM]; exact World.ownsRow_made wo #[] 0 (Nat.le_refl _) (Nat.zero_le _) (by simp))
            have HBP : Hid (Below M wo wp) := Lib.hid (by rw [← hwp, ← hM]; exact aB _ _)
            go_upto_region 22 with fail
            clear hwp
            have HM := Lib.hid hM
            clear hM
            go_wp2
            go_loopw [15, 16] (fun rv iv wr => ∃ i : Nat, i ≤ 1002 ∧ iv = .int .i64 i ∧ Hid (wr.ownsRow M 3 1 rv (rightL V sl i).length (ints (rightL V sl i))) ∧ Hid (Below M wo wr)) (fun _ iv _ => 1002 - (intOf iv).toNat)
            case atStart => exact ⟨0, by omega, by go_num, HRP, HBP⟩
            case round =>
              clear HRP HBP
              obtain ⟨j, hj, rfl, HRr, HBr⟩ := hrel
              obtain ⟨wq, rfl⟩ : ∃ wq : World, wq = wr := ⟨_, rfl⟩
              obtain ⟨va, vc, hv⟩ := owns_form HRr.out
              subst hv
              have hszM : M ≤ wq.heap.size := by have h1 := HBr.out.size; have h2 := HM.out; omega
              by_cases hlt : j < 1002
              · have hkc : wq.cell? ⟨E, j, none⟩ = some (.bool (seenB V sl j)) := by
                  have h1 := (Array.getElem?_eq_some_iff.1 HKf.out).1
                  have h2 : E < M := by have := HM.out; omega
                  rw [cell_of_heap ((HBr.out.block E h2).trans HKf.out)]
                  simp [bools, seenL, hlt]
                obtain ⟨sb, hsb2⟩ : ∃ b, seenB V sl j = b := ⟨_, rfl⟩
                rw [hsb2] at hkc
                have HRS := Lib.hid (rightL_succ V sl j)
                rw [hsb2] at HRS
                have hwi : IntKind.i64.wrap ((j : Int) + 1) = (j : Int) + 1 := wrap_small _ (by omega) (by omega)
                have hrl := rightL_len V sl j
                obtain ⟨m, hm⟩ : ∃ m, (rightL V sl j).length = m := ⟨_, rfl⟩
                rw [hm] at HRr hrl ⊢
                have HMM := Lib.hid hm
                clear hsb2 hm
                cases sb
                · have HR2 : Hid (wq.ownsRow M 3 1 (.slice va m vc) (rightL V sl (j + 1)).length (ints (rightL V sl (j + 1)))) := Lib.hid (by have h := HRS.out; simp only [Bool.false_eq_true, if_false, List.append_nil] at h; rw [h, HMM.out]; exact HRr.out)
                  clear HRr
                  go_wp2
                  go_roundw
                  case rel => exact ⟨j + 1, by omega, by go_num, HR2, HBr⟩
                  case measure => simp [intOf]; omega
                · go_wp2_with (at_builtin; refine wpList_append1 rfl (.tmp 97) (.tmp 99) 35 rfl M 3 (.int .i64 0) 8 Tryz.underlying35 info_i5 rfl (.slice va m vc) m (ints (rightL V sl j)) rfl (HRr.out.alloc _) wq.heap.size 0 1 (.int .i64 (j : Int)) rfl (cell_new _ _ _) rfl (by omega) (by decide) (by simp; omega) ?_)
                  intro g' c' w2' ho2 hg2 hat2
                  have HR2 : Hid (w2'.ownsRow M 3 1 (.slice (some ⟨g', 0, none⟩) (m + 1) c') (rightL V sl (j + 1)).length (ints (rightL V sl (j + 1)))) := Lib.hid (by
                    have h := HRS.out
                    simp only [if_true] at h
                    rw [h, ints_append, List.length_append, HMM.out]
                    exact ho2)
                  have HB2' : Hid (Below M wo w2') := Lib.hid (HBr.out.trans (((aB wq (.cells #[.int .i64 (j : Int)] 3)).mono hszM).trans (below_grownBy hg2 (by simp; omega) fun x hx => (HRr.out.lt x hx).1)))
                  clear ho2 hg2 hat2 HRr
                  go_wp2
                  go_roundw
                  case rel => exact ⟨j + 1, by omega, by go_num, HR2, HB2'⟩
                  case measure => simp [intOf]; omega
              · obtain rfl : j = 1002 := by omega
                have hbq : Below wo.heap.size wo wq := by rw [HM.out]; exact HBr.out
                have HBq := Lib.hid (bThen HBo.out hbq)
                have HXq := Lib.hid (HXo.out.below hbq)
                have HRq := Lib.hid (Sl.of_owns HRr.out)
                have hal := alike_any xs (rightL V sl 1002) sv (.slice va (rightL V sl 1002).length vc) wq HXq.out HRq.out
                rw [decide_eq_true HXR.out] at hal
                obtain ⟨xa, xc, hsv, -, -⟩ := HXq.out.form
                obtain ⟨nx, hnx⟩ : ∃ m, (ints xs).length = m := ⟨_, rfl⟩
                rw [hnx] at hsv
                obtain ⟨m, hm⟩ : ∃ m, (rightL V sl 1002).length = m := ⟨_, rfl⟩
                rw [hm] at hal ⊢
                subst hsv
                clear hbq HRr HBr HXq HRq hnx hm HXo
                go_wp2_with fail
                refine hal.mono ?_
                rintro e wr2 ⟨rfl, hbr⟩
                have HBr2 := Lib.hid (bThen HBq.out hbr)
                clear hbr hal
                go_wp2_with fail
                refine (known_any wr2 (HT.out.below HBr2.out)).mono ?_
                rintro e wz ⟨rfl, hbz⟩
                have HBZ := Lib.hid (bThen HBr2.out hbz)
                clear hbz
                go_wp2
                go_returns
                exact ⟨rfl, HBZ.out⟩
    · have HNE := Lib.hid hec0
      have d9 : (ec == 0) = false := beq_eq_false_iff_ne.2 hec0
      have d9n : (ec != 0) = true := bne_iff_ne.2 hec0
      have heo2 : eo = ec := by rw [HEO.out, if_neg hec0]
      obtain ⟨hx0, hw0⟩ := HBAD.out (by rw [heo2]; exact hec0)
      clear HEO hec0
      subst heo2 hx0 hw0
      obtain ⟨xa, xc, rfl, -, -⟩ := HX8.out.form
      rw [show (ints []).length = 0 from rfl]
      clear c0 c1 c2 c3 c4 c5 c6 s0 s1
      go_wp2_with fail
      refine (known_any w8 (HT.out.below HB8.out)).mono ?_
      rintro e wz ⟨rfl, hbz⟩
      have HBZ := Lib.hid (bThen HB8.out hbz)
      clear hbz
      go_wp2
      go_returns
      exact ⟨rfl, HBZ.out⟩
  · go_wp2_with fail
    refine (known_any w2 (HT.out.below HB2.out)).mono ?_
    rintro e w3 ⟨rfl, hb3⟩
    have HB3 := Lib.hid (bThen HB2.out hb3)
    clear hb3 c0 c1 c2 c3 c4 c5 c6 s0 s1
    go_wp2
    go_returns
    exact ⟨rfl, HB3.out⟩
end Go.Proofs.YtpfpjbglpibdoaaGreatDoor
