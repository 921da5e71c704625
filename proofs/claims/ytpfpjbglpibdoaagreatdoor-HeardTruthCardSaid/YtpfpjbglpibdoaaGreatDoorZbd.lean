/- The texts RV, in build order. -/
import Derived.Test.YtpfpjbglpibdoaaGreatDoorZbc
import Derived.Deep.DeepCutAuto
import Derived.Deep.CutRange
import Derived.Deep.CutBlock

/- Chapter 5: HeardTruth, the walk. -/
namespace Go.Proofs.YtpfpjbglpibdoaaGreatDoor
open Go Go.RowKit Go.Oche Go.Proofs

def repE (l : Lg) (list : List Rp) : Int := if 100 < (list.length : Int) then 5 else if list.any (badR l.turns) = true then 2 else 0
theorem truthE_leg {l : Lg} {list : List Rp} (h : checkL l ≠ 0) : truthE l list = checkL l := by
  unfold truthE checkR
  simp [h]
theorem truthE_rep {l : Lg} {list : List Rp} (h : checkL l = 0) (h2 : repE l list ≠ 0) : truthE l list = repE l list := by
  have e : checkR l list 100 = repE l list := by
    unfold checkR repE
    simp [h]
  unfold truthE
  rw [e]; simp [h2]
theorem truthE_tru {l : Lg} {list : List Rp} (h : checkL l = 0) (h2 : repE l list = 0) : truthE l list = if truB l list = true then 0 else 9 := by
  have e : checkR l list 100 = repE l list := by
    unfold checkR repE
    simp [h]
  unfold truthE truB
  rw [e]; simp [h2]
theorem repE_zero {l : Lg} {list : List Rp} (h : repE l list = 0) : list.length ≤ 100 ∧ ∀ r ∈ list, -1 ≤ r.score ∧ -1 ≤ r.left := by
  unfold repE at h
  split at h
  · cases h
  · rename_i h1
    split at h
    · cases h
    · rename_i h2
      refine ⟨by omega, fun r hr => ?_⟩
      have hb : badR l.turns r = false := by
        cases e : badR l.turns r with
        | false => rfl
        | true => exact (h2 (List.any_eq_true.2 ⟨r, hr, e⟩)).elim
      unfold badR isIn at hb
      simp at hb
      omega
set_option maxRecDepth 100000 in
set_option maxHeartbeats 10000000 in
theorem heardTruth_any {S S' : Nat → Prop} (l : Lg) (bv lv : Value) (list : List Rp) (w : World) (hs : Sl S w bv (ints l.beds)) (hbd : BedsIn l) (hl : SlN 3 S' w lv (list.map rpRow)) (hT : Tab5 w) :
    Calls Tryz.prog 5 #[legV l bv, lv] w fun e w' => e = .returned (.bool true) ∧ Below w.heap.size w w' := by
  obtain ⟨a, cap, rfl, h2, h3⟩ := hs.form
  obtain ⟨la, lc, rfl, h2', h3'⟩ := hl.form
  simp only [ints_length, List.length_map] at *
  unfold maxLen at h3 h3'
  obtain ⟨n, hn⟩ : ∃ n, l.beds.length = n := ⟨_, rfl⟩
  obtain ⟨m, hm⟩ : ∃ n, list.length = n := ⟨_, rfl⟩
  rw [hn] at h2 hs ⊢
  rw [hm] at h2' hl ⊢
  obtain ⟨N, hN⟩ : ∃ N, w.heap.size = N := ⟨_, rfl⟩
  obtain ⟨w1, hw1⟩ : ∃ x, w.alloc (.cells #[.int .i64 l.start, .int .i64 l.gin, .int .i64 l.gout, .slice a n cap, .int .i64 l.players, .int .i64 l.turns, .bool l.won] 27) = x := ⟨_, rfl⟩
  have hb1 : Below w.heap.size w w1 := by rw [← hw1]; exact aB _ _
  have k : w1.heap[N]? = some (.cells #[.int .i64 l.start, .int .i64 l.gin, .int .i64 l.gout, .slice a n cap, .int .i64 l.players, .int .i64 l.turns, .bool l.won] 27 (0, 0)) := by rw [← hw1, ← hN]; exact World.alloc_heap_new _ _
  have c0 : w1.cell? ⟨N, 0, none⟩ = some (.int .i64 l.start) := by rw [cell_of_heap k]; rfl
  have c1 : w1.cell? ⟨N, 1, none⟩ = some (.int .i64 l.gin) := by rw [cell_of_heap k]; rfl
  have c2 : w1.cell? ⟨N, 2, none⟩ = some (.int .i64 l.gout) := by rw [cell_of_heap k]; rfl
  have c3 : w1.cell? ⟨N, 3, none⟩ = some (.slice a n cap) := by rw [cell_of_heap k]; rfl
  have c4 : w1.cell? ⟨N, 4, none⟩ = some (.int .i64 l.players) := by rw [cell_of_heap k]; rfl
  have c5 : w1.cell? ⟨N, 5, none⟩ = some (.int .i64 l.turns) := by rw [cell_of_heap k]; rfl
  have c6 : w1.cell? ⟨N, 6, none⟩ = some (.bool l.won) := by rw [cell_of_heap k]; rfl
  have HS1 := Lib.hid (hs.below hb1)
  have HL1 := Lib.hid (hl.below hb1)
  have HB1 := Lib.hid hb1
  have HT1 := Lib.hid (hT.below hb1)
  have HW := Lib.hid hw1
  have HBD := Lib.hid hbd
  have HLN := Lib.hid hn
  have HM := Lib.hid hm
  have HN := Lib.hid hN
  unfold legV legA
  clear hs hl hb1 hw1 hT hbd hn hm k hN
  go_enter Tryz.func5, Tryz.ntmps5
  go_upto_region 1 with fail
  rw [HW.out, HN.out]
  go_cut [32] from 16 to 31 (fun v wx => ∃ b, v = .bool b ∧ Hid (b = false → greatB l = false ∧ m ≤ 110 ∧ (m ≤ 100 → m ≤ 20)) ∧ Hid (Below w1.heap.size w1 wx))
  case first =>
    go_wp2_with fail
    have hcall := great_any l (.slice a n cap) w1 HS1.out
    unfold legV legA at hcall
    obtain ⟨g, hg⟩ : ∃ g, greatB l = g := ⟨_, rfl⟩
    rw [hg] at hcall
    refine hcall.mono ?_
    rintro e w2 ⟨rfl, hb2⟩
    have HG := Lib.hid hg
    have HB2 := Lib.hid hb2
    clear hcall hg hb2
    cases g
    · by_cases h110 : 110 < m
      · have HR : Hid (true = false → greatB l = false ∧ m ≤ 110 ∧ (m ≤ 100 → m ≤ 20)) := Lib.hid (fun h => by cases h)
        have t1 : decide (20 < m) = true := decide_eq_true (by omega)
        have t1i : decide ((20 : Int) < (m : Int)) = true := decide_eq_true (by omega)
        have t2 : decide (m ≤ 100) = false := decide_eq_false (by omega)
        have t2i : decide ((m : Int) ≤ 100) = false := decide_eq_false (by omega)
        have t3 : decide (110 < m) = true := decide_eq_true (by omega)
        have t3i : decide ((110 : Int) < (m : Int)) = true := decide_eq_true (by omega)
        clear h110
        go_wp2_with fail
        go_meet
        case rel => exact ⟨true, rfl, HR, HB2⟩
      · have t3 : decide (110 < m) = false := decide_eq_false (by omega)
        have t3i : decide ((110 : Int) < (m : Int)) = false := decide_eq_false (by omega)
        by_cases h20 : 20 < m
        · have t1 : decide (20 < m) = true := decide_eq_true (by omega)
          have t1i : decide ((20 : Int) < (m : Int)) = true := decide_eq_true (by omega)
          by_cases h100 : m ≤ 100
          · have HR : Hid (true = false → greatB l = false ∧ m ≤ 110 ∧ (m ≤ 100 → m ≤ 20)) := Lib.hid (fun h => by cases h)
            have t2 : decide (m ≤ 100) = true := decide_eq_true (by omega)
            have t2i : decide ((m : Int) ≤ 100) = true := decide_eq_true (by omega)
            clear h110 h20 h100
            go_wp2_with fail
            go_meet
            case rel => exact ⟨true, rfl, HR, HB2⟩
          · have HR : Hid (greatB l = false ∧ m ≤ 110 ∧ (m ≤ 100 → m ≤ 20)) := Lib.hid ⟨HG.out, by omega, by omega⟩
            have t2 : decide (m ≤ 100) = false := decide_eq_false (by omega)
            have t2i : decide ((m : Int) ≤ 100) = false := decide_eq_false (by omega)
            clear h110 h20 h100
            go_wp2_with fail
            go_meet
            case rel => exact ⟨false, rfl, Lib.hid fun _ => HR.out, HB2⟩
        · have HR : Hid (greatB l = false ∧ m ≤ 110 ∧ (m ≤ 100 → m ≤ 20)) := Lib.hid ⟨HG.out, by omega, by omega⟩
          have t1 : decide (20 < m) = false := decide_eq_false (by omega)
          have t1i : decide ((20 : Int) < (m : Int)) = false := decide_eq_false (by omega)
          clear h110 h20
          go_wp2_with fail
          go_meet
          case rel => exact ⟨false, rfl, Lib.hid fun _ => HR.out, HB2⟩
    · have HR : Hid (true = false → greatB l = false ∧ m ≤ 110 ∧ (m ≤ 100 → m ≤ 20)) := Lib.hid (fun h => by cases h)
      go_wp2_with fail
      go_meet
      case rel => exact ⟨true, rfl, HR, HB2⟩
  case rest =>
  obtain ⟨b, rfl, HBB, HBc⟩ := hcut
  obtain ⟨w2, rfl⟩ : ∃ y : World, y = wc := ⟨_, rfl⟩
  have hb2 := HBc.out
  clear HBc
  have HB2 := Lib.hid (bThen HB1.out hb2)
  have HS2 := Lib.hid (HS1.out.below hb2)
  have HL2 := Lib.hid (HL1.out.below hb2)
  have HT2 := Lib.hid (HT1.out.below hb2)
  clear HB1 HS1 HL1 HT1
  have c0 := bAt hb2 c0
  have c1 := bAt hb2 c1
  have c2 := bAt hb2 c2
  have c3 := bAt hb2 c3
  have c4 := bAt hb2 c4
  have c5 := bAt hb2 c5
  have c6 := bAt hb2 c6
  clear hb2
  cases b
  · have hgn := great_no (HBB.out rfl).1
    have HGN := Lib.hid hgn.2
    have HN90 : Hid (n ≤ 90) := Lib.hid (by rw [← HLN.out]; exact hgn.1)
    have HM110 : Hid (m ≤ 110) := Lib.hid (HBB.out rfl).2.1
    clear hgn
    go_wp2_with fail
    have hcall := own_any l (.slice a n cap) w2 HS2.out (by rw [HLN.out]; have := HN90.out; omega)
    unfold legV legA at hcall
    refine hcall.mono ?_
    rintro e w3 ⟨bv3, rfl, hb3, hs3⟩
    clear hcall
    obtain ⟨a3, cap3, rfl, -, -⟩ := hs3.form
    rw [ints_length, HLN.out] at hs3 ⊢
    have HO3 := Lib.hid hs3
    clear hs3
    have HB3 := Lib.hid (bThen HB2.out hb3)
    have HS3 := Lib.hid (HS2.out.below hb3)
    have HL3 := Lib.hid (HL2.out.below hb3)
    have HT3 := Lib.hid (HT2.out.below hb3)
    clear HB2 HS2 HL2 HT2
    have c0 := bAt hb3 c0
    have c1 := bAt hb3 c1
    have c2 := bAt hb3 c2
    have c3 := bAt hb3 c3
    have c4 := bAt hb3 c4
    have c5 := bAt hb3 c5
    have c6 := bAt hb3 c6
    clear hb3
    go_wp2_with fail
    refine (told_any list (.slice la m lc) w3 HL3.out (by rw [HM.out]; have := HM110.out; omega)).mono ?_
    rintro e w4 ⟨v4, rfl, hb4, hs4⟩
    obtain ⟨qa, qc, rfl, -, -⟩ := hs4.form
    rw [List.length_map, HM.out] at hs4 ⊢
    have HQ4 := Lib.hid hs4
    clear hs4
    have HB4 := Lib.hid (bThen HB3.out hb4)
    have HS4 := Lib.hid (HS3.out.below hb4)
    have HL4 := Lib.hid (HL3.out.below hb4)
    have HT4 := Lib.hid (HT3.out.below hb4)
    have HO4 := Lib.hid (HO3.out.below hb4)
    clear HB3 HS3 HL3 HT3 HO3
    have c0 := bAt hb4 c0
    have c1 := bAt hb4 c1
    have c2 := bAt hb4 c2
    have c3 := bAt hb4 c3
    have c4 := bAt hb4 c4
    have c5 := bAt hb4 c5
    have c6 := bAt hb4 c6
    clear hb4
    obtain ⟨K, hK⟩ : ∃ K, w4.heap.size = K := ⟨_, rfl⟩
    obtain ⟨w5, hw5⟩ : ∃ y, w4.alloc (.cells #[.int .i64 l.start, .int .i64 l.gin, .int .i64 l.gout, .slice a3 n cap3, .int .i64 l.players, .int .i64 l.turns, .bool l.won] 27) = y := ⟨_, rfl⟩
    have hb5 : Below w4.heap.size w4 w5 := by rw [← hw5]; exact aB _ _
    have k5 : w5.heap[K]? = some (.cells #[.int .i64 l.start, .int .i64 l.gin, .int .i64 l.gout, .slice a3 n cap3, .int .i64 l.players, .int .i64 l.turns, .bool l.won] 27 (0, 0)) := by rw [← hw5, ← hK]; exact World.alloc_heap_new _ _
    have HK := Lib.hid hK
    have HW5 := Lib.hid hw5
    have HK5 := Lib.hid k5
    clear hK hw5 k5
    go_upto_region 4 with fail
    rw [HW5.out, HK.out]
    have HB5 := Lib.hid (bThen HB4.out hb5)
    have HS5 := Lib.hid (HS4.out.below hb5)
    have HL5 := Lib.hid (HL4.out.below hb5)
    have HT5 := Lib.hid (HT4.out.below hb5)
    have HO5 := Lib.hid (HO4.out.below hb5)
    have HQ5 := Lib.hid (HQ4.out.below hb5)
    clear HB4 HS4 HL4 HT4 HO4 HQ4
    have c0 := bAt hb5 c0
    have c1 := bAt hb5 c1
    have c2 := bAt hb5 c2
    have c3 := bAt hb5 c3
    have c4 := bAt hb5 c4
    have c5 := bAt hb5 c5
    have c6 := bAt hb5 c6
    clear hb5
    have x0 : w5.cell? ⟨K, 0, none⟩ = some (.int .i64 l.start) := by rw [cell_of_heap HK5.out]; rfl
    have x1 : w5.cell? ⟨K, 1, none⟩ = some (.int .i64 l.gin) := by rw [cell_of_heap HK5.out]; rfl
    have x2 : w5.cell? ⟨K, 2, none⟩ = some (.int .i64 l.gout) := by rw [cell_of_heap HK5.out]; rfl
    have x3 : w5.cell? ⟨K, 3, none⟩ = some (.slice a3 n cap3) := by rw [cell_of_heap HK5.out]; rfl
    have x4 : w5.cell? ⟨K, 4, none⟩ = some (.int .i64 l.players) := by rw [cell_of_heap HK5.out]; rfl
    have x5 : w5.cell? ⟨K, 5, none⟩ = some (.int .i64 l.turns) := by rw [cell_of_heap HK5.out]; rfl
    have x6 : w5.cell? ⟨K, 6, none⟩ = some (.bool l.won) := by rw [cell_of_heap HK5.out]; rfl
    obtain ⟨te, hte⟩ : ∃ z, truthE l list = z := ⟨_, rfl⟩
    go_wp2_with fail
    have hcall := truth_any l (.slice a3 n cap3) (.slice qa m qc) list w5 HO5.out HBD.out HQ5.out
    unfold legV legA at hcall
    rw [hte] at hcall
    refine hcall.mono ?_
    rintro e w6 ⟨v1, v2, v3, rfl, hb6, hz1, hz2⟩
    clear hcall
    have HTE := Lib.hid hte
    have HZ1 := Lib.hid hz1
    have HZ26 : Hid (te = 0 → ∃ g1 g2 g3, v1 = .slice (some ⟨g1, 0, none⟩) l.turns.toNat l.turns.toNat ∧ v2 = .slice (some ⟨g2, 0, none⟩) l.turns.toNat l.turns.toNat ∧ v3 = .slice (some ⟨g3, 0, none⟩) l.turns.toNat l.turns.toNat ∧ SpansAt w6 g1 l.turns.toNat (scF l list) ∧ SpansAt w6 g2 l.turns.toNat (leF l list) ∧ SpansAt w6 g3 l.turns.toNat (daF l list)) := Lib.hid (fun h => by
      obtain ⟨g1, g2, g3, e1, e2, e3, -, -, -, e4, e5, e6⟩ := hz2 h
      exact ⟨g1, g2, g3, e1, e2, e3, e4, e5, e6⟩)
    clear hz1 hz2 hte
    have HB6 := Lib.hid (bThen HB5.out hb6)
    have HS6 := Lib.hid (HS5.out.below hb6)
    have HL6 := Lib.hid (HL5.out.below hb6)
    have HT6 := Lib.hid (HT5.out.below hb6)
    have HO6 := Lib.hid (HO5.out.below hb6)
    have HQ6 := Lib.hid (HQ5.out.below hb6)
    clear HB5 HS5 HL5 HT5 HO5 HQ5
    have c0 := bAt hb6 c0
    have c1 := bAt hb6 c1
    have c2 := bAt hb6 c2
    have c3 := bAt hb6 c3
    have c4 := bAt hb6 c4
    have c5 := bAt hb6 c5
    have c6 := bAt hb6 c6
    have x0 := bAt hb6 x0
    have x1 := bAt hb6 x1
    have x2 := bAt hb6 x2
    have x3 := bAt hb6 x3
    have x4 := bAt hb6 x4
    have x5 := bAt hb6 x5
    have x6 := bAt hb6 x6
    clear hb6
    go_wp2_with fail
    have hcall := same_any l (.slice a3 n cap3) (.slice a n cap) w6 HO6.out HS6.out
    unfold legV legA at hcall
    refine hcall.mono ?_
    rintro e w7 ⟨rfl, hb7⟩
    clear hcall
    have HZ27 : Hid (te = 0 → ∃ g1 g2 g3, v1 = .slice (some ⟨g1, 0, none⟩) l.turns.toNat l.turns.toNat ∧ v2 = .slice (some ⟨g2, 0, none⟩) l.turns.toNat l.turns.toNat ∧ v3 = .slice (some ⟨g3, 0, none⟩) l.turns.toNat l.turns.toNat ∧ SpansAt w7 g1 l.turns.toNat (scF l list) ∧ SpansAt w7 g2 l.turns.toNat (leF l list) ∧ SpansAt w7 g3 l.turns.toNat (daF l list)) := Lib.hid (fun h => by
      obtain ⟨g1, g2, g3, e1, e2, e3, e4, e5, e6⟩ := HZ26.out h
      exact ⟨g1, g2, g3, e1, e2, e3, e4.below hb7, e5.below hb7, e6.below hb7⟩)
    clear HZ26
    have HB7 := Lib.hid (bThen HB6.out hb7)
    have HS7 := Lib.hid (HS6.out.below hb7)
    have HL7 := Lib.hid (HL6.out.below hb7)
    have HT7 := Lib.hid (HT6.out.below hb7)
    have HO7 := Lib.hid (HO6.out.below hb7)
    have HQ7 := Lib.hid (HQ6.out.below hb7)
    clear HB6 HS6 HL6 HT6 HO6 HQ6
    have c0 := bAt hb7 c0
    have c1 := bAt hb7 c1
    have c2 := bAt hb7 c2
    have c3 := bAt hb7 c3
    have c4 := bAt hb7 c4
    have c5 := bAt hb7 c5
    have c6 := bAt hb7 c6
    clear hb7
    clear x0 x1 x2 x3 x4 x5 x6
    go_wp2_with fail
    refine (heardAs_any list (.slice qa m qc) (.slice la m lc) w7 HQ7.out HL7.out).mono ?_
    rintro e w8 ⟨rfl, hb8⟩
    have HZ28 : Hid (te = 0 → ∃ g1 g2 g3, v1 = .slice (some ⟨g1, 0, none⟩) l.turns.toNat l.turns.toNat ∧ v2 = .slice (some ⟨g2, 0, none⟩) l.turns.toNat l.turns.toNat ∧ v3 = .slice (some ⟨g3, 0, none⟩) l.turns.toNat l.turns.toNat ∧ SpansAt w8 g1 l.turns.toNat (scF l list) ∧ SpansAt w8 g2 l.turns.toNat (leF l list) ∧ SpansAt w8 g3 l.turns.toNat (daF l list)) := Lib.hid (fun h => by
      obtain ⟨g1, g2, g3, e1, e2, e3, e4, e5, e6⟩ := HZ27.out h
      exact ⟨g1, g2, g3, e1, e2, e3, e4.below hb8, e5.below hb8, e6.below hb8⟩)
    clear HZ27
    clear HO7 HQ7
    have HB8 := Lib.hid (bThen HB7.out hb8)
    have HS8 := Lib.hid (HS7.out.below hb8)
    have HL8 := Lib.hid (HL7.out.below hb8)
    have HT8 := Lib.hid (HT7.out.below hb8)
    clear HB7 HS7 HL7 HT7
    have c0 := bAt hb8 c0
    have c1 := bAt hb8 c1
    have c2 := bAt hb8 c2
    have c3 := bAt hb8 c3
    have c4 := bAt hb8 c4
    have c5 := bAt hb8 c5
    have c6 := bAt hb8 c6
    clear hb8
    obtain ⟨ec, hec⟩ : ∃ z, checkL l = z := ⟨_, rfl⟩
    go_wp2_with fail
    have hcall := refCheck_any l (.slice a n cap) w8 HS8.out HBD.out
    unfold legV legA at hcall
    rw [hec] at hcall
    refine hcall.mono ?_
    rintro e w9 ⟨rfl, hb9⟩
    clear hcall
    have HEC := Lib.hid hec
    clear hec
    have HZ29 : Hid (te = 0 → ∃ g1 g2 g3, v1 = .slice (some ⟨g1, 0, none⟩) l.turns.toNat l.turns.toNat ∧ v2 = .slice (some ⟨g2, 0, none⟩) l.turns.toNat l.turns.toNat ∧ v3 = .slice (some ⟨g3, 0, none⟩) l.turns.toNat l.turns.toNat ∧ SpansAt w9 g1 l.turns.toNat (scF l list) ∧ SpansAt w9 g2 l.turns.toNat (leF l list) ∧ SpansAt w9 g3 l.turns.toNat (daF l list)) := Lib.hid (fun h => by
      obtain ⟨g1, g2, g3, e1, e2, e3, e4, e5, e6⟩ := HZ28.out h
      exact ⟨g1, g2, g3, e1, e2, e3, e4.below hb9, e5.below hb9, e6.below hb9⟩)
    clear HZ28
    have HB9 := Lib.hid (bThen HB8.out hb9)
    have HS9 := Lib.hid (HS8.out.below hb9)
    have HL9 := Lib.hid (HL8.out.below hb9)
    have HT9 := Lib.hid (HT8.out.below hb9)
    clear HB8 HS8 HL8 HT8
    have c0 := bAt hb9 c0
    have c1 := bAt hb9 c1
    have c2 := bAt hb9 c2
    have c3 := bAt hb9 c3
    have c4 := bAt hb9 c4
    have c5 := bAt hb9 c5
    have c6 := bAt hb9 c6
    clear hb9
    obtain ⟨w10, hw10⟩ : ∃ y, w9.alloc (.cells #[] 64) = y := ⟨_, rfl⟩
    have hb10 : Below w9.heap.size w9 w10 := by rw [← hw10]; exact aB _ _
    have HW10 := Lib.hid hw10
    clear hw10
    go_upto_region 8 with fail
    rw [HW10.out]
    have HZ210 : Hid (te = 0 → ∃ g1 g2 g3, v1 = .slice (some ⟨g1, 0, none⟩) l.turns.toNat l.turns.toNat ∧ v2 = .slice (some ⟨g2, 0, none⟩) l.turns.toNat l.turns.toNat ∧ v3 = .slice (some ⟨g3, 0, none⟩) l.turns.toNat l.turns.toNat ∧ SpansAt w10 g1 l.turns.toNat (scF l list) ∧ SpansAt w10 g2 l.turns.toNat (leF l list) ∧ SpansAt w10 g3 l.turns.toNat (daF l list)) := Lib.hid (fun h => by
      obtain ⟨g1, g2, g3, e1, e2, e3, e4, e5, e6⟩ := HZ29.out h
      exact ⟨g1, g2, g3, e1, e2, e3, e4.below hb10, e5.below hb10, e6.below hb10⟩)
    clear HZ29
    have HB10 := Lib.hid (bThen HB9.out hb10)
    have HS10 := Lib.hid (HS9.out.below hb10)
    have HL10 := Lib.hid (HL9.out.below hb10)
    have HT10 := Lib.hid (HT9.out.below hb10)
    clear HB9 HS9 HL9 HT9
    have c0 := bAt hb10 c0
    have c1 := bAt hb10 c1
    have c2 := bAt hb10 c2
    have c3 := bAt hb10 c3
    have c4 := bAt hb10 c4
    have c5 := bAt hb10 c5
    have c6 := bAt hb10 c6
    clear hb10
    by_cases hne : ec = 0
    · subst hne
      have hval := valid_of HEC.out
      have HV := Lib.hid hval
      have HGO := Lib.hid (HGN.out HEC.out)
      obtain ⟨re, hre⟩ : ∃ z, repE l list = z := ⟨_, rfl⟩
      go_wp2_with fail
      have hcall := refReports_any l ⟨hval.turns.1, by have := HGO.out.2.2; omega⟩ (.slice a n cap) (.slice la m lc) list 100 w10 HL10.out
      unfold legV legA at hcall
      rw [show (if (100 : Int) < (list.length : Int) then (5 : Int) else if list.any (badR l.turns) = true then 2 else 0) = re from hre] at hcall
      refine hcall.mono ?_
      rintro e w11 ⟨rfl, hb11⟩
      clear hcall hval
      have HRE := Lib.hid hre
      clear hre
      have HZ211 : Hid (te = 0 → ∃ g1 g2 g3, v1 = .slice (some ⟨g1, 0, none⟩) l.turns.toNat l.turns.toNat ∧ v2 = .slice (some ⟨g2, 0, none⟩) l.turns.toNat l.turns.toNat ∧ v3 = .slice (some ⟨g3, 0, none⟩) l.turns.toNat l.turns.toNat ∧ SpansAt w11 g1 l.turns.toNat (scF l list) ∧ SpansAt w11 g2 l.turns.toNat (leF l list) ∧ SpansAt w11 g3 l.turns.toNat (daF l list)) := Lib.hid (fun h => by
        obtain ⟨g1, g2, g3, e1, e2, e3, e4, e5, e6⟩ := HZ210.out h
        exact ⟨g1, g2, g3, e1, e2, e3, e4.below hb11, e5.below hb11, e6.below hb11⟩)
      clear HZ210
      have HB11 := Lib.hid (bThen HB10.out hb11)
      have HS11 := Lib.hid (HS10.out.below hb11)
      have HL11 := Lib.hid (HL10.out.below hb11)
      have HT11 := Lib.hid (HT10.out.below hb11)
      clear HB10 HS10 HL10 HT10
      have c0 := bAt hb11 c0
      have c1 := bAt hb11 c1
      have c2 := bAt hb11 c2
      have c3 := bAt hb11 c3
      have c4 := bAt hb11 c4
      have c5 := bAt hb11 c5
      have c6 := bAt hb11 c6
      clear hb11
      by_cases hne : re = 0
      · subst hne
        have HR0 := Lib.hid (repE_zero HRE.out)
        obtain ⟨tb, htb⟩ : ∃ b, truB l list = b := ⟨_, rfl⟩
        obtain ⟨T, hTn⟩ : ∃ T, l.turns.toNat = T := ⟨_, rfl⟩
        go_wp2_with fail
        have hcall := refTruth_any l HV.out HGO.out.2.1 HGO.out.1 HGO.out.2.2 (.slice a n cap) (.slice la m lc) list HR0.out.2 (by have := HR0.out.1; omega) w11 HS11.out HL11.out
        unfold legV legA at hcall
        rw [htb, hTn] at hcall
        refine hcall.mono ?_
        rintro e w12 ⟨rv, rfl, hb12, hrv⟩
        clear hcall
        have HTB := Lib.hid htb
        have HRV := Lib.hid hrv
        have HTN := Lib.hid hTn
        clear htb hrv hTn
        have HZ212 : Hid (te = 0 → ∃ g1 g2 g3, v1 = .slice (some ⟨g1, 0, none⟩) l.turns.toNat l.turns.toNat ∧ v2 = .slice (some ⟨g2, 0, none⟩) l.turns.toNat l.turns.toNat ∧ v3 = .slice (some ⟨g3, 0, none⟩) l.turns.toNat l.turns.toNat ∧ SpansAt w12 g1 l.turns.toNat (scF l list) ∧ SpansAt w12 g2 l.turns.toNat (leF l list) ∧ SpansAt w12 g3 l.turns.toNat (daF l list)) := Lib.hid (fun h => by
          obtain ⟨g1, g2, g3, e1, e2, e3, e4, e5, e6⟩ := HZ211.out h
          exact ⟨g1, g2, g3, e1, e2, e3, e4.below hb12, e5.below hb12, e6.below hb12⟩)
        clear HZ211
        have HB12 := Lib.hid (bThen HB11.out hb12)
        have HS12 := Lib.hid (HS11.out.below hb12)
        have HL12 := Lib.hid (HL11.out.below hb12)
        have HT12 := Lib.hid (HT11.out.below hb12)
        clear HB11 HS11 HL11 HT11
        have c0 := bAt hb12 c0
        have c1 := bAt hb12 c1
        have c2 := bAt hb12 c2
        have c3 := bAt hb12 c3
        have c4 := bAt hb12 c4
        have c5 := bAt hb12 c5
        have c6 := bAt hb12 c6
        clear hb12
        have hte := HTE.out
        rw [truthE_tru HEC.out HRE.out, HTB.out] at hte
        cases tb
        · have hne : (9 : Int) ≠ 0 := by decide
          obtain rfl : te = 9 := hte.symm
          obtain ⟨rfl, rfl, rfl⟩ := HZ1.out hne
          clear HZ1 HZ212 hne hte HRV c0 c1 c2 c3 c4 c5 c6
          go_wp2_with fail
          refine (known_any w12 HT12.out).mono ?_
          rintro e wz ⟨rfl, hbz⟩
          have HBZ := Lib.hid (bThen HB12.out hbz)
          clear hbz
          go_wp2
          go_returns
          exact ⟨rfl, HBZ.out⟩
        · obtain rfl : te = 0 := hte.symm
          obtain ⟨G, rfl, -, hG⟩ := HRV.out rfl
          obtain ⟨g1, g2, g3, rfl, rfl, rfl, hs1, hs2, hs3⟩ := HZ212.out rfl
          rw [HTN.out] at hs1 hs2 hs3 ⊢
          have HS1' := Lib.hid hs1
          have HS2' := Lib.hid hs2
          have HS3' := Lib.hid hs3
          have HGG := Lib.hid hG
          have hTv : l.turns = (T : Int) := by have := HV.out.turns; have := HTN.out; omega
          have HTV := Lib.hid hTv
          have hT8 : T ≤ 8 := by have := HGO.out.2.2; omega
          rw [hTv] at c5
          clear hte hs1 hs2 hs3 hG hTv HRV HZ212 HZ1 c0 c1 c2 c3 c4 c6
          have HBE : Hid (Below w12.heap.size w12 w12) := Lib.hid (Below.refl _ _)
          go_wp2_with fail
          go_loopw [15] (fun iv wr => ∃ i : Nat, i ≤ T ∧ iv = .int .i64 (i : Int) ∧ Hid (Below w12.heap.size w12 wr)) (fun iv _ => T - (intOf iv).toNat)
          case atStart => exact ⟨0, by omega, by go_num, HBE⟩
          case round =>
            clear HBE
            obtain ⟨i, hi, rfl, HBr⟩ := hrel
            obtain ⟨wo, rfl⟩ : ∃ wo : World, wo = wr := ⟨_, rfl⟩
            have c5 := bAt HBr.out c5
            by_cases hlt : i < T
            · obtain ⟨u1, u2⟩ := (HS1'.out.below HBr.out).cells hlt
              obtain ⟨u3, u4⟩ := (HS2'.out.below HBr.out).cells hlt
              obtain ⟨u5, u6⟩ := (HS3'.out.below HBr.out).cells hlt
              have hgo := (HBr.out.block G (Array.getElem?_eq_some_iff.1 HGG.out).1).trans HGG.out
              obtain ⟨A1, a1⟩ : ∃ z, (scF l list i).1 = z := ⟨_, rfl⟩
              obtain ⟨A2, a2⟩ : ∃ z, (scF l list i).2 = z := ⟨_, rfl⟩
              obtain ⟨A3, a3'⟩ : ∃ z, (leF l list i).1 = z := ⟨_, rfl⟩
              obtain ⟨A4, a4⟩ : ∃ z, (leF l list i).2 = z := ⟨_, rfl⟩
              obtain ⟨A5, a5⟩ : ∃ z, (daF l list i).1 = z := ⟨_, rfl⟩
              obtain ⟨A6, a6⟩ : ∃ z, (daF l list i).2 = z := ⟨_, rfl⟩
              have hr6 : row6 (trL (keptL l (allS list) i)) = [.int .i64 A1, .int .i64 A2, .int .i64 A3, .int .i64 A4, .int .i64 A5, .int .i64 A6] := by
                rw [← a1, ← a2, ← a3', ← a4, ← a5, ← a6]; rfl
              have hcl : ∀ (z : Nat) (v : Value), z < 6 → ([.int .i64 A1, .int .i64 A2, .int .i64 A3, .int .i64 A4, .int .i64 A5, .int .i64 A6] : List Value)[z]? = some v → wo.cell? ⟨G, i * 6 + z, none⟩ = some v := fun z v hz hv => by
                rw [cell_of_heap hgo, List.getElem?_toArray, trBlk_at hlt hz, hr6]; exact hv
              have y1 := hcl 0 _ (by decide) rfl
              have y2 := hcl 1 _ (by decide) rfl
              have y3 := hcl 2 _ (by decide) rfl
              have y4 := hcl 3 _ (by decide) rfl
              have y5 := hcl 4 _ (by decide) rfl
              have y6 := hcl 5 _ (by decide) rfl
              rw [Nat.add_zero] at y1
              rw [a1] at u1
              rw [a2] at u2
              rw [a3'] at u3
              rw [a4] at u4
              rw [a5] at u5
              rw [a6] at u6
              have hii : (i : Int) < (T : Int) := by omega
              have hwi : IntKind.i64.wrap ((i : Int) + 1) = (i : Int) + 1 := wrap_small _ (by omega) (by omega)
              clear hgo a1 a2 a3' a4 a5 a6 hr6 hcl
              go_upto_region 22 with fail
              refine wp_region_seqW (.is (.slice (some ⟨g1, 0, none⟩) T T) :: .is (.int .i64 (i : Int)) :: .is (.pointer (some ⟨g1, i * 2, none⟩)) :: .is (.agg #[.int .i64 A1, .int .i64 A2]) :: .is (.slice (some ⟨G, 0, none⟩) T T) :: .is (.int .i64 (i : Int)) :: .is (.pointer (some ⟨G, i * 6, none⟩)) :: .is (.pointer (some ⟨G, i * 6, none⟩)) :: .is (.agg #[.int .i64 A1, .int .i64 A2]) :: .is (.bool false) :: .is (.bool false) :: .is (.slice (some ⟨g2, 0, none⟩) T T) :: .is (.int .i64 (i : Int)) :: .is (.pointer (some ⟨g2, i * 2, none⟩)) :: .is (.agg #[.int .i64 A3, .int .i64 A4]) :: .is (.slice (some ⟨G, 0, none⟩) T T) :: .is (.int .i64 (i : Int)) :: .is (.pointer (some ⟨G, i * 6, none⟩)) :: .is (.pointer (some ⟨G, i * 6 + 2, none⟩)) :: .is (.agg #[.int .i64 A3, .int .i64 A4]) :: .is (.bool false) :: .is (.bool false) :: .is (.bool false) :: .is (.slice (some ⟨g3, 0, none⟩) T T) :: .is (.int .i64 (i : Int)) :: .is (.pointer (some ⟨g3, i * 2, none⟩)) :: .is (.agg #[.int .i64 A5, .int .i64 A6]) :: .is (.slice (some ⟨G, 0, none⟩) T T) :: .is (.int .i64 (i : Int)) :: .is (.pointer (some ⟨G, i * 6, none⟩)) :: .is (.pointer (some ⟨G, i * 6 + 4, none⟩)) :: .is (.agg #[.int .i64 A5, .int .i64 A6]) :: .is (.bool false) :: .is (.bool false) :: []) rfl mix (by kernel_rfl) (by kernel_rfl) ?_
              iterate 10
                refine seq_on (by rfl) (fun wr hbr _ => ?_) ?_
                · have u1' := bAt hbr u1
                  have u2' := bAt hbr u2
                  have y1' := bAt hbr y1
                  have y2' := bAt hbr y2
                  simp [opOK, go_sem, u1', u2', y1', y2', hii, Below.refl]
                  try exact rfl
                simp only [Act.put, List.setIfInBounds_toArray, List.set_cons_succ, List.set_cons_zero]
              iterate 12
                refine seq_on (by rfl) (fun wr hbr _ => ?_) ?_
                · have u3' := bAt hbr u3
                  have u4' := bAt hbr u4
                  have y3' := bAt hbr y3
                  have y4' := bAt hbr y4
                  simp [opOK, go_sem, u3', u4', y3', y4', hii, Below.refl]
                  try exact rfl
                simp only [Act.put, List.setIfInBounds_toArray, List.set_cons_succ, List.set_cons_zero]
              iterate 12
                refine seq_on (by rfl) (fun wr hbr _ => ?_) ?_
                · have u5' := bAt hbr u5
                  have u6' := bAt hbr u6
                  have y5' := bAt hbr y5
                  have y6' := bAt hbr y6
                  simp [opOK, go_sem, u5', u6', y5', y6', hii, Below.refl]
                  try exact rfl
                simp only [Act.put, List.setIfInBounds_toArray, List.set_cons_succ, List.set_cons_zero]
              refine seq_end fun w13 hb13 hH => ?_
              have HB13 := Lib.hid (bThen HBr.out hb13)
              clear hH hb13 u1 u2 u3 u4 u5 u6 y1 y2 y3 y4 y5 y6
              go_wp2_with fail
              go_roundw
              case rel => exact ⟨i + 1, by omega, by go_num, HB13⟩
              case measure => simp [intOf]; omega
            · obtain rfl : i = T := by omega
              go_wp2_with fail
              refine (known_any wo (HT12.out.below HBr.out)).mono ?_
              rintro e wz ⟨rfl, hbz⟩
              have HBZ := Lib.hid (bThen (bThen HB12.out HBr.out) hbz)
              clear hbz
              go_wp2
              go_returns
              exact ⟨rfl, HBZ.out⟩
      · have hte : te = re := HTE.out.symm.trans ((truthE_rep HEC.out (by rw [HRE.out]; exact hne)).trans HRE.out)
        obtain ⟨rfl, rfl, rfl⟩ := HZ1.out (by rw [hte]; exact hne)
        subst hte
        have d1 : (te == 0) = false := beq_eq_false_iff_ne.2 hne
        have d2 : (te != 0) = true := bne_iff_ne.2 hne
        clear HZ1 HZ211 hne c0 c1 c2 c3 c4 c5 c6
        go_wp2_with fail
        refine (known_any w11 HT11.out).mono ?_
        rintro e wz ⟨rfl, hbz⟩
        have HBZ := Lib.hid (bThen HB11.out hbz)
        clear hbz
        go_wp2
        go_returns
        exact ⟨rfl, HBZ.out⟩
    · have hte : te = ec := HTE.out.symm.trans ((truthE_leg (by rw [HEC.out]; exact hne)).trans HEC.out)
      obtain ⟨rfl, rfl, rfl⟩ := HZ1.out (by rw [hte]; exact hne)
      subst hte
      have d1 : (te == 0) = false := beq_eq_false_iff_ne.2 hne
      have d2 : (te != 0) = true := bne_iff_ne.2 hne
      clear HZ1 HZ210 hne c0 c1 c2 c3 c4 c5 c6
      go_wp2_with fail
      refine (known_any w10 HT10.out).mono ?_
      rintro e wz ⟨rfl, hbz⟩
      have HBZ := Lib.hid (bThen HB10.out hbz)
      clear hbz
      go_wp2
      go_returns
      exact ⟨rfl, HBZ.out⟩
  · skip
    clear c0 c1 c2 c3 c4 c5 c6
    go_wp2_with fail
    refine (known_any w2 HT2.out).mono ?_
    rintro e wz ⟨rfl, hbz⟩
    have HBZ := Lib.hid (bThen HB2.out hbz)
    clear hbz
    go_wp2
    go_returns
    exact ⟨rfl, HBZ.out⟩
end Go.Proofs.YtpfpjbglpibdoaaGreatDoor
