/- The texts RX, in build order. -/
import Derived.Test.YtpfpjbglpibdoaaGreatDoorZbd
import Derived.Deep.DeepCutAuto
import Derived.Deep.CutRange
import Derived.Deep.CutBlock

/- Chapter 5: HeardBlames, the walk. -/
namespace Go.Proofs.YtpfpjbglpibdoaaGreatDoor
open Go Go.RowKit Go.Oche Go.Proofs

def repE10 (l : Lg) (list : List Rp) : Int := if 10 < (list.length : Int) then 5 else if list.any (badR l.turns) = true then 2 else 0
theorem check10_leg {l : Lg} {list : List Rp} (h : checkL l ≠ 0) : checkR l list 10 = checkL l := by
  unfold checkR
  simp [h]
theorem check10_rep {l : Lg} {list : List Rp} (h : checkL l = 0) : checkR l list 10 = repE10 l list := by
  unfold checkR repE10
  simp [h]
theorem drop_leg {l : Lg} {list : List Rp} (h : checkR l list 10 ≠ 0) : dropE l list = checkR l list 10 := by
  unfold dropE
  rw [if_neg h]
theorem drop_can {l : Lg} {list : List Rp} (h : checkR l list 10 = 0) : dropE l list = if canL l list (fun _ => false) = true then 0 else 9 := by
  unfold dropE
  rw [if_pos h]
theorem repE10_zero {l : Lg} {list : List Rp} (h : repE10 l list = 0) : list.length ≤ 10 ∧ ∀ r ∈ list, -1 ≤ r.score ∧ -1 ≤ r.left := by
  unfold repE10 at h
  split at h
  · cases h
  · rename_i h1
    split at h
    · cases h
    · rename_i h2
      refine ⟨by omega, fun r hr => ?_⟩
      have hb : badR l.turns r = false := by
        cases e : badR l.turns r with
        | false => rfl
        | true => exact (h2 (List.any_eq_true.2 ⟨r, hr, e⟩)).elim
      unfold badR isIn at hb
      simp at hb
      omega
theorem can_none (l : Lg) (list : List Rp) (m : Nat) : canL l list (fun i => (List.replicate m false).getD i false) = canL l list (fun _ => false) := by
  refine can_congr fun i _ => ?_
  rw [List.getD_eq_getElem?_getD, List.getElem?_replicate]
  split <;> rfl
theorem SetR.toSl {M : Nat} {W : World} {v : Value} {xss : List (List Nat)} {vs : List Value} (h : SetR M W v xss vs) : SlSl (fun _ => True) W v (xss.map nInts) := by
  refine ⟨vs, (Sl.of_ownsB h.row).mono fun _ _ => trivial, by rw [List.length_map]; exact h.len, fun i hi => ?_⟩
  rw [List.length_map] at hi
  have hi' : i < vs.length := by rw [h.len]; exact hi
  refine ⟨vs[i], List.getElem?_eq_getElem hi', ?_⟩
  rw [List.getElem_map]
  exact (Sl.of_ownsB (h.rows i _ _ (List.getElem?_eq_getElem hi') (List.getElem?_eq_getElem hi))).mono fun _ _ => trivial
set_option maxRecDepth 100000 in
set_option maxHeartbeats 10000000 in
theorem heardBlames_any {S S' : Nat → Prop} (l : Lg) (bv lv : Value) (list : List Rp) (w : World) (hs : Sl S w bv (ints l.beds)) (hbd : BedsIn l) (hl : SlN 3 S' w lv (list.map rpRow)) (hT : Tab5 w) :
    Calls Tryz.prog 6 #[legV l bv, lv] w fun e w' => e = .returned (.bool true) ∧ Below w.heap.size w w' := by
  obtain ⟨a, cap, rfl, h2, h3⟩ := hs.form
  obtain ⟨la, lc, rfl, h2', h3'⟩ := hl.form
  simp only [ints_length, List.length_map] at *
  unfold maxLen at h3 h3'
  obtain ⟨n, hn⟩ : ∃ n, l.beds.length = n := ⟨_, rfl⟩
  obtain ⟨m, hm⟩ : ∃ n, list.length = n := ⟨_, rfl⟩
  rw [hn] at h2 hs ⊢
  rw [hm] at h2' hl ⊢
  obtain ⟨N, hN⟩ : ∃ N, w.heap.size = N := ⟨_, rfl⟩
  obtain ⟨w1, hw1⟩ : ∃ x, w.alloc (.cells #[.int .i64 l.start, .int .i64 l.gin, .int .i64 l.gout, .slice a n cap, .int .i64 l.players, .int .i64 l.turns, .bool l.won] 27) = x := ⟨_, rfl⟩
  have hb1 : Below w.heap.size w w1 := by rw [← hw1]; exact aB _ _
  have k : w1.heap[N]? = some (.cells #[.int .i64 l.start, .int .i64 l.gin, .int .i64 l.gout, .slice a n cap, .int .i64 l.players, .int .i64 l.turns, .bool l.won] 27 (0, 0)) := by rw [← hw1, ← hN]; exact World.alloc_heap_new _ _
  have c0 : w1.cell? ⟨N, 0, none⟩ = some (.int .i64 l.start) := by rw [cell_of_heap k]; rfl
  have c1 : w1.cell? ⟨N, 1, none⟩ = some (.int .i64 l.gin) := by rw [cell_of_heap k]; rfl
  have c2 : w1.cell? ⟨N, 2, none⟩ = some (.int .i64 l.gout) := by rw [cell_of_heap k]; rfl
  have c3 : w1.cell? ⟨N, 3, none⟩ = some (.slice a n cap) := by rw [cell_of_heap k]; rfl
  have c4 : w1.cell? ⟨N, 4, none⟩ = some (.int .i64 l.players) := by rw [cell_of_heap k]; rfl
  have c5 : w1.cell? ⟨N, 5, none⟩ = some (.int .i64 l.turns) := by rw [cell_of_heap k]; rfl
  have c6 : w1.cell? ⟨N, 6, none⟩ = some (.bool l.won) := by rw [cell_of_heap k]; rfl
  have HS1 := Lib.hid (hs.below hb1)
  have HL1 := Lib.hid (hl.below hb1)
  have HB1 := Lib.hid hb1
  have HT1 := Lib.hid (hT.below hb1)
  have HW := Lib.hid hw1
  have HBD := Lib.hid hbd
  have HLN := Lib.hid hn
  have HM := Lib.hid hm
  have HN := Lib.hid hN
  unfold legV legA
  clear hs hl hb1 hw1 hT hbd hn hm k hN
  go_enter Tryz.func6, Tryz.ntmps6
  go_upto_region 1 with fail
  rw [HW.out, HN.out]
  go_cut [27] from 11 to 26 (fun v wx => ∃ b, v = .bool b ∧ Hid (b = false → greatB l = false ∧ (m ≤ 5 ∨ 10 < m) ∧ m ≤ 20) ∧ Hid (Below w1.heap.size w1 wx))
  case first =>
    go_wp2_with fail
    have hcall := great_any l (.slice a n cap) w1 HS1.out
    unfold legV legA at hcall
    obtain ⟨g, hg⟩ : ∃ g, greatB l = g := ⟨_, rfl⟩
    rw [hg] at hcall
    refine hcall.mono ?_
    rintro e w2 ⟨rfl, hb2⟩
    have HG := Lib.hid hg
    have HB2 := Lib.hid hb2
    clear hcall hg hb2
    have HRT : Hid (true = false → greatB l = false ∧ (m ≤ 5 ∨ 10 < m) ∧ m ≤ 20) := Lib.hid (fun h => by cases h)
    cases g
    · by_cases h20 : 20 < m
      · have t1 : decide (5 < m) = true := decide_eq_true (by omega)
        have t1i : decide ((5 : Int) < (m : Int)) = true := decide_eq_true (by omega)
        have t2 : decide (m ≤ 10) = false := decide_eq_false (by omega)
        have t2i : decide ((m : Int) ≤ 10) = false := decide_eq_false (by omega)
        have t3 : decide (20 < m) = true := decide_eq_true (by omega)
        have t3i : decide ((20 : Int) < (m : Int)) = true := decide_eq_true (by omega)
        clear h20
        go_wp2_with fail
        go_meet
        case rel => exact ⟨true, rfl, HRT, HB2⟩
      · have t3 : decide (20 < m) = false := decide_eq_false (by omega)
        have t3i : decide ((20 : Int) < (m : Int)) = false := decide_eq_false (by omega)
        by_cases h5 : 5 < m
        · have t1 : decide (5 < m) = true := decide_eq_true (by omega)
          have t1i : decide ((5 : Int) < (m : Int)) = true := decide_eq_true (by omega)
          by_cases h10 : m ≤ 10
          · have t2 : decide (m ≤ 10) = true := decide_eq_true (by omega)
            have t2i : decide ((m : Int) ≤ 10) = true := decide_eq_true (by omega)
            clear h20 h5 h10
            go_wp2_with fail
            go_meet
            case rel => exact ⟨true, rfl, HRT, HB2⟩
          · have HR : Hid (greatB l = false ∧ (m ≤ 5 ∨ 10 < m) ∧ m ≤ 20) := Lib.hid ⟨HG.out, by omega, by omega⟩
            have t2 : decide (m ≤ 10) = false := decide_eq_false (by omega)
            have t2i : decide ((m : Int) ≤ 10) = false := decide_eq_false (by omega)
            clear h20 h5 h10
            go_wp2_with fail
            go_meet
            case rel => exact ⟨false, rfl, Lib.hid fun _ => HR.out, HB2⟩
        · have HR : Hid (greatB l = false ∧ (m ≤ 5 ∨ 10 < m) ∧ m ≤ 20) := Lib.hid ⟨HG.out, by omega, by omega⟩
          have t1 : decide (5 < m) = false := decide_eq_false (by omega)
          have t1i : decide ((5 : Int) < (m : Int)) = false := decide_eq_false (by omega)
          clear h20 h5
          go_wp2_with fail
          go_meet
          case rel => exact ⟨false, rfl, Lib.hid fun _ => HR.out, HB2⟩
    · go_wp2_with fail
      go_meet
      case rel => exact ⟨true, rfl, HRT, HB2⟩
  case rest =>
  obtain ⟨b, rfl, HBB, HBc⟩ := hcut
  obtain ⟨w2, rfl⟩ : ∃ y : World, y = wc := ⟨_, rfl⟩
  have hb2 := HBc.out
  clear HBc
  have HB2 := Lib.hid (bThen HB1.out hb2)
  have HS2 := Lib.hid (HS1.out.below hb2)
  have HL2 := Lib.hid (HL1.out.below hb2)
  have HT2 := Lib.hid (HT1.out.below hb2)
  clear HB1 HS1 HL1 HT1
  have c0 := bAt hb2 c0
  have c1 := bAt hb2 c1
  have c2 := bAt hb2 c2
  have c3 := bAt hb2 c3
  have c4 := bAt hb2 c4
  have c5 := bAt hb2 c5
  have c6 := bAt hb2 c6
  clear hb2
  cases b
  · have hgn := great_no (HBB.out rfl).1
    have HGN := Lib.hid hgn.2
    have HN90 : Hid (n ≤ 90) := Lib.hid (by rw [← HLN.out]; exact hgn.1)
    have HM5 : Hid (m ≤ 5 ∨ 10 < m) := Lib.hid (HBB.out rfl).2.1
    have HM20 : Hid (m ≤ 20) := Lib.hid (HBB.out rfl).2.2
    clear hgn HBB
    go_wp2_with fail
    refine (told_any list (.slice la m lc) w2 HL2.out (by rw [HM.out]; have := HM20.out; omega)).mono ?_
    rintro e w3 ⟨v3, rfl, hb3, hs3⟩
    obtain ⟨qa, qc, rfl, -, -⟩ := hs3.form
    rw [List.length_map, HM.out] at hs3 ⊢
    have HQ3 := Lib.hid hs3
    clear hs3
    have HB3 := Lib.hid (bThen HB2.out hb3)
    have HS3 := Lib.hid (HS2.out.below hb3)
    have HL3 := Lib.hid (HL2.out.below hb3)
    have HT3 := Lib.hid (HT2.out.below hb3)
    clear HB2 HS2 HL2 HT2
    have c0 := bAt hb3 c0
    have c1 := bAt hb3 c1
    have c2 := bAt hb3 c2
    have c3 := bAt hb3 c3
    have c4 := bAt hb3 c4
    have c5 := bAt hb3 c5
    have c6 := bAt hb3 c6
    clear hb3
    go_wp2_with fail
    have hcall := own_any l (.slice a n cap) w3 HS3.out (by rw [HLN.out]; have := HN90.out; omega)
    unfold legV legA at hcall
    refine hcall.mono ?_
    rintro e w4 ⟨bv4, rfl, hb4, hs4⟩
    clear hcall
    obtain ⟨a4, cap4, rfl, -, -⟩ := hs4.form
    rw [ints_length, HLN.out] at hs4 ⊢
    have HO4 := Lib.hid hs4
    clear hs4
    have HB4 := Lib.hid (bThen HB3.out hb4)
    have HS4 := Lib.hid (HS3.out.below hb4)
    have HL4 := Lib.hid (HL3.out.below hb4)
    have HT4 := Lib.hid (HT3.out.below hb4)
    have HQ4 := Lib.hid (HQ3.out.below hb4)
    clear HB3 HS3 HL3 HT3 HQ3
    have c0 := bAt hb4 c0
    have c1 := bAt hb4 c1
    have c2 := bAt hb4 c2
    have c3 := bAt hb4 c3
    have c4 := bAt hb4 c4
    have c5 := bAt hb4 c5
    have c6 := bAt hb4 c6
    clear hb4
    obtain ⟨te, hte⟩ : ∃ z, blameE l list = z := ⟨_, rfl⟩
    go_wp2_with fail
    have hcall := blame_any l (.slice a4 n cap4) (.slice qa m qc) list w4 HO4.out HBD.out HQ4.out (by rw [HM.out]; exact HM5.out) HT4.out
    unfold legV legA at hcall
    rw [hte] at hcall
    refine hcall.mono ?_
    rintro e w5 ⟨v1, oa, rfl, hb5, hz1, hz2⟩
    clear hcall
    have HTE : Hid (checkR l list 10 = te) := Lib.hid hte
    have HZ1 := Lib.hid hz1
    have HZ25 : Hid (te = 0 → Blames l list oa ∧ SlSl (fun _ => True) w5 v1 (oa.map nInts)) := Lib.hid (fun h => ⟨(hz2 h).1, (hz2 h).2.mono fun _ _ => trivial⟩)
    clear hz1 hz2 hte
    clear HO4
    have HB5 := Lib.hid (bThen HB4.out hb5)
    have HS5 := Lib.hid (HS4.out.below hb5)
    have HL5 := Lib.hid (HL4.out.below hb5)
    have HT5 := Lib.hid (HT4.out.below hb5)
    have HQ5 := Lib.hid (HQ4.out.below hb5)
    clear HB4 HS4 HL4 HT4 HQ4
    have c0 := bAt hb5 c0
    have c1 := bAt hb5 c1
    have c2 := bAt hb5 c2
    have c3 := bAt hb5 c3
    have c4 := bAt hb5 c4
    have c5 := bAt hb5 c5
    have c6 := bAt hb5 c6
    clear hb5
    go_wp2_with fail
    have hcall := own_any l (.slice a n cap) w5 HS5.out (by rw [HLN.out]; have := HN90.out; omega)
    unfold legV legA at hcall
    refine hcall.mono ?_
    rintro e w6 ⟨bv6, rfl, hb6, hs6⟩
    clear hcall
    obtain ⟨a6, cap6, rfl, -, -⟩ := hs6.form
    rw [ints_length, HLN.out] at hs6 ⊢
    have HO6 := Lib.hid hs6
    clear hs6
    have HZ26 : Hid (te = 0 → Blames l list oa ∧ SlSl (fun _ => True) w6 v1 (oa.map nInts)) := Lib.hid (fun h => ⟨(HZ25.out h).1, (HZ25.out h).2.below hb6⟩)
    clear HZ25
    have HB6 := Lib.hid (bThen HB5.out hb6)
    have HS6 := Lib.hid (HS5.out.below hb6)
    have HL6 := Lib.hid (HL5.out.below hb6)
    have HT6 := Lib.hid (HT5.out.below hb6)
    have HQ6 := Lib.hid (HQ5.out.below hb6)
    clear HB5 HS5 HL5 HT5 HQ5
    have c0 := bAt hb6 c0
    have c1 := bAt hb6 c1
    have c2 := bAt hb6 c2
    have c3 := bAt hb6 c3
    have c4 := bAt hb6 c4
    have c5 := bAt hb6 c5
    have c6 := bAt hb6 c6
    clear hb6
    obtain ⟨td, htd⟩ : ∃ z, dropE l list = z := ⟨_, rfl⟩
    go_wp2_with fail
    have hcall := drop_any l (.slice a6 n cap6) (.slice qa m qc) list w6 HO6.out HBD.out HQ6.out (by rw [HM.out]; exact HM5.out) HT6.out
    unfold legV legA at hcall
    rw [htd] at hcall
    refine hcall.mono ?_
    rintro e w7 ⟨v2, ob, rfl, hb7, hz3, hz4⟩
    clear hcall
    have HTD : Hid (dropE l list = td) := Lib.hid htd
    have HD1 := Lib.hid hz3
    have HZ37 : Hid (td = 0 → Drops l list ob ∧ SlSl (fun _ => True) w7 v2 (ob.map nInts)) := Lib.hid (fun h => ⟨(hz4 h).1, (hz4 h).2.mono fun _ _ => trivial⟩)
    clear hz3 hz4 htd
    have HZ27 : Hid (te = 0 → Blames l list oa ∧ SlSl (fun _ => True) w7 v1 (oa.map nInts)) := Lib.hid (fun h => ⟨(HZ26.out h).1, (HZ26.out h).2.below hb7⟩)
    clear HZ26
    clear HO6
    have HB7 := Lib.hid (bThen HB6.out hb7)
    have HS7 := Lib.hid (HS6.out.below hb7)
    have HL7 := Lib.hid (HL6.out.below hb7)
    have HT7 := Lib.hid (HT6.out.below hb7)
    have HQ7 := Lib.hid (HQ6.out.below hb7)
    clear HB6 HS6 HL6 HT6 HQ6
    have c0 := bAt hb7 c0
    have c1 := bAt hb7 c1
    have c2 := bAt hb7 c2
    have c3 := bAt hb7 c3
    have c4 := bAt hb7 c4
    have c5 := bAt hb7 c5
    have c6 := bAt hb7 c6
    clear hb7
    obtain ⟨ec, hec⟩ : ∃ z, checkL l = z := ⟨_, rfl⟩
    go_wp2_with fail
    have hcall := refCheck_any l (.slice a n cap) w7 HS7.out HBD.out
    unfold legV legA at hcall
    rw [hec] at hcall
    refine hcall.mono ?_
    rintro e w8 ⟨rfl, hb8⟩
    clear hcall
    have HEC := Lib.hid hec
    clear hec
    have HZ28 : Hid (te = 0 → Blames l list oa ∧ SlSl (fun _ => True) w8 v1 (oa.map nInts)) := Lib.hid (fun h => ⟨(HZ27.out h).1, (HZ27.out h).2.below hb8⟩)
    clear HZ27
    have HZ38 : Hid (td = 0 → Drops l list ob ∧ SlSl (fun _ => True) w8 v2 (ob.map nInts)) := Lib.hid (fun h => ⟨(HZ37.out h).1, (HZ37.out h).2.below hb8⟩)
    clear HZ37
    have HB8 := Lib.hid (bThen HB7.out hb8)
    have HS8 := Lib.hid (HS7.out.below hb8)
    have HL8 := Lib.hid (HL7.out.below hb8)
    have HT8 := Lib.hid (HT7.out.below hb8)
    have HQ8 := Lib.hid (HQ7.out.below hb8)
    clear HB7 HS7 HL7 HT7 HQ7
    have c0 := bAt hb8 c0
    have c1 := bAt hb8 c1
    have c2 := bAt hb8 c2
    have c3 := bAt hb8 c3
    have c4 := bAt hb8 c4
    have c5 := bAt hb8 c5
    have c6 := bAt hb8 c6
    clear hb8
    by_cases hne : ec = 0
    · subst hne
      have hval := valid_of HEC.out
      have HV := Lib.hid hval
      have HGO := Lib.hid (HGN.out HEC.out)
      obtain ⟨re, hre⟩ : ∃ z, repE10 l list = z := ⟨_, rfl⟩
      go_wp2_with fail
      have hcall := refReports_any l ⟨hval.turns.1, by have := HGO.out.2.2; omega⟩ (.slice a n cap) (.slice la m lc) list 10 w8 HL8.out
      unfold legV legA at hcall
      rw [show (if (10 : Int) < (list.length : Int) then (5 : Int) else if list.any (badR l.turns) = true then 2 else 0) = re from hre] at hcall
      refine hcall.mono ?_
      rintro e w9 ⟨rfl, hb9⟩
      clear hcall hval
      have HRE := Lib.hid hre
      clear hre
      have HZ29 : Hid (te = 0 → Blames l list oa ∧ SlSl (fun _ => True) w9 v1 (oa.map nInts)) := Lib.hid (fun h => ⟨(HZ28.out h).1, (HZ28.out h).2.below hb9⟩)
      clear HZ28
      have HZ39 : Hid (td = 0 → Drops l list ob ∧ SlSl (fun _ => True) w9 v2 (ob.map nInts)) := Lib.hid (fun h => ⟨(HZ38.out h).1, (HZ38.out h).2.below hb9⟩)
      clear HZ38
      have HB9 := Lib.hid (bThen HB8.out hb9)
      have HS9 := Lib.hid (HS8.out.below hb9)
      have HL9 := Lib.hid (HL8.out.below hb9)
      have HT9 := Lib.hid (HT8.out.below hb9)
      have HQ9 := Lib.hid (HQ8.out.below hb9)
      clear HB8 HS8 HL8 HT8 HQ8
      have c0 := bAt hb9 c0
      have c1 := bAt hb9 c1
      have c2 := bAt hb9 c2
      have c3 := bAt hb9 c3
      have c4 := bAt hb9 c4
      have c5 := bAt hb9 c5
      have c6 := bAt hb9 c6
      clear hb9
      have hte : te = re := HTE.out.symm.trans ((check10_rep HEC.out).trans HRE.out)
      by_cases hne : re = 0
      · subst hne
        subst hte
        have HR0 := Lib.hid (repE10_zero HRE.out)
        have HM5' : Hid (m ≤ 5) := Lib.hid (by have := HM5.out; have := HR0.out.1; rw [HM.out] at this; omega)
        have hbl := (HZ29.out rfl).1
        have HSB9 := Lib.hid (HZ29.out rfl).2
        have HBL := Lib.hid hbl
        obtain ⟨va, vn, hva⟩ : ∃ a' c', v1 = .slice a' oa.length c' := by
          obtain ⟨a', c', e, -, -⟩ := HSB9.out.form
          rw [List.length_map] at e
          exact ⟨a', c', e⟩
        clear hbl HZ29 HZ1
        subst hva
        go_wp2_with fail
        refine (heardAs_any list (.slice qa m qc) (.slice la m lc) w9 HQ9.out HL9.out).mono ?_
        rintro e w10 ⟨rfl, hb10⟩
        have HZ310 : Hid (td = 0 → Drops l list ob ∧ SlSl (fun _ => True) w10 v2 (ob.map nInts)) := Lib.hid (fun h => ⟨(HZ39.out h).1, (HZ39.out h).2.below hb10⟩)
        clear HZ39
        have HB10 := Lib.hid (bThen HB9.out hb10)
        have HS10 := Lib.hid (HS9.out.below hb10)
        have HL10 := Lib.hid (HL9.out.below hb10)
        have HT10 := Lib.hid (HT9.out.below hb10)
        have HQ10 := Lib.hid (HQ9.out.below hb10)
        have HSB10 := Lib.hid (HSB9.out.below hb10)
        clear HB9 HS9 HL9 HT9 HQ9 HSB9
        have c0 := bAt hb10 c0
        have c1 := bAt hb10 c1
        have c2 := bAt hb10 c2
        have c3 := bAt hb10 c3
        have c4 := bAt hb10 c4
        have c5 := bAt hb10 c5
        have c6 := bAt hb10 c6
        clear hb10
        go_upto_region 13 with fail
        go_cut [86] from 77 to 85 (fun v wx => v = .bool false ∧ Hid (Below w10.heap.size w10 wx))
        case first =>
          go_wp2_with fail
          have hcall := refSets_any l HV.out HGO.out.2.1 HGO.out.1 HGO.out.2.2 (.slice a n cap) (.slice la m lc) list HR0.out.2 (by rw [HM.out]; exact HM5'.out) true w10 HS10.out HL10.out
          unfold legV legA at hcall
          refine hcall.mono ?_
          rintro e w11 ⟨v, out, vs, rfl, hb11, hmin, hset⟩
          clear hcall
          have HMIN := Lib.hid hmin
          have HSET := Lib.hid hset.toSl
          have HSB11 := Lib.hid (HSB10.out.below hb11)
          have HB11 := Lib.hid hb11
          clear hmin hset hb11
          go_wp2_with fail
          refine (equal_any (oa.map nInts) (out.map nInts) (.slice va oa.length vn) v w11 HSB11.out HSET.out).mono ?_
          rintro e w12 ⟨rfl, hb12⟩
          have HX : Hid (Below w10.heap.size w10 w12) := Lib.hid (bThen HB11.out hb12)
          have he : decide (oa.map nInts = out.map nInts) = true := decide_eq_true (by
            have e : oa = out := IsMin.unique (HBL.out : IsMin _ _ _ oa) HMIN.out
            rw [e])
          rw [he]
          clear hb12 he
          go_wp2_with fail
          go_meet
          case rel => exact ⟨rfl, HX⟩
        case rest =>
        obtain ⟨rfl, HBc⟩ := hcut
        obtain ⟨w13, rfl⟩ : ∃ y : World, y = wc := ⟨_, rfl⟩
        have hb13 := HBc.out
        clear HBc HSB10 HBL
        have HZ313 : Hid (td = 0 → Drops l list ob ∧ SlSl (fun _ => True) w13 v2 (ob.map nInts)) := Lib.hid (fun h => ⟨(HZ310.out h).1, (HZ310.out h).2.below hb13⟩)
        clear HZ310
        clear HQ10
        have HB13 := Lib.hid (bThen HB10.out hb13)
        have HS13 := Lib.hid (HS10.out.below hb13)
        have HL13 := Lib.hid (HL10.out.below hb13)
        have HT13 := Lib.hid (HT10.out.below hb13)
        clear HB10 HS10 HL10 HT10
        have c0 := bAt hb13 c0
        have c1 := bAt hb13 c1
        have c2 := bAt hb13 c2
        have c3 := bAt hb13 c3
        have c4 := bAt hb13 c4
        have c5 := bAt hb13 c5
        have c6 := bAt hb13 c6
        clear hb13
        obtain ⟨cb, hcb⟩ : ∃ b, canL l list (fun _ => false) = b := ⟨_, rfl⟩
        have htd : td = if cb = true then 0 else 9 := by rw [← hcb]; exact HTD.out.symm.trans (drop_can HTE.out)
        have HCB := Lib.hid hcb
        clear hcb
        obtain ⟨Q, hQ⟩ : ∃ Q, w13.heap.size = Q := ⟨_, rfl⟩
        have HQ := Lib.hid hQ
        clear hQ
        have HTDD := Lib.hid htd
        clear htd
        go_upto_region 15 with fail
        refine wp_region_seqW (.is (.agg #[.int .i64 l.start, .int .i64 l.gin, .int .i64 l.gout, .slice a n cap, .int .i64 l.players, .int .i64 l.turns, .bool l.won]) :: .is (.slice la m lc) :: .is (.slice la m lc) :: .is (.int .i64 (m : Int)) :: kMk Q 4 ((List.replicate m false).map Value.bool).toArray m :: .is (.bool cb) :: .is (.bool (!cb)) :: []) rfl mix (by kernel_rfl) (by kernel_rfl) ?_
        iterate 4
          refine seq_on (by rfl) (fun wr hbr _ => ?_) ?_
          · have c0' := bAt hbr c0
            have c1' := bAt hbr c1
            have c2' := bAt hbr c2
            have c3' := bAt hbr c3
            have c4' := bAt hbr c4
            have c5' := bAt hbr c5
            have c6' := bAt hbr c6
            simp [opOK, go_sem, c0', c1', c2', c3', c4', c5', c6', Below.refl]
            try exact rfl
          simp only [Act.put, List.setIfInBounds_toArray, List.set_cons_succ, List.set_cons_zero]
        refine seq_new ⟨_, 0, rfl⟩ (by rfl) (fun w3 hb3 hH => ?_) ?_
        · have hm5 := HM5'.out
          exact opOK_val (v := .slice (some ⟨w3.heap.size, 0, none⟩) m m) (w' := w3.alloc (.cells ((List.replicate m false).map Value.bool).toArray 4)) (by simp [go_sem, execOp, make_bls m (by omega)]) ⟨aB _ _, ⟨_, rfl⟩, _, rfl, Nat.le_trans (Nat.le_of_eq HQ.out.symm) hb3.size, World.alloc_heap_new _ _⟩
        rintro _ ⟨ba, rfl⟩
        simp only [Act.put, List.setIfInBounds_toArray, List.set_cons_succ, List.set_cons_zero]
        refine seq_on (by rfl) (fun w3 hb3 hH => ?_) ?_
        · have hsl := hH ⟨4, .data⟩ (by simp) rfl
          simp only [addH, kMk] at hsl
          simp at hsl
          have hcall := refCan_any l HV.out HGO.out.2.1 HGO.out.1 HGO.out.2.2 (.slice a n cap) (.slice la m lc) (.slice (some ⟨ba, 0, none⟩) m m) list HR0.out.2 (List.replicate m false) (by rw [List.length_replicate]; exact HM.out.symm) w3 (HS13.out.below hb3) (HL13.out.below hb3) (Sl.of_ownsB (own_lit (k := 1) (base := 0) (e := 4) (cs := ((List.replicate m false).map Value.bool).toArray) (by simpa using hsl.2) (Nat.zero_le _) (by have := HM5'.out; omega) (by simp)))
          unfold legV legA at hcall
          rw [can_none, HCB.out] at hcall
          refine opOK_call (f := 33) (args := #[.agg #[.int .i64 l.start, .int .i64 l.gin, .int .i64 l.gout, .slice a n cap, .int .i64 l.players, .int .i64 l.turns, .bool l.won], .slice la m lc, .slice (some ⟨ba, 0, none⟩) m m]) (by simp [go_sem]) ?_
          exact hcall.mono fun e W' ⟨he, hb⟩ => ⟨_, he, rfl, hb⟩
        simp only [Act.put, List.setIfInBounds_toArray, List.set_cons_succ, List.set_cons_zero]
        refine seq_on (by rfl) (fun w3 hb3 _ => ?_) ?_
        · cases cb <;> simp [opOK, go_sem, Below.refl]
        simp only [Act.put, List.setIfInBounds_toArray, List.set_cons_succ, List.set_cons_zero]
        refine seq_end fun w14 hb14 hH => ?_
        clear hH
        have HZ314 : Hid (td = 0 → Drops l list ob ∧ SlSl (fun _ => True) w14 v2 (ob.map nInts)) := Lib.hid (fun h => ⟨(HZ313.out h).1, (HZ313.out h).2.below hb14⟩)
        clear HZ313
        have HB14 := Lib.hid (bThen HB13.out hb14)
        have HS14 := Lib.hid (HS13.out.below hb14)
        have HL14 := Lib.hid (HL13.out.below hb14)
        have HT14 := Lib.hid (HT13.out.below hb14)
        clear HB13 HS13 HL13 HT13
        have c0 := bAt hb14 c0
        have c1 := bAt hb14 c1
        have c2 := bAt hb14 c2
        have c3 := bAt hb14 c3
        have c4 := bAt hb14 c4
        have c5 := bAt hb14 c5
        have c6 := bAt hb14 c6
        clear hb14
        have hl2 : (9 : Int) ≠ 0 := by decide
        cases cb
        · have h9 : td = 9 := HTDD.out
          subst h9
          have e2 : v2 = .slice none 0 0 := HD1.out hl2
          subst e2
          clear HZ314 HD1 HTDD hl2
          go_wp2_with fail
          refine (known_any w14 HT14.out).mono ?_
          rintro e wz ⟨rfl, hbz⟩
          have HBZ := Lib.hid (bThen HB14.out hbz)
          clear hbz
          go_wp2
          go_returns
          exact ⟨rfl, HBZ.out⟩
        · have h9 : td = 0 := HTDD.out
          subst h9
          have hdr := (HZ314.out rfl).1
          have HSB14 := Lib.hid (HZ314.out rfl).2
          have HDR := Lib.hid hdr
          obtain ⟨va2, vn2, hva⟩ : ∃ a' c', v2 = .slice a' ob.length c' := by
            obtain ⟨a', c', e, -, -⟩ := HSB14.out.form
            rw [List.length_map] at e
            exact ⟨a', c', e⟩
          clear hdr HZ314 HD1 hl2 HTDD
          subst hva
          go_wp2_with fail
          have hcall := refSets_any l HV.out HGO.out.2.1 HGO.out.1 HGO.out.2.2 (.slice a n cap) (.slice la m lc) list HR0.out.2 (by rw [HM.out]; exact HM5'.out) false w14 HS14.out HL14.out
          unfold legV legA at hcall
          refine hcall.mono ?_
          rintro e w15 ⟨v, out, vs, rfl, hb15, hmin, hset⟩
          clear hcall
          have HMIN := Lib.hid hmin
          have HSET := Lib.hid hset.toSl
          have HSB15 := Lib.hid (HSB14.out.below hb15)
          clear hmin hset
          have HB15 := Lib.hid (bThen HB14.out hb15)
          have HS15 := Lib.hid (HS14.out.below hb15)
          have HL15 := Lib.hid (HL14.out.below hb15)
          have HT15 := Lib.hid (HT14.out.below hb15)
          clear HB14 HS14 HL14 HT14
          have c0 := bAt hb15 c0
          have c1 := bAt hb15 c1
          have c2 := bAt hb15 c2
          have c3 := bAt hb15 c3
          have c4 := bAt hb15 c4
          have c5 := bAt hb15 c5
          have c6 := bAt hb15 c6
          clear hb15
          go_wp2_with fail
          refine (equal_any (ob.map nInts) (out.map nInts) (.slice va2 ob.length vn2) v w15 HSB15.out HSET.out).mono ?_
          rintro e w16 ⟨rfl, hb16⟩
          have he : decide (ob.map nInts = out.map nInts) = true := decide_eq_true (by
            have e : ob = out := IsMin.unique (HDR.out : IsMin _ _ _ ob) HMIN.out
            rw [e])
          rw [he]
          clear he
          have HB16 := Lib.hid (bThen HB15.out hb16)
          have HS16 := Lib.hid (HS15.out.below hb16)
          have HL16 := Lib.hid (HL15.out.below hb16)
          have HT16 := Lib.hid (HT15.out.below hb16)
          clear HB15 HS15 HL15 HT15
          have c0 := bAt hb16 c0
          have c1 := bAt hb16 c1
          have c2 := bAt hb16 c2
          have c3 := bAt hb16 c3
          have c4 := bAt hb16 c4
          have c5 := bAt hb16 c5
          have c6 := bAt hb16 c6
          clear hb16
          go_wp2_with fail
          refine (known_any w16 HT16.out).mono ?_
          rintro e wz ⟨rfl, hbz⟩
          have HBZ := Lib.hid (bThen HB16.out hbz)
          clear hbz
          go_wp2
          go_returns
          exact ⟨rfl, HBZ.out⟩
      · skip
        go_wp2_with fail
        refine (heardAs_any list (.slice qa m qc) (.slice la m lc) w9 HQ9.out HL9.out).mono ?_
        rintro e w10 ⟨rfl, hb10⟩
        have HZ210 : Hid (te = 0 → Blames l list oa ∧ SlSl (fun _ => True) w10 v1 (oa.map nInts)) := Lib.hid (fun h => ⟨(HZ29.out h).1, (HZ29.out h).2.below hb10⟩)
        clear HZ29
        have HZ310 : Hid (td = 0 → Drops l list ob ∧ SlSl (fun _ => True) w10 v2 (ob.map nInts)) := Lib.hid (fun h => ⟨(HZ39.out h).1, (HZ39.out h).2.below hb10⟩)
        clear HZ39
        have HB10 := Lib.hid (bThen HB9.out hb10)
        have HS10 := Lib.hid (HS9.out.below hb10)
        have HL10 := Lib.hid (HL9.out.below hb10)
        have HT10 := Lib.hid (HT9.out.below hb10)
        have HQ10 := Lib.hid (HQ9.out.below hb10)
        clear HB9 HS9 HL9 HT9 HQ9
        have c0 := bAt hb10 c0
        have c1 := bAt hb10 c1
        have c2 := bAt hb10 c2
        have c3 := bAt hb10 c3
        have c4 := bAt hb10 c4
        have c5 := bAt hb10 c5
        have c6 := bAt hb10 c6
        clear hb10
        subst hte
        have htd : td = te := HTD.out.symm.trans ((drop_leg (by rw [HTE.out]; exact hne)).trans HTE.out)
        subst htd
        have e1 : v1 = .slice none 0 0 := HZ1.out hne
        have e2 : v2 = .slice none 0 0 := HD1.out hne
        subst e1
        subst e2
        have d1 : (td == 0) = false := beq_eq_false_iff_ne.2 hne
        have d2 : (td != 0) = true := bne_iff_ne.2 hne
        clear HZ1 HD1 HZ210 HZ310 hne c0 c1 c2 c3 c4 c5 c6
        go_wp2_with fail
        refine (known_any w10 HT10.out).mono ?_
        rintro e wz ⟨rfl, hbz⟩
        have HBZ := Lib.hid (bThen HB10.out hbz)
        clear hbz
        go_wp2
        go_returns
        exact ⟨rfl, HBZ.out⟩
    · have hte : te = ec := HTE.out.symm.trans ((check10_leg (by rw [HEC.out]; exact hne)).trans HEC.out)
      go_wp2_with fail
      refine (heardAs_any list (.slice qa m qc) (.slice la m lc) w8 HQ8.out HL8.out).mono ?_
      rintro e w9 ⟨rfl, hb9⟩
      have HZ29 : Hid (te = 0 → Blames l list oa ∧ SlSl (fun _ => True) w9 v1 (oa.map nInts)) := Lib.hid (fun h => ⟨(HZ28.out h).1, (HZ28.out h).2.below hb9⟩)
      clear HZ28
      have HZ39 : Hid (td = 0 → Drops l list ob ∧ SlSl (fun _ => True) w9 v2 (ob.map nInts)) := Lib.hid (fun h => ⟨(HZ38.out h).1, (HZ38.out h).2.below hb9⟩)
      clear HZ38
      have HB9 := Lib.hid (bThen HB8.out hb9)
      have HS9 := Lib.hid (HS8.out.below hb9)
      have HL9 := Lib.hid (HL8.out.below hb9)
      have HT9 := Lib.hid (HT8.out.below hb9)
      have HQ9 := Lib.hid (HQ8.out.below hb9)
      clear HB8 HS8 HL8 HT8 HQ8
      have c0 := bAt hb9 c0
      have c1 := bAt hb9 c1
      have c2 := bAt hb9 c2
      have c3 := bAt hb9 c3
      have c4 := bAt hb9 c4
      have c5 := bAt hb9 c5
      have c6 := bAt hb9 c6
      clear hb9
      subst hte
      have htd : td = te := HTD.out.symm.trans ((drop_leg (by rw [HTE.out]; exact hne)).trans HTE.out)
      subst htd
      have e1 : v1 = .slice none 0 0 := HZ1.out hne
      have e2 : v2 = .slice none 0 0 := HD1.out hne
      subst e1
      subst e2
      have d1 : (td == 0) = false := beq_eq_false_iff_ne.2 hne
      have d2 : (td != 0) = true := bne_iff_ne.2 hne
      clear HZ1 HD1 HZ29 HZ39 hne c0 c1 c2 c3 c4 c5 c6
      go_wp2_with fail
      refine (known_any w9 HT9.out).mono ?_
      rintro e wz ⟨rfl, hbz⟩
      have HBZ := Lib.hid (bThen HB9.out hbz)
      clear hbz
      go_wp2
      go_returns
      exact ⟨rfl, HBZ.out⟩
  · skip
    clear c0 c1 c2 c3 c4 c5 c6 HBB
    go_wp2_with fail
    refine (known_any w2 HT2.out).mono ?_
    rintro e wz ⟨rfl, hbz⟩
    have HBZ := Lib.hid (bThen HB2.out hbz)
    clear hbz
    go_wp2
    go_returns
    exact ⟨rfl, HBZ.out⟩
end Go.Proofs.YtpfpjbglpibdoaaGreatDoor
