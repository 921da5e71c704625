/- The texts KNB, WA, WB, in build order. -/
import Derived.Test.YtpfpjbglpibdoaaGreatDoorZau
import Derived.Laws.NewBlocks

/- Chapter 5: the document's examples (known). -/
namespace Go.Proofs.YtpfpjbglpibdoaaGreatDoor
open Go.RowKit Go.Oche Go.Proofs

theorem slN_blk {k b : Nat} {w : World} {t : TypeId} {fz : Nat × Nat} {cs : Array Value} {rows : List (List Value)} (h : w.heap[b]? = some (.cells cs t fz)) (hcs : cs.toList = rows.flatten) (hr : ∀ r ∈ rows, r.length = k) (hl : rows.length ≤ maxLen) :
    SlN k (fun _ => True) w (.slice (some ⟨b, 0, none⟩) rows.length rows.length) rows := by
  refine ⟨_, _, rfl, Nat.le_refl _, hl, fun i r hi => ⟨hr r (List.mem_of_getElem? hi), b, 0, rfl, trivial, fun j x hx => ?_⟩⟩
  have h2 := SlN.of_owns.flat_at (n := 0) (c := 0) (rows := []) hr hi hx
  rw [← hcs] at h2
  rw [cell_of_heap h, Nat.zero_add]
  simpa using h2
def kSS (gs : List (List Int)) : Kn where
  s := fun v => ∃ b, v = .slice (some ⟨b, 0, none⟩) gs.length gs.length
  p := fun v w => SlSl (fun _ => True) w v gs
  m := fun _ _ _ hb h => h.below hb
theorem slsl_one (w : World) (b : Nat) (xs : List Int) (h : w.heap[b]? = some (.cells (ints xs).toArray 3 (0, 0))) (hl : xs.length ≤ 100 := by decide) : SlSl (fun _ => True) (w.alloc (.cells #[.slice (some ⟨b, 0, none⟩) xs.length xs.length] 35)) (.slice (some ⟨w.heap.size, 0, none⟩) 1 1) [xs] := by
  refine ⟨[.slice (some ⟨b, 0, none⟩) xs.length xs.length], sl_blk (xs := [_]) (World.alloc_heap_new _ _) (by simp [maxLen]), rfl, fun i hi => ?_⟩
  match i, hi with
  | 0, _ =>
    have := sl_blk (xs := ints xs) h (by simp [maxLen]; omega)
    rw [ints_length] at this
    exact ⟨_, rfl, this.below (aB _ _)⟩
  | i + 1, hi => simp at hi
theorem slsl_two (w : World) (b c : Nat) (xs ys : List Int) (h : w.heap[b]? = some (.cells (ints xs).toArray 3 (0, 0))) (h' : w.heap[c]? = some (.cells (ints ys).toArray 3 (0, 0))) (hl : xs.length ≤ 100 := by decide) (hl' : ys.length ≤ 100 := by decide) : SlSl (fun _ => True) (w.alloc (.cells #[.slice (some ⟨b, 0, none⟩) xs.length xs.length, .slice (some ⟨c, 0, none⟩) ys.length ys.length] 35)) (.slice (some ⟨w.heap.size, 0, none⟩) 2 2) [xs, ys] := by
  refine ⟨[.slice (some ⟨b, 0, none⟩) xs.length xs.length, .slice (some ⟨c, 0, none⟩) ys.length ys.length], sl_blk (xs := [_, _]) (World.alloc_heap_new _ _) (by simp [maxLen]), rfl, fun i hi => ?_⟩
  have h1 := sl_blk (xs := ints xs) h (by simp [maxLen]; omega)
  rw [ints_length] at h1
  have h2 := sl_blk (xs := ints ys) h' (by simp [maxLen]; omega)
  rw [ints_length] at h2
  match i, hi with
  | 0, _ => exact ⟨_, rfl, h1.below (aB _ _)⟩
  | 1, _ => exact ⟨_, rfl, h2.below (aB _ _)⟩
  | i + 2, hi => simp at hi; omega
theorem leg5K_in : BedsIn leg5K := by intro b hb; simp [leg5K] at hb; omega
set_option maxRecDepth 100000 in
set_option maxHeartbeats 4000000 in
theorem known_any (w : World) (hT : Tab5 w) : Calls Tryz.prog 13 #[] w fun e w' => e = .returned (.bool true) ∧ Below w.heap.size w w' := by
  have HT := Lib.hid hT
  clear hT
  go_enter Tryz.func13, Tryz.ntmps13
  -- Visits
  go_wp2_with fail
  refine (leg_any w).mono ?_
  rintro e w1 ⟨bv, rfl, hb1, hs1⟩
  have HB1 := Lib.hid hb1
  clear hb1
  go_wp2_with fail
  have hcall := visits2_any leg5K bv ⟨2, true⟩ w1 hs1 leg5K_in
  rw [k_open] at hcall
  refine hcall.mono ?_
  rintro e w2 ⟨sv, xs, wn, rfl, hb2, hs2, -, hk⟩
  obtain ⟨hxs, rfl⟩ := hk rfl
  obtain rfl := k_scores hxs
  rw [k_wins]
  have HB2 := Lib.hid (bThen HB1.out hb2)
  have HS2 := Lib.hid hs2
  clear hcall hb2 hs2 hxs hk hs1
  -- Ways
  go_wp2_with fail
  refine (leg_any w2).mono ?_
  rintro e w3 ⟨bv3, rfl, hb3, hs3⟩
  have HB3 := Lib.hid (bThen HB2.out hb3)
  have HS3 := Lib.hid (HS2.out.below hb3)
  clear hb3 HS2
  go_wp2_with fail
  have hcall := ways_any leg5K bv3 ⟨2, true⟩ 0 w3 hs3 leg5K_in
  rw [k_waysE, k_waysR] at hcall
  refine hcall.mono ?_
  rintro e w4 ⟨rfl, hb4⟩
  have HB4 := Lib.hid (bThen HB3.out hb4)
  have HS4 := Lib.hid (HS3.out.below hb4)
  clear hcall hb4 hs3 HS3
  go_upto_region 3 with fail
  obtain ⟨w5, hw5⟩ : ∃ x, w4.alloc (.cells #[.int .i64 1, .int .i64 3] 48) = x := ⟨_, rfl⟩
  have hb5 : Below w4.heap.size w4 w5 := by rw [← hw5]; exact aB _ _
  obtain ⟨D, hD⟩ : ∃ D, w4.heap.size = D := ⟨_, rfl⟩
  have k5 : w5.heap[D]? = some (.cells #[.int .i64 1, .int .i64 3] 48 (0, 0)) := by rw [← hw5, ← hD]; exact World.alloc_heap_new _ _
  have d0 : w5.cell? ⟨D, 0, none⟩ = some (.int .i64 1) := by rw [cell_of_heap k5]; rfl
  have d1 : w5.cell? ⟨D, 1, none⟩ = some (.int .i64 3) := by rw [cell_of_heap k5]; rfl
  have HB5 := Lib.hid (bThen HB4.out hb5)
  have HS5 := Lib.hid (HS4.out.below hb5)
  rw [hw5, hD]
  clear hb5 k5 hw5 hD HS4
  -- Truth
  go_wp2_with fail
  refine (leg_any w5).mono ?_
  rintro e w6 ⟨bv6, rfl, hb6, hs6⟩
  have HB6 := Lib.hid (bThen HB5.out hb6)
  have HS6 := Lib.hid (HS5.out.below hb6)
  have d0 := bAt hb6 d0
  have d1 := bAt hb6 d1
  clear hb6 HS5
  go_wp2_with fail
  have hcall := truth_any (S' := fun _ => True) leg5K bv6 (.slice none 0 0) [] w6 hs6 leg5K_in (SlN.nil 3 _ w6)
  rw [k_truth] at hcall
  refine hcall.mono ?_
  rintro e w7 ⟨v1, v2, v3, rfl, hb7, -, hk⟩
  obtain ⟨g1, g2, g3, rfl, rfl, rfl, -, -, -, q1, q2, q3⟩ := hk rfl
  rw [k_score] at q1
  rw [k_left] at q2
  rw [k_darts] at q3
  rw [show leg5K.turns.toNat = 4 from rfl]
  have s10 : w7.cell? ⟨g1, 2, none⟩ = some (.int .i64 6) := by rw [cell_of_heap q1]; rfl
  have s11 : w7.cell? ⟨g1, 3, none⟩ = some (.int .i64 44) := by rw [cell_of_heap q1]; rfl
  have s20 : w7.cell? ⟨g1, 4, none⟩ = some (.int .i64 0) := by rw [cell_of_heap q1]; rfl
  have s21 : w7.cell? ⟨g1, 5, none⟩ = some (.int .i64 44) := by rw [cell_of_heap q1]; rfl
  have l10 : w7.cell? ⟨g2, 2, none⟩ = some (.int .i64 6) := by rw [cell_of_heap q2]; rfl
  have l11 : w7.cell? ⟨g2, 3, none⟩ = some (.int .i64 44) := by rw [cell_of_heap q2]; rfl
  have l20 : w7.cell? ⟨g2, 4, none⟩ = some (.int .i64 2) := by rw [cell_of_heap q2]; rfl
  have l21 : w7.cell? ⟨g2, 5, none⟩ = some (.int .i64 50) := by rw [cell_of_heap q2]; rfl
  have l30 : w7.cell? ⟨g2, 6, none⟩ = some (.int .i64 0) := by rw [cell_of_heap q2]; rfl
  have l31 : w7.cell? ⟨g2, 7, none⟩ = some (.int .i64 0) := by rw [cell_of_heap q2]; rfl
  have t10 : w7.cell? ⟨g3, 2, none⟩ = some (.int .i64 3) := by rw [cell_of_heap q3]; rfl
  have t11 : w7.cell? ⟨g3, 3, none⟩ = some (.int .i64 3) := by rw [cell_of_heap q3]; rfl
  have HB7 := Lib.hid (bThen HB6.out hb7)
  have HS7 := Lib.hid (HS6.out.below hb7)
  have d0 := bAt hb7 d0
  have d1 := bAt hb7 d1
  clear hcall hb7 hk q1 q2 q3 hs6 HS6
  go_upto_region 5 with fail
  obtain ⟨w8, hw8⟩ : ∃ x, w7.alloc (.cells #[.int .i64 1, .int .i64 (-1), .int .i64 44, .int .i64 3, .int .i64 6, .int .i64 (-1), .int .i64 0, .int .i64 40, .int .i64 (-1)] 83) = x := ⟨_, rfl⟩
  have hb8 : Below w7.heap.size w7 w8 := by rw [← hw8]; exact aB _ _
  obtain ⟨E, hE⟩ : ∃ D, w7.heap.size = D := ⟨_, rfl⟩
  have k8 : w8.heap[E]? = some (.cells #[.int .i64 1, .int .i64 (-1), .int .i64 44, .int .i64 3, .int .i64 6, .int .i64 (-1), .int .i64 0, .int .i64 40, .int .i64 (-1)] 83 (0, 0)) := by rw [← hw8, ← hE]; exact World.alloc_heap_new _ _
  have HL8 : Hid (SlN 3 (fun _ => True) w8 (.slice (some ⟨E, 0, none⟩) 3 3) (repK.map rpRow)) := Lib.hid (slN_blk (k := 3) (rows := repK.map rpRow) k8 rfl (by simp [repK, rpRow]) (by simp [repK, maxLen]))
  have HB8 := Lib.hid (bThen HB7.out hb8)
  have HS8 := Lib.hid (HS7.out.below hb8)
  have d0 := bAt hb8 d0
  have d1 := bAt hb8 d1
  have s10 := bAt hb8 s10
  have s11 := bAt hb8 s11
  have s20 := bAt hb8 s20
  have s21 := bAt hb8 s21
  have l10 := bAt hb8 l10
  have l11 := bAt hb8 l11
  have l20 := bAt hb8 l20
  have l21 := bAt hb8 l21
  have l30 := bAt hb8 l30
  have l31 := bAt hb8 l31
  have t10 := bAt hb8 t10
  have t11 := bAt hb8 t11
  rw [hw8, hE]
  clear hb8 k8 hw8 hE HS7
  -- Blame
  go_wp2_with fail
  refine (leg_any w8).mono ?_
  rintro e w9 ⟨bv9, rfl, hb9, hs9⟩
  have HL9 := Lib.hid (HL8.out.below hb9)
  have HB9 := Lib.hid (bThen HB8.out hb9)
  have HS9 := Lib.hid (HS8.out.below hb9)
  have d0 := bAt hb9 d0
  have d1 := bAt hb9 d1
  have s10 := bAt hb9 s10
  have s11 := bAt hb9 s11
  have s20 := bAt hb9 s20
  have s21 := bAt hb9 s21
  have l10 := bAt hb9 l10
  have l11 := bAt hb9 l11
  have l20 := bAt hb9 l20
  have l21 := bAt hb9 l21
  have l30 := bAt hb9 l30
  have l31 := bAt hb9 l31
  have t10 := bAt hb9 t10
  have t11 := bAt hb9 t11
  clear hb9 HS8 HL8
  go_wp2_with fail
  have hcall := blame_any leg5K bv9 (.slice (some ⟨E, 0, none⟩) 3 3) repK w9 hs9 leg5K_in HL9.out (.inl (by decide)) (HT.out.below HB9.out)
  rw [k_blameE] at hcall
  refine hcall.mono ?_
  rintro e wa ⟨vb, out, rfl, hba, -, hk⟩
  obtain ⟨hbl, hsl⟩ := hk rfl
  obtain rfl := k_blame hbl
  have HBLA := Lib.hid hsl
  have HLA := Lib.hid (HL9.out.below hba)
  have HBA := Lib.hid (bThen HB9.out hba)
  have HSA := Lib.hid (HS9.out.below hba)
  have d0 := bAt hba d0
  have d1 := bAt hba d1
  have s10 := bAt hba s10
  have s11 := bAt hba s11
  have s20 := bAt hba s20
  have s21 := bAt hba s21
  have l10 := bAt hba l10
  have l11 := bAt hba l11
  have l20 := bAt hba l20
  have l21 := bAt hba l21
  have l30 := bAt hba l30
  have l31 := bAt hba l31
  have t10 := bAt hba t10
  have t11 := bAt hba t11
  clear hcall hba hk hbl hsl hs9 HS9 HL9
  -- Drop
  go_wp2_with fail
  refine (leg_any wa).mono ?_
  rintro e wb ⟨bvb, rfl, hbb, hsb⟩
  have HLB := Lib.hid (HLA.out.below hbb)
  have HBLB := Lib.hid (HBLA.out.below hbb)
  have HBB := Lib.hid (bThen HBA.out hbb)
  have HSB := Lib.hid (HSA.out.below hbb)
  have d0 := bAt hbb d0
  have d1 := bAt hbb d1
  have s10 := bAt hbb s10
  have s11 := bAt hbb s11
  have s20 := bAt hbb s20
  have s21 := bAt hbb s21
  have l10 := bAt hbb l10
  have l11 := bAt hbb l11
  have l20 := bAt hbb l20
  have l21 := bAt hbb l21
  have l30 := bAt hbb l30
  have l31 := bAt hbb l31
  have t10 := bAt hbb t10
  have t11 := bAt hbb t11
  clear hbb HSA HLA HBLA
  go_wp2_with fail
  have hcall := drop_any leg5K bvb (.slice (some ⟨E, 0, none⟩) 3 3) repK wb hsb leg5K_in HLB.out (.inl (by decide)) (HT.out.below HBB.out)
  rw [k_dropE] at hcall
  refine hcall.mono ?_
  rintro e wc ⟨vd, out, rfl, hbc, -, hk⟩
  obtain ⟨hbl, hsl⟩ := hk rfl
  obtain rfl := k_drop hbl
  have HDRC := Lib.hid hsl
  have HLC := Lib.hid (HLB.out.below hbc)
  have HBLC := Lib.hid (HBLB.out.below hbc)
  have HBC := Lib.hid (bThen HBB.out hbc)
  have HSC := Lib.hid (HSB.out.below hbc)
  have d0 := bAt hbc d0
  have d1 := bAt hbc d1
  have s10 := bAt hbc s10
  have s11 := bAt hbc s11
  have s20 := bAt hbc s20
  have s21 := bAt hbc s21
  have l10 := bAt hbc l10
  have l11 := bAt hbc l11
  have l20 := bAt hbc l20
  have l21 := bAt hbc l21
  have l30 := bAt hbc l30
  have l31 := bAt hbc l31
  have t10 := bAt hbc t10
  have t11 := bAt hbc t11
  clear hcall hbc hk hbl hsl hsb HSB HLB HBLB
  -- Truth again
  go_wp2_with fail
  refine (leg_any wc).mono ?_
  rintro e wd ⟨bvd, rfl, hbd, hsd⟩
  have HLD := Lib.hid (HLC.out.below hbd)
  have HBLD := Lib.hid (HBLC.out.below hbd)
  have HDRD := Lib.hid (HDRC.out.below hbd)
  have HBD := Lib.hid (bThen HBC.out hbd)
  have HSD := Lib.hid (HSC.out.below hbd)
  have d0 := bAt hbd d0
  have d1 := bAt hbd d1
  have s10 := bAt hbd s10
  have s11 := bAt hbd s11
  have s20 := bAt hbd s20
  have s21 := bAt hbd s21
  have l10 := bAt hbd l10
  have l11 := bAt hbd l11
  have l20 := bAt hbd l20
  have l21 := bAt hbd l21
  have l30 := bAt hbd l30
  have l31 := bAt hbd l31
  have t10 := bAt hbd t10
  have t11 := bAt hbd t11
  clear hbd HSC HLC HBLC HDRC
  go_wp2_with fail
  have hcall := truth_any leg5K bvd (.slice (some ⟨E, 0, none⟩) 3 3) repK wd hsd leg5K_in HLD.out
  rw [k_truth9] at hcall
  refine hcall.mono ?_
  rintro e we ⟨u1, u2, u3, rfl, hbe, hk, -⟩
  obtain ⟨rfl, rfl, rfl⟩ := hk (by decide)
  have HBLE := Lib.hid (HBLD.out.below hbe)
  have HDRE := Lib.hid (HDRD.out.below hbe)
  have HBE := Lib.hid (bThen HBD.out hbe)
  have HSE := Lib.hid (HSD.out.below hbe)
  have d0 := bAt hbe d0
  have d1 := bAt hbe d1
  have s10 := bAt hbe s10
  have s11 := bAt hbe s11
  have s20 := bAt hbe s20
  have s21 := bAt hbe s21
  have l10 := bAt hbe l10
  have l11 := bAt hbe l11
  have l20 := bAt hbe l20
  have l21 := bAt hbe l21
  have l30 := bAt hbe l30
  have l31 := bAt hbe l31
  have t10 := bAt hbe t10
  have t11 := bAt hbe t11
  clear hcall hbe hk hsd HSD HLD HBLD HDRD
  go_upto_region 10 with fail
  refine wp_region_seqW (.is (sv) :: kSl 3 [.int .i64 0] :: .is (.bool true) :: .is (.bool true) :: .is (.bool true) :: .is (.bool true) :: .is (.bool true) :: .is (.int .i64 13) :: .is (.bool true) :: .is (.bool true) :: .is (.bool true) :: .is (.agg #[.int .i64 1, .int .i64 3]) :: .is (.agg #[.int .i64 1, .int .i64 3]) :: .is (.bool true) :: .is (.bool true) :: .is (.bool true) :: .is (.slice (some ⟨g1, 0, none⟩) 4 4) :: .is (.pointer (some ⟨g1, 2, none⟩)) :: .is (.agg #[.int .i64 6, .int .i64 44]) :: .is (.agg #[.int .i64 6, .int .i64 44]) :: .is (.bool true) :: .is (.bool true) :: .is (.bool true) :: .is (.slice (some ⟨g2, 0, none⟩) 4 4) :: .is (.pointer (some ⟨g2, 2, none⟩)) :: .is (.agg #[.int .i64 6, .int .i64 44]) :: .is (.agg #[.int .i64 6, .int .i64 44]) :: .is (.bool true) :: .is (.bool true) :: .is (.bool true) :: .is (.slice (some ⟨g3, 0, none⟩) 4 4) :: .is (.pointer (some ⟨g3, 2, none⟩)) :: .is (.agg #[.int .i64 3, .int .i64 3]) :: .is (.agg #[.int .i64 3, .int .i64 3]) :: .is (.bool true) :: .is (.bool true) :: .is (.bool true) :: .is (.slice (some ⟨g1, 0, none⟩) 4 4) :: .is (.pointer (some ⟨g1, 4, none⟩)) :: .is (.agg #[.int .i64 0, .int .i64 44]) :: .is (.agg #[.int .i64 0, .int .i64 44]) :: .is (.bool true) :: .is (.bool true) :: .is (.bool true) :: .is (.slice (some ⟨g2, 0, none⟩) 4 4) :: .is (.pointer (some ⟨g2, 4, none⟩)) :: .is (.agg #[.int .i64 2, .int .i64 50]) :: .is (.agg #[.int .i64 2, .int .i64 50]) :: .is (.bool true) :: .is (.bool true) :: .is (.bool true) :: .is (.slice (some ⟨g2, 0, none⟩) 4 4) :: .is (.pointer (some ⟨g2, 6, none⟩)) :: .is (.agg #[.int .i64 0, .int .i64 0]) :: .is (.agg #[.int .i64 0, .int .i64 0]) :: .is (.bool true) :: .is (.bool true) :: .is (.bool true) :: .is (vb) :: kSl 3 [.int .i64 0, .int .i64 1] :: kSS [[0, 1]] :: .is (.bool true) :: .is (.bool true) :: .is (.bool true) :: .is (vd) :: kSl 3 [.int .i64 0] :: kSl 3 [.int .i64 1] :: kSS [[0], [1]] :: .is (.bool true) :: .is (.bool true) :: .is (.bool true) :: []) rfl mix (by kernel_rfl) (by kernel_rfl) ?seqm
  case seqm =>
    refine seq_on (by rfl) (fun w3 hb3 _ => ?_) ?_
    · simp [opOK, go_sem, Below.refl]
      try exact rfl
    simp only [Act.put, List.setIfInBounds_toArray, List.set_cons_succ, List.set_cons_zero]
    refine seq_new ⟨_, 0, rfl⟩ (by rfl) (fun w3 hb3 hH => ?_) ?_
    · exact opOK_val (v := .slice (some ⟨w3.heap.size, 0, none⟩) 1 1) (w' := w3.alloc (.cells #[.int .i64 0] 3)) (by simp [go_sem, execOp]) ⟨aB _ _, ⟨_, rfl⟩, _, rfl, World.alloc_heap_new _ _⟩
    rintro _ ⟨p1, rfl⟩
    simp only [Act.put, List.setIfInBounds_toArray, List.set_cons_succ, List.set_cons_zero]
    refine seq_on (by rfl) (fun w3 hb3 hH => ?_) ?_
    · have hsl := hH ⟨1, .data⟩ (by simp) rfl
      simp [addH, kSl] at hsl
      refine opOK_call (f := 21) (args := #[sv, .slice (some ⟨p1, 0, none⟩) 1 1]) (by simp [go_sem]) ?_
      exact (alike_any [0] [0] _ _ w3 (HSE.out.below hb3) (sl_blk (t := 3) (xs := ints [0]) hsl (by simp [maxLen]))).mono fun e W' ⟨he, hb⟩ => ⟨_, he, rfl, hb⟩
    simp only [Act.put, List.setIfInBounds_toArray, List.set_cons_succ, List.set_cons_zero]
    iterate 8
      refine seq_on (by rfl) (fun w3 hb3 _ => ?_) ?_
      · simp [opOK, go_sem, Below.refl]
        try exact rfl
      simp only [Act.put, List.setIfInBounds_toArray, List.set_cons_succ, List.set_cons_zero]
    refine seq_on (by rfl) (fun w3 hb3 _ => ?_) ?_
    · have d0' := bAt hb3 d0
      have d1' := bAt hb3 d1
      simp [opOK, go_sem, d0', d1', Below.refl]
      try exact rfl
    simp only [Act.put, List.setIfInBounds_toArray, List.set_cons_succ, List.set_cons_zero]
    refine seq_on (by rfl) (fun w3 hb3 hH => ?_) ?_
    · refine opOK_call (f := 23) (args := #[.int .i64 1, .int .i64 3]) (by simp [go_sem]) ?_
      exact (to_any 1 3 w3).mono fun e W' ⟨he, hb⟩ => ⟨_, he, rfl, hb⟩
    simp only [Act.put, List.setIfInBounds_toArray, List.set_cons_succ, List.set_cons_zero]
    iterate 5
      refine seq_on (by rfl) (fun w3 hb3 _ => ?_) ?_
      · simp [opOK, go_sem, Below.refl]
        try exact rfl
      simp only [Act.put, List.setIfInBounds_toArray, List.set_cons_succ, List.set_cons_zero]
    refine seq_on (by rfl) (fun w3 hb3 _ => ?_) ?_
    · have s10' := bAt hb3 s10
      have s11' := bAt hb3 s11
      simp [opOK, go_sem, s10', s11', Below.refl]
      try exact rfl
    simp only [Act.put, List.setIfInBounds_toArray, List.set_cons_succ, List.set_cons_zero]
    refine seq_on (by rfl) (fun w3 hb3 hH => ?_) ?_
    · refine opOK_call (f := 23) (args := #[.int .i64 6, .int .i64 44]) (by simp [go_sem]) ?_
      exact (to_any 6 44 w3).mono fun e W' ⟨he, hb⟩ => ⟨_, he, rfl, hb⟩
    simp only [Act.put, List.setIfInBounds_toArray, List.set_cons_succ, List.set_cons_zero]
    iterate 5
      refine seq_on (by rfl) (fun w3 hb3 _ => ?_) ?_
      · simp [opOK, go_sem, Below.refl]
        try exact rfl
      simp only [Act.put, List.setIfInBounds_toArray, List.set_cons_succ, List.set_cons_zero]
    refine seq_on (by rfl) (fun w3 hb3 _ => ?_) ?_
    · have l10' := bAt hb3 l10
      have l11' := bAt hb3 l11
      simp [opOK, go_sem, l10', l11', Below.refl]
      try exact rfl
    simp only [Act.put, List.setIfInBounds_toArray, List.set_cons_succ, List.set_cons_zero]
    refine seq_on (by rfl) (fun w3 hb3 hH => ?_) ?_
    · refine opOK_call (f := 23) (args := #[.int .i64 6, .int .i64 44]) (by simp [go_sem]) ?_
      exact (to_any 6 44 w3).mono fun e W' ⟨he, hb⟩ => ⟨_, he, rfl, hb⟩
    simp only [Act.put, List.setIfInBounds_toArray, List.set_cons_succ, List.set_cons_zero]
    iterate 5
      refine seq_on (by rfl) (fun w3 hb3 _ => ?_) ?_
      · simp [opOK, go_sem, Below.refl]
        try exact rfl
      simp only [Act.put, List.setIfInBounds_toArray, List.set_cons_succ, List.set_cons_zero]
    refine seq_on (by rfl) (fun w3 hb3 _ => ?_) ?_
    · have t10' := bAt hb3 t10
      have t11' := bAt hb3 t11
      simp [opOK, go_sem, t10', t11', Below.refl]
      try exact rfl
    simp only [Act.put, List.setIfInBounds_toArray, List.set_cons_succ, List.set_cons_zero]
    refine seq_on (by rfl) (fun w3 hb3 hH => ?_) ?_
    · refine opOK_call (f := 23) (args := #[.int .i64 3, .int .i64 3]) (by simp [go_sem]) ?_
      exact (to_any 3 3 w3).mono fun e W' ⟨he, hb⟩ => ⟨_, he, rfl, hb⟩
    simp only [Act.put, List.setIfInBounds_toArray, List.set_cons_succ, List.set_cons_zero]
    iterate 5
      refine seq_on (by rfl) (fun w3 hb3 _ => ?_) ?_
      · simp [opOK, go_sem, Below.refl]
        try exact rfl
      simp only [Act.put, List.setIfInBounds_toArray, List.set_cons_succ, List.set_cons_zero]
    refine seq_on (by rfl) (fun w3 hb3 _ => ?_) ?_
    · have s20' := bAt hb3 s20
      have s21' := bAt hb3 s21
      simp [opOK, go_sem, s20', s21', Below.refl]
      try exact rfl
    simp only [Act.put, List.setIfInBounds_toArray, List.set_cons_succ, List.set_cons_zero]
    refine seq_on (by rfl) (fun w3 hb3 hH => ?_) ?_
    · refine opOK_call (f := 23) (args := #[.int .i64 0, .int .i64 44]) (by simp [go_sem]) ?_
      exact (to_any 0 44 w3).mono fun e W' ⟨he, hb⟩ => ⟨_, he, rfl, hb⟩
    simp only [Act.put, List.setIfInBounds_toArray, List.set_cons_succ, List.set_cons_zero]
    iterate 5
      refine seq_on (by rfl) (fun w3 hb3 _ => ?_) ?_
      · simp [opOK, go_sem, Below.refl]
        try exact rfl
      simp only [Act.put, List.setIfInBounds_toArray, List.set_cons_succ, List.set_cons_zero]
    refine seq_on (by rfl) (fun w3 hb3 _ => ?_) ?_
    · have l20' := bAt hb3 l20
      have l21' := bAt hb3 l21
      simp [opOK, go_sem, l20', l21', Below.refl]
      try exact rfl
    simp only [Act.put, List.setIfInBounds_toArray, List.set_cons_succ, List.set_cons_zero]
    refine seq_on (by rfl) (fun w3 hb3 hH => ?_) ?_
    · refine opOK_call (f := 23) (args := #[.int .i64 2, .int .i64 50]) (by simp [go_sem]) ?_
      exact (to_any 2 50 w3).mono fun e W' ⟨he, hb⟩ => ⟨_, he, rfl, hb⟩
    simp only [Act.put, List.setIfInBounds_toArray, List.set_cons_succ, List.set_cons_zero]
    iterate 5
      refine seq_on (by rfl) (fun w3 hb3 _ => ?_) ?_
      · simp [opOK, go_sem, Below.refl]
        try exact rfl
      simp only [Act.put, List.setIfInBounds_toArray, List.set_cons_succ, List.set_cons_zero]
    refine seq_on (by rfl) (fun w3 hb3 _ => ?_) ?_
    · have l30' := bAt hb3 l30
      have l31' := bAt hb3 l31
      simp [opOK, go_sem, l30', l31', Below.refl]
      try exact rfl
    simp only [Act.put, List.setIfInBounds_toArray, List.set_cons_succ, List.set_cons_zero]
    refine seq_on (by rfl) (fun w3 hb3 hH => ?_) ?_
    · refine opOK_call (f := 23) (args := #[.int .i64 0, .int .i64 0]) (by simp [go_sem]) ?_
      exact (to_any 0 0 w3).mono fun e W' ⟨he, hb⟩ => ⟨_, he, rfl, hb⟩
    simp only [Act.put, List.setIfInBounds_toArray, List.set_cons_succ, List.set_cons_zero]
    iterate 4
      refine seq_on (by rfl) (fun w3 hb3 _ => ?_) ?_
      · simp [opOK, go_sem, Below.refl]
        try exact rfl
      simp only [Act.put, List.setIfInBounds_toArray, List.set_cons_succ, List.set_cons_zero]
    refine seq_new ⟨_, 0, rfl⟩ (by rfl) (fun w3 hb3 hH => ?_) ?_
    · exact opOK_val (v := .slice (some ⟨w3.heap.size, 0, none⟩) 2 2) (w' := w3.alloc (.cells #[.int .i64 0, .int .i64 1] 3)) (by simp [go_sem, execOp]) ⟨aB _ _, ⟨_, rfl⟩, _, rfl, World.alloc_heap_new _ _⟩
    rintro _ ⟨p2, rfl⟩
    simp only [Act.put, List.setIfInBounds_toArray, List.set_cons_succ, List.set_cons_zero]
    refine seq_new ⟨_, 0, rfl⟩ (by rfl) (fun w3 hb3 hH => ?_) ?_
    · have hsl := hH ⟨59, .data⟩ (by simp) rfl
      simp [addH, kSl] at hsl
      exact opOK_val (v := .slice (some ⟨w3.heap.size, 0, none⟩) 1 1) (w' := w3.alloc (.cells #[.slice (some ⟨p2, 0, none⟩) 2 2] 35)) (by simp [go_sem, execOp]) ⟨aB _ _, ⟨_, rfl⟩, slsl_one w3 p2 [0, 1] hsl⟩
    rintro _ ⟨p3, rfl⟩
    simp only [Act.put, List.setIfInBounds_toArray, List.set_cons_succ, List.set_cons_zero]
    refine seq_on (by rfl) (fun w3 hb3 hH => ?_) ?_
    · have hsl := hH ⟨60, .data⟩ (by simp) rfl
      simp [addH, kSS] at hsl
      refine opOK_call (f := 31) (args := #[vb, .slice (some ⟨p3, 0, none⟩) 1 1]) (by simp [go_sem]) ?_
      exact (equal_any [[0, 1]] [[0, 1]] _ _ w3 (HBLE.out.below hb3) hsl).mono fun e W' ⟨he, hb⟩ => ⟨_, he, rfl, hb⟩
    simp only [Act.put, List.setIfInBounds_toArray, List.set_cons_succ, List.set_cons_zero]
    iterate 3
      refine seq_on (by rfl) (fun w3 hb3 _ => ?_) ?_
      · simp [opOK, go_sem, Below.refl]
        try exact rfl
      simp only [Act.put, List.setIfInBounds_toArray, List.set_cons_succ, List.set_cons_zero]
    refine seq_new ⟨_, 0, rfl⟩ (by rfl) (fun w3 hb3 hH => ?_) ?_
    · exact opOK_val (v := .slice (some ⟨w3.heap.size, 0, none⟩) 1 1) (w' := w3.alloc (.cells #[.int .i64 0] 3)) (by simp [go_sem, execOp]) ⟨aB _ _, ⟨_, rfl⟩, _, rfl, World.alloc_heap_new _ _⟩
    rintro _ ⟨p4, rfl⟩
    simp only [Act.put, List.setIfInBounds_toArray, List.set_cons_succ, List.set_cons_zero]
    refine seq_new ⟨_, 0, rfl⟩ (by rfl) (fun w3 hb3 hH => ?_) ?_
    · exact opOK_val (v := .slice (some ⟨w3.heap.size, 0, none⟩) 1 1) (w' := w3.alloc (.cells #[.int .i64 1] 3)) (by simp [go_sem, execOp]) ⟨aB _ _, ⟨_, rfl⟩, _, rfl, World.alloc_heap_new _ _⟩
    rintro _ ⟨p5, rfl⟩
    simp only [Act.put, List.setIfInBounds_toArray, List.set_cons_succ, List.set_cons_zero]
    refine seq_new ⟨_, 0, rfl⟩ (by rfl) (fun w3 hb3 hH => ?_) ?_
    · have hsl := hH ⟨65, .data⟩ (by simp) rfl
      simp [addH, kSl] at hsl
      have hsl2 := hH ⟨66, .data⟩ (by simp) rfl
      simp [addH, kSl] at hsl2
      exact opOK_val (v := .slice (some ⟨w3.heap.size, 0, none⟩) 2 2) (w' := w3.alloc (.cells #[.slice (some ⟨p4, 0, none⟩) 1 1, .slice (some ⟨p5, 0, none⟩) 1 1] 35)) (by simp [go_sem, execOp]) ⟨aB _ _, ⟨_, rfl⟩, slsl_two w3 p4 p5 [0] [1] hsl hsl2⟩
    rintro _ ⟨p6, rfl⟩
    simp only [Act.put, List.setIfInBounds_toArray, List.set_cons_succ, List.set_cons_zero]
    refine seq_on (by rfl) (fun w3 hb3 hH => ?_) ?_
    · have hsl := hH ⟨67, .data⟩ (by simp) rfl
      simp [addH, kSS] at hsl
      refine opOK_call (f := 31) (args := #[vd, .slice (some ⟨p6, 0, none⟩) 2 2]) (by simp [go_sem]) ?_
      exact (equal_any [[0], [1]] [[0], [1]] _ _ w3 (HDRE.out.below hb3) hsl).mono fun e W' ⟨he, hb⟩ => ⟨_, he, rfl, hb⟩
    simp only [Act.put, List.setIfInBounds_toArray, List.set_cons_succ, List.set_cons_zero]
    iterate 2
      refine seq_on (by rfl) (fun w3 hb3 _ => ?_) ?_
      · simp [opOK, go_sem, Below.refl]
        try exact rfl
      simp only [Act.put, List.setIfInBounds_toArray, List.set_cons_succ, List.set_cons_zero]
    refine seq_end fun w3 hb3 _ => ?_
    have HZ := Lib.hid (bThen HBE.out hb3)
    clear hb3 d0 d1 s10 s11 s20 s21 l10 l11 l20 l21 l30 l31 t10 t11
    go_wp2
    go_returns
    exact ⟨rfl, HZ.out⟩
end Go.Proofs.YtpfpjbglpibdoaaGreatDoor

/- Chapter 5: the statements' copies and comparisons: own, told, same, heardAs. -/
namespace Go.Proofs.YtpfpjbglpibdoaaGreatDoor
open Go Go.RowKit Go.Oche Go.Proofs

theorem rp_one (list : List Rp) : ∀ r ∈ list.map rpRow, ∀ u ∈ r, u.oneCell' = true := fun r hr u hu => by
  obtain ⟨x, _, rfl⟩ := List.mem_map.1 hr
  simp [rpRow] at hu
  rcases hu with rfl | rfl | rfl <;> rfl
theorem ints_one (l : List Int) : ∀ u ∈ ints l, u.oneCell' = true := fun u hu => by
  obtain ⟨x, _, rfl⟩ := List.mem_map.1 hu; rfl
theorem info_bed5 : (Tryz.prog.info? 95).map (fun i => (i.zero, i.size, i.bytes)) = some (some (.int .i64 0), 1, 8) := by kernel_rfl
set_option maxRecDepth 100000 in
theorem told_any {S : Nat → Prop} (list : List Rp) (lv : Value) (w : World) (hl : SlN 3 S w lv (list.map rpRow)) (hlen : list.length ≤ 1000) :
    Calls Tryz.prog 24 #[lv] w fun e w' => ∃ v, e = .returned v ∧ Below w.heap.size w w' ∧ SlN 3 (fun q => w.heap.size ≤ q) w' v (list.map rpRow) := by
  have HL := Lib.hid hl
  clear hl
  go_enter Tryz.func24, Tryz.ntmps24
  go_wp2_with (at_builtin; refine wpList_copy rfl (.tmp 3) (.tmp 4) 53 rfl 83 (.agg #[.int .i64 0, .int .i64 0, .int .i64 0]) 3 24 Tryz.underlying53 info_rp rfl (by decide) rfl _ (list.map rpRow) rfl HL.out (rp_one list) (by simp; omega) (by decide) ?_)
  intro v1 w1 hb1 hs1
  have HB1 := Lib.hid hb1
  have HS1 := Lib.hid hs1
  clear hb1 hs1
  go_wp2
  go_returns
  exact ⟨_, rfl, HB1.out, HS1.out⟩
set_option maxRecDepth 100000 in
set_option maxHeartbeats 1000000 in
theorem own_any {S : Nat → Prop} (l : Lg) (bv : Value) (w : World) (hs : Sl S w bv (ints l.beds)) (hlen : l.beds.length ≤ 1000) :
    Calls Tryz.prog 14 #[legV l bv] w fun e w' => ∃ bv', e = .returned (legV l bv') ∧ Below w.heap.size w w' ∧ Sl (fun q => w.heap.size ≤ q) w' bv' (ints l.beds) := by
  obtain ⟨a, cap, rfl, h2, h3⟩ := hs.form
  simp only [ints_length] at *
  obtain ⟨w1, hw1⟩ : ∃ x, (w.alloc (.cells #[.int .i64 l.start, .int .i64 l.gin, .int .i64 l.gout, .slice a l.beds.length cap, .int .i64 l.players, .int .i64 l.turns, .bool l.won] 27)).alloc (.cells #[.int .i64 0, .int .i64 0, .int .i64 0, .slice none 0 0, .int .i64 0, .int .i64 0, .bool false] 27) = x := ⟨_, rfl⟩
  have hb1 : Below w.heap.size w w1 := by rw [← hw1]; exact (aB _ _).alloc (by simp) _
  obtain ⟨N, hN⟩ : ∃ N, w.heap.size = N := ⟨_, rfl⟩
  have k : w1.heap[N]? = some (.cells #[.int .i64 l.start, .int .i64 l.gin, .int .i64 l.gout, .slice a l.beds.length cap, .int .i64 l.players, .int .i64 l.turns, .bool l.won] 27 (0, 0)) := by rw [← hw1, ← hN]; exact (Below.heap_alloc _ _ _ (by simp)).trans (World.alloc_heap_new _ _)
  have kz : w1.heap[N + 1]? = some (.cells #[.int .i64 0, .int .i64 0, .int .i64 0, .slice none 0 0, .int .i64 0, .int .i64 0, .bool false] 27 (0, 0)) := by
    rw [← hw1, ← hN]
    have := World.alloc_heap_new (w.alloc (.cells #[.int .i64 l.start, .int .i64 l.gin, .int .i64 l.gout, .slice a l.beds.length cap, .int .i64 l.players, .int .i64 l.turns, .bool l.won] 27)) (.cells #[.int .i64 0, .int .i64 0, .int .i64 0, .slice none 0 0, .int .i64 0, .int .i64 0, .bool false] 27)
    simp only [World.size_alloc] at this
    exact this
  have hs1 : w1.heap.size = N + 2 := by rw [← hw1]; simp; omega
  have c3 : w1.cell? ⟨N, 3, none⟩ = some (.slice a l.beds.length cap) := by rw [cell_of_heap k]; rfl
  have HS := Lib.hid (Sl.toN (hs.below hb1))
  have HB := Lib.hid hb1
  have HW := Lib.hid hw1
  have HK := Lib.hid k
  have HKZ := Lib.hid kz
  have HN := Lib.hid hN
  have HZ1 := Lib.hid hs1
  have hN1 : N < w1.heap.size := by omega
  clear hw1 hb1 k kz hs hs1
  unfold legV legA
  rw [hN]
  clear hN
  go_enter Tryz.func14, Tryz.ntmps14
  go_upto_region 1 with fail
  rw [HW.out, HN.out]
  go_wp2_with (at_builtin; refine wpList_copy rfl (.tmp 3) (.tmp 5) 25 rfl 95 (.int .i64 0) 1 8 Tryz.underlying25 info_bed5 rfl (by decide) rfl _ ((ints l.beds).map fun x => [x]) rfl HS.out (fun r hr u hu => by obtain ⟨x, hx, rfl⟩ := List.mem_map.1 hr; rw [List.mem_singleton] at hu; subst hu; exact ints_one l.beds _ hx) (by simp; omega) (by decide) ?_)
  intro v2 w2 hb2 hs2
  obtain ⟨a2, c2, rfl, -, -⟩ := hs2.form
  simp only [List.length_map, ints_length] at hs2 ⊢
  have hsl2 := SlN.to1 hs2
  have hk2 := (hb2.block N hN1).trans HK.out
  have hz2 := (hb2.block (N + 1) (by have := HZ1.out; omega)).trans HKZ.out
  have hsz2 := hb2.size
  have c3 : w2.cell? ⟨N, 3, none⟩ = some (.slice a l.beds.length cap) := by rw [cell_of_heap hk2]; rfl
  have f3 : w2.frozen? ⟨N, 3, none⟩ = false := frozen_of_heap hk2
  obtain ⟨w3, hw3⟩ : ∃ x, w2.setCell ⟨N, 3, none⟩ (.slice a2 l.beds.length c2) = x := ⟨_, rfl⟩
  have hk3 : w3.heap[N]? = some (.cells #[.int .i64 l.start, .int .i64 l.gin, .int .i64 l.gout, .slice a2 l.beds.length c2, .int .i64 l.players, .int .i64 l.turns, .bool l.won] 27 (0, 0)) := by rw [← hw3]; exact heap_setCell_at hk2 _
  have hz3 : w3.heap[N + 1]? = some (.cells #[.int .i64 0, .int .i64 0, .int .i64 0, .slice none 0 0, .int .i64 0, .int .i64 0, .bool false] 27 (0, 0)) := by rw [← hw3, Below.heap_setCell _ _ _ _ (show N + 1 ≠ N by omega)]; exact hz2
  have hsl3 : Sl (fun q => w1.heap.size ≤ q) w3 (.slice a2 l.beds.length c2) (ints l.beds) := hsl2.cells fun b o hb _ => by rw [← hw3]; exact World.cell?_setCell_other _ _ _ _ (by intro e; have e2 : N = b := congrArg Addr.block e; omega)
  have hb3 : Below w.heap.size w w3 := by rw [← hw3]; exact (HB.out.trans (hb2.mono HB.out.size)).trans ((Below.refl _ _).setCell (by rw [HN.out]; exact Nat.le_refl _) _)
  have hsz3 : w3.heap.size = w2.heap.size := by rw [← hw3]; simp
  have l0 : w3.cell? ⟨N, 0, none⟩ = some (.int .i64 l.start) := by rw [cell_of_heap hk3]; rfl
  have z0 : w3.cell? ⟨N + 1, 0, none⟩ = some (.int .i64 0) := by rw [cell_of_heap hz3]; rfl
  have fz0 : w3.frozen? ⟨N + 1, 0, none⟩ = false := frozen_of_heap hz3
  have l1 : w3.cell? ⟨N, 1, none⟩ = some (.int .i64 l.gin) := by rw [cell_of_heap hk3]; rfl
  have z1 : w3.cell? ⟨N + 1, 1, none⟩ = some (.int .i64 0) := by rw [cell_of_heap hz3]; rfl
  have fz1 : w3.frozen? ⟨N + 1, 1, none⟩ = false := frozen_of_heap hz3
  have l2 : w3.cell? ⟨N, 2, none⟩ = some (.int .i64 l.gout) := by rw [cell_of_heap hk3]; rfl
  have z2 : w3.cell? ⟨N + 1, 2, none⟩ = some (.int .i64 0) := by rw [cell_of_heap hz3]; rfl
  have fz2 : w3.frozen? ⟨N + 1, 2, none⟩ = false := frozen_of_heap hz3
  have l3 : w3.cell? ⟨N, 3, none⟩ = some (.slice a2 l.beds.length c2) := by rw [cell_of_heap hk3]; rfl
  have z3 : w3.cell? ⟨N + 1, 3, none⟩ = some (.slice none 0 0) := by rw [cell_of_heap hz3]; rfl
  have fz3 : w3.frozen? ⟨N + 1, 3, none⟩ = false := frozen_of_heap hz3
  have l4 : w3.cell? ⟨N, 4, none⟩ = some (.int .i64 l.players) := by rw [cell_of_heap hk3]; rfl
  have z4 : w3.cell? ⟨N + 1, 4, none⟩ = some (.int .i64 0) := by rw [cell_of_heap hz3]; rfl
  have fz4 : w3.frozen? ⟨N + 1, 4, none⟩ = false := frozen_of_heap hz3
  have l5 : w3.cell? ⟨N, 5, none⟩ = some (.int .i64 l.turns) := by rw [cell_of_heap hk3]; rfl
  have z5 : w3.cell? ⟨N + 1, 5, none⟩ = some (.int .i64 0) := by rw [cell_of_heap hz3]; rfl
  have fz5 : w3.frozen? ⟨N + 1, 5, none⟩ = false := frozen_of_heap hz3
  have l6 : w3.cell? ⟨N, 6, none⟩ = some (.bool l.won) := by rw [cell_of_heap hk3]; rfl
  have z6 : w3.cell? ⟨N + 1, 6, none⟩ = some (.bool false) := by rw [cell_of_heap hz3]; rfl
  have fz6 : w3.frozen? ⟨N + 1, 6, none⟩ = false := frozen_of_heap hz3
  obtain ⟨w4, hw4⟩ : ∃ x, ((((((w3.setCell ⟨N + 1, 0, none⟩ (.int .i64 l.start)).setCell ⟨N + 1, 1, none⟩ (.int .i64 l.gin)).setCell ⟨N + 1, 2, none⟩ (.int .i64 l.gout)).setCell ⟨N + 1, 3, none⟩ (.slice a2 l.beds.length c2)).setCell ⟨N + 1, 4, none⟩ (.int .i64 l.players)).setCell ⟨N + 1, 5, none⟩ (.int .i64 l.turns)).setCell ⟨N + 1, 6, none⟩ (.bool l.won) = x := ⟨_, rfl⟩
  have hk4 : w4.heap[N + 1]? = some (.cells #[.int .i64 l.start, .int .i64 l.gin, .int .i64 l.gout, .slice a2 l.beds.length c2, .int .i64 l.players, .int .i64 l.turns, .bool l.won] 27 (0, 0)) := by
    rw [← hw4]
    exact heap_setCell_at (heap_setCell_at (heap_setCell_at (heap_setCell_at (heap_setCell_at (heap_setCell_at (heap_setCell_at hz3 _) _) _) _) _) _) _
  have oth : ∀ q, q ≠ N + 1 → w4.heap[q]? = w3.heap[q]? := fun q hq => by
    rw [← hw4, Below.heap_setCell _ _ _ _ (by simpa using hq), Below.heap_setCell _ _ _ _ (by simpa using hq), Below.heap_setCell _ _ _ _ (by simpa using hq), Below.heap_setCell _ _ _ _ (by simpa using hq), Below.heap_setCell _ _ _ _ (by simpa using hq), Below.heap_setCell _ _ _ _ (by simpa using hq), Below.heap_setCell _ _ _ _ (by simpa using hq)]
  have HS4 : Hid (Sl (fun q => w.heap.size ≤ q) w4 (.slice a2 l.beds.length c2) (ints l.beds)) := Lib.hid (by
    refine (hsl3.cells fun b o hb hs => ?_).mono fun q hq => by have := HB.out.size; omega
    obtain ⟨x, hx⟩ := Option.isSome_iff_exists.1 hs
    exact World.cell?_of_block (w := w3) (oth b (by have := HZ1.out; omega)))
  have HB4 : Hid (Below w.heap.size w w4) := Lib.hid (by
    rw [← hw4]
    have hle : w.heap.size ≤ N + 1 := by rw [HN.out]; omega
    exact hb3.trans ((((((((Below.refl _ _).setCell hle _).setCell hle _).setCell hle _).setCell hle _).setCell hle _).setCell hle _).setCell hle _))
  have r0 : w4.cell? ⟨N + 1, 0, none⟩ = some (.int .i64 l.start) := by rw [cell_of_heap hk4]; rfl
  have r1 : w4.cell? ⟨N + 1, 1, none⟩ = some (.int .i64 l.gin) := by rw [cell_of_heap hk4]; rfl
  have r2 : w4.cell? ⟨N + 1, 2, none⟩ = some (.int .i64 l.gout) := by rw [cell_of_heap hk4]; rfl
  have r3 : w4.cell? ⟨N + 1, 3, none⟩ = some (.slice a2 l.beds.length c2) := by rw [cell_of_heap hk4]; rfl
  have r4 : w4.cell? ⟨N + 1, 4, none⟩ = some (.int .i64 l.players) := by rw [cell_of_heap hk4]; rfl
  have r5 : w4.cell? ⟨N + 1, 5, none⟩ = some (.int .i64 l.turns) := by rw [cell_of_heap hk4]; rfl
  have r6 : w4.cell? ⟨N + 1, 6, none⟩ = some (.bool l.won) := by rw [cell_of_heap hk4]; rfl
  have HW3 := Lib.hid hw3
  have HW4 := Lib.hid hw4
  clear hb2 hs2 hsl2 hk2 hz2 hk3 hz3 hsl3 hb3 hk4 oth hw3 hw4
  go_upto_region 2 with fail
  rw [HW3.out]
  go_wp2
  rw [HW4.out]
  refine bodyPost_ret (v := legV l (.slice a2 l.beds.length c2)) (by simp [results, Tryz.results14, go_sem, r0, r1, r2, r3, r4, r5, r6, legV, legA]) rfl ?_
  exact ⟨_, rfl, by rw [← HN.out]; exact HB4.out, by have := HS4.out; rw [HN.out] at this; exact this⟩
set_option maxRecDepth 100000 in
set_option maxHeartbeats 1000000 in
theorem heardAs_any {S S' : Nat → Prop} (list : List Rp) (u v : Value) (w : World) (hx : SlN 3 S w u (list.map rpRow)) (hy : SlN 3 S' w v (list.map rpRow)) :
    Calls Tryz.prog 26 #[u, v] w fun e w' => e = .returned (.bool true) ∧ Below w.heap.size w w' := by
  obtain ⟨a, cap, rfl, h2, h3⟩ := hx.form
  obtain ⟨a', cap', rfl, h2', h3'⟩ := hy.form
  simp only [List.length_map] at *
  unfold maxLen at h3 h3'
  have HX := Lib.hid hx
  have HY := Lib.hid hy
  obtain ⟨n, hn⟩ : ∃ n, list.length = n := ⟨_, rfl⟩
  have HN := Lib.hid hn
  rw [hn] at h2 h2' HX HY ⊢
  clear hx hy hn
  go_enter Tryz.func26, Tryz.ntmps26
  go_wp2
  go_loopw [5] (fun iv wr => ∃ i : Nat, i ≤ n ∧ iv = .int .i64 i ∧ Hid (Below w.heap.size w wr)) (fun iv _ => n - (intOf iv).toNat)
  case atStart => exact ⟨0, by omega, by go_num, Lib.hid (Below.refl _ _)⟩
  case round =>
    obtain ⟨i, hi, rfl, HB⟩ := hrel
    obtain ⟨wo, rfl⟩ : ∃ wo : World, wo = wr := ⟨_, rfl⟩
    by_cases hlt : i < n
    · have hil : i < (list.map rpRow).length := by rw [List.length_map, HN.out]; exact hlt
      obtain ⟨b, off, rfl, -, -, hc⟩ := (HX.out.below HB.out).cell hil
      obtain ⟨b', off', rfl, -, -, hc'⟩ := (HY.out.below HB.out).cell hil
      obtain ⟨⟨rt, rs, rl⟩, hr⟩ : ∃ r, list[i]'(by rw [HN.out]; exact hlt) = r := ⟨_, rfl⟩
      have hrow : (list.map rpRow)[i] = [.int .i64 rt, .int .i64 rs, .int .i64 rl] := by rw [List.getElem_map, hr]; rfl
      rw [hrow] at hc hc'
      have p0 := hc 0 _ rfl
      have p1 := hc 1 _ rfl
      have p2 := hc 2 _ rfl
      have q0 := hc' 0 _ rfl
      have q1 := hc' 1 _ rfl
      have q2 := hc' 2 _ rfl
      rw [Nat.add_zero] at p0 q0
      clear hc hc' hr hrow hil
      go_upto_region 6 with fail
      refine wp_region_seq 9 [.is (.slice (some ⟨b, off, none⟩) n cap), .is (.int .i64 (i : Int)), .is (.pointer (some ⟨b, off + i * 3, none⟩)), .is (.agg #[.int .i64 rt, .int .i64 rs, .int .i64 rl]), .is (.slice (some ⟨b', off', none⟩) n cap'), .is (.int .i64 (i : Int)), .is (.pointer (some ⟨b', off' + i * 3, none⟩)), .is (.agg #[.int .i64 rt, .int .i64 rs, .int .i64 rl]), .is (.bool false)] rfl mix (by kernel_rfl) (by kernel_rfl) ?seqm
      case seqm =>
        simp only [List.take_succ_cons, List.take_zero]
        iterate 9
          refine seq_on (by rfl) (fun w3 hb3 _ => ?_) ?_
          · have p0' := bAt hb3 p0
            have p1' := bAt hb3 p1
            have p2' := bAt hb3 p2
            have q0' := bAt hb3 q0
            have q1' := bAt hb3 q1
            have q2' := bAt hb3 q2
            simp [opOK, go_sem, p0', p1', p2', q0', q1', q2', hlt, Below.refl]
            try exact rfl
          simp only [Act.put, List.setIfInBounds_toArray, List.set_cons_succ, List.set_cons_zero]
        refine seq_end fun w3 hb3 _ => ?_
        simp only [List.drop_succ_cons, List.drop_zero]
        have HB3 := Lib.hid (bThen HB.out hb3)
        have hwi : IntKind.i64.wrap ((i : Int) + 1) = (i : Int) + 1 := wrap_small _ (by omega) (by omega)
        clear hb3 p0 p1 p2 q0 q1 q2
        go_wp2
        go_roundw
        case rel => exact ⟨i + 1, by omega, by go_num, HB3⟩
        case measure => simp [intOf]; omega
    · obtain rfl : i = n := by omega
      go_wp2
      go_returns
      exact ⟨rfl, HB.out⟩
end Go.Proofs.YtpfpjbglpibdoaaGreatDoor

/- Chapter 5: which legs the statements look at. -/
namespace Go.Proofs.YtpfpjbglpibdoaaGreatDoor
open Go Go.RowKit Go.Oche Go.Proofs

def greatB (l : Lg) : Bool := (decide (60 < l.start) && decide (l.start ≤ 1001)) || (decide (6 < l.beds.length) && decide (l.beds.length ≤ 82)) || decide (90 < l.beds.length) || (decide (8 < l.turns) && decide (l.turns ≤ 60))
theorem great_no {l : Lg} (h : greatB l = false) : l.beds.length ≤ 90 ∧ (checkL l = 0 → l.start ≤ 60 ∧ l.beds.length ≤ 6 ∧ l.turns ≤ 8) := by
  unfold greatB at h
  simp only [Bool.or_eq_false_iff, Bool.and_eq_false_iff, decide_eq_false_iff_not] at h
  refine ⟨by omega, fun hc => ?_⟩
  have hv := valid_of hc
  have h1 := hv.start
  have h2 := hv.beds
  have h3 := hv.turns
  omega
set_option maxRecDepth 100000 in
set_option maxHeartbeats 2000000 in
theorem great_any {S : Nat → Prop} (l : Lg) (bv : Value) (w : World) (hs : Sl S w bv (ints l.beds)) : Calls Tryz.prog 12 #[legV l bv] w fun e w' => e = .returned (.bool (greatB l)) ∧ Below w.heap.size w w' := by
  obtain ⟨a, cap, rfl, h2, h3⟩ := hs.form
  simp only [ints_length] at *
  unfold maxLen at h3
  obtain ⟨res, hres⟩ : ∃ r, greatB l = r := ⟨_, rfl⟩
  rw [hres]
  unfold greatB at hres
  obtain ⟨n, hn⟩ : ∃ n, l.beds.length = n := ⟨_, rfl⟩
  obtain ⟨st, hst⟩ : ∃ n, l.start = n := ⟨_, rfl⟩
  obtain ⟨tu, htu⟩ : ∃ n, l.turns = n := ⟨_, rfl⟩
  rw [hn, hst, htu] at hres
  rw [hn] at h2
  obtain ⟨w1, hw1⟩ : ∃ x, w.alloc (.cells #[.int .i64 st, .int .i64 l.gin, .int .i64 l.gout, .slice a n cap, .int .i64 l.players, .int .i64 tu, .bool l.won] 27) = x := ⟨_, rfl⟩
  have hb1 : Below w.heap.size w w1 := by rw [← hw1]; exact aB _ _
  have k : w1.heap[w.heap.size]? = some (.cells #[.int .i64 st, .int .i64 l.gin, .int .i64 l.gout, .slice a n cap, .int .i64 l.players, .int .i64 tu, .bool l.won] 27 (0, 0)) := by rw [← hw1]; exact World.alloc_heap_new _ _
  have c0 : w1.cell? ⟨w.heap.size, 0, none⟩ = some (.int .i64 st) := by rw [cell_of_heap k]; rfl
  have c3 : w1.cell? ⟨w.heap.size, 3, none⟩ = some (.slice a n cap) := by rw [cell_of_heap k]; rfl
  have c5 : w1.cell? ⟨w.heap.size, 5, none⟩ = some (.int .i64 tu) := by rw [cell_of_heap k]; rfl
  have HW := Lib.hid hw1
  have HB := Lib.hid hb1
  have HR := Lib.hid hres
  unfold legV legA
  rw [hn, hst, htu]
  clear hw1 hb1 k hs hres hn hst htu
  go_enter Tryz.func12, Tryz.ntmps12
  go_upto_region 1 with fail
  rw [HW.out]
  by_cases e0 : 60 < st
  · have d0 : decide ((60 : Int) < st) = true := decide_eq_true (by omega)
    by_cases e1 : st ≤ 1001
    · have d1 : decide (st ≤ (1001 : Int)) = true := decide_eq_true (by omega)
      have hr : res = true := by rw [← HR.out]; simp [e0, e1]
      clear HR
      subst hr
      go_wp2
      go_returns
      exact ⟨rfl, HB.out⟩
    · have d1 : decide (st ≤ (1001 : Int)) = false := decide_eq_false (by omega)
      by_cases e2 : 6 < n
      · have d2 : decide ((6 : Int) < (n : Int)) = true := decide_eq_true (by omega)
        by_cases e3 : n ≤ 82
        · have d3 : decide ((n : Int) ≤ (82 : Int)) = true := decide_eq_true (by omega)
          have hr : res = true := by rw [← HR.out]; simp [e0, e1, e2, e3]
          clear HR
          subst hr
          go_wp2
          go_returns
          exact ⟨rfl, HB.out⟩
        · have d3 : decide ((n : Int) ≤ (82 : Int)) = false := decide_eq_false (by omega)
          by_cases e4 : 90 < n
          · have d4 : decide ((90 : Int) < (n : Int)) = true := decide_eq_true (by omega)
            have hr : res = true := by rw [← HR.out]; simp [e0, e1, e2, e3, e4]
            clear HR
            subst hr
            go_wp2
            go_returns
            exact ⟨rfl, HB.out⟩
          · have d4 : decide ((90 : Int) < (n : Int)) = false := decide_eq_false (by omega)
            by_cases e5 : 8 < tu
            · have d5 : decide ((8 : Int) < tu) = true := decide_eq_true (by omega)
              by_cases e6 : tu ≤ 60
              · have d6 : decide (tu ≤ (60 : Int)) = true := decide_eq_true (by omega)
                have hr : res = true := by rw [← HR.out]; simp [e0, e1, e2, e3, e4, e5, e6]
                clear HR
                subst hr
                go_wp2
                go_returns
                exact ⟨rfl, HB.out⟩
              · have d6 : decide (tu ≤ (60 : Int)) = false := decide_eq_false (by omega)
                have hr : res = false := by rw [← HR.out]; simp [e0, e1, e2, e3, e4, e5, e6]
                clear HR
                subst hr
                go_wp2
                go_returns
                exact ⟨rfl, HB.out⟩
            · have d5 : decide ((8 : Int) < tu) = false := decide_eq_false (by omega)
              have hr : res = false := by rw [← HR.out]; simp [e0, e1, e2, e3, e4, e5]
              clear HR
              subst hr
              go_wp2
              go_returns
              exact ⟨rfl, HB.out⟩
      · have d2 : decide ((6 : Int) < (n : Int)) = false := decide_eq_false (by omega)
        by_cases e4 : 90 < n
        · have d4 : decide ((90 : Int) < (n : Int)) = true := decide_eq_true (by omega)
          exfalso; omega
        · have d4 : decide ((90 : Int) < (n : Int)) = false := decide_eq_false (by omega)
          by_cases e5 : 8 < tu
          · have d5 : decide ((8 : Int) < tu) = true := decide_eq_true (by omega)
            by_cases e6 : tu ≤ 60
            · have d6 : decide (tu ≤ (60 : Int)) = true := decide_eq_true (by omega)
              have hr : res = true := by rw [← HR.out]; simp [e0, e1, e2, e4, e5, e6]
              clear HR
              subst hr
              go_wp2
              go_returns
              exact ⟨rfl, HB.out⟩
            · have d6 : decide (tu ≤ (60 : Int)) = false := decide_eq_false (by omega)
              have hr : res = false := by rw [← HR.out]; simp [e0, e1, e2, e4, e5, e6]
              clear HR
              subst hr
              go_wp2
              go_returns
              exact ⟨rfl, HB.out⟩
          · have d5 : decide ((8 : Int) < tu) = false := decide_eq_false (by omega)
            have hr : res = false := by rw [← HR.out]; simp [e0, e1, e2, e4, e5]
            clear HR
            subst hr
            go_wp2
            go_returns
            exact ⟨rfl, HB.out⟩
  · have d0 : decide ((60 : Int) < st) = false := decide_eq_false (by omega)
    by_cases e2 : 6 < n
    · have d2 : decide ((6 : Int) < (n : Int)) = true := decide_eq_true (by omega)
      by_cases e3 : n ≤ 82
      · have d3 : decide ((n : Int) ≤ (82 : Int)) = true := decide_eq_true (by omega)
        have hr : res = true := by rw [← HR.out]; simp [e0, e2, e3]
        clear HR
        subst hr
        go_wp2
        go_returns
        exact ⟨rfl, HB.out⟩
      · have d3 : decide ((n : Int) ≤ (82 : Int)) = false := decide_eq_false (by omega)
        by_cases e4 : 90 < n
        · have d4 : decide ((90 : Int) < (n : Int)) = true := decide_eq_true (by omega)
          have hr : res = true := by rw [← HR.out]; simp [e0, e2, e3, e4]
          clear HR
          subst hr
          go_wp2
          go_returns
          exact ⟨rfl, HB.out⟩
        · have d4 : decide ((90 : Int) < (n : Int)) = false := decide_eq_false (by omega)
          by_cases e5 : 8 < tu
          · have d5 : decide ((8 : Int) < tu) = true := decide_eq_true (by omega)
            by_cases e6 : tu ≤ 60
            · have d6 : decide (tu ≤ (60 : Int)) = true := decide_eq_true (by omega)
              have hr : res = true := by rw [← HR.out]; simp [e0, e2, e3, e4, e5, e6]
              clear HR
              subst hr
              go_wp2
              go_returns
              exact ⟨rfl, HB.out⟩
            · have d6 : decide (tu ≤ (60 : Int)) = false := decide_eq_false (by omega)
              have hr : res = false := by rw [← HR.out]; simp [e0, e2, e3, e4, e5, e6]
              clear HR
              subst hr
              go_wp2
              go_returns
              exact ⟨rfl, HB.out⟩
          · have d5 : decide ((8 : Int) < tu) = false := decide_eq_false (by omega)
            have hr : res = false := by rw [← HR.out]; simp [e0, e2, e3, e4, e5]
            clear HR
            subst hr
            go_wp2
            go_returns
            exact ⟨rfl, HB.out⟩
    · have d2 : decide ((6 : Int) < (n : Int)) = false := decide_eq_false (by omega)
      by_cases e4 : 90 < n
      · have d4 : decide ((90 : Int) < (n : Int)) = true := decide_eq_true (by omega)
        exfalso; omega
      · have d4 : decide ((90 : Int) < (n : Int)) = false := decide_eq_false (by omega)
        by_cases e5 : 8 < tu
        · have d5 : decide ((8 : Int) < tu) = true := decide_eq_true (by omega)
          by_cases e6 : tu ≤ 60
          · have d6 : decide (tu ≤ (60 : Int)) = true := decide_eq_true (by omega)
            have hr : res = true := by rw [← HR.out]; simp [e0, e2, e4, e5, e6]
            clear HR
            subst hr
            go_wp2
            go_returns
            exact ⟨rfl, HB.out⟩
          · have d6 : decide (tu ≤ (60 : Int)) = false := decide_eq_false (by omega)
            have hr : res = false := by rw [← HR.out]; simp [e0, e2, e4, e5, e6]
            clear HR
            subst hr
            go_wp2
            go_returns
            exact ⟨rfl, HB.out⟩
        · have d5 : decide ((8 : Int) < tu) = false := decide_eq_false (by omega)
          have hr : res = false := by rw [← HR.out]; simp [e0, e2, e4, e5]
          clear HR
          subst hr
          go_wp2
          go_returns
          exact ⟨rfl, HB.out⟩
end Go.Proofs.YtpfpjbglpibdoaaGreatDoor
