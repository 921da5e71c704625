/- The texts SB, SC, PH, SH, in build order. -/
import Derived.Test.YtagfcodpgochjaaZah

/- Chapter 12: sharing: insertion sort by remainders. -/
namespace Go.Proofs.Ytagfcodpgochjaa
open Go.RowKit Go.Oche Go.Proofs

theorem perm_len {a b : List Int} (h : a.Perm b) : a.length = b.length := h.length_eq
set_option maxRecDepth 100000 in
set_option maxHeartbeats 4000000 in
theorem insI_any {S : Nat → Prop} (amount sum : Int) (ws : List Int) (sv : Value) (pa pw ps g c n base : Nat) (xs : List Int) (a b : Nat) (w : World) (ho : w.ownsRow base 3 1 (.slice (some ⟨g, 0, none⟩) n c) n (ints xs)) (hc : CmpAt w pa pw ps amount sum ws sv S)
    (h1 : pa ≠ g) (h2 : pw ≠ g) (h3 : ps ≠ g) (h4 : ∀ k, S k → k ≠ g) (hab : a ≤ b) (hbn : b ≤ n) (hn : n ≤ 100) (hix : ∀ x ∈ xs, 0 ≤ x ∧ x < ws.length) (hasc : ∀ p q, a ≤ p → p < q → q < b → at0 xs p < at0 xs q)
    (ha : 0 ≤ amount ∧ amount ≤ 1000000000) (hw : ∀ x ∈ ws, 0 ≤ x ∧ x ≤ 10000) (hs : 0 < sum ∧ sum ≤ 1000000) :
    Calls Try.prog 75 #[.slice (some ⟨g, 0, none⟩) n c, .int .i64 a, .int .i64 b, .func (.func 30) #[] #[.pointer (some ⟨pa, 0, none⟩), .pointer (some ⟨pw, 0, none⟩), .pointer (some ⟨ps, 0, none⟩)]] w fun e w' =>
      e = .returned (.tuple #[]) ∧ ∃ ys, w'.ownsRow base 3 1 (.slice (some ⟨g, 0, none⟩) n c) n (ints ys) ∧ w.grownBy w' (some g) ∧ SegOk (restOf amount sum ws) xs a b (max (a + 1) b) ys := by
  have hxl := owns_len ho
  simp only [ints_length] at hxl
  have HO := Lib.hid ho
  have HC := Lib.hid hc
  have HIX := Lib.hid hix
  have HA := Lib.hid hasc
  have HB := Lib.hid (And.intro ha (And.intro hw hs))
  have HN := Lib.hid (And.intro h1 (And.intro h2 (And.intro h3 h4)))
  have hw0 : IntKind.i64.wrap ((a : Int) + 1) = (a : Int) + 1 := wrap_small _ (by omega) (by omega)
  clear ho hc hix hasc ha hw hs h1 h2 h3 h4
  go_enter Try.func75, Try.ntmps75
  go_wp2_with fail
  clear hw0
  go_loopw [8] (fun iv wr => ∃ (i : Nat) (ys : List Int), a + 1 ≤ i ∧ i ≤ max (a + 1) b ∧ iv = .int .i64 i ∧ Hid (SegOk (restOf amount sum ws) xs a b i ys) ∧ Hid (wr.ownsRow base 3 1 (.slice (some ⟨g, 0, none⟩) n c) n (ints ys)) ∧ Hid (w.grownBy wr (some g))) (fun iv _ => b - (intOf iv).toNat)
  case atStart => exact ⟨a + 1, xs, by omega, by omega, by go_num, Lib.hid (SegOk.start (by omega) HA.out), HO, Lib.hid ⟨rfl, rfl, rfl, Nat.le_refl _, fun _ _ _ => rfl⟩⟩
  case round =>
    clear HO
    obtain ⟨i, ys, hi1, hi2, rfl, HS, HO, HG⟩ := hrel
    by_cases hlt : i < b
    · have HYL := HS.out.len
      obtain ⟨wo, rfl⟩ : ∃ wo : World, wo = wr := ⟨_, rfl⟩
      go_wp2_with fail
      go_loopw [9] (fun jv wi => ∃ (j : Nat) (zs : List Int), jv = .int .i64 j ∧ Hid (SlideOk (restOf amount sum ws) ys a i j zs) ∧ Hid (wi.ownsRow base 3 1 (.slice (some ⟨g, 0, none⟩) n c) n (ints zs)) ∧ Hid (w.grownBy wi (some g))) (fun jv _ => (intOf jv).toNat)
      case atStart => exact ⟨i, ys, rfl, Lib.hid (SlideOk.start (by omega)), HO, HG⟩
      case round =>
        clear HO HG
        obtain ⟨j, zs, rfl, HZ, HO, HG⟩ := hrel
        obtain ⟨hj1, hj2⟩ := HZ.out.rng
        have HZL := HZ.out.len
        obtain ⟨wi, rfl⟩ : ∃ wi : World, wi = wr := ⟨_, rfl⟩
        have hCW := HC.out.grown HG.out HN.out.1 HN.out.2.1 HN.out.2.2.1 HN.out.2.2.2
        have HCW := Lib.hid hCW
        clear hCW
        by_cases hja : a < j
        · have d1 : decide ((a : Int) < (j : Int)) = true := decide_eq_true (by omega)
          have d1n : decide (a < j) = true := decide_eq_true hja
          obtain ⟨m, hm⟩ : ∃ m, j = m + 1 := ⟨j - 1, by omega⟩
          have hwm : IntKind.i64.wrap ((j : Int) - 1) = (m : Int) := by rw [IntKind.wrap_i64]; omega
          obtain ⟨x, hx⟩ : ∃ x, at0 zs j = x := ⟨_, rfl⟩
          obtain ⟨y, hy⟩ : ∃ y, at0 zs m = y := ⟨_, rfl⟩
          have k1 : wi.cell? ⟨g, j, none⟩ = some (.int .i64 x) := by rw [HO.out.cellAt j (by omega), intsAt (by omega), ← at0_eq (by omega), hx]
          have k0 : wi.cell? ⟨g, m, none⟩ = some (.int .i64 y) := by rw [HO.out.cellAt m (by omega), intsAt (by omega), ← at0_eq (by omega), hy]
          have hxb := HIX.out x ((HZ.out.perm.trans HS.out.perm).mem_iff.1 (by rw [← hx, at0_eq (by omega)]; exact List.getElem_mem _))
          have hyb := HIX.out y ((HZ.out.perm.trans HS.out.perm).mem_iff.1 (by rw [← hy, at0_eq (by omega)]; exact List.getElem_mem _))
          obtain ⟨xn, rfl⟩ : ∃ xn : Nat, x = xn := ⟨x.toNat, by omega⟩
          obtain ⟨yn, rfl⟩ : ∃ yn : Nat, y = yn := ⟨y.toNat, by omega⟩
          have hm1n : j < n := by omega
          have hmn : m < n := by omega
          obtain ⟨D, hD⟩ : ∃ D, restOf amount sum ws yn - restOf amount sum ws xn = D := ⟨_, rfl⟩
          obtain ⟨bb, hbb⟩ : ∃ bb, decide (D < 0) = bb := ⟨_, rfl⟩
          have HX := Lib.hid hx
          have HY := Lib.hid hy
          have HD := Lib.hid hD
          have HBB := Lib.hid hbb
          have HXB := Lib.hid (And.intro hxb hyb)
          have HM := Lib.hid hm
          clear hx hy hD hxb hyb hm
          go_wp2_with fail
          refine wp_region_seq 17 [.is ?_, .is ?_, .is (.bool true), .is (.bool true), .is ?_, .is ?_, .is ?_, .is ?_, .is ?_, .is ?_, .is ?_, .is ?_, .is ?_, .is ?_, .is (.int .i64 D), .is ?_, .is (.bool bb)] rfl mix (by kernel_rfl) (by kernel_rfl) ?seqm
          case seqm =>
            simp only [List.take_succ_cons, List.take_zero]
            iterate 4
              refine seq_is rfl (fun w1 hb1 _ => ?_) ?_
              · simp [opOK, go_sem, hja, Below.refl]
                try exact rfl
              simp only [Act.put, List.setIfInBounds_toArray, List.set_cons_succ, List.set_cons_zero]
            iterate 10
              refine seq_on (by rfl) (fun w1 hb1 _ => ?_) ?_
              · have k0' := bAt hb1 k0
                have k1' := bAt hb1 k1
                simp [opOK, go_sem, k0', k1', hwm, hm1n, hmn, Below.refl]
                try exact rfl
              simp only [Act.put, List.setIfInBounds_toArray, List.set_cons_succ, List.set_cons_zero]
            refine seq_on (by rfl) (fun w1 hb1 _ => ?_) ?_
            · refine opOK_call (f := 30) (args := #[.int .i64 xn, .int .i64 yn, .pointer (some ⟨pa, 0, none⟩), .pointer (some ⟨pw, 0, none⟩), .pointer (some ⟨ps, 0, none⟩)]) (by simp [go_sem]) ?_
              refine (share1_any amount sum ws sv pa pw ps xn yn w1 (HCW.out.below hb1) HB.out.1 HB.out.2.1 HB.out.2.2 (by have := HXB.out; omega) (by have := HXB.out; omega)).mono ?_
              rintro e w2 ⟨rfl, hb2⟩
              exact ⟨_, rfl, by rw [HD.out], hb2⟩
            simp only [Act.put, List.setIfInBounds_toArray, List.set_cons_succ, List.set_cons_zero]
            refine seq_on (by rfl) (fun w1 hb1 _ => ?_) ?_
            · simp [opOK, go_sem, Below.refl]
              try exact rfl
            simp only [Act.put, List.setIfInBounds_toArray, List.set_cons_succ, List.set_cons_zero]
            refine seq_is rfl (fun w1 hb1 _ => ?_) ?_
            · simp [opOK, go_sem, HBB.out, Below.refl]
              try exact rfl
            simp only [Act.put, List.setIfInBounds_toArray, List.set_cons_succ, List.set_cons_zero]
            refine seq_end fun w6 hb6 _ => ?_
            simp only [List.drop_succ_cons, List.drop_zero]
            have hO6 := ownsN_below HO.out hb6
            have HO6 := Lib.hid hO6
            have hg6 := grownBy_trans HG.out (grownBy_below _ hb6)
            have HG6 := Lib.hid hg6
            have l1 := bAt hb6 k1
            have l0 := bAt hb6 k0
            have l1f := hO6.frozenAt j
            have l0f := hO6.frozenAt m
            clear k0 k1 hO6 hg6 hb6
            cases bb
            · go_wp2_with fail
              go_roundw
              case rel => exact ⟨i + 1, zs, by omega, by omega, by go_num, Lib.hid (HS.out.next HZ.out hlt (by omega) (by omega) HA.out (.inr (by
                have h1 := of_decide_eq_false HBB.out
                have h2 := HM.out
                subst h2
                rw [Nat.add_sub_cancel, HX.out, HY.out]
                have := HD.out
                omega))), HO6, HG6⟩
              case measure => simp [intOf]; omega
            · go_wp2_with fail
              have hO6 := HO6.out
              obtain ⟨hO8, hg8⟩ := hO6.stored j (.int .i64 yn)
              rw [ints_set] at hO8
              have HO8 := Lib.hid hO8
              have HG8 := Lib.hid (grownBy_trans HG6.out hg8)
              have HZ9 : Hid (SlideOk (restOf amount sum ws) ys a i m ((zs.set j yn).set m xn)) := Lib.hid (by
                have h2 := HM.out
                subst h2
                have h1 := of_decide_eq_true HBB.out
                have := HZ.out.step hja (by omega) (by rw [Nat.add_sub_cancel, HX.out, HY.out]; have := HD.out; omega)
                rw [Nat.add_sub_cancel, HX.out, HY.out] at this
                exact this)
              have hmj : ¬ m = j := by have := HM.out; omega
              obtain ⟨w8, hw8⟩ : ∃ w8, w6.setCell ⟨g, j, none⟩ (.int .i64 yn) = w8 := ⟨_, rfl⟩
              rw [hw8] at HO8 HG8
              have HW8 := Lib.hid hw8
              clear hO6 hO8 hg8 hw8
              refine wp_region_gen 17 (fun i v _ => match i with
                | 0 | 2 | 5 | 10 => v = .slice (some ⟨g, 0, none⟩) n c
                | 1 | 3 | 6 | 11 => v = .int .i64 j
                | 4 | 7 => v = .int .i64 m
                | 8 | 16 => v = .pointer (some ⟨g, m, none⟩)
                | 9 => v = .int .i64 yn
                | 12 | 14 => v = .pointer (some ⟨g, j, none⟩)
                | 13 => v = .int .i64 xn
                | _ => True) (JSt 15 [9, 13] (fun W => W = w6.drew) (fun W => W = w8.drew)) mix (by kernel_rfl) (JSt.start rfl) ?_ ?_
              · refine ⟨?_, ?_, ?_, ?_, ?_, ?_, ?_, ?_, ?_, ?_, ?_, ?_, ?_, ?_, ?_, ?_, ?_, trivial⟩
                all_goals refine gen_plain rfl fun a W S hSi hJ hpre ht' => ?_
                all_goals
                  simp [Region.binds] at hpre
                  have t0 := ht' 0 rfl
                  have t9 := ht' 9 rfl
                  simp at t0 t9
                iterate 9
                  (· simp [opOK, go_sem, hpre, t0, t9, hwm, hmn]
                     refine ⟨hJ.read (by omega), ?_⟩
                     intro j _ _ v h _
                     exact h)
                · have hW := hJ.look (i := 9) (by simp) hSi
                  have q0 : W.cell? ⟨g, m, none⟩ = some (.int .i64 yn) := by rw [hW]; exact l0
                  simp [opOK, go_sem, hpre, q0]
                  refine ⟨hJ.read (by omega), ?_⟩
                  intro j _ _ v h _
                  exact h
                iterate 3
                  (· simp [opOK, go_sem, hpre, t0, t9, hm1n]
                     refine ⟨hJ.read (by omega), ?_⟩
                     intro j _ _ v h _
                     exact h)
                · have hW := hJ.look (i := 13) (by simp) hSi
                  have q0 : W.cell? ⟨g, j, none⟩ = some (.int .i64 xn) := by rw [hW]; exact l1
                  simp [opOK, go_sem, hpre, q0]
                  refine ⟨hJ.read (by omega), ?_⟩
                  intro j _ _ v h _
                  exact h
                · simp [opOK, go_sem, hpre, hm1n]
                  refine ⟨hJ.read (by omega), ?_⟩
                  intro j _ _ v h _
                  exact h
                · have hW := hJ.off hSi
                  have q0 : W.cell? ⟨g, j, none⟩ = some (.int .i64 xn) := by rw [hW]; exact l1
                  have q1 : W.frozen? ⟨g, j, none⟩ = false := by rw [hW]; exact l1f
                  have e8 : W.setCell ⟨g, j, none⟩ (.int .i64 yn) = w8.drew := by rw [hW, ← HW8.out]; rfl
                  simp [opOK, go_sem, hpre, q0, q1, e8]
                  refine ⟨JSt.write (by simp [hpre]) rfl, ?_⟩
                  intro j hj _ v h _
                  exact h
                · simp [opOK, go_sem, hpre, hmn]
                  refine ⟨hJ.read (by omega), ?_⟩
                  intro j _ _ v h _
                  exact h
              · intro W' hJ
                have hW := hJ.on (by decide)
                subst hW
                simp only [List.take_succ_cons, List.take_zero, List.drop_succ_cons, List.drop_zero, EndAll]
                rintro _ rfl _ rfl _ rfl _ rfl _ rfl _ rfl _ rfl _ rfl _ rfl _ rfl _ rfl _ rfl _ rfl _ rfl _ rfl v15 - _ rfl
                have q0 : w8.cell? ⟨g, m, none⟩ = some (.int .i64 yn) := by rw [← HW8.out, World.cell?_setCell_other _ _ _ _ (by intro e; cases e; exact hmj rfl)]; exact l0
                have q0f := HO8.out.frozenAt m
                obtain ⟨hO9, hg9⟩ := HO8.out.stored m (.int .i64 xn)
                rw [ints_set] at hO9
                have HO9 := Lib.hid hO9
                have HG9 := Lib.hid (grownBy_trans HG8.out hg9)
                clear hO9 hg9 l0 l1 l0f l1f hJ
                go_wp2_with fail
                go_roundw
                case rel => exact ⟨m, _, rfl, HZ9, HO9, Lib.hid ⟨HG9.out.os, HG9.out.tape, HG9.out.output, HG9.out.size, HG9.out.block⟩⟩
                case measure => simp [intOf]; have := HM.out; omega
        · have d1 : decide ((a : Int) < (j : Int)) = false := decide_eq_false (by omega)
          have d1n : decide (a < j) = false := decide_eq_false hja
          go_wp2_with fail
          refine wp_region_seq 17 [.is ?_, .is ?_, .is (.bool false), .is (.bool false), .is undef, .is undef, .is undef, .is undef, .is undef, .is undef, .is undef, .is undef, .is undef, .is undef, .is undef, .is undef, .is (.bool false)] rfl mix (by kernel_rfl) (by kernel_rfl) ?seqm
          case seqm =>
            simp only [List.take_succ_cons, List.take_zero]
            iterate 4
              refine seq_is rfl (fun w1 hb1 _ => ?_) ?_
              · simp [opOK, go_sem, hja, Below.refl]
                try exact rfl
              simp only [Act.put, List.setIfInBounds_toArray, List.set_cons_succ, List.set_cons_zero]
            iterate 12
              refine seq_off (by rfl) ?_
              simp only [Act.put, List.setIfInBounds_toArray, List.set_cons_succ, List.set_cons_zero]
            refine seq_is rfl (fun w1 hb1 _ => ?_) ?_
            · simp [opOK, go_sem, Below.refl]
              try exact rfl
            simp only [Act.put, List.setIfInBounds_toArray, List.set_cons_succ, List.set_cons_zero]
            refine seq_end fun w6 hb6 _ => ?_
            simp only [List.drop_succ_cons, List.drop_zero]
            have HO6 := Lib.hid (ownsN_below HO.out hb6)
            have HG6 := Lib.hid (grownBy_trans HG.out (grownBy_below _ hb6))
            clear hb6
            go_wp2_with fail
            go_roundw
            case rel => exact ⟨i + 1, zs, by omega, by omega, by go_num, Lib.hid (HS.out.next HZ.out hlt (by omega) (by omega) HA.out (.inl (by omega))), HO6, HG6⟩
            case measure => simp [intOf]; omega
    · obtain rfl : i = max (a + 1) b := by omega
      go_wp2
      go_returns
      exact ⟨rfl, ys, HO.out, HG.out, HS.out⟩
end Go.Proofs.Ytagfcodpgochjaa

/- Chapter 12: sharing: the stable sort of at most 20. -/
namespace Go.Proofs.Ytagfcodpgochjaa
open Go.RowKit Go.Oche Go.Proofs

theorem at0_ext {xs ys : List Int} (h : xs.length = ys.length) (he : ∀ q, q < xs.length → at0 xs q = at0 ys q) : xs = ys :=
  List.ext_getElem h fun i h1 h2 => by have := he i h1; rwa [at0_eq h1, at0_eq h2] at this
/-- All stand in order. -/
structure AllOk (r : Int → Int) (xs ys : List Int) : Prop where
  len : ys.length = xs.length
  ord : ∀ p q, p < q → q < xs.length → befo r (at0 ys p) (at0 ys q)
  perm : ys.Perm xs
set_option maxRecDepth 100000 in
set_option maxHeartbeats 4000000 in
theorem stable20_any {S : Nat → Prop} (amount sum : Int) (ws : List Int) (sv : Value) (pa pw ps g c n base : Nat) (xs : List Int) (w : World) (ho : w.ownsRow base 3 1 (.slice (some ⟨g, 0, none⟩) n c) n (ints xs)) (hc : CmpAt w pa pw ps amount sum ws sv S)
    (h1 : pa ≠ g) (h2 : pw ≠ g) (h3 : ps ≠ g) (h4 : ∀ k, S k → k ≠ g) (hn0 : 1 ≤ n) (hn : n ≤ 20) (hix : ∀ x ∈ xs, 0 ≤ x ∧ x < ws.length) (hasc : ∀ p q, p < q → q < n → at0 xs p < at0 xs q)
    (ha : 0 ≤ amount ∧ amount ≤ 1000000000) (hw : ∀ x ∈ ws, 0 ≤ x ∧ x ≤ 10000) (hs : 0 < sum ∧ sum ≤ 1000000) :
    Calls Try.prog 59 #[.slice (some ⟨g, 0, none⟩) n c, .int .i64 n, .func (.func 30) #[] #[.pointer (some ⟨pa, 0, none⟩), .pointer (some ⟨pw, 0, none⟩), .pointer (some ⟨ps, 0, none⟩)]] w fun e w' =>
      e = .returned (.tuple #[]) ∧ ∃ ys, w'.ownsRow base 3 1 (.slice (some ⟨g, 0, none⟩) n c) n (ints ys) ∧ w.grownBy w' (some g) ∧ AllOk (restOf amount sum ws) xs ys := by
  have hxl := owns_len ho
  simp only [ints_length] at hxl
  have hfull : ∀ ys, SegOk (restOf amount sum ws) xs 0 n n ys → AllOk (restOf amount sum ws) xs ys := fun ys h => ⟨h.len, fun p q h1 h2 => h.ord p q (by omega) h1 (by omega), h.perm⟩
  have HFU := Lib.hid hfull
  have HO := Lib.hid ho
  have HC := Lib.hid hc
  have HIX := Lib.hid hix
  have HA := Lib.hid hasc
  have HB := Lib.hid (And.intro ha (And.intro hw hs))
  have HN := Lib.hid (And.intro h1 (And.intro h2 (And.intro h3 h4)))
  have HXL := Lib.hid hxl
  clear ho hc hix hasc ha hw hs h1 h2 h3 h4 hfull hxl
  go_enter Try.func59, Try.ntmps59
  go_wp2_with fail
  go_loopw [7, 8] (fun av bv wr => ∃ ys A B, av = .int .i64 A ∧ bv = .int .i64 B ∧ Hid (wr.ownsRow base 3 1 (.slice (some ⟨g, 0, none⟩) n c) n (ints ys)) ∧ Hid (w.grownBy wr (some g)) ∧ Hid ((A = 0 ∧ B = 20 ∧ ys = xs) ∨ (A = 20 ∧ B = 40 ∧ n = 20 ∧ AllOk (restOf amount sum ws) xs ys))) (fun _ bv _ => 100 - (intOf bv).toNat)
  case atStart => exact ⟨xs, 0, 20, rfl, rfl, HO, Lib.hid ⟨rfl, rfl, rfl, Nat.le_refl _, fun _ _ _ => rfl⟩, Lib.hid (.inl ⟨rfl, rfl, rfl⟩)⟩
  case round =>
    clear HO
    obtain ⟨ys, A, B, rfl, rfl, HO, HG, HR⟩ := hrel
    obtain ⟨wo, rfl⟩ : ∃ wo : World, wo = wr := ⟨_, rfl⟩
    have HCW := Lib.hid (HC.out.grown HG.out HN.out.1 HN.out.2.1 HN.out.2.2.1 HN.out.2.2.2)
    rcases HR.out with ⟨rfl, rfl, hyx⟩ | ⟨rfl, rfl, hn20, HS⟩
    · clear HR
      have hyx := hyx.symm
      subst hyx
      by_cases h20 : n = 20
      · have d1 : decide ((20 : Int) ≤ (n : Int)) = true := decide_eq_true (by omega)
        have d1n : decide (20 ≤ n) = true := decide_eq_true (by omega)
        have H20 := Lib.hid h20
        clear h20
        go_wp2_with fail
        refine (insI_any amount sum ws sv pa pw ps g c n base xs 0 20 _ HO.out HCW.out HN.out.1 HN.out.2.1 HN.out.2.2.1 HN.out.2.2.2 (by omega) (by have := H20.out; omega) (by omega) HIX.out (fun p q _ h1 h2 => HA.out p q h1 (by have := H20.out; omega)) HB.out.1 HB.out.2.1 HB.out.2.2).mono ?_
        rintro e w1 ⟨rfl, ys, ho1, hg1, hs1⟩
        have HO1 := Lib.hid ho1
        have HG1 := Lib.hid (grownBy_trans HG.out hg1)
        have hs2 : SegOk (restOf amount sum ws) xs 0 n n ys := by have := H20.out; subst this; exact hs1
        have HS1 := Lib.hid (HFU.out ys hs2)
        clear ho1 hg1 hs1 hs2
        go_wp2_with fail
        go_roundw
        case rel => exact ⟨_, 20, 40, rfl, rfl, HO1, HG1, Lib.hid (.inr ⟨rfl, rfl, H20.out, HS1.out⟩)⟩
        case measure => simp [intOf]
      · have d1 : decide ((20 : Int) ≤ (n : Int)) = false := decide_eq_false (by omega)
        have d1n : decide (20 ≤ n) = false := decide_eq_false (by omega)
        have e1 : decide ((20 : Int) < (n : Int)) = false := decide_eq_false (by omega)
        have e1n : decide (20 < n) = false := decide_eq_false (by omega)
        go_wp2_with fail
        refine (insI_any amount sum ws sv pa pw ps g c n base xs 0 n _ HO.out HCW.out HN.out.1 HN.out.2.1 HN.out.2.2.1 HN.out.2.2.2 (by omega) (by omega) (by omega) HIX.out (fun p q _ h1 h2 => HA.out p q h1 h2) HB.out.1 HB.out.2.1 HB.out.2.2).mono ?_
        rintro e w1 ⟨rfl, ys, ho1, hg1, hs1⟩
        rw [show max (0 + 1) n = n by omega] at hs1
        have HO1 := Lib.hid ho1
        have HG1 := Lib.hid (grownBy_trans HG.out hg1)
        have HS1 := Lib.hid (HFU.out ys hs1)
        clear ho1 hg1 hs1
        go_wp2_with fail
        go_loopw [6] (fun bv wr => bv = .int .i64 20 ∧ Hid (wr = w1)) (fun _ _ => 0)
        case atStart => exact ⟨rfl, Lib.hid rfl⟩
        case round =>
          obtain ⟨rfl, HW⟩ := hrel
          go_wp2
          go_returns
          have hw := HW.out
          subst hw
          exact ⟨rfl, ys, HO1.out, HG1.out, HS1.out⟩
    · clear HR
      have HS := Lib.hid HS
      have d1 : decide ((40 : Int) ≤ (n : Int)) = false := decide_eq_false (by omega)
      have d1n : decide (40 ≤ n) = false := decide_eq_false (by omega)
      have e1 : decide ((20 : Int) < (n : Int)) = false := decide_eq_false (by omega)
      have e1n : decide (20 < n) = false := decide_eq_false (by omega)
      have H20 := Lib.hid hn20
      clear hn20
      have HYL := Lib.hid HS.out.len
      go_wp2_with fail
      refine (insI_any amount sum ws sv pa pw ps g c n base ys 20 n _ HO.out HCW.out HN.out.1 HN.out.2.1 HN.out.2.2.1 HN.out.2.2.2 (by have := H20.out; omega) (by omega) (by omega) (fun x hx => HIX.out x (HS.out.perm.mem_iff.1 hx)) (fun p q h0 h1 h2 => by have := H20.out; omega) HB.out.1 HB.out.2.1 HB.out.2.2).mono ?_
      rintro e w1 ⟨rfl, zs, ho1, hg1, hs1⟩
      have hzy : zs = ys := at0_ext hs1.len fun q hq => hs1.out q (.inl (by have := hs1.len; have := HYL.out; have := HXL.out; have := H20.out; omega))
      subst hzy
      have HO1 := Lib.hid ho1
      have HG1 := Lib.hid (grownBy_trans HG.out hg1)
      clear ho1 hg1 hs1
      go_wp2_with fail
      go_loopw [6] (fun bv wr => bv = .int .i64 20 ∧ Hid (wr = w1)) (fun _ _ => 0)
      case atStart => exact ⟨rfl, Lib.hid rfl⟩
      case round =>
        obtain ⟨rfl, HW⟩ := hrel
        go_wp2
        go_returns
        have hw := HW.out
        subst hw
        exact ⟨rfl, zs, HO1.out, HG1.out, HS.out⟩
set_option maxRecDepth 100000 in
theorem sortStable20_any {S : Nat → Prop} (amount sum : Int) (ws : List Int) (sv : Value) (pa pw ps g c n base : Nat) (xs : List Int) (w : World) (ho : w.ownsRow base 3 1 (.slice (some ⟨g, 0, none⟩) n c) n (ints xs)) (hc : CmpAt w pa pw ps amount sum ws sv S)
    (h1 : pa ≠ g) (h2 : pw ≠ g) (h3 : ps ≠ g) (h4 : ∀ k, S k → k ≠ g) (hn0 : 1 ≤ n) (hn : n ≤ 20) (hix : ∀ x ∈ xs, 0 ≤ x ∧ x < ws.length) (hasc : ∀ p q, p < q → q < n → at0 xs p < at0 xs q)
    (ha : 0 ≤ amount ∧ amount ≤ 1000000000) (hw : ∀ x ∈ ws, 0 ≤ x ∧ x ≤ 10000) (hs : 0 < sum ∧ sum ≤ 1000000) :
    Calls Try.prog 29 #[.slice (some ⟨g, 0, none⟩) n c, .func (.func 30) #[] #[.pointer (some ⟨pa, 0, none⟩), .pointer (some ⟨pw, 0, none⟩), .pointer (some ⟨ps, 0, none⟩)]] w fun e w' =>
      e = .returned (.tuple #[]) ∧ ∃ ys, w'.ownsRow base 3 1 (.slice (some ⟨g, 0, none⟩) n c) n (ints ys) ∧ w.grownBy w' (some g) ∧ AllOk (restOf amount sum ws) xs ys := by
  go_enter Try.func29, Try.ntmps29
  go_wp2_with fail
  refine (stable20_any amount sum ws sv pa pw ps g c n base xs w ho hc h1 h2 h3 h4 hn0 hn hix hasc ha hw hs).mono ?_
  rintro e w1 ⟨rfl, ys, ho1, hg1, hs1⟩
  clear ho hc hix hasc hw
  go_wp2
  go_returns
  exact ⟨rfl, ys, ho1, hg1, hs1⟩
end Go.Proofs.Ytagfcodpgochjaa

/- Chapter 12, sharing, in plain Lean. -/
namespace Go.Proofs.Ytagfcodpgochjaa
open Go.RowKit Go.Oche Go.Proofs

def baseOf (amount sum : Int) (ws : List Int) (i : Nat) : Int := amount * ws.getD i 0 / sum
def bases (amount sum : Int) (ws : List Int) (k : Nat) : List Int := (List.range k).map (baseOf amount sum ws)
@[simp] theorem bases_length (amount sum : Int) (ws : List Int) (k : Nat) : (bases amount sum ws k).length = k := by simp [bases]
theorem bases_succ (amount sum : Int) (ws : List Int) (k : Nat) : bases amount sum ws (k + 1) = bases amount sum ws k ++ [baseOf amount sum ws k] := by simp [bases, List.range_succ]
/-- How many stand before i. -/
def befoB (r : Int → Int) (j i : Int) : Bool := decide (r i < r j) || (decide (r j = r i) && decide (j < i))
theorem befoB_iff (r : Int → Int) (j i : Int) : befoB r j i = true ↔ befo r j i := by simp [befoB, befo]
def upTo (n : Nat) : List Int := (List.range n).map fun (i : Nat) => (i : Int)
@[simp] theorem upTo_length (n : Nat) : (upTo n).length = n := by simp [upTo]
theorem mem_upTo {n : Nat} {x : Int} : x ∈ upTo n ↔ 0 ≤ x ∧ x < n := by
  simp only [upTo, List.mem_map, List.mem_range]
  exact ⟨fun ⟨i, h, e⟩ => by omega, fun h => ⟨x.toNat, by omega, by omega⟩⟩
theorem upTo_succ (n : Nat) : upTo (n + 1) = upTo n ++ [(n : Int)] := by simp [upTo, List.range_succ]
theorem at0_upTo {n i : Nat} (h : i < n) : at0 (upTo n) i = i := by rw [at0_eq (by simpa using h)]; simp [upTo]
def rankR (r : Int → Int) (n : Nat) (i : Int) : Nat := (upTo n).countP (befoB r · i)
def shareErr (amount : Int) (ws : List Int) : Int :=
  if isIn amount 0 1000000000 = false then 3 else if isIn ws.length 1 60 = false then 4 else if ws.any (outB 0 10000) = true ∨ sumW ws = 0 then 2 else 0
def leftOf (amount : Int) (ws : List Int) : Int := amount - (bases amount ws.sum ws ws.length).sum
def shareL (amount : Int) (ws : List Int) : List Int :=
  (List.range ws.length).map fun (i : Nat) => baseOf amount ws.sum ws i + if (rankR (restOf amount ws.sum ws) ws.length i : Int) < leftOf amount ws then 1 else 0
def shareRes (amount : Int) (ws : List Int) : List Int := if shareErr amount ws = 0 then shareL amount ws else []
/-- The bases and the remainders make up the amount. -/
theorem bases_sum (amount sum : Int) (ws : List Int) : ∀ k, k ≤ ws.length → (bases amount sum ws k).sum * sum + ((List.range k).map fun (i : Nat) => restOf amount sum ws i).sum = amount * (ws.take k).sum
  | 0, _ => by simp [bases]
  | k + 1, hk => by
    have ih := bases_sum amount sum ws k (by omega)
    have hd : amount * ws.getD k 0 / sum * sum + amount * ws.getD k 0 % sum = amount * ws.getD k 0 := Int.ediv_mul_add_emod _ _
    have hg : ws.getD k 0 = ws[k] := getD_at (by omega)
    obtain ⟨q, hq⟩ : ∃ q, amount * ws.getD k 0 / sum * sum = q := ⟨_, rfl⟩
    obtain ⟨r, hr⟩ : ∃ r, amount * ws.getD k 0 % sum = r := ⟨_, rfl⟩
    rw [hq, hr] at hd
    have e1 : (bases amount sum ws (k + 1)).sum * sum = (bases amount sum ws k).sum * sum + q := by
      rw [bases_succ, List.sum_append, Int.add_mul]; simp only [List.sum_cons, List.sum_nil, Int.add_zero, baseOf, hq]
    have e2 : ((List.range (k + 1)).map fun (i : Nat) => restOf amount sum ws i).sum = ((List.range k).map fun (i : Nat) => restOf amount sum ws i).sum + r := by
      rw [List.range_succ, List.map_append, List.sum_append]; simp only [List.map_cons, List.map_nil, List.sum_cons, List.sum_nil, Int.add_zero, restOf, Int.toNat_natCast, hr]
    have e3 : amount * (ws.take (k + 1)).sum = amount * (ws.take k).sum + amount * ws.getD k 0 := by
      rw [List.take_succ_eq_append_getElem (by omega), List.sum_append, Int.mul_add, hg]; simp
    omega
theorem rests_bd (amount sum : Int) (ws : List Int) (hs : 0 < sum) : ∀ k, 0 ≤ ((List.range k).map fun (i : Nat) => restOf amount sum ws i).sum ∧ ((List.range k).map fun (i : Nat) => restOf amount sum ws i).sum ≤ (k : Int) * (sum - 1)
  | 0 => by simp
  | k + 1 => by
    have ih := rests_bd amount sum ws hs k
    have h1 : 0 ≤ restOf amount sum ws k := Int.emod_nonneg _ (by omega)
    have h2 : restOf amount sum ws k < sum := Int.emod_lt_of_pos _ hs
    rw [List.range_succ, List.map_append, List.sum_append]
    simp only [List.map_cons, List.map_nil, List.sum_cons, List.sum_nil, Int.add_zero]
    have : ((k + 1 : Nat) : Int) * (sum - 1) = (k : Int) * (sum - 1) + (sum - 1) := by rw [Int.natCast_add, Int.add_mul]; omega
    omega
theorem leftOf_bd {amount : Int} {ws : List Int} (hs : 0 < ws.sum) (hl : 0 < ws.length) : 0 ≤ leftOf amount ws ∧ leftOf amount ws < ws.length := by
  have h1 := bases_sum amount ws.sum ws ws.length (Nat.le_refl _)
  have h2 := rests_bd amount ws.sum ws hs ws.length
  rw [List.take_length] at h1
  have h3 : leftOf amount ws * ws.sum = ((List.range ws.length).map fun (i : Nat) => restOf amount ws.sum ws i).sum := by unfold leftOf; rw [Int.sub_mul]; omega
  refine ⟨?_, ?_⟩
  · rcases Int.lt_or_le (leftOf amount ws) 0 with h | h
    · have := Int.mul_neg_of_neg_of_pos h hs; omega
    · exact h
  · rcases Int.lt_or_le (leftOf amount ws) ws.length with h | h
    · exact h
    · have h4 := Int.mul_le_mul_of_nonneg_right h (show 0 ≤ ws.sum by omega)
      have h5 : (ws.length : Int) * (ws.sum - 1) = (ws.length : Int) * ws.sum - ws.length := by rw [Int.mul_sub]; omega
      omega
theorem countP_first {α : Type} (p : α → Bool) : ∀ (l : List α) (k : Nat), k ≤ l.length → (∀ i (h : i < l.length), p l[i] = decide (i < k)) → l.countP p = k
  | [], k, h, _ => by simp at h; simp [h]
  | x :: l, 0, _, h => by
    rw [List.countP_eq_zero]
    intro a ha
    obtain ⟨i, hi, e⟩ := List.mem_iff_getElem.1 ha
    have := h i hi
    rw [e] at this
    simp [this]
  | x :: l, k + 1, hk, h => by
    have h0 := h 0 (by simp)
    simp only [List.getElem_cons_zero, Nat.zero_lt_succ, decide_true] at h0
    rw [List.countP_cons_of_pos h0, countP_first p l k (by simpa using hk) (fun i hi => by
      have := h (i + 1) (by simpa using hi)
      simpa using this)]
/-- In order, the place is the rank. -/
theorem rank_at {r : Int → Int} {n : Nat} {ys : List Int} (h : AllOk r (upTo n) ys) {p : Nat} (hp : p < n) : rankR r n (at0 ys p) = p := by
  have hl := h.len
  rw [upTo_length] at hl
  rw [rankR, ← h.perm.countP_eq]
  refine countP_first _ _ _ (by omega) fun i hi => ?_
  rw [Bool.eq_iff_iff, befoB_iff, decide_eq_true_eq, ← at0_eq hi]
  refine ⟨fun hb => ?_, fun hip => h.ord i p hip (by simpa using hp)⟩
  rcases Nat.lt_trichotomy i p with e | e | e
  · exact e
  · subst e; unfold befo at hb; omega
  · have := h.ord p i e (by rw [upTo_length]; omega)
    unfold befo at hb this; omega
theorem mem_take_rank {r : Int → Int} {n : Nat} {ys : List Int} (h : AllOk r (upTo n) ys) {k : Nat} (i : Nat) (hi : i < n) : (i : Int) ∈ ys.take k ↔ rankR r n i < k := by
  have hl := h.len
  rw [upTo_length] at hl
  have hm : (i : Int) ∈ ys := h.perm.mem_iff.2 (mem_upTo.2 (by omega))
  obtain ⟨p, hp, e⟩ := List.mem_iff_getElem.1 hm
  have hr := rank_at h (p := p) (by omega)
  rw [at0_eq hp, e] at hr
  rw [hr]
  refine ⟨fun h1 => ?_, fun h1 => ?_⟩
  · obtain ⟨q, hq, e2⟩ := List.mem_iff_getElem.1 h1
    rw [List.getElem_take] at e2
    have hq2 : q < k ∧ q < ys.length := by simp at hq; omega
    have hr2 := rank_at h (p := q) (by omega)
    rw [at0_eq hq2.2, e2] at hr2
    omega
  · rw [← e]
    have : p < (ys.take k).length := by simp; omega
    exact List.mem_iff_getElem.2 ⟨p, this, by rw [List.getElem_take]⟩
/-- The parts when k of the order have their penny. -/
def partsK (amount sum : Int) (ws ys : List Int) (k : Nat) : List Int := (List.range ws.length).map fun (i : Nat) => baseOf amount sum ws i + if (i : Int) ∈ ys.take k then 1 else 0
@[simp] theorem partsK_length (amount sum : Int) (ws ys : List Int) (k : Nat) : (partsK amount sum ws ys k).length = ws.length := by simp [partsK]
theorem partsK_zero (amount sum : Int) (ws ys : List Int) : partsK amount sum ws ys 0 = bases amount sum ws ws.length := by simp [partsK, bases]
theorem AllOk.fresh {r : Int → Int} {n : Nat} {ys : List Int} (h : AllOk r (upTo n) ys) {k : Nat} (hk : k < n) : at0 ys k ∉ ys.take k := by
  have hl := h.len
  rw [upTo_length] at hl
  intro hm
  obtain ⟨q, hq, e⟩ := List.mem_iff_getElem.1 hm
  rw [List.getElem_take] at e
  have hq2 : q < k ∧ q < ys.length := by simp at hq; omega
  have := h.ord q k hq2.1 (by simpa using hk)
  rw [at0_eq hq2.2, e] at this
  unfold befo at this; omega
theorem AllOk.rng {r : Int → Int} {n : Nat} {ys : List Int} (h : AllOk r (upTo n) ys) {k : Nat} (hk : k < n) : 0 ≤ at0 ys k ∧ at0 ys k < n := by
  have hl := h.len
  rw [upTo_length] at hl
  refine mem_upTo.1 (h.perm.mem_iff.1 ?_)
  rw [at0_eq (by omega)]; exact List.getElem_mem _
theorem partsK_at {amount sum : Int} {ws ys : List Int} {k i : Nat} (hi : i < ws.length) : at0 (partsK amount sum ws ys k) i = baseOf amount sum ws i + if (i : Int) ∈ ys.take k then 1 else 0 := by
  rw [at0_eq (by simpa using hi)]; simp [partsK]
theorem partsK_succ {amount sum : Int} {ws ys : List Int} {k y : Nat} (h : AllOk (restOf amount sum ws) (upTo ws.length) ys) (hk : k < ws.length) (hy : at0 ys k = y) : (partsK amount sum ws ys k).set y (at0 (partsK amount sum ws ys k) y + 1) = partsK amount sum ws ys (k + 1) := by
  have hl := h.len
  rw [upTo_length] at hl
  have hyl : y < ws.length := by have := h.rng hk; omega
  have hf := h.fresh hk
  rw [hy] at hf
  refine at0_ext (by simp) fun q hq => ?_
  have hq' : q < ws.length := by simpa using hq
  rw [at0_set (by simpa using hyl), partsK_at hq', partsK_at hq', partsK_at hyl, List.take_succ_eq_append_getElem (by omega), ← at0_eq (by omega), hy]
  by_cases e : q = y
  · subst e; rw [if_pos rfl, if_neg hf, if_pos (by simp)]; omega
  · rw [if_neg e]
    have : ((q : Int) ∈ ys.take k ++ [(y : Int)]) ↔ (q : Int) ∈ ys.take k := by
      simp only [List.mem_append, List.mem_singleton]
      exact ⟨fun h => h.resolve_right (by omega), .inl⟩
    simp only [this]
theorem partsK_end {amount : Int} {ws ys : List Int} {k : Nat} (h : AllOk (restOf amount ws.sum ws) (upTo ws.length) ys) (hk : (k : Int) = leftOf amount ws) : partsK amount ws.sum ws ys k = shareL amount ws := by
  unfold partsK shareL
  refine List.map_congr_left fun i hi => ?_
  have := mem_take_rank h (k := k) i (by simpa using hi)
  simp only [this, ← hk, Int.ofNat_lt]
theorem sum_nonneg' {ws : List Int} (h : ∀ x ∈ ws, 0 ≤ x ∧ x ≤ 10000) : 0 ≤ ws.sum ∧ ws.sum ≤ 10000 * ws.length := by
  induction ws with
  | nil => simp
  | cons a l ih =>
    have h1 := h a (by simp)
    have h2 := ih (fun x hx => h x (by simp [hx]))
    rw [List.sum_cons, List.length_cons, Int.natCast_add]
    omega
end Go.Proofs.Ytagfcodpgochjaa

/- Chapter 12: Share, of at most 20 weights. -/
namespace Go.Proofs.Ytagfcodpgochjaa
open Go.RowKit Go.Oche Go.Proofs

set_option maxRecDepth 100000 in
set_option maxHeartbeats 4000000 in
theorem share20_any {S : Nat → Prop} (amount : Int) (ws : List Int) (v : Value) (w : World) (hs : Sl S w v (ints ws)) (h20 : shareErr amount ws = 0 → ws.length ≤ 20) :
    Calls Try.prog 14 #[.int .i64 amount, v] w fun e w' => ∃ r, e = .returned (.tuple #[r, .int .i64 (shareErr amount ws)]) ∧ Below w.heap.size w w' ∧ Sl (fun k => w.heap.size ≤ k) w' r (ints (shareRes amount ws)) := by
  obtain ⟨a, cap, rfl, h2, h3⟩ := hs.form
  simp only [ints_length] at *
  unfold maxLen at h3
  obtain ⟨b1, hb1⟩ : ∃ b, isIn amount 0 1000000000 = b := ⟨_, rfl⟩
  obtain ⟨b2, hb2⟩ : ∃ b, isIn (ws.length : Int) 1 60 = b := ⟨_, rfl⟩
  obtain ⟨b3, hb3⟩ : ∃ b, ws.any (outB 0 10000) = b := ⟨_, rfl⟩
  obtain ⟨er, her⟩ : ∃ x, shareErr amount ws = x := ⟨_, rfl⟩
  obtain ⟨rs, hrs⟩ : ∃ x, shareRes amount ws = x := ⟨_, rfl⟩
  have ER : Hid (er = if b1 = false then 3 else if b2 = false then 4 else if b3 = true ∨ sumW ws = 0 then 2 else 0) := Lib.hid (by rw [← her, ← hb1, ← hb2, ← hb3]; rfl)
  have RS : Hid (rs = if er = 0 then shareL amount ws else []) := Lib.hid (by rw [← hrs, ← her]; rfl)
  have H20 : Hid (er = 0 → ws.length ≤ 20) := Lib.hid (by rw [← her]; exact h20)
  have NOK : Hid (er ≠ 0 → rs = []) := Lib.hid (fun h => by rw [RS.out, if_neg h])
  have H1 := Lib.hid hb1
  have H2 := Lib.hid hb2
  have H3 := Lib.hid hb3
  rw [her, hrs]
  obtain ⟨T, hT⟩ : ∃ T, sumW ws = T := ⟨_, rfl⟩
  obtain ⟨w0, hw0⟩ : ∃ w0, (w.alloc (.cells #[.int .i64 amount] 3)).alloc (.cells #[.slice a ws.length cap] 22) = w0 := ⟨_, rfl⟩
  obtain ⟨w1, hw1⟩ : ∃ w1, w0.alloc (.cells #[.int .i64 T] 3) = w1 := ⟨_, rfl⟩
  have hb0 : Below w.heap.size w w0 := by rw [← hw0]; exact (aB _ _).trans ((aB _ _).mono (by simp))
  have hb01 : Below w0.heap.size w0 w1 := by rw [← hw1]; exact aB _ _
  have hz0 : w0.heap.size = w.heap.size + 2 := by rw [← hw0]; simp
  have z1 : w1.cell? ⟨w.heap.size, 0, none⟩ = some (.int .i64 amount) := bAt hb01 (by rw [← hw0]; simp)
  have z2 : w1.cell? ⟨w.heap.size + 1, 0, none⟩ = some (.slice a ws.length cap) := bAt hb01 (by rw [← hw0]; simp)
  have z3 : w1.cell? ⟨w0.heap.size, 0, none⟩ = some (.int .i64 T) := by rw [← hw1]; simp
  have y1 : (w0.alloc (.cells #[.int .i64 T] 3)).cell? ⟨w.heap.size, 0, none⟩ = some (.int .i64 amount) := by rw [hw1]; exact z1
  have c1 : w0.cell? ⟨w.heap.size + 1, 0, none⟩ = some (.slice a ws.length cap) := by rw [← hw0]; simp
  have HS0 := Lib.hid (hs.below hb0)
  have hCM : CmpAt w1 w.heap.size (w.heap.size + 1) w0.heap.size amount T ws (.slice a ws.length cap) (fun k => S k ∧ k < w.heap.size) := ⟨z1, z2, z3, hs.lt.below (bThen hb0 hb01)⟩
  have HCM := Lib.hid hCM
  have HW0 := Lib.hid hw0
  have HW1 := Lib.hid hw1
  have HB1 := Lib.hid (bThen hb0 hb01)
  have HT := Lib.hid hT
  have HZ0 := Lib.hid hz0
  have hz1 : w1.heap.size = w.heap.size + 3 := by rw [← hw1]; simp [hz0]
  have HZ1 := Lib.hid hz1
  have HZZ : Hid (w0.heap.size + 1 = w1.heap.size) := Lib.hid (by rw [← HW1.out]; simp)
  clear her hrs hb1 hb2 hb3 hs h20 hw0 hw1 hb0 hb01 hT hCM hz0 hz1
  go_enter Try.func14, Try.ntmps14
  go_wp2_with fail
  rw [HW0.out]
  refine (total_any ws _ _ HS0.out).mono ?_
  rintro e w0' ⟨rfl, rfl⟩
  rw [HT.out]
  clear c1
  go_wp2_with fail
  rw [HW1.out, HZZ.out]
  clear y1
  refine (within_one' 0 1000000000 amount b1 H1 _ _ (Sl.new1 (fun _ => True) w1 trivial 3 (.int .i64 amount))).mono ?_
  rintro e w2 ⟨rfl, hb2⟩
  replace hb2 := bThen (aB w1 _) hb2
  replace z1 := bAt hb2 z1
  replace z2 := bAt hb2 z2
  replace z3 := bAt hb2 z3
  replace HCM := Lib.hid (HCM.out.below hb2)
  have HB2 := Lib.hid (bThen HB1.out hb2)
  have BZ2 := Lib.hid hb2.size
  clear hb2
  cases b1
  · have er2 : er = 3 := ER.out
    have rs2 := NOK.out (by omega)
    clear ER RS NOK H20
    subst er2 rs2
    go_wp2
    go_returns
    exact ⟨_, rfl, HB2.out, Sl.nil _ _⟩
  · go_wp2_with fail
    refine (within_one' 1 60 ws.length b2 H2 _ _ (Sl.new1 (fun _ => True) w2 trivial 3 (.int .i64 ws.length))).mono ?_
    rintro e w3 ⟨rfl, hb3⟩
    replace hb3 := bThen (aB w2 _) hb3
    replace z1 := bAt hb3 z1
    replace z2 := bAt hb3 z2
    replace z3 := bAt hb3 z3
    replace HCM := Lib.hid (HCM.out.below hb3)
    have HB3 := Lib.hid (bThen HB2.out hb3)
    have BZ3 := Lib.hid (Nat.le_trans BZ2.out hb3.size)
    clear hb3
    cases b2
    · have er2 : er = 4 := ER.out
      have rs2 := NOK.out (by omega)
      clear ER RS NOK H20
      subst er2 rs2
      go_wp2
      go_returns
      exact ⟨_, rfl, HB3.out, Sl.nil _ _⟩
    · go_wp2_with fail
      refine (within_r 0 10000 ws b3 H3 _ _ HCM.out.sl).mono ?_
      rintro e w4 ⟨rfl, hb4⟩
      replace z1 := bAt hb4 z1
      replace z2 := bAt hb4 z2
      replace z3 := bAt hb4 z3
      replace HCM := Lib.hid (HCM.out.below hb4)
      have HB4 := Lib.hid (bThen HB3.out hb4)
      have BZ4 := Lib.hid (Nat.le_trans BZ3.out hb4.size)
      clear hb4
      cases b3
      · by_cases hT0 : T = 0
        · have e1 : (T == 0) = true := by simp [hT0]
          have er2 : er = 2 := by rw [ER.out, HT.out]; simp [hT0]
          have rs2 := NOK.out (by omega)
          clear ER RS NOK H20 hT0
          subst er2 rs2
          go_wp2
          go_returns
          exact ⟨_, rfl, HB4.out, Sl.nil _ _⟩
        · have e1 : (T == 0) = false := by simp [hT0]
          have er2 : er = 0 := by rw [ER.out, HT.out]; simp [hT0]
          have rs2 : rs = shareL amount ws := by rw [RS.out, if_pos er2]
          have hl20 := H20.out er2
          have hlen : 1 ≤ ws.length := by have := H2.out; simp [isIn] at this; omega
          have hamt : 0 ≤ amount ∧ amount ≤ 1000000000 := by simpa [isIn] using H1.out
          have hbd : ∀ x ∈ ws, 0 ≤ x ∧ x ≤ 10000 := any_outB H3.out
          have hsb := sum_nonneg' hbd
          have hTs : T = ws.sum := by rw [← HT.out]; exact sumW_sum (B := 10000) (by decide) ws (fun x hx => by have := hbd x hx; omega) (by omega)
          have hTb : 0 < T ∧ T ≤ 1000000 := by omega
          have RS2 := Lib.hid rs2
          have HBD := Lib.hid hbd
          have HTS := Lib.hid hTs
          clear ER RS NOK H20 rs2 hbd hsb hTs hT0
          subst er2
          go_wp2_with fail
          clear e1
          obtain ⟨B, hBd⟩ : ∃ B, w4.heap.size = B := ⟨_, rfl⟩
          have HBD2 := Lib.hid hBd
          have HBe : Hid (∀ W, Below B w4 W → CmpAt W w.heap.size (w.heap.size + 1) w0.heap.size amount T ws (.slice a ws.length cap) (fun k => S k ∧ k < w.heap.size)) := Lib.hid (fun W hW => HCM.out.below (by rw [hBd]; exact hW))
          clear z1 z2 z3 HCM hBd
          go_loopw [4, 7, 33] (fun pv ov iv wr => ∃ (k : Nat), k ≤ ws.length ∧ iv = .int .i64 k ∧ Hid (wr.ownsRow B 3 1 pv k (ints (bases amount T ws k))) ∧ Hid (wr.ownsRow B 3 1 ov k (ints (upTo k))) ∧ Hid (pv.ownBlock = none ∨ pv.ownBlock ≠ ov.ownBlock) ∧ Below B w4 wr) (fun _ _ iv _ => ws.length - (intOf iv).toNat)
          case atStart => exact ⟨0, by omega, rfl, Lib.hid (World.ownsRow_nil _ _ _ _), Lib.hid (World.ownsRow_nil _ _ _ _), Lib.hid (.inl rfl), ⟨rfl, rfl, rfl, Nat.le_refl _, fun _ _ => rfl⟩⟩
          case round =>
            obtain ⟨k, hk, rfl, HP, HO, HNE, hb⟩ := hrel
            obtain ⟨wo, rfl⟩ : ∃ wo : World, wo = wr := ⟨_, rfl⟩
            have hBw : B ≤ wo.heap.size := by have := HBD2.out; have := hb.size; omega
            have HB := Lib.hid hb
            clear hb
            obtain ⟨z1, z2, z3, hsl⟩ := HBe.out wo HB.out
            have HSL := Lib.hid hsl
            clear hsl
            by_cases hlt : k < ws.length
            · obtain ⟨b, off, hal, _, hc⟩ := HSL.out.cell hlt
              cases hal
              obtain ⟨x, hx⟩ : ∃ x, ws[k] = x := ⟨_, rfl⟩
              rw [hx] at hc
              have hxb := hx ▸ HBD.out _ (List.getElem_mem hlt)
              obtain ⟨p, hp⟩ : ∃ p, amount * x = p := ⟨_, rfl⟩
              have hpb := hp ▸ mul_bd hamt hxb
              have r1 : IntKind.i64.wrap p = p := wrap_small _ (by omega) (by omega)
              obtain ⟨q, hq⟩ : ∃ q, p / T = q := ⟨_, rfl⟩
              have t1 : p.tdiv T = q := by rw [Int.tdiv_eq_ediv_of_nonneg hpb.1, hq]
              have hqb : 0 ≤ q ∧ q ≤ p := by rw [← hq]; exact ⟨Int.ediv_nonneg hpb.1 (by omega), Int.ediv_le_self _ hpb.1⟩
              have r2 : IntKind.i64.wrap q = q := wrap_small _ (by omega) (by omega)
              have s0 : ¬ T = 0 := by omega
              have HQ : Hid (bases amount T ws (k + 1) = bases amount T ws k ++ [q]) := Lib.hid (by rw [bases_succ, baseOf, getD_at hlt, hx, hp, hq])
              obtain ⟨wA, hwA⟩ : ∃ wA, wo.alloc (.cells #[.int .i64 q] 3) = wA := ⟨_, rfl⟩
              have hbA : Below wo.heap.size wo wA := by rw [← hwA]; exact aB _ _
              have hcA : wA.cell? ⟨wo.heap.size, 0, none⟩ = some (.int .i64 q) := by rw [← hwA]; simp
              have HPA := Lib.hid (ownsN_below HP.out hbA)
              have HOA := Lib.hid (ownsN_below HO.out hbA)
              have hBA : B ≤ wA.heap.size := Nat.le_trans hBw hbA.size
              have HBA := Lib.hid (HB.out.trans (hbA.mono hBw))
              have HWA := Lib.hid hwA
              clear hx hxb hpb hq hqb hbA hwA HP HO HB
              go_wp2_with (at_builtin; rw [HWA.out]; refine wpList_append1 rfl _ _ 22 rfl B 3 (.int .i64 0) 8 Try.underlying22 info3 rfl _ k _ rfl HPA.out wo.heap.size 0 1 (.int .i64 q) rfl hcA rfl (by omega) (by decide) hBA ?_)
              intro g1 c1 wB ho1 hg1 hat1
              have hOB := HOA.out.kept hg1 (by
                rcases HNE.out with h | h
                · rw [h]; exact Classical.em _
                · exact .inr fun e => h e.symm)
              have hne1 : some g1 ≠ u7.ownBlock := fun e => by
                rcases hat1 with h | h
                · rcases HNE.out with h2 | h2
                  · rw [h2] at h; cases h
                  · exact h2 (h.trans e)
                · have := (HOA.out.lt g1 e.symm).2; omega
              obtain ⟨wC, hwC⟩ : ∃ wC, wB.alloc (.cells #[.int .i64 k] 3) = wC := ⟨_, rfl⟩
              have hbC : Below wB.heap.size wB wC := by rw [← hwC]; exact aB _ _
              have hcC : wC.cell? ⟨wB.heap.size, 0, none⟩ = some (.int .i64 k) := by rw [← hwC]; simp
              have hzB : wA.heap.size ≤ wB.heap.size := hg1.size
              have hBB := HBA.out.trans (below_grownBy hg1 hBA (fun q hq => (HPA.out.lt q hq).1))
              have HPC := Lib.hid (ownsN_below ho1 hbC)
              have HOC := Lib.hid (ownsN_below hOB hbC)
              have hBC : B ≤ wC.heap.size := Nat.le_trans hBA (Nat.le_trans hzB hbC.size)
              have HBC := Lib.hid (hBB.trans (hbC.mono (Nat.le_trans hBA hzB)))
              have HWC := Lib.hid hwC
              have HNE1 := Lib.hid hne1
              clear hbC hwC hzB hBB hOB ho1 hg1 hat1 hne1 hcA hc z1 z2 z3
              go_wp2_with (at_builtin; rw [HWC.out]; refine wpList_append1 rfl _ _ 22 rfl B 3 (.int .i64 0) 8 Try.underlying22 info3 rfl _ k _ rfl HOC.out wB.heap.size 0 1 (.int .i64 k) rfl hcC rfl (by omega) (by decide) hBC ?_)
              intro g2 c2 wD ho2 hg2 hat2
              have HPD := Lib.hid (HPC.out.kept hg2 (.inr HNE1.out))
              have HOD := Lib.hid ho2
              have HBD3 := Lib.hid (HBC.out.trans (below_grownBy hg2 hBC (fun q hq => (HOC.out.lt q hq).1)))
              have hne2 : some g1 ≠ some g2 := fun e => by
                rcases hat2 with h | h
                · exact HNE1.out (e.trans h.symm)
                · have := (HPC.out.lt g1 rfl).2; cases e; omega
              have HNE2 := Lib.hid hne2
              clear ho2 hg2 hat2 hne2 hcC
              go_wp2
              go_roundw
              case rel => exact ⟨k + 1, by omega, by go_num, Lib.hid (by rw [HQ.out, ints_append]; exact HPD.out), Lib.hid (by rw [upTo_succ, ints_append]; exact HOD.out), Lib.hid (.inr HNE2.out), HBD3.out⟩
              case measure => simp [intOf]; omega
            · obtain rfl : k = ws.length := by omega
              obtain ⟨gp, cp, hpv⟩ : ∃ g c, u4 = .slice (some ⟨g, 0, none⟩) ws.length c := by
                rcases HP.out.2 with ⟨_, h⟩ | ⟨g, c, _, h, _⟩
                · omega
                · exact ⟨g, c, h⟩
              obtain ⟨go, co, hov⟩ : ∃ g c, u7 = .slice (some ⟨g, 0, none⟩) ws.length c := by
                rcases HO.out.2 with ⟨_, h⟩ | ⟨g, c, _, h, _⟩
                · omega
                · exact ⟨g, c, h⟩
              subst hpv hov
              have hgo := (HO.out.lt go rfl).1
              have hne : gp ≠ go := fun e => by
                rcases HNE.out with h | h
                · cases h
                · exact h (by rw [e]; rfl)
              have HGO := Lib.hid hgo
              have HNEg := Lib.hid hne
              have h4 : w.heap.size + 2 < B := by have := HZ0.out; have := HZ1.out; have := BZ4.out; have := HBD2.out; omega
              have h5 : w0.heap.size < B := by have := HZ0.out; omega
              clear hne hgo HNE
              go_wp2_with fail
              refine (sortStable20_any amount T ws _ w.heap.size (w.heap.size + 1) w0.heap.size go co ws.length B (upTo ws.length) wo HO.out ⟨z1, z2, z3, HSL.out⟩ (by have := HGO.out; omega) (by have := HGO.out; omega) (by have := HGO.out; omega) (fun q hq => by have := HGO.out; have := hq.2; omega) hlen hl20 (fun x hx => mem_upTo.1 hx) (fun p q h1 h2 => by rw [at0_upTo (by omega), at0_upTo h2]; omega) hamt HBD.out hTb).mono ?_
              rintro e w5 ⟨rfl, ys, hoy, hgy, hys⟩
              clear z2 z3
              have z15 : w5.cell? ⟨w.heap.size, 0, none⟩ = some (.int .i64 amount) := hgy.cell z1 (by have := HGO.out; simp; omega)
              have hP5 := HP.out.kept hgy (.inr (by simpa [Value.ownBlock] using HNEg.out))
              have HP5 := Lib.hid hP5
              have HO5 := Lib.hid hoy
              have HYS := Lib.hid hys
              have HB5 := Lib.hid (HB.out.trans (below_grownBy hgy hBw (fun q hq => by cases hq; exact HGO.out)))
              have hLb := leftOf_bd (amount := amount) (ws := ws) (by rw [← HTS.out]; omega) hlen
              obtain ⟨L, hL⟩ : ∃ L : Nat, leftOf amount ws = L := ⟨(leftOf amount ws).toNat, by omega⟩
              obtain ⟨Sb, hSb⟩ : ∃ Sb, sumW (bases amount T ws ws.length) = Sb := ⟨_, rfl⟩
              have hbb : ∀ x ∈ bases amount T ws ws.length, -10000000000000 ≤ x ∧ x ≤ 10000000000000 := fun x hx => by
                simp only [bases, List.mem_map, List.mem_range] at hx
                obtain ⟨i, hi, rfl⟩ := hx
                rw [baseOf, getD_at hi]
                have hm := mul_bd hamt (HBD.out _ (List.getElem_mem hi))
                have h1 := Int.ediv_nonneg hm.1 (show 0 ≤ T by omega)
                have h2 := Int.ediv_le_self T hm.1
                omega
              have hSe : amount - Sb = L := by
                rw [← hSb, sumW_sum (B := 10000000000000) (by decide) _ hbb (by simp; omega), ← hL, leftOf, HTS.out]
              have hwL : IntKind.i64.wrap (amount - Sb) = (L : Int) := by rw [hSe]; exact wrap_small _ (by omega) (by omega)
              rw [hL] at hLb
              have hcap : ws.length ≤ co := by
                rcases HO5.out.2 with ⟨h, _⟩ | ⟨g, c, cur, h, _, _, h2, _⟩
                · cases h
                · cases h; exact h2
              have hLc : (L : Int) ≤ (co : Int) := by omega
              have hLcn : L ≤ co := by omega
              have HSB := Lib.hid hSb
              have HL := Lib.hid hL
              have hLn : L < ws.length := by omega
              clear hoy hgy hys z1 hP5 HP HO HB hbb hSe hLb hL hSb
              go_wp2_with fail
              refine wp_region_seq 8 [.is ?_, .is ?_, .is ?_, .is (.int .i64 Sb), .is ?_, .is (.slice (some ⟨go, 0, none⟩) L co), .is ?_, .is ?_] rfl mix (by kernel_rfl) (by kernel_rfl) ?seqm
              case seqm =>
                simp only [List.take_succ_cons, List.take_zero]
                iterate 3
                  refine seq_is rfl (fun w1 hb1 _ => ?_) ?_
                  · have z1' := bAt hb1 z15
                    simp [opOK, go_sem, z1', Below.refl]
                    try exact rfl
                  simp only [Act.put, List.setIfInBounds_toArray, List.set_cons_succ, List.set_cons_zero]
                refine seq_is rfl (fun w1 hb1 _ => ?_) ?_
                · refine opOK_call (f := 27) (args := #[.slice (some ⟨gp, 0, none⟩) ws.length cp]) (by simp [go_sem]) ?_
                  refine (total_any _ _ w1 (owns_sl (ownsN_below HP5.out hb1))).mono ?_
                  rintro e w2 ⟨rfl, rfl⟩
                  exact ⟨_, rfl, by rw [HSB.out], Below.refl _ _⟩
                simp only [Act.put, List.setIfInBounds_toArray, List.set_cons_succ, List.set_cons_zero]
                iterate 4
                  refine seq_is rfl (fun w1 hb1 _ => ?_) ?_
                  · simp [opOK, go_sem, hwL, hLc, Below.refl]
                    try exact rfl
                  simp only [Act.put, List.setIfInBounds_toArray, List.set_cons_succ, List.set_cons_zero]
                refine seq_end fun w6 hb6 _ => ?_
                simp only [List.drop_succ_cons, List.drop_zero]
                have HP6 : Hid (w6.ownsRow B 3 1 (.slice (some ⟨gp, 0, none⟩) ws.length cp) ws.length (ints (partsK amount T ws ys 0))) := Lib.hid (by rw [partsK_zero]; exact ownsN_below HP5.out hb6)
                have HO6 := Lib.hid (ownsN_below HO5.out hb6)
                have HB6 := Lib.hid (HB5.out.trans (hb6.mono (by have h1 := HB5.out.size; have := HBD2.out; omega)))
                have HYL := HYS.out.len
                rw [upTo_length] at HYL
                have HYLh := Lib.hid HYL
                clear HP5 HO5 HB5 hb6 z15 hwL hLc hLcn HYL
                go_wp2_with fail
                go_loopw [61] (fun iv wr => ∃ (k : Nat), k ≤ L ∧ iv = .int .i64 k ∧ Hid (wr.ownsRow B 3 1 (.slice (some ⟨gp, 0, none⟩) ws.length cp) ws.length (ints (partsK amount T ws ys k))) ∧ Hid (wr.ownsRow B 3 1 (.slice (some ⟨go, 0, none⟩) ws.length co) ws.length (ints ys)) ∧ Below B w4 wr) (fun iv _ => L - (intOf iv).toNat)
                case atStart => exact ⟨0, by omega, rfl, HP6, HO6, HB6.out⟩
                case round =>
                  clear HP6 HO6 HB6
                  obtain ⟨k, hk, rfl, HP, HO, hb⟩ := hrel
                  obtain ⟨wi, rfl⟩ : ∃ wi : World, wi = wr := ⟨_, rfl⟩
                  have HB := Lib.hid hb
                  clear hb
                  by_cases hlt : k < L
                  · have hkn : k < ws.length := by omega
                    have hrg := HYS.out.rng hkn
                    obtain ⟨y, hy⟩ : ∃ y : Nat, at0 ys k = y := ⟨(at0 ys k).toNat, by omega⟩
                    have hyl : y < ws.length := by omega
                    obtain ⟨Q, hQ⟩ : ∃ Q, at0 (partsK amount T ws ys k) y = Q := ⟨_, rfl⟩
                    have hys := HYLh.out
                    have k0 : wi.cell? ⟨go, k, none⟩ = some (.int .i64 y) := by rw [HO.out.cellAt k (by omega), intsAt (by omega), ← at0_eq (by omega), hy]
                    have p0 : wi.cell? ⟨gp, y, none⟩ = some (.int .i64 Q) := by rw [HP.out.cellAt y (by omega), intsAt (by simpa using hyl), ← at0_eq (by simpa using hyl), hQ]
                    have p0f := HP.out.frozenAt y
                    have hQb : 0 ≤ Q ∧ Q ≤ 10000000000001 := by
                      rw [← hQ, partsK_at hyl, baseOf, getD_at hyl]
                      have hm := mul_bd hamt (HBD.out _ (List.getElem_mem hyl))
                      have h1 := Int.ediv_nonneg hm.1 (show 0 ≤ T by omega)
                      have h2 := Int.ediv_le_self T hm.1
                      split <;> omega
                    have hwQ : IntKind.i64.wrap (Q + 1) = Q + 1 := wrap_small _ (by omega) (by omega)
                    obtain ⟨hP1, hg1⟩ := HP.out.stored y (.int .i64 (Q + 1))
                    rw [ints_set, ← hQ, partsK_succ (by rw [HTS.out]; rw [← HTS.out]; exact HYS.out) hkn hy, hQ] at hP1
                    have HP1 := Lib.hid hP1
                    have HO1 := Lib.hid (HO.out.kept hg1 (.inr (by simpa [Value.ownBlock] using fun e => HNEg.out e.symm)))
                    have HB1 := Lib.hid (HB.out.trans (below_grownBy hg1 (by have h1 := HB.out.size; have := HBD2.out; omega) (fun q hq => by cases hq; exact (HP.out.lt gp rfl).1)))
                    clear hP1 hg1 hQ hy hrg hQb hys
                    go_wp2
                    go_roundw
                    case rel => exact ⟨k + 1, by omega, by go_num, HP1, HO1, HB1.out⟩
                    case measure => simp [intOf]; omega
                  · obtain rfl : k = L := by omega
                    have hfin : partsK amount T ws ys k = rs := by rw [RS2.out, HTS.out]; exact partsK_end (by rw [← HTS.out]; exact HYS.out) HL.out.symm
                    have h1 := HP.out
                    rw [hfin] at h1
                    have H1' := Lib.hid h1
                    clear h1 hfin
                    go_wp2
                    go_returns
                    exact ⟨_, rfl, bThen HB4.out (HB.out.mono (by have := HBD2.out; omega)), (Sl.of_owns H1'.out).mono fun q hq => by have := BZ4.out; have := HZ1.out; have := HBD2.out; omega⟩
      · have er2 : er = 2 := by rw [ER.out]; simp
        have rs2 := NOK.out (by omega)
        clear ER RS NOK H20
        subst er2 rs2
        go_wp2
        go_returns
        exact ⟨_, rfl, HB4.out, Sl.nil _ _⟩
end Go.Proofs.Ytagfcodpgochjaa
