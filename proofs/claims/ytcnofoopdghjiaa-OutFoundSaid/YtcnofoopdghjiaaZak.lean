/- The texts RF, RG, RH, RI, RJ, in build order. -/
import Derived.Test.YtcnofoopdghjiaaZaj
import Derived.ArgAppend

/- Chapter 2, the references: Bogeys. -/
namespace Go.Proofs.Ytcnofoopdghjiaa
open Go.RowKit Go.Oche Go.Proofs

theorem owns_empty {W : World} {b base : Nat} {e : TypeId} {f : Nat × Nat} (h : W.heap[b]? = some (.cells #[] e f)) (hb : base ≤ b) (hf : f = (0, 0)) : W.ownsRow base e 1 (.slice (some ⟨b, 0, none⟩) 0 0) 0 [] := by
  subst hf
  exact ⟨rfl, .inr ⟨b, 0, #[], rfl, hb, h, Nat.le_refl _, Nat.zero_le _, rfl, rfl⟩⟩

set_option maxRecDepth 100000 in
set_option maxHeartbeats 1000000 in
theorem rBogeys_any {S : Nat → Prop} (bs : List Int) (g : Int) (d m : Nat) (v : Value) (w : World) (hs : Sl S w v (ints bs)) (hbs : ∀ b ∈ bs, bedOk b = true) (hbl : bs.length ≤ 82) (hg : gateOk g = true) (hd : d ≤ 9) (hm : m ≤ 1001) :
    Calls Try.prog 34 #[.agg #[v, .int .i64 g, .int .i64 d], .int .i64 m] w fun e w' => ∃ lv, e = .returned lv ∧ Below w.heap.size w w' ∧ Sl (fun k => w.heap.size ≤ k) w' lv (ints (bogTo (cnts g bs d m) d m)) := by
  obtain ⟨a, cap, rfl, _, _⟩ := hs.form
  simp only [ints_length] at *
  obtain ⟨w0, hw0⟩ : ∃ w0, w0 = w.alloc (.cells #[.slice a bs.length cap, .int .i64 g, .int .i64 d] 25) := ⟨_, rfl⟩
  have hb0 : Below w.heap.size w w0 := by rw [hw0]; exact aB _ _
  have h2 : w0.heap[w.heap.size]? = some (.cells #[.slice a bs.length cap, .int .i64 g, .int .i64 d] 25 (0, 0)) := by rw [hw0]; exact World.alloc_heap_new _ _
  have H2 := Lib.hid h2
  have HS := Lib.hid (hs.below hb0)
  have HBS := Lib.hid hbs
  have HG := Lib.hid hg
  have HW := Lib.hid hw0
  have hz0 : w.heap.size < w0.heap.size := (Array.getElem?_eq_some_iff.1 h2).1
  clear hs hbs hg hw0 h2
  go_enter Try.func34, Try.ntmps34
  go_wp2_with fail
  rw [← HW.out]
  refine (table_any bs g d m _ _ HS.out HBS.out hbl HG.out hd hm).mono ?_
  rintro e w1 ⟨lv, rfl, hb1, hR⟩
  obtain ⟨la, lc, rfl, l1, l2⟩ := Rows2.form hR
  rw [cnts_length] at *
  unfold maxLen at l2
  obtain ⟨w2, hw2⟩ : ∃ w2, w1.alloc (.cells #[] 3) = w2 := ⟨_, rfl⟩
  have hb2 : Below w1.heap.size w1 w2 := by rw [← hw2]; exact aB _ _
  have hz1 : w.heap.size < w1.heap.size := by have := hb1.size; omega
  have hbw : Below w.heap.size w w2 := (hb0.trans (hb1.mono (by omega))).trans (hb2.mono (by omega))
  have e2 : w2.cell? ⟨w.heap.size, 2, none⟩ = some (.int .i64 d) := bAt hb2 (by rw [cell_of_heap ((hb1.block _ hz0).trans H2.out)]; rfl)
  have hz2 : w.heap.size < w2.heap.size := by have := hb2.size; omega
  have HR := Lib.hid (hR.below hb2)
  obtain ⟨B, hB⟩ : ∃ B, w1.heap.size = B := ⟨_, rfl⟩
  have hnew : w2.ownsRow B 3 1 (.slice (some ⟨B, 0, none⟩) 0 0) 0 [] := by rw [← hw2, ← hB]; exact owns_empty (World.alloc_heap_new _ _) (Nat.le_refl _) rfl
  have hRS : ∀ k, w0.heap.size ≤ k → True := fun _ _ => trivial
  have HRl := Lib.hid (show Rows2 (fun k => k < B) w2 (.slice la (d + 1) lc) (cnts g bs d m) from by
    obtain ⟨vs, h1, h2, h3⟩ := hR
    have h4 : Rows2 (fun k => k < B) w1 (.slice la (d + 1) lc) (cnts g bs d m) := ⟨vs, h1.lt.mono (fun k hk => by rw [← hB]; exact hk.2), h2, fun i hi => let ⟨u, hu, hs⟩ := h3 i hi; ⟨u, hu, hs.lt.mono (fun k hk => by rw [← hB]; exact hk.2)⟩⟩
    exact h4.below hb2)
  have hzB : B ≤ w2.heap.size := by rw [← hB]; exact hb2.size
  have hNB : w.heap.size < B := by omega
  have HW2 := Lib.hid hw2
  have HB := Lib.hid hB
  clear hR hb1 hw2 hB hRS
  go_wp2_with fail
  rw [HW2.out, HB.out]
  go_loopw [6, 7] (fun lv i wr => ∃ k : Nat, 1 ≤ k ∧ k ≤ m + 1 ∧ i = .int .i64 k ∧ Below B w2 wr ∧ w2.heap.size ≤ wr.heap.size ∧ wr.ownsRow B 3 1 lv (bogTo (cnts g bs d m) d (k - 1)).length (ints (bogTo (cnts g bs d m) d (k - 1)))) (fun _ i _ => m + 1 - (intOf i).toNat)
  case atStart => exact ⟨1, by omega, by omega, rfl, Below.refl _ _, Nat.le_refl _, by simpa [bogTo] using hnew⟩
  case round =>
    obtain ⟨k, hk1, hk2, rfl, hbr, hszr, hown⟩ := hrel
    clear hnew
    obtain ⟨wo, rfl⟩ : ∃ wo : World, wo = wr := ⟨_, rfl⟩
    have f2 : wo.cell? ⟨w.heap.size, 2, none⟩ = some (.int .i64 d) := (hbr.cell (p := ⟨w.heap.size, 2, none⟩) (by simpa using hNB)).trans e2
    have HRo := Lib.hid (HRl.out.cells (W' := wo) (fun b o hb _ => hbr.cell (p := ⟨b, o, none⟩) hb))
    have HOWN := Lib.hid hown
    clear hown
    by_cases hlt : k ≤ m
    · have hdec : decide ((k : Int) ≤ (m : Int)) = true := by simp; omega
      go_wp2_with fail
      go_loop [8, 9] (fun c i => ∃ j : Nat, 1 ≤ j ∧ j ≤ d + 1 ∧ i = .int .i64 j ∧ c = .int .i64 (colSum (cnts g bs d m) k (j - 1))) (fun _ i => d + 1 - (intOf i).toNat)
      case atStart => exact ⟨1, by omega, by omega, rfl, by simp [colSum]⟩
      case round =>
        obtain ⟨j, hj1, hj2, rfl, rfl⟩ := hrel
        by_cases hlj : j ≤ d
        · obtain ⟨b1, o1, ra, rc, rfl, _, c1, s1⟩ := Rows2.cell HRo.out (show j < (cnts g bs d m).length by simp; omega)
          have hrl : ((cnts g bs d m)[j]'(by simp; omega)).length = m + 1 := (cnts_mem (g := g) hbl hd _ (List.getElem_mem _)).1
          obtain ⟨b2, o2, rfl, _, c2⟩ := s1.cell (show k < ((cnts g bs d m)[j]'(by simp; omega)).length by omega)
          have hsum : colSum (cnts g bs d m) k j = colSum (cnts g bs d m) k (j - 1) + ((cnts g bs d m)[j]'(by simp; omega)).getD k 0 := by
            have := colSum_succ (Cs := cnts g bs d m) (s := k) (k := j - 1) (by simp; omega)
            simpa only [show j - 1 + 1 = j by omega] using this
          have hb1 := cnts_colBd (g := g) (m := m) hbl hd k (j - 1) (by omega)
          have hb2 := cnts_colBd (g := g) (m := m) hbl hd k j (by omega)
          rw [hrl] at c1
          rw [getElem_getD (by omega)] at c2
          obtain ⟨u, hu⟩ : ∃ u, colSum (cnts g bs d m) k (j - 1) = u := ⟨_, rfl⟩
          obtain ⟨c, hc⟩ : ∃ c, ((cnts g bs d m)[j]'(by simp; omega)).getD k 0 = c := ⟨_, rfl⟩
          rw [hc] at c2 hsum
          rw [hu] at hsum hb1 ⊢
          rw [hsum] at hb2
          have hwr : IntKind.i64.wrap (u + c) = u + c := wrap_small _ (by omega) (by omega)
          have hi1 : (j : Int) < ((d : Int) + 1) := by omega
          have hi2 : (k : Int) < ((m : Int) + 1) := by omega
          have HSUM := Lib.hid hsum
          clear hsum hu hc s1 hrl
          go_wp2
          go_round
          case rel => exact ⟨j + 1, by omega, by omega, by go_num, by rw [show j + 1 - 1 = j by omega, HSUM.out]⟩
          case measure => simp [intOf]; omega
        · obtain rfl : j = d + 1 := by omega
          rw [Nat.add_sub_cancel]
          have HK : Hid (k - 1 + 1 = k) := Lib.hid (by omega)
          have hlen := bogTo_length (cnts g bs d m) d (k - 1)
          by_cases hz : colSum (cnts g bs d m) k d = 0
          · have HNX : Hid (bogTo (cnts g bs d m) d (k + 1 - 1) = bogTo (cnts g bs d m) d (k - 1) ++ [(k : Int)]) := Lib.hid (by
              have := bogTo_yes (Cs := cnts g bs d m) (d := d) (k := k - 1) (by rw [HK.out]; exact hz)
              rw [HK.out] at this
              rw [Nat.add_sub_cancel, this]
              congr 2
              have := HK.out; omega)
            have f0 : (colSum (cnts g bs d m) k d == 0) = true := by simp [hz]
            rw [hz]
            clear hz f0
            go_wp2_with (refine wpList_append1 rfl (.tmp 41) (.tmp 43) 45 rfl B 3 (.int .i64 0) 8 Try.underlying45 info3 rfl _ _ _ rfl (HOWN.out.alloc _) wo.heap.size 0 1 (.int .i64 k) rfl (cell_new _ _ _) rfl (by omega) (by omega) (by simp; omega) ?_)
            intro q7 c7 W7 ho hgr hat
            have hb7 : Below B w2 W7 := (hbr.alloc (by omega) _).grown hgr (by simp; omega) (fun j hj => (HOWN.out.lt j hj).1)
            have hz7 := hgr.size
            simp only [World.size_alloc] at hz7
            have HO := Lib.hid ho
            clear ho hgr hat
            go_wp2_with fail
            go_roundw
            case rel => exact ⟨k + 1, by omega, by omega, by go_num, hb7, by omega, by rw [HNX.out, ints_append, List.length_append]; exact HO.out⟩
            case measure => simp [intOf]; omega
          · have HNX : Hid (bogTo (cnts g bs d m) d (k + 1 - 1) = bogTo (cnts g bs d m) d (k - 1)) := Lib.hid (by
              have := bogTo_no (Cs := cnts g bs d m) (d := d) (k := k - 1) (by rw [HK.out]; exact hz)
              rw [HK.out] at this
              rw [Nat.add_sub_cancel, this])
            have f0 : (colSum (cnts g bs d m) k d == 0) = false := by simp [hz]
            go_wp2_with fail
            go_roundw
            case rel => exact ⟨k + 1, by omega, by omega, by go_num, hbr, hszr, by rw [HNX.out]; exact HOWN.out⟩
            case measure => simp [intOf]; omega
    · obtain rfl : k = m + 1 := by omega
      go_wp2
      go_ret
      refine ⟨_, rfl, hbw.trans (hbr.mono (by omega)), ?_⟩
      exact (Sl.of_owns HOWN.out).mono fun j hj => by omega
end Go.Proofs.Ytcnofoopdghjiaa

/- Chapter 2, the references: Legs. -/
namespace Go.Proofs.Ytcnofoopdghjiaa
open Go.RowKit Go.Oche Go.Proofs

theorem Rows2.old {S : Nat → Prop} {W : World} {v : Value} {xss : List (List Int)} {B : Nat} (h : Rows2 S W v xss) (hB : W.heap.size = B) : Rows2 (fun k => k < B) W v xss := by
  obtain ⟨vs, h1, h2, h3⟩ := h
  exact ⟨vs, h1.lt.mono (fun k hk => by rw [← hB]; exact hk.2), h2, fun i hi => let ⟨u, hu, hs⟩ := h3 i hi; ⟨u, hu, hs.lt.mono (fun k hk => by rw [← hB]; exact hk.2)⟩⟩
theorem aftR_cases (s b g : Int) : (aftOk g s b = true ∧ aftR s b g = s - worth b ∧ 0 ≤ s - worth b) ∨ (aftOk g s b = false ∧ aftR s b g = -1) := by
  unfold aftR
  cases h : aftOk g s b
  · exact .inr ⟨rfl, rfl⟩
  · exact .inl ⟨rfl, rfl, aftOk_bd h⟩

set_option maxRecDepth 100000 in
set_option maxHeartbeats 1000000 in
theorem rLegs_any {S : Nat → Prop} (bs : List Int) (gi go : Int) (st d : Nat) (v : Value) (w : World) (hs : Sl S w v (ints bs)) (hbs : ∀ b ∈ bs, bedOk b = true) (hbl : bs.length ≤ 82) (hgi : gateOk gi = true) (hgo : gateOk go = true) (hd1 : 1 ≤ d) (hd : d ≤ 9) (hm1 : 2 ≤ st) (hm : st ≤ 1001) :
    Calls Try.prog 37 #[.agg #[.int .i64 st, .int .i64 gi, .int .i64 go], v, .int .i64 d] w fun e w' => e = .returned (.int .i64 (psumIf (cntRow go bs st (d - 1)) gi (throwsL go st bs))) ∧ Below w.heap.size w w' := by
  obtain ⟨a, cap, rfl, _, h3⟩ := hs.form
  simp only [ints_length] at *
  unfold maxLen at h3
  obtain ⟨w0, hw0⟩ : ∃ w0, w0 = w.alloc (.cells #[.int .i64 st, .int .i64 gi, .int .i64 go] 55) := ⟨_, rfl⟩
  have hb0 : Below w.heap.size w w0 := by rw [hw0]; exact aB _ _
  have h2 : w0.heap[w.heap.size]? = some (.cells #[.int .i64 st, .int .i64 gi, .int .i64 go] 55 (0, 0)) := by rw [hw0]; exact World.alloc_heap_new _ _
  have H2 := Lib.hid h2
  have HS := Lib.hid (hs.below hb0)
  have HBS := Lib.hid hbs
  have HGI := Lib.hid hgi
  have HGO := Lib.hid hgo
  have HW := Lib.hid hw0
  have hz0 : w.heap.size < w0.heap.size := (Array.getElem?_eq_some_iff.1 h2).1
  clear hs hbs hgi hgo hw0 h2
  go_enter Try.func37, Try.ntmps37
  go_wp2_with fail
  rw [← HW.out]
  refine (table_any bs go d st _ _ HS.out HBS.out hbl HGO.out hd hm).mono ?_
  rintro e w1 ⟨lv, rfl, hb1, hR⟩
  obtain ⟨la, lc, rfl, l1, l2⟩ := Rows2.form hR
  rw [cnts_length] at *
  unfold maxLen at l2
  have hbw : Below w.heap.size w w1 := hb0.trans (hb1.mono (by omega))
  have hz1 := hb1.size
  have B2 := (hb1.block _ hz0).trans H2.out
  have e0 : w1.cell? ⟨w.heap.size, 0, none⟩ = some (.int .i64 st) := by rw [cell_of_heap B2]; rfl
  have e1 : w1.cell? ⟨w.heap.size, 1, none⟩ = some (.int .i64 gi) := by rw [cell_of_heap B2]; rfl
  have e2 : w1.cell? ⟨w.heap.size, 2, none⟩ = some (.int .i64 go) := by rw [cell_of_heap B2]; rfl
  have HS1 := Lib.hid (HS.out.below hb1)
  have HR := Lib.hid hR
  obtain ⟨C, hC⟩ : ∃ C, cntRow go bs st (d - 1) = C := ⟨_, rfl⟩
  have hCC : (cnts go bs d st)[d - 1]'(by simp; omega) = C := by simp [cnts, hC]
  have hCl : C.length = st + 1 := by rw [← hC]; exact cntRow_length _ _ _ _
  have hCb : ∀ c ∈ C, 0 ≤ c ∧ c ≤ (82 : Int) ^ (d - 1) := by rw [← hC]; exact cntRow_bd go hbl st (d - 1)
  have hpow : (0 : Int) ≤ 82 ^ (d - 1) ∧ (82 : Int) ^ (d - 1) * 82 ≤ 9223372036854775807 := by
    refine ⟨Int.pow_nonneg (by decide), ?_⟩
    have : ∀ j : Fin 9, (82 : Int) ^ (j : Nat) * 82 ≤ 9223372036854775807 := by decide
    exact this ⟨d - 1, by omega⟩
  obtain ⟨b9, o9, ra9, rc9, rfl, _, c9, s9⟩ := Rows2.cell HR.out (show d - 1 < (cnts go bs d st).length by simp; omega)
  rw [hCC] at c9 s9
  rw [hCl] at c9
  have S9 := Lib.hid s9
  have HCL := Lib.hid hCl
  have HCB := Lib.hid hCb
  have hwd : IntKind.i64.wrap ((d : Int) - 1) = ((d - 1 : Nat) : Int) := by rw [wrap_small _ (by omega) (by omega)]; omega
  have HWD := Lib.hid hwd
  have HCC := Lib.hid hC
  clear hR hb1 B2 hC hCC hCl hCb s9 hwd
  go_wp2_with fail
  go_loopw [8, 9] (fun c i wr => ∃ q : Nat, q ≤ bs.length ∧ i = .int .i64 q ∧ c = .int .i64 (psumIf C gi (throwsL go st (bs.take q))) ∧ Below w1.heap.size w1 wr) (fun _ i _ => bs.length - (intOf i).toNat)
  case atStart => exact ⟨0, by omega, rfl, by simp [psumIf, throwsL], Below.refl _ _⟩
  case round =>
    obtain ⟨q, hq, rfl, rfl, hb⟩ := hrel
    by_cases hlt : q < bs.length
    · obtain ⟨b, off, rfl, _, hcb⟩ := HS1.out.cell hlt
      obtain ⟨x, hx⟩ : ∃ x, bs[q] = x := ⟨_, rfl⟩
      rw [hx] at hcb
      have hxo : bedOk x = true := by rw [← hx]; exact HBS.out _ (List.getElem_mem hlt)
      have hwx := worth_bd hxo
      have f0 := bAt hb e0
      have f1 := bAt hb e1
      have f2 := bAt hb e2
      have f3 := bAt hb hcb
      have f9 := bAt hb c9
      have HX := Lib.hid hx
      have HXO := Lib.hid hxo
      have hac := aftR_cases st x go
      obtain ⟨y, hy⟩ : ∃ y, aftR st x go = y := ⟨_, rfl⟩
      rw [hy] at hac
      have HAC := Lib.hid hac
      have HY := Lib.hid hy
      obtain ⟨o, ho⟩ : ∃ o, opensG gi x = o := ⟨_, rfl⟩
      have HO := Lib.hid ho
      have hil : (q : Int) < (bs.length : Int) := by omega
      have hyb : -1 ≤ y ∧ y ≤ st := by rcases hac with h | h <;> omega
      obtain ⟨u, hu⟩ : ∃ u, psumIf C gi (throwsL go st (bs.take q)) = u := ⟨_, rfl⟩
      have hub := psumIf_bd (gi := gi) HCB.out hpow.1 (throwsL go st (bs.take q))
      have hlen2 := throwsL_length go st (bs.take q)
      rw [List.length_take] at hlen2
      have hu2 : (82 : Int) ^ (d - 1) * ((throwsL go st (bs.take q)).length : Int) ≤ 82 ^ (d - 1) * 81 := Int.mul_le_mul_of_nonneg_left (by omega) hpow.1
      rw [hu] at hub ⊢
      have HU := Lib.hid hu
      clear hcb hx hxo hac hy ho hu hlen2
      go_wp2_with fail
      refine wp_region_seq 10 [.is ?_, .is ?_, .is ?_, .is ?_, .is ?_, .is ?_, .is ?_, .is ?_, .is (.int .i64 y), .is ?_] rfl mix (by kernel_rfl) (by kernel_rfl) ?seqm
      case seqm =>
        simp only [List.take_succ_cons, List.take_zero]
        iterate 8
          refine seq_is rfl (fun w1 hb1 _ => ?_) ?_
          · have z0 := bAt hb1 f0
            have z2 := bAt hb1 f2
            have z3 := bAt hb1 f3
            simp [opOK, go_sem, z0, z2, z3, hil, Below.refl]
            try exact rfl
          simp only [Act.put, List.setIfInBounds_toArray, List.set_cons_succ, List.set_cons_zero]
        refine seq_is rfl (fun w1 hb1 _ => ?_) ?_
        · simp [opOK, go_sem]
          exact (rAfter_any st go x w1 HXO.out (by omega) (by omega) HGO.out).mono fun e w' h => ⟨_, h.1, by rw [HY.out], by rw [h.2]; exact Below.refl _ _⟩
        simp only [Act.put, List.setIfInBounds_toArray, List.set_cons_succ, List.set_cons_zero]
        refine seq_is rfl (fun w1 hb1 _ => ?_) ?_
        · simp [opOK, go_sem, Below.refl]
          try exact rfl
        simp only [Act.put, List.setIfInBounds_toArray, List.set_cons_succ, List.set_cons_zero]
        refine seq_end fun w5 hb5 _ => ?_
        simp only [List.drop_succ_cons, List.drop_zero]
        have hb' : Below w1.heap.size w1 w5 := hb.trans (hb5.mono hb.size)
        replace f1 := bAt hb5 f1
        replace f3 := bAt hb5 f3
        replace f9 := bAt hb5 f9
        clear f0 f2 hb hb5
        have HNO : o = false ∨ y < 0 → psumIf C gi (throwsL go st (bs.take (q + 1))) = u := fun h => by
          rcases HAC.out with h1 | h1
          · have ho : o = false := by rcases h with h | h; exact h; omega
            rw [throwsL_snoc_yes hlt (by omega) (by rw [HX.out]; exact h1.1), psumIf_no (by rw [HX.out, HO.out]; exact ho), HU.out]
          · rw [throwsL_snoc_no hlt (by rw [HX.out]; exact h1.1), HU.out]
        have HNO' := Lib.hid HNO
        clear HNO
        go_wp2_with fail
        cases o
        · refine wp_region_seq 11 [.is ?_, .is ?_, .is ?_, .is ?_, .is ?_, .is ?_, .is (.bool false), .is ?_, .is undef, .is undef, .is ?_] rfl mix (by kernel_rfl) (by kernel_rfl) ?seqn
          case seqn =>
            simp only [List.take_succ_cons, List.take_zero]
            iterate 6
              refine seq_is rfl (fun w1 hb1 _ => ?_) ?_
              · have z1 := bAt hb1 f1
                have z3 := bAt hb1 f3
                simp [opOK, go_sem, z1, z3, hil, Below.refl]
                try exact rfl
              simp only [Act.put, List.setIfInBounds_toArray, List.set_cons_succ, List.set_cons_zero]
            refine seq_is rfl (fun w1 hb1 _ => ?_) ?_
            · simp [opOK, go_sem]
              exact (ropens_any gi x w1 (bedOk_i64 HXO.out) HGI.out).mono fun e w' h => ⟨_, h.1, by rw [HO.out], by rw [h.2]; exact Below.refl _ _⟩
            simp only [Act.put, List.setIfInBounds_toArray, List.set_cons_succ, List.set_cons_zero]
            refine seq_is rfl (fun w1 hb1 _ => ?_) ?_
            · simp [opOK, go_sem, Below.refl]
              try exact rfl
            simp only [Act.put, List.setIfInBounds_toArray, List.set_cons_succ, List.set_cons_zero]
            iterate 2
              refine seq_off (by rfl) ?_
              simp only [Act.put, List.setIfInBounds_toArray, List.set_cons_succ, List.set_cons_zero]
            refine seq_is rfl (fun w1 hb1 _ => ?_) ?_
            · simp [opOK, go_sem, Below.refl]
              try exact rfl
            simp only [Act.put, List.setIfInBounds_toArray, List.set_cons_succ, List.set_cons_zero]
            refine seq_end fun w6 hb6 _ => ?_
            simp only [List.drop_succ_cons, List.drop_zero]
            have hb'' : Below w1.heap.size w1 w6 := hb'.trans (hb6.mono hb'.size)
            clear f1 f3 f9
            go_wp2
            go_roundw
            case rel => exact ⟨q + 1, by omega, by go_num, by rw [HNO'.out (.inl rfl)], hb''⟩
            case measure => simp [intOf]; omega
        · refine wp_region_seq 11 [.is ?_, .is ?_, .is ?_, .is ?_, .is ?_, .is ?_, .is (.bool true), .is ?_, .is ?_, .is ?_, .is ?_] rfl mix (by kernel_rfl) (by kernel_rfl) ?seqn
          case seqn =>
            simp only [List.take_succ_cons, List.take_zero]
            iterate 6
              refine seq_is rfl (fun w1 hb1 _ => ?_) ?_
              · have z1 := bAt hb1 f1
                have z3 := bAt hb1 f3
                simp [opOK, go_sem, z1, z3, hil, Below.refl]
                try exact rfl
              simp only [Act.put, List.setIfInBounds_toArray, List.set_cons_succ, List.set_cons_zero]
            refine seq_is rfl (fun w1 hb1 _ => ?_) ?_
            · simp [opOK, go_sem]
              exact (ropens_any gi x w1 (bedOk_i64 HXO.out) HGI.out).mono fun e w' h => ⟨_, h.1, by rw [HO.out], by rw [h.2]; exact Below.refl _ _⟩
            simp only [Act.put, List.setIfInBounds_toArray, List.set_cons_succ, List.set_cons_zero]
            refine seq_is rfl (fun w1 hb1 _ => ?_) ?_
            · simp [opOK, go_sem, Below.refl]
              try exact rfl
            simp only [Act.put, List.setIfInBounds_toArray, List.set_cons_succ, List.set_cons_zero]
            iterate 2
              refine seq_on (by rfl) (fun w1 hb1 _ => ?_) ?_
              · simp [opOK, go_sem, Below.refl]
                try exact rfl
              simp only [Act.put, List.setIfInBounds_toArray, List.set_cons_succ, List.set_cons_zero]
            refine seq_is rfl (fun w1 hb1 _ => ?_) ?_
            · simp [opOK, go_sem, Below.refl]
              try exact rfl
            simp only [Act.put, List.setIfInBounds_toArray, List.set_cons_succ, List.set_cons_zero]
            refine seq_end fun w6 hb6 _ => ?_
            simp only [List.drop_succ_cons, List.drop_zero]
            have hb'' : Below w1.heap.size w1 w6 := hb'.trans (hb6.mono hb'.size)
            replace f9 := bAt hb6 f9
            clear f1 f3
            by_cases hyp : 0 ≤ y
            · obtain ⟨y, rfl⟩ : ∃ y' : Nat, y = y' := ⟨y.toNat, by omega⟩
              have hAy : aftOk go st x = true ∧ (y : Int) = st - worth x := by
                rcases HAC.out with h1 | h1
                · exact ⟨h1.1, h1.2.1⟩
                · omega
              have hys : y < C.length := by rw [HCL.out]; omega
              obtain ⟨b10, o10, e10, _, c10⟩ := S9.out.cell hys
              subst e10
              have g10 := bAt hb'' c10
              rw [getElem_getD hys] at g10
              have hcb := getD_bd HCB.out hpow.1 y
              have hnx : psumIf C gi (throwsL go st (bs.take (q + 1))) = u + C.getD y 0 := by
                rw [throwsL_snoc_yes hlt (by omega) (by rw [HX.out]; exact hAy.1), psumIf_yes (by rw [HX.out]; exact HO.out), HU.out, HX.out, ← hAy.2]; simp
              have HNX := Lib.hid hnx
              obtain ⟨c, hc⟩ : ∃ c, C.getD y 0 = c := ⟨_, rfl⟩
              rw [hc] at g10 hcb
              have HC := Lib.hid hc
              have hwr : IntKind.i64.wrap (u + c) = u + c := wrap_small _ (by omega) (by omega)
              have hwd := HWD.out
              have hi1 : ((d - 1 : Nat) : Int) < ((d : Int) + 1) := by omega
              have hi2 : (y : Int) < ((st : Int) + 1) := by omega
              clear hc hnx hAy c10 hys
              go_wp2
              go_roundw
              case rel => exact ⟨q + 1, by omega, by go_num, by rw [HNX.out, HC.out], hb''⟩
              case measure => simp [intOf]; omega
            · go_wp2
              go_roundw
              case rel => exact ⟨q + 1, by omega, by go_num, by rw [HNO'.out (.inr (by omega))], hb''⟩
              case measure => simp [intOf]; omega
    · obtain rfl : q = bs.length := by omega
      go_wp2
      go_ret
      exact ⟨ret_int (by rw [HCC.out, List.take_length]), hbw.trans (hb.mono hbw.size)⟩
end Go.Proofs.Ytcnofoopdghjiaa

/- Chapter 2, the references: Closed. -/
namespace Go.Oche
open Go Go.RowKit
theorem Sl.cellB {S : Nat → Prop} {w : World} {a : Option Addr} {n cap : Nat} {xs : List Bool} (h : Sl S w (.slice a n cap) (bools xs)) {k : Nat} (hk : k < xs.length) : ∃ b off, a = some ⟨b, off, none⟩ ∧ S b ∧ w.cell? ⟨b, off + k, none⟩ = some (.bool xs[k]) := by
  obtain ⟨a', cap', e, _, _, h4⟩ := h
  cases e
  exact h4 k _ (bools_at hk)
end Go.Oche
namespace Go.Proofs.Ytcnofoopdghjiaa
open Go.RowKit Go.Oche Go.Proofs

theorem closedAt_no {g : Int} {bs : List Int} {nv : List Bool} {s : Nat} (h : nv.getD s false = false) : closedAt g bs nv s = true := by unfold closedAt; rw [h]; simp
theorem closedAt_all {g : Int} {bs : List Int} {nv : List Bool} {s : Nat} (hs : s ≠ 0) (h : ∀ t ∈ throwsL g s bs, nv.getD t.2.toNat false = true) : closedAt g bs nv s = true := by
  have : ((throwsL g s bs).all fun t => nv.getD t.2.toNat false) = true := List.all_eq_true.2 h
  unfold closedAt
  rw [this]; simp [hs]
theorem closedAt_bad {g : Int} {bs : List Int} {nv : List Bool} {s : Nat} (hn : nv.getD s false = true) {t : Int × Int} (ht : t ∈ throwsL g s bs) (h : nv.getD t.2.toNat false = false) : closedAt g bs nv s = false := by
  have : ((throwsL g s bs).all fun t => nv.getD t.2.toNat false) = false := by rw [List.all_eq_false]; exact ⟨t, ht, by rw [h]; simp⟩
  unfold closedAt
  rw [this, hn]; simp
theorem getD_bool {nv : List Bool} {s : Nat} (h : s < nv.length) : nv.getD s false = nv[s] := by rw [List.getD_eq_getElem?_getD]; simp [h]

set_option maxRecDepth 100000 in
set_option maxHeartbeats 2000000 in
theorem rClosed_any {S S' : Nat → Prop} (bs : List Int) (g d : Int) (nv : List Bool) (v vn : Value) (w : World) (hs : Sl S w v (ints bs)) (hsn : Sl S' w vn (bools nv)) (hbs : ∀ b ∈ bs, bedOk b = true) (hbl : bs.length ≤ 82) (hg : gateOk g = true) (hnl : nv.length ≤ 1002) :
    Calls Try.prog 31 #[.agg #[v, .int .i64 g, .int .i64 d], vn] w fun e w' => e = .returned (.bool (closedB g bs nv)) ∧ Below w.heap.size w w' := by
  obtain ⟨a, cap, rfl, _, h3⟩ := hs.form
  obtain ⟨an, capn, rfl, _, h3n⟩ := hsn.form
  simp only [ints_length, bools_length] at *
  unfold maxLen at h3 h3n
  obtain ⟨w0, hw0⟩ : ∃ w0, w0 = w.alloc (.cells #[.slice a bs.length cap, .int .i64 g, .int .i64 d] 25) := ⟨_, rfl⟩
  have hb0 : Below w.heap.size w w0 := by rw [hw0]; exact aB _ _
  have h2 : w0.heap[w.heap.size]? = some (.cells #[.slice a bs.length cap, .int .i64 g, .int .i64 d] 25 (0, 0)) := by rw [hw0]; exact World.alloc_heap_new _ _
  have e0 : w0.cell? ⟨w.heap.size, 0, none⟩ = some (.slice a bs.length cap) := by rw [cell_of_heap h2]; rfl
  have e1 : w0.cell? ⟨w.heap.size, 1, none⟩ = some (.int .i64 g) := by rw [cell_of_heap h2]; rfl
  have HS := Lib.hid (hs.below hb0)
  have HN := Lib.hid (hsn.below hb0)
  have HBS := Lib.hid hbs
  have HG := Lib.hid hg
  have HW := Lib.hid hw0
  clear hs hsn hbs hg hw0 h2
  have first : ∀ (hc : ∀ h : 0 < nv.length, nv[0] = false), ∀ j, j < 1 → j < nv.length → closedAt g bs nv j = true := fun hc j hj hjl => by
    obtain rfl : j = 0 := by omega
    exact closedAt_no (by rw [getD_bool hjl]; exact hc hjl)
  have FIRST := Lib.hid first
  clear first
  have main : (∀ h : 0 < nv.length, nv[0] = false) → Calls Try.prog 31 #[.agg #[.slice a bs.length cap, .int .i64 g, .int .i64 d], .slice an nv.length capn] w fun e w' => e = .returned (.bool (closedB g bs nv)) ∧ Below w.heap.size w w' := by
    intro hc
    have F1 := Lib.hid (FIRST.out hc)
    have HCC := Lib.hid hc
    clear hc
    have c00 : 0 < nv.length → ∃ b off, an = some ⟨b, off, none⟩ ∧ w0.cell? ⟨b, off, none⟩ = some (.bool false) := fun h => by
      obtain ⟨b, off, e, _, hcl⟩ := HN.out.cellB h
      refine ⟨b, off, e, ?_⟩
      rw [HCC.out h] at hcl; simpa using hcl
    have C00 := Lib.hid c00
    clear c00
    by_cases h0 : 0 < nv.length
    · obtain ⟨b0, o0, rfl, c0⟩ := C00.out h0
      rw [HW.out] at c0
      rw [HW.out] at e0 e1
      go_enter Try.func31, Try.ntmps31
      go_wp2
      clear c0
      rw [← HW.out]
      rw [← HW.out] at e0 e1
      go_loopw [5] (fun i wr => ∃ s : Nat, 1 ≤ s ∧ (s ≤ nv.length ∨ s = 1) ∧ i = .int .i64 s ∧ (∀ j, j < s → j < nv.length → closedAt g bs nv j = true) ∧ Below w0.heap.size w0 wr) (fun i _ => nv.length + 1 - (intOf i).toNat)
      case atStart => exact ⟨1, by omega, by omega, rfl, F1.out, Below.refl _ _⟩
      case round =>
        obtain ⟨s, hs1, hs2, rfl, hp, hb⟩ := hrel
        have HP := Lib.hid hp
        clear hp
        obtain ⟨wo, rfl⟩ : ∃ wo : World, wo = wr := ⟨_, rfl⟩
        by_cases hlt : s < nv.length
        · have hdec : decide ((s : Int) < (nv.length : Int)) = true := by simp; omega
          obtain ⟨bn, on, hane, _, hcn⟩ := HN.out.cellB hlt
          cases hane
          obtain ⟨ns, hns⟩ : ∃ b, nv[s] = b := ⟨_, rfl⟩
          rw [hns] at hcn
          have hgd : nv.getD s false = ns := by rw [getD_bool hlt]; exact hns
          have HNS := Lib.hid hgd
          have hils : (s : Int) < (nv.length : Int) := by omega
          clear hns hgd
          go_wp2_with fail
          go_loopw [6] (fun i wr => ∃ q : Nat, q ≤ bs.length ∧ i = .int .i64 q ∧ (ns = true → ∀ t ∈ throwsL g s (bs.take q), nv.getD t.2.toNat false = true) ∧ (ns = false → q = 0) ∧ Below w0.heap.size w0 wr) (fun i _ => bs.length - (intOf i).toNat)
          case atStart => exact ⟨0, by omega, rfl, fun _ t ht => by simp [throwsL] at ht, fun _ => rfl, hb⟩
          case round =>
            obtain ⟨q, hq, rfl, hq2, hq3, hb5⟩ := hrel
            obtain ⟨W5, rfl⟩ : ∃ W5 : World, W5 = wr := ⟨_, rfl⟩
            have f0 := bAt hb5 e0
            have f1 := bAt hb5 e1
            have fn := bAt hb5 hcn
            have HQ2 := Lib.hid hq2
            have HQ3 := Lib.hid hq3
            clear hq2 hq3 hb
            by_cases hql : q < bs.length
            · cases ns
              · go_wp2_with fail
                go_roundw
                case rel => exact ⟨s + 1, by omega, by omega, by go_num, fun j hj hjl => by
                  by_cases e : j = s
                  · subst e; exact closedAt_no HNS.out
                  · exact HP.out j (by omega) hjl, hb5⟩
                case measure => simp [intOf]; omega
              · obtain ⟨b, off, hae, _, hcb⟩ := HS.out.cell hql
                cases hae
                obtain ⟨x, hx⟩ : ∃ x, bs[q] = x := ⟨_, rfl⟩
                rw [hx] at hcb
                have hxo : bedOk x = true := by rw [← hx]; exact HBS.out _ (List.getElem_mem hql)
                have hwx := worth_bd hxo
                have f3 := bAt hb5 hcb
                have HX := Lib.hid hx
                have HXO := Lib.hid hxo
                have hac := aftR_cases s x g
                obtain ⟨y, hy⟩ : ∃ y, aftR s x g = y := ⟨_, rfl⟩
                rw [hy] at hac
                have HAC := Lib.hid hac
                have HY := Lib.hid hy
                have hil : (q : Int) < (bs.length : Int) := by omega
                have hyb : -1 ≤ y ∧ y < s := by rcases hac with h | h <;> omega
                clear hcb hx hxo hac hy
                go_wp2_with fail
                refine wp_region_seq 10 [.is ?_, .is ?_, .is ?_, .is ?_, .is ?_, .is ?_, .is ?_, .is ?_, .is (.int .i64 y), .is ?_] rfl mix (by kernel_rfl) (by kernel_rfl) ?seqm
                case seqm =>
                  simp only [List.take_succ_cons, List.take_zero]
                  iterate 8
                    refine seq_is rfl (fun w1 hb1 _ => ?_) ?_
                    · have z0 := bAt hb1 f0
                      have z1 := bAt hb1 f1
                      have z3 := bAt hb1 f3
                      simp [opOK, go_sem, z0, z1, z3, hil, Below.refl]
                      try exact rfl
                    simp only [Act.put, List.setIfInBounds_toArray, List.set_cons_succ, List.set_cons_zero]
                  refine seq_is rfl (fun w1 hb1 _ => ?_) ?_
                  · simp [opOK, go_sem]
                    exact (rAfter_any s g x w1 HXO.out (by omega) (by omega) HG.out).mono fun e w' h => ⟨_, h.1, by rw [HY.out], by rw [h.2]; exact Below.refl _ _⟩
                  simp only [Act.put, List.setIfInBounds_toArray, List.set_cons_succ, List.set_cons_zero]
                  refine seq_is rfl (fun w1 hb1 _ => ?_) ?_
                  · simp [opOK, go_sem, Below.refl]
                    try exact rfl
                  simp only [Act.put, List.setIfInBounds_toArray, List.set_cons_succ, List.set_cons_zero]
                  refine seq_end fun w5 hb6 _ => ?_
                  simp only [List.drop_succ_cons, List.drop_zero]
                  have hb' : Below w0.heap.size w0 w5 := hb5.trans (hb6.mono hb5.size)
                  clear f0 f1 f3 fn hb6
                  by_cases hyp : 0 ≤ y
                  · obtain ⟨y, rfl⟩ : ∃ y' : Nat, y = y' := ⟨y.toNat, by omega⟩
                    have hAy : aftOk g s x = true ∧ (y : Int) = s - worth x := by
                      rcases HAC.out with h1 | h1
                      · exact ⟨h1.1, h1.2.1⟩
                      · omega
                    have hyn : y < nv.length := by omega
                    have hyn2 : (y : Int) < (nv.length : Int) := by omega
                    obtain ⟨b', off', e', _, hcy⟩ := HN.out.cellB hyn
                    cases e'
                    have gy := bAt hb' hcy
                    obtain ⟨r, hr⟩ : ∃ r, nv[y] = r := ⟨_, rfl⟩
                    rw [hr] at gy
                    have hgy : nv.getD y false = r := by rw [getD_bool hyn]; exact hr
                    have HGY := Lib.hid hgy
                    have hsn := throwsL_snoc_yes (g := g) (s := (s : Int)) hql (by omega) (by rw [HX.out]; exact hAy.1)
                    have HSN := Lib.hid hsn
                    obtain ⟨post, hpost⟩ := throwsL_split (g := g) (s := (s : Int)) hql (by omega) (by rw [HX.out]; exact hAy.1)
                    have HPO := Lib.hid hpost
                    have HAY := Lib.hid hAy
                    clear hcy hr hgy hsn hpost hAy
                    cases r
                    · go_wp2
                      go_ret
                      refine ⟨ret_bool ?_, (hb0.trans (hb'.mono hb0.size))⟩
                      symm
                      refine closedB_bad hlt (closedAt_bad HNS.out (t := (bs[q], (s : Int) - worth bs[q])) ?_ ?_)
                      · rw [HPO.out]; simp
                      · rw [HX.out, ← HAY.out.2]; simpa using HGY.out
                    · go_wp2
                      go_roundw
                      case rel => exact ⟨q + 1, by omega, by go_num, fun _ t ht => by
                        rw [HSN.out, List.mem_append, List.mem_singleton] at ht
                        rcases ht with ht | rfl
                        · exact HQ2.out (by trivial) t ht
                        · rw [HX.out, ← HAY.out.2]; simpa using HGY.out, (fun h => by cases h), hb'⟩
                      case measure => simp [intOf]; omega
                  · have hno : aftOk g s x = false := by
                      rcases HAC.out with h1 | h1
                      · omega
                      · exact h1.1
                    have HNO := Lib.hid hno
                    clear hno
                    go_wp2
                    go_roundw
                    case rel => exact ⟨q + 1, by omega, by go_num, fun h t ht => by
                      rw [throwsL_snoc_no hql (by rw [HX.out]; exact HNO.out)] at ht
                      exact HQ2.out h t ht, (fun h => by cases h), hb'⟩
                    case measure => simp [intOf]; omega
            · obtain rfl : q = bs.length := by omega
              go_wp2_with fail
              go_roundw
              case rel => exact ⟨s + 1, by omega, by omega, by go_num, fun j hj hjl => by
                by_cases e : j = s
                · subst e
                  cases ns
                  · exact closedAt_no HNS.out
                  · refine closedAt_all (by omega) fun t ht => HQ2.out (by trivial) t ?_
                    rw [List.take_length]; exact ht
                · exact HP.out j (by omega) hjl, hb5⟩
              case measure => simp [intOf]; omega
        · go_wp2
          go_ret
          exact ⟨ret_bool (closedB_all fun j hj => HP.out j (by omega) hj).symm, hb0.trans (hb.mono hb0.size)⟩
    · obtain rfl : nv = [] := List.eq_nil_of_length_eq_zero (by omega)
      simp only [List.length_nil] at *
      clear e0 e1
      go_enter Try.func31, Try.ntmps31
      go_wp2
      go_loop [5] (fun i => i = .int .i64 1) (fun _ => 0)
      case atStart => rfl
      case round =>
        subst hrel
        go_wp2
        go_ret
        exact ⟨ret_bool rfl, aB _ _⟩
  by_cases h0 : 0 < nv.length
  · cases hn0 : nv[0]
    · exact main fun _ => hn0
    · obtain ⟨b, off, rfl, _, hcl⟩ := HN.out.cellB h0
      rw [hn0, HW.out] at hcl
      have hcl' : (w.alloc (.cells #[.slice a bs.length cap, .int .i64 g, .int .i64 d] 25)).cell? ⟨b, off, none⟩ = some (.bool true) := by simpa using hcl
      have HF : Hid (closedB g bs nv = false) := Lib.hid (closedB_bad h0 (by unfold closedAt; rw [getD_bool h0, hn0]; simp))
      clear hn0 main hcl e0 e1
      go_enter Try.func31, Try.ntmps31
      go_wp2
      go_ret
      exact ⟨ret_bool HF.out.symm, aB _ _⟩
  · exact main fun h => (h0 h).elim
end Go.Proofs.Ytcnofoopdghjiaa

/- Chapter 2, the references: Fewest. -/
namespace Go.Proofs.Ytcnofoopdghjiaa
open Go.RowKit Go.Oche Go.Proofs

set_option maxRecDepth 100000 in
set_option maxHeartbeats 2000000 in
theorem rFewest_any {S : Nat → Prop} (bs : List Int) (g d : Int) (m : Nat) (v : Value) (w : World) (hs : Sl S w v (ints bs)) (hbs : ∀ b ∈ bs, bedOk b = true) (hbl : bs.length ≤ 82) (hg : gateOk g = true) (hm : m ≤ 1001) :
    Calls Try.prog 33 #[.agg #[v, .int .i64 g, .int .i64 d], .int .i64 m] w fun e w' => ∃ lv, e = .returned lv ∧ Below w.heap.size w w' ∧ Sl (fun k => w.heap.size ≤ k) w' lv (ints (fewTo g bs m)) := by
  obtain ⟨a, cap, rfl, _, h3⟩ := hs.form
  simp only [ints_length] at *
  unfold maxLen at h3
  obtain ⟨w0, hw0⟩ : ∃ w0, w0 = (w.alloc (.cells #[.slice a bs.length cap, .int .i64 g, .int .i64 d] 25)).alloc (.cells #[.int .i64 0] 3) := ⟨_, rfl⟩
  have hb0 : Below w.heap.size w w0 := by rw [hw0]; exact (aB _ _).trans ((aB _ _).mono (by simp))
  have h2 : w0.heap[w.heap.size]? = some (.cells #[.slice a bs.length cap, .int .i64 g, .int .i64 d] 25 (0, 0)) := by rw [hw0, Below.heap_alloc _ _ _ (by simp)]; exact World.alloc_heap_new _ _
  have h5 : w0.heap[w.heap.size + 1]? = some (.cells #[.int .i64 0] 3 (0, 0)) := by
    rw [hw0]; have := World.alloc_heap_new (w.alloc (.cells #[.slice a bs.length cap, .int .i64 g, .int .i64 d] 25)) (.cells #[.int .i64 0] 3); rw [World.size_alloc] at this; exact this
  have e0 : w0.cell? ⟨w.heap.size, 0, none⟩ = some (.slice a bs.length cap) := by rw [cell_of_heap h2]; rfl
  have e1 : w0.cell? ⟨w.heap.size, 1, none⟩ = some (.int .i64 g) := by rw [cell_of_heap h2]; rfl
  obtain ⟨B, hB⟩ : ∃ B, w.heap.size + 1 = B := ⟨_, rfl⟩
  have hown0 : w0.ownsRow B 3 1 (.slice (some ⟨B, 0, none⟩) 1 1) 1 (ints (fewTo g bs 0)) := by
    rw [← hB]
    exact ⟨rfl, .inr ⟨_, 1, _, rfl, Nat.le_refl _, h5, Nat.le_refl _, by unfold maxLen; omega, rfl, rfl⟩⟩
  have hzB : B < w0.heap.size := by rw [← hB]; exact (Array.getElem?_eq_some_iff.1 h5).1
  have hNB : w.heap.size < B := by omega
  have HSL := Lib.hid (show Sl (fun k => k < B) w0 (.slice a bs.length cap) (ints bs) from (hs.lt.below hb0).mono fun k hk => by have := hk.2; omega)
  have HBS := Lib.hid hbs
  have HG := Lib.hid hg
  have HW := Lib.hid hw0
  have HB := Lib.hid hB
  clear hs hbs hg h2 h5 hw0 hB
  go_enter Try.func33, Try.ntmps33
  go_wp2_with fail
  rw [← HW.out, HB.out]
  go_loopw [5, 6] (fun lv i wr => ∃ k : Nat, 1 ≤ k ∧ k ≤ m + 1 ∧ i = .int .i64 k ∧ Below B w0 wr ∧ w0.heap.size ≤ wr.heap.size ∧ wr.ownsRow B 3 1 lv k (ints (fewTo g bs (k - 1)))) (fun _ i _ => m + 1 - (intOf i).toNat)
  case atStart => exact ⟨1, by omega, by omega, rfl, Below.refl _ _, Nat.le_refl _, hown0⟩
  case round =>
    obtain ⟨k, hk1, hk2, rfl, hbr, hszr, hown⟩ := hrel
    clear hown0
    obtain ⟨wo, rfl⟩ : ∃ wo : World, wo = wr := ⟨_, rfl⟩
    obtain ⟨q5, c5, rfl⟩ := owns_pos hown (by omega)
    by_cases hlt : k ≤ m
    · have hdec : decide ((k : Int) ≤ (m : Int)) = true := by simp; omega
      have f0 : wo.cell? ⟨w.heap.size, 0, none⟩ = some (.slice a bs.length cap) := (hbr.cell (p := ⟨w.heap.size, 0, none⟩) (by simpa using hNB)).trans e0
      have f1 : wo.cell? ⟨w.heap.size, 1, none⟩ = some (.int .i64 g) := (hbr.cell (p := ⟨w.heap.size, 1, none⟩) (by simpa using hNB)).trans e1
      have HS1 := Lib.hid (HSL.out.cells (w' := wo) (fun b o hb _ => hbr.cell (p := ⟨b, o, none⟩) hb))
      obtain ⟨f, hf⟩ : ∃ f, fewTo g bs (k - 1) = f := ⟨_, rfl⟩
      have hfl : f.length = k := by rw [← hf, fewTo_length]; omega
      have hfb : ∀ x ∈ f, -1 ≤ x ∧ x ≤ (k : Int) := fun x hx => by
        have := fewTo_bd g bs (k - 1) x (by rw [hf]; exact hx); omega
      have hnx : fewTo g bs k = f ++ [bestOf f (throwsL g k bs)] := by
        have e : ((k - 1 : Nat) : Int) + 1 = k := by omega
        have h := show fewTo g bs (k - 1 + 1) = fewTo g bs (k - 1) ++ [bestOf (fewTo g bs (k - 1)) (throwsL g (((k - 1 : Nat) : Int) + 1) bs)] from rfl
        rw [hf, e, show k - 1 + 1 = k by omega] at h
        exact h
      rw [hf] at hown
      have HOWN := Lib.hid hown
      have HFL := Lib.hid hfl
      have HFB := Lib.hid hfb
      have HNX := Lib.hid hnx
      clear hown hfl hfb hnx hf
      go_wp2_with fail
      go_loopw [7, 8] (fun c i wr => ∃ q : Nat, q ≤ bs.length ∧ i = .int .i64 q ∧ c = .int .i64 (bestOf f (throwsL g k (bs.take q))) ∧ Below wo.heap.size wo wr) (fun _ i _ => bs.length - (intOf i).toNat)
      case atStart => exact ⟨0, by omega, rfl, by simp [throwsL, bestOf], Below.refl _ _⟩
      case round =>
        obtain ⟨q, hq, rfl, rfl, hb5⟩ := hrel
        obtain ⟨W5, rfl⟩ : ∃ W5 : World, W5 = wr := ⟨_, rfl⟩
        by_cases hql : q < bs.length
        · obtain ⟨b, off, hae, _, hcb⟩ := HS1.out.cell hql
          cases hae
          obtain ⟨x, hx⟩ : ∃ x, bs[q] = x := ⟨_, rfl⟩
          rw [hx] at hcb
          have hxo : bedOk x = true := by rw [← hx]; exact HBS.out _ (List.getElem_mem hql)
          have hwx := worth_bd hxo
          have g0 := bAt hb5 f0
          have g1 := bAt hb5 f1
          have g3 := bAt hb5 hcb
          have HX := Lib.hid hx
          have HXO := Lib.hid hxo
          have hac := aftR_cases k x g
          obtain ⟨y, hy⟩ : ∃ y, aftR k x g = y := ⟨_, rfl⟩
          rw [hy] at hac
          have HAC := Lib.hid hac
          have HY := Lib.hid hy
          have hil : (q : Int) < (bs.length : Int) := by omega
          have hyb : -1 ≤ y ∧ y < k := by rcases hac with h | h <;> omega
          have hub := bestOf_bd (n := (k : Int)) (by omega) HFB.out (throwsL g k (bs.take q))
          obtain ⟨u, hu⟩ : ∃ u, bestOf f (throwsL g k (bs.take q)) = u := ⟨_, rfl⟩
          rw [hu] at hub ⊢
          have HU := Lib.hid hu
          clear hcb hx hxo hac hy hu
          go_wp2_with fail
          refine wp_region_seq 10 [.is ?_, .is ?_, .is ?_, .is ?_, .is ?_, .is ?_, .is ?_, .is ?_, .is (.int .i64 y), .is ?_] rfl mix (by kernel_rfl) (by kernel_rfl) ?seqm
          case seqm =>
            simp only [List.take_succ_cons, List.take_zero]
            iterate 8
              refine seq_is rfl (fun w1 hb1 _ => ?_) ?_
              · have z0 := bAt hb1 g0
                have z1 := bAt hb1 g1
                have z3 := bAt hb1 g3
                simp [opOK, go_sem, z0, z1, z3, hil, Below.refl]
                try exact rfl
              simp only [Act.put, List.setIfInBounds_toArray, List.set_cons_succ, List.set_cons_zero]
            refine seq_is rfl (fun w1 hb1 _ => ?_) ?_
            · simp [opOK, go_sem]
              exact (rAfter_any k g x w1 HXO.out (by omega) (by omega) HG.out).mono fun e w' h => ⟨_, h.1, by rw [HY.out], by rw [h.2]; exact Below.refl _ _⟩
            simp only [Act.put, List.setIfInBounds_toArray, List.set_cons_succ, List.set_cons_zero]
            refine seq_is rfl (fun w1 hb1 _ => ?_) ?_
            · simp [opOK, go_sem, Below.refl]
              try exact rfl
            simp only [Act.put, List.setIfInBounds_toArray, List.set_cons_succ, List.set_cons_zero]
            refine seq_end fun w5 hb6 _ => ?_
            simp only [List.drop_succ_cons, List.drop_zero]
            have hb' : Below wo.heap.size wo w5 := hb5.trans (hb6.mono hb5.size)
            clear g0 g1 g3 hb6
            by_cases hyp : 0 ≤ y
            · obtain ⟨y, rfl⟩ : ∃ y' : Nat, y = y' := ⟨y.toNat, by omega⟩
              have hAy : aftOk g k x = true ∧ (y : Int) = k - worth x := by
                rcases HAC.out with h1 | h1
                · exact ⟨h1.1, h1.2.1⟩
                · omega
              have hyk : y < k := by omega
              have hyf : y < f.length := by rw [HFL.out]; exact hyk
              have hi2 : (y : Int) < (k : Int) := by omega
              have gy := bAt hb' (own_cell HOWN.out (intsAt hyf))
              have hpb := HFB.out _ (List.getElem_mem hyf)
              obtain ⟨p, hp⟩ : ∃ p, f[y] = p := ⟨_, rfl⟩
              rw [hp] at gy hpb
              have hgp : f.getD y 0 = p := by rw [← getElem_getD hyf]; exact hp
              have hsn : bestOf f (throwsL g k (bs.take (q + 1))) = if p ≠ -1 ∧ (u = -1 ∨ p + 1 < u) then p + 1 else u := by
                rw [throwsL_snoc_yes hql (by omega) (by rw [HX.out]; exact hAy.1), bestOf_snoc, HU.out, HX.out, ← hAy.2]
                simp only [bestStep, Int.toNat_natCast]
                rw [hgp]
              have HSN := Lib.hid hsn
              have hwr : IntKind.i64.wrap (1 + p) = 1 + p := wrap_small _ (by omega) (by omega)
              clear hp hgp hsn hAy
              by_cases hp1 : 0 ≤ p
              · by_cases hu1 : u < 0
                · go_wp2
                  go_roundw
                  case rel => exact ⟨q + 1, by omega, by go_num, by
                    rw [HSN.out, if_pos ⟨by omega, .inl (by omega)⟩]; first | rfl | (congr 1; omega), hb'⟩
                  case measure => simp [intOf]; omega
                · by_cases hlt2 : 1 + p < u
                  · go_wp2
                    go_roundw
                    case rel => exact ⟨q + 1, by omega, by go_num, by
                      rw [HSN.out, if_pos ⟨by omega, .inr (by omega)⟩]; first | rfl | (congr 1; omega), hb'⟩
                    case measure => simp [intOf]; omega
                  · go_wp2
                    go_roundw
                    case rel => exact ⟨q + 1, by omega, by go_num, by
                      rw [HSN.out, if_neg (fun h => by rcases h.2 with h | h <;> omega)], hb'⟩
                    case measure => simp [intOf]; omega
              · go_wp2
                go_roundw
                case rel => exact ⟨q + 1, by omega, by go_num, by
                  rw [HSN.out, if_neg (fun h => h.1 (by omega))], hb'⟩
                case measure => simp [intOf]; omega
            · have hno : aftOk g k x = false := by
                rcases HAC.out with h1 | h1
                · omega
                · exact h1.1
              have HNO := Lib.hid hno
              clear hno
              go_wp2
              go_roundw
              case rel => exact ⟨q + 1, by omega, by go_num, by
                rw [throwsL_snoc_no hql (by rw [HX.out]; exact HNO.out), HU.out], hb'⟩
              case measure => simp [intOf]; omega
        · obtain rfl : q = bs.length := by omega
          rw [List.take_length]
          obtain ⟨u, hu⟩ : ∃ u, bestOf f (throwsL g k bs) = u := ⟨_, rfl⟩
          rw [hu]
          have HU := Lib.hid hu
          have g0 := bAt hb5 f0
          have hO5 := HOWN.out.kept (w' := W5) (row := none) (grownBy_none hb5) (by simp [Value.ownBlock])
          have hb5' : Below B w0 W5 := hbr.trans (hb5.mono (by omega))
          have hz5 := hb5.size
          have HO5 := Lib.hid hO5
          clear hu hO5 hb5
          go_wp2_with (refine wpList_append1 rfl (.tmp 59) (.tmp 61) 45 rfl B 3 (.int .i64 0) 8 Try.underlying45 info3 rfl _ _ _ rfl (HO5.out.alloc _) W5.heap.size 0 1 (.int .i64 u) rfl (cell_new _ _ _) rfl (by omega) (by omega) (by simp; omega) ?_)
          clear g0
          intro q7 c7 W7 ho hgr hat
          have hb7 : Below B w0 W7 := (hb5'.alloc (by omega) _).grown hgr (by simp; omega) (fun j hj => (HO5.out.lt j hj).1)
          have hz7 := hgr.size
          simp only [World.size_alloc] at hz7
          have HO := Lib.hid ho
          clear ho hgr hat
          go_wp2_with fail
          go_roundw
          case rel => exact ⟨k + 1, by omega, by omega, by go_num, hb7, by omega, by rw [Nat.add_sub_cancel, HNX.out, HU.out, ints_append]; exact HO.out⟩
          case measure => simp [intOf]; omega
    · obtain rfl : k = m + 1 := by omega
      go_wp2
      go_ret
      rw [Nat.add_sub_cancel] at hown
      exact ⟨_, rfl, hb0.trans (hbr.mono (by omega)), (Sl.of_owns hown).mono fun j hj => by omega⟩
end Go.Proofs.Ytcnofoopdghjiaa

/- Chapter 2: appending to a list of beds under construction, within a region. -/
namespace Go.Proofs.Ytcnofoopdghjiaa
open Go.RowKit Go.Oche Go.Proofs

/-- A list of beds under construction, in blocks from N on: an empty one lies anywhere. -/
def AccAt (N : Nat) (W : World) (v : Value) (xs : List Value) : Prop := (xs = [] ∧ ∃ b, v = .slice (some ⟨b, 0, none⟩) 0 0) ∨ (xs ≠ [] ∧ W.ownsRow N 61 1 v xs.length xs)
theorem AccAt.below {N : Nat} {W W' : World} {v : Value} {xs : List Value} (h : AccAt N W v xs) (hb : Below W.heap.size W W') : AccAt N W' v xs := by
  rcases h with h | ⟨h1, h2⟩
  · exact .inl h
  · exact .inr ⟨h1, owns_keep h2 (fun q hq => hb.block q (h2.lt q hq).2) hb.size⟩
theorem AccAt.form {N : Nat} {W : World} {v : Value} {xs : List Value} (h : AccAt N W v xs) : ∃ b cap, v = .slice (some ⟨b, 0, none⟩) xs.length cap := by
  rcases h with ⟨rfl, b, rfl⟩ | ⟨h1, h2⟩
  · exact ⟨b, 0, rfl⟩
  · exact owns_pos h2 (List.length_pos_iff.2 h1)
theorem AccAt.sl {N : Nat} {W : World} {v : Value} {xs : List Value} (h : AccAt N W v xs) : Sl (fun k => N ≤ k) W v xs := by
  rcases h with ⟨rfl, b, rfl⟩ | ⟨h1, h2⟩
  · exact ⟨some ⟨b, 0, none⟩, 0, rfl, Nat.le_refl _, Nat.zero_le _, fun i x hx => by simp at hx⟩
  · exact Sl.of_owns h2

theorem ints_one {l : List Int} : ∀ u ∈ ints l, u.oneCell' = true := fun u hu => by
  obtain ⟨x, _, rfl⟩ := List.mem_map.1 hu; rfl
theorem run_append_none (W : World) (b c2 : Nat) (ad : Addr) (n cap : Nat) (h : n ≤ cap) : (Builtin.append_ #[22, 22] 22 #[.slice (some ⟨b, 0, none⟩) n cap, .slice (some ad) 0 c2]).run Try.prog W = .ok (.slice (some ⟨b, 0, none⟩) n cap) W := by
  obtain ⟨i0, hi, hz0', hz1, hz2⟩ := info_parts info61
  simp [Builtin.append_, run_underlying Try.underlying22, sizeOf, typeInfo, hi, Builtin.lenOf, h, Builtin.firstCells, loadCells, loadCellsFrom, storeCells]

/-- Appending some beds, each known. -/
theorem acc_append {N : Nat} {W : World} {v : Value} {xs : List Value} (h : AccAt N W v xs) (hx : xs.length ≤ 100) (ad : Addr) (m c : Nat) (news : List Value) (hm : news.length = m) (hm2 : m ≤ 100)
    (hnews : ∀ j u, news[j]? = some u → W.cell? (ad.add j) = some u) (h1 : ∀ u ∈ news, u.oneCell' = true) (hN : N ≤ W.heap.size) :
    ∃ v' W', (Builtin.append_ #[22, 22] 22 #[v, .slice (some ad) m c]).run Try.prog W = .ok v' W' ∧ AccAt N W' v' (xs ++ news) ∧ AccAt N W' v xs ∧ Below N W W' ∧ (xs = [] → Below W.heap.size W W') ∧ ∀ b x, W.cell? ⟨b, 0, none⟩ = some x → W'.cell? ⟨b, 0, none⟩ = some x := by
  obtain ⟨i0, hi, hz0', hz1, hz2⟩ := info_parts info61
  by_cases hm0 : m = 0
  · have : news = [] := List.eq_nil_of_length_eq_zero (by omega)
    subst this
    subst hm0
    obtain ⟨b, cap, rfl⟩ := h.form
    have hcap : xs.length ≤ cap := by
      obtain ⟨a, c, e, h2, _⟩ := h.sl
      cases e; exact h2
    exact ⟨_, W, run_append_none W b c ad _ cap hcap, by simpa using h, h, Below.refl _ _, fun _ => Below.refl _ _, fun _ _ h => h⟩
  · have hne : news ≠ [] := fun e => hm0 (by rw [← hm, e]; rfl)
    rcases h with ⟨rfl, b, rfl⟩ | ⟨h1x, h2⟩
    · obtain ⟨v', W', hr, ho, hg⟩ := run_append_arg_grows (P := Try.prog) W 22 22 61 i0 (.int .i64 0) 1 8 Try.underlying22 hi hz0' hz1 hz2 rfl (by decide) ⟨b, 0, none⟩ 0 0 [] rfl (fun j u hj => by simp at hj) ad m c news (by omega) hnews (by omega) (by unfold maxLen; omega) (by omega)
      have hb : Below W.heap.size W W' := below_grownBy hg (Nat.le_refl _) (fun k hk => by cases hk)
      refine ⟨v', W', hr, .inr ⟨by simpa using hne, ?_⟩, .inl ⟨rfl, b, rfl⟩, hb.mono hN, fun _ => hb, fun _ _ h => bAt hb h⟩
      have := ho
      simp only [Nat.zero_add, List.nil_append] at this ⊢
      rw [hm]
      refine ⟨this.1, ?_⟩
      rcases this.2 with h | ⟨g, cap, cur, e, hb, rest⟩
      · exact .inl h
      · exact .inr ⟨g, cap, cur, e, by omega, rest⟩
    · have hxl : 0 < xs.length := List.length_pos_iff.2 h1x
      obtain ⟨g, cap, rfl⟩ := owns_pos h2 hxl
      have hlt := h2.lt g rfl
      have hres : ∀ (v' : Value) (W' : World), W'.ownsRow N 61 1 v' (xs.length + m) (xs ++ news) → AccAt N W' v' (xs ++ news) := fun v' W' ho => .inr ⟨by simp [h1x], by rw [List.length_append, hm]; exact ho⟩
      rcases h2.2 with ⟨h, _⟩ | ⟨g', cap', cur, e, hbg, hg, hnc, hcm, hcs, htake⟩
      · cases h
      · simp only [Value.slice.injEq, Option.some.injEq, Addr.mk.injEq, and_true, true_and] at e
        obtain ⟨rfl, rfl⟩ := e
        by_cases hroom : xs.length + m ≤ cap
        · have hfit : xs.length * i0.size + news.length ≤ cur.size := by rw [hz1, hcs, hm]; omega
          have hr := run_append_room (P := Try.prog) W 22 22 61 i0 Try.underlying22 hi g xs.length cap cur hg ad m c news (by rw [hz1]; omega) hnews h1 hroom hfit
          rw [hz1] at hr
          simp only [Nat.mul_one] at hr hcs htake
          have hh := setRow_heap W g cur (cur.toList.take xs.length ++ news ++ cur.toList.drop (xs.length + news.length)).toArray 61 (0, 0) hg
          have hsz : (cur.toList.take xs.length ++ news ++ cur.toList.drop (xs.length + news.length)).toArray.size = cap := by
            simp only [List.size_toArray, List.length_append, List.length_take, List.length_drop, Array.length_toList]; omega
          have hb : Below N W (W.setRow g (cur.toList.take xs.length ++ news ++ cur.toList.drop (xs.length + news.length)).toArray) := ⟨rfl, rfl, rfl, by simp, fun k hk => setRow_other W g k _ (by omega)⟩
          refine ⟨_, _, hr, hres _ _ ⟨by simp [hm], .inr ⟨g, cap, _, rfl, hbg, hh, hroom, hcm, by rw [hsz, Nat.mul_one], ?_⟩⟩, .inr ⟨h1x, by simp, .inr ⟨g, cap, _, rfl, hbg, hh, by omega, hcm, by rw [hsz, Nat.mul_one], ?_⟩⟩, hb, fun e => (h1x e).elim, fun b x hx => ?_⟩
          · rw [htake]
            simp only [Nat.mul_one]
            rw [show xs.length + m = (xs ++ news).length by simp [hm]]
            exact List.take_left
          · rw [htake]
            simp only [Nat.mul_one, List.append_assoc]
            exact List.take_left
          · by_cases hbq : b = g
            · subst hbq
              rw [cell_of_heap hg] at hx
              rw [cell_of_heap hh, ← hx, ← Array.getElem?_toList, ← Array.getElem?_toList]
              simp only [List.append_assoc]
              rw [List.getElem?_append_left (by simp; omega), List.getElem?_take, if_pos hxl]
            · simp only [World.cell?] at hx ⊢; rw [setRow_other W g b _ hbq]; exact hx
        · have holds : ∀ j u, xs[j]? = some u → W.cell? ((⟨g, 0, none⟩ : Addr).add j) = some u := h2.cells (g := g) rfl
          obtain ⟨v', W', hr, ho, hgr⟩ := run_append_arg_grows (P := Try.prog) W 22 22 61 i0 (.int .i64 0) 1 8 Try.underlying22 hi hz0' hz1 hz2 rfl (by decide) ⟨g, 0, none⟩ xs.length cap xs (by omega) holds ad m c news (by omega) hnews (by omega) (by unfold maxLen; omega) (by omega)
          have hb : Below W.heap.size W W' := below_grownBy hgr (Nat.le_refl _) (fun k hk => by cases hk)
          refine ⟨v', W', hr, hres _ _ ⟨ho.1, ?_⟩, .inr ⟨h1x, owns_keep h2 (fun q hq => hb.block q (h2.lt q hq).2) hb.size⟩, hb.mono hN, fun e => (h1x e).elim, fun _ _ h => bAt hb h⟩
          rcases ho.2 with h | ⟨g2, cap2, cur2, e, hb2, rest⟩
          · exact .inl h
          · exact .inr ⟨g2, cap2, cur2, e, by omega, rest⟩
/-- Appending nothing at all. -/
theorem acc_append_nil (W : World) (b c : Nat) : (Builtin.append_ #[22, 22] 22 #[.slice (some ⟨b, 0, none⟩) 0 0, .slice none 0 c]).run Try.prog W = .ok (.slice (some ⟨b, 0, none⟩) 0 0) W := by
  obtain ⟨i0, hi, hz0', hz1, hz2⟩ := info_parts info61
  simp [Builtin.append_, run_underlying Try.underlying22, sizeOf, typeInfo, hi, Builtin.lenOf, Builtin.firstCells, loadCells, loadCellsFrom, storeCells]
theorem slice_from (b off n cap k : Nat) (hk : k ≤ n) (hn : n ≤ cap) (_hc : cap ≤ maxLen) : ∃ ad : Addr, (∀ w, (Instr.sliceAt 22 (.slice (some ⟨b, off, none⟩) n cap) (some (.int .i64 (k : Int))) none none).run Try.prog w = .ok (.slice (some ad) (n - k) (cap - k)) w) ∧ (k < cap → ad = ⟨b, off + k, none⟩) := by
  obtain ⟨i0, hi, hz0', hz1, hz2⟩ := info_parts info61
  unfold maxLen at _hc
  by_cases h : cap = k
  · subst h
    refine ⟨⟨b, off, none⟩, fun w => ?_, fun h => by omega⟩
    have : ((cap : Int) ≤ (n : Int)) := by omega
    simp [Instr.sliceAt, Instr.slice, Instr.sliceBounds, Instr.sliceBound, run_underlying Try.underlying22, sizeOf, typeInfo, hi, asIntOf, go_sem]
    intro hh; omega
  · refine ⟨⟨b, off + k, none⟩, fun w => ?_, fun _ => rfl⟩
    have : ((k : Int) ≤ (n : Int)) := by omega
    simp [Instr.sliceAt, Instr.slice, Instr.sliceBounds, Instr.sliceBound, run_underlying Try.underlying22, sizeOf, typeInfo, hi, hz1, asIntOf, h, go_sem]
    intro hh; omega
theorem slice_to (b off n cap k : Nat) (hk : k ≤ cap) : ∀ w, (Instr.sliceAt 22 (.slice (some ⟨b, off, none⟩) n cap) none (some (.int .i64 (k : Int))) none).run Try.prog w = .ok (.slice (some ⟨b, off, none⟩) k cap) w := by
  intro w
  obtain ⟨i0, hi, hz0', hz1, hz2⟩ := info_parts info61
  have : ((k : Int) ≤ (cap : Int)) := by omega
  by_cases h : cap = 0
  · simp [Instr.sliceAt, Instr.slice, Instr.sliceBounds, Instr.sliceBound, run_underlying Try.underlying22, sizeOf, typeInfo, hi, asIntOf, h, go_sem]
    intro hh; omega
  · simp [Instr.sliceAt, Instr.slice, Instr.sliceBounds, Instr.sliceBound, run_underlying Try.underlying22, sizeOf, typeInfo, hi, asIntOf, go_sem]
    intro hh; omega
end Go.Proofs.Ytcnofoopdghjiaa
