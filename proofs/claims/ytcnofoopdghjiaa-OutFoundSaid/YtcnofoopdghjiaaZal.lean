/- The texts RK, PR, RL, RM, in build order. -/
import Derived.Test.YtcnofoopdghjiaaZak

/- Chapter 2, the references: Forced. -/
namespace Go.Proofs.Ytcnofoopdghjiaa
open Go.RowKit Go.Oche Go.Proofs

set_option maxRecDepth 100000 in
set_option maxHeartbeats 2000000 in
theorem rForced_any {S : Nat → Prop} (bs : List Int) (g : Int) (d s : Nat) (v : Value) (w : World) (hs : Sl S w v (ints bs)) (hbs : ∀ b ∈ bs, bedOk b = true) (hbl : bs.length ≤ 82) (hg : gateOk g = true) (hd : d ≤ 9) (hm : s ≤ 1001) :
    Calls Try.prog 27 #[.agg #[v, .int .i64 g, .int .i64 d], .int .i64 s] w fun e w' => ∃ lv, e = .returned lv ∧ Below w.heap.size w w' ∧ Sl (fun k => w.heap.size ≤ k) w' lv (ints (forcedTo g bs d s bs.length)) := by
  obtain ⟨a, cap, rfl, hc1, h3⟩ := hs.form
  simp only [ints_length] at *
  unfold maxLen at h3
  obtain ⟨w0, hw0⟩ : ∃ w0, w0 = (w.alloc (.cells #[.slice a bs.length cap, .int .i64 g, .int .i64 d] 25)).alloc (.cells #[] 61) := ⟨_, rfl⟩
  have hb0 : Below w.heap.size w w0 := by rw [hw0]; exact (aB _ _).trans ((aB _ _).mono (by simp))
  have h2 : w0.heap[w.heap.size]? = some (.cells #[.slice a bs.length cap, .int .i64 g, .int .i64 d] 25 (0, 0)) := by rw [hw0, Below.heap_alloc _ _ _ (by simp)]; exact World.alloc_heap_new _ _
  have h5 : w0.heap[w.heap.size + 1]? = some (.cells #[] 61 (0, 0)) := by
    rw [hw0]; have := World.alloc_heap_new (w.alloc (.cells #[.slice a bs.length cap, .int .i64 g, .int .i64 d] 25)) (.cells #[] 61); rw [World.size_alloc] at this; exact this
  have e0 : w0.cell? ⟨w.heap.size, 0, none⟩ = some (.slice a bs.length cap) := by rw [cell_of_heap h2]; rfl
  have e1 : w0.cell? ⟨w.heap.size, 1, none⟩ = some (.int .i64 g) := by rw [cell_of_heap h2]; rfl
  have e2 : w0.cell? ⟨w.heap.size, 2, none⟩ = some (.int .i64 d) := by rw [cell_of_heap h2]; rfl
  obtain ⟨B, hB⟩ : ∃ B, w.heap.size + 1 = B := ⟨_, rfl⟩
  have hown0 : w0.ownsRow B 61 1 (.slice (some ⟨B, 0, none⟩) 0 0) 0 [] := by rw [← hB]; exact owns_empty h5 (Nat.le_refl _) rfl
  have hzB : B < w0.heap.size := by rw [← hB]; exact (Array.getElem?_eq_some_iff.1 h5).1
  have hNB : w.heap.size < B := by omega
  have HSL := Lib.hid (show Sl (fun k => k < B) w0 (.slice a bs.length cap) (ints bs) from (hs.lt.below hb0).mono fun k hk => by have := hk.2; omega)
  have HBS := Lib.hid hbs
  have HG := Lib.hid hg
  have HW := Lib.hid hw0
  have HB := Lib.hid hB
  clear hs hbs hg h2 h5 hw0 hB
  go_enter Try.func27, Try.ntmps27
  go_wp2_with fail
  rw [← HW.out, HB.out]
  go_loopw [5, 6] (fun lv i wr => ∃ k : Nat, k ≤ bs.length ∧ i = .int .i64 k ∧ Below B w0 wr ∧ w0.heap.size ≤ wr.heap.size ∧ wr.ownsRow B 61 1 lv (forcedTo g bs d s k).length (ints (forcedTo g bs d s k))) (fun _ i _ => bs.length - (intOf i).toNat)
  case atStart => exact ⟨0, by omega, rfl, Below.refl _ _, Nat.le_refl _, by simpa [forcedTo] using hown0⟩
  case round =>
    obtain ⟨k, hk, rfl, hbr, hszr, hown⟩ := hrel
    rename_i u5 _ _
    clear hown0
    obtain ⟨wo, rfl⟩ : ∃ wo : World, wo = wr := ⟨_, rfl⟩
    have f0 : wo.cell? ⟨w.heap.size, 0, none⟩ = some (.slice a bs.length cap) := (hbr.cell (p := ⟨w.heap.size, 0, none⟩) (by simpa using hNB)).trans e0
    have f1 : wo.cell? ⟨w.heap.size, 1, none⟩ = some (.int .i64 g) := (hbr.cell (p := ⟨w.heap.size, 1, none⟩) (by simpa using hNB)).trans e1
    have f2 : wo.cell? ⟨w.heap.size, 2, none⟩ = some (.int .i64 d) := (hbr.cell (p := ⟨w.heap.size, 2, none⟩) (by simpa using hNB)).trans e2
    have HOWN := Lib.hid hown
    clear hown
    by_cases hlt : k < bs.length
    · have hdec : decide ((k : Int) < (bs.length : Int)) = true := by simp; omega
      have HS1 := Lib.hid (HSL.out.cells (w' := wo) (fun b o hb _ => hbr.cell (p := ⟨b, o, none⟩) hb))
      obtain ⟨b, off, hae, _, hcb⟩ := HS1.out.cell hlt
      cases hae
      obtain ⟨W1, hW1⟩ : ∃ W1, wo.alloc (.cells #[.slice (some ⟨b, off, none⟩) bs.length cap, .int .i64 g, .int .i64 d] 25) = W1 := ⟨_, rfl⟩
      obtain ⟨X, hX⟩ : ∃ X, wo.heap.size = X := ⟨_, rfl⟩
      have hb1 : Below X wo W1 := by rw [← hW1, ← hX]; exact aB _ _
      have hX1 : W1.heap[X]? = some (.cells #[.slice (some ⟨b, off, none⟩) bs.length cap, .int .i64 g, .int .i64 d] 25 (0, 0)) := by rw [← hW1, ← hX]; exact World.alloc_heap_new _ _
      have g0 := bAt (hX ▸ hb1) f0
      have hXB : B < X := by omega
      have HS2 := Lib.hid (HS1.out.below (hX ▸ hb1))
      have HX := Lib.hid hX
      have HW1 := Lib.hid hW1
      have HX1 := Lib.hid hX1
      have hXs : X < W1.heap.size := (Array.getElem?_eq_some_iff.1 hX1).1
      have hs21 := slice_to b off bs.length cap k (by omega)
      obtain ⟨ad, hs27, had⟩ := slice_from b off bs.length cap (k + 1) (by omega) hc1 (by unfold maxLen; omega)
      rw [Int.natCast_add, Int.natCast_one] at hs27
      have hwk : IntKind.i64.wrap ((k : Int) + 1) = (k : Int) + 1 := wrap_small _ (by omega) (by omega)
      have hl1 : (ints (bs.take k)).length = k := by simp; omega
      have hl2 : (ints (bs.drop (k + 1))).length = bs.length - (k + 1) := by simp
      have hcell : ∀ w1, Below W1.heap.size W1 w1 → ∀ j (hj : j < bs.length), w1.cell? ⟨b, off + j, none⟩ = some (.int .i64 bs[j]) := fun w1 hb j hj => by
        obtain ⟨b', off', e, _, hc⟩ := HS2.out.cell hj
        cases e; exact bAt hb hc
      have hn1 : ∀ w1, Below W1.heap.size W1 w1 → ∀ j u, (ints (bs.take k))[j]? = some u → w1.cell? ((⟨b, off, none⟩ : Addr).add j) = some u := fun w1 hb j u hj => by
        have hjk : j < k := by have := (List.getElem?_eq_some_iff.1 hj).1; omega
        rw [intsAt (by simp; omega)] at hj
        cases hj
        rw [addr_add, List.getElem_take]
        exact hcell w1 hb j (by omega)
      have hn2 : ∀ w1, Below W1.heap.size W1 w1 → ∀ j u, (ints (bs.drop (k + 1)))[j]? = some u → w1.cell? (ad.add j) = some u := fun w1 hb j u hj => by
        have hjk : j < bs.length - (k + 1) := by have := (List.getElem?_eq_some_iff.1 hj).1; omega
        rw [intsAt (by simpa using hjk)] at hj
        cases hj
        rw [had (by omega), addr_add, List.getElem_drop, Nat.add_assoc]
        exact hcell w1 hb _ (by omega)
      have HN1 := Lib.hid hn1
      have HN2 := Lib.hid hn2
      have HL1 := Lib.hid hl1
      have HL2 := Lib.hid hl2
      have G0 := Lib.hid g0
      clear hn1 hn2 hl1 hl2 hcell hX hW1 hX1 had hb1 g0
      go_wp2_with fail
      rw [HW1.out, HX.out]
      clear f0 f1 f2
      have g0 := G0.out
      refine wp_region_seq 12 [⟨fun v => ∃ b, v = .slice (some ⟨b, 0, none⟩) 0 0, fun _ _ => True, fun _ _ _ _ h => h⟩, .is ?_, .is ?_, .is ?_, .is ?_,
        ⟨fun v => ∃ b c, v = .slice (some ⟨b, 0, none⟩) k c, fun v w => AccAt W1.heap.size w v (ints (bs.take k)), fun v w w' hb h => h.below hb⟩, .is ?_, .is ?_, .is ?_, .is ?_, .is ?_,
        ⟨fun v => ∃ b n c, v = .slice (some ⟨b, 0, none⟩) n c, fun v w => AccAt W1.heap.size w v (ints (bs.take k) ++ ints (bs.drop (k + 1))), fun v w w' hb h => h.below hb⟩] rfl mix (by kernel_rfl) (by kernel_rfl) ?seqm
      case seqm =>
        simp only [List.take_succ_cons, List.take_zero]
        refine seq_new ⟨_, 0, rfl⟩ (by rfl) (fun w1 hb _ => ?_) ?_
        · simp [opOK, go_sem]
          exact aB _ _
        rintro v17 ⟨b17, rfl⟩
        simp only [Act.put, List.setIfInBounds_toArray, List.set_cons_succ, List.set_cons_zero]
        iterate 4
          refine seq_is rfl (fun w1 hb1 _ => ?_) ?_
          · have z0 := bAt hb1 g0
            simp [opOK, go_sem, z0, hs21, Below.refl]
            try exact rfl
          simp only [Act.put, List.setIfInBounds_toArray, List.set_cons_succ, List.set_cons_zero]
        refine seq_new ⟨_, 0, 0, rfl⟩ (by rfl) (fun w1 hb1 _ => ?_) ?_
        · obtain ⟨v', W', hrun, ha1, _, _, hb, _⟩ := acc_append (N := W1.heap.size) (W := w1) (v := .slice (some ⟨b17, 0, none⟩) 0 0) (xs := []) (.inl ⟨rfl, b17, rfl⟩) (by simp) ⟨b, off, none⟩ k cap (ints (bs.take k)) HL1.out (by omega) (HN1.out w1 hb1) ints_one hb1.size
          refine opOK_append_run (v1 := .slice (some ⟨b17, 0, none⟩) 0 0) (v2 := .slice (some ⟨b, off, none⟩) k cap) (.tmp 17) (.tmp 21) 22 rfl rfl rfl hrun ⟨hb rfl, ?_, by simpa using ha1⟩
          obtain ⟨b', c', e⟩ := ha1.form
          refine ⟨b', c', ?_⟩
          rw [e, List.nil_append, HL1.out]
        rintro v22 ⟨b22, c22, rfl⟩
        simp only [Act.put, List.setIfInBounds_toArray, List.set_cons_succ, List.set_cons_zero]
        iterate 5
          refine seq_is rfl (fun w1 hb1 _ => ?_) ?_
          · have z0 := bAt hb1 g0
            simp [opOK, go_sem, z0, hwk, hs27, Below.refl]
            try exact rfl
          simp only [Act.put, List.setIfInBounds_toArray, List.set_cons_succ, List.set_cons_zero]
        refine seq_wr ⟨_, 0, 0, 0, rfl⟩ (by rfl) (fun w1 hb1 hH => ?_) ?_
        · have h5 : AccAt W1.heap.size w1 (.slice (some ⟨b22, 0, none⟩) k c22) (ints (bs.take k)) := by
            have := hH ⟨5, .data⟩ (by simp) rfl
            simpa [addH] using this
          obtain ⟨v', W', hrun, ha1, ha2, hbn, _, _⟩ := acc_append h5 (by rw [HL1.out]; omega) ad (bs.length - (k + 1)) (cap - (k + 1)) (ints (bs.drop (k + 1))) HL2.out (by omega) (HN2.out w1 hb1) ints_one hb1.size
          refine opOK_append_run (v1 := .slice (some ⟨b22, 0, none⟩) k c22) (v2 := .slice (some ad) (bs.length - (k + 1)) (cap - (k + 1))) (.tmp 22) (.tmp 27) 22 rfl rfl rfl hrun ⟨hbn, ?_, ?_, ha1⟩
          · intro j kj hj hj11 u hu hut hp
            match j, hj with
            | 0, hj => cases hj; trivial
            | 1, hj => cases hj; trivial
            | 2, hj => cases hj; trivial
            | 3, hj => cases hj; trivial
            | 4, hj => cases hj; trivial
            | 5, hj =>
              cases hj
              have := hut ⟨⟨5, .data⟩, by simp, rfl, rfl⟩ _ 22 rfl rfl
              simp at this
              subst this
              exact ha2
            | 6, hj => cases hj; trivial
            | 7, hj => cases hj; trivial
            | 8, hj => cases hj; trivial
            | 9, hj => cases hj; trivial
            | 10, hj => cases hj; trivial
            | 11, hj => exact absurd rfl hj11
            | _ + 12, hj => simp at hj
          · obtain ⟨b', c', e⟩ := ha1.form
            exact ⟨b', _, c', e⟩
        rintro v28 ⟨b28, n28, c28, rfl⟩
        simp only [Act.put, List.setIfInBounds_toArray, List.set_cons_succ, List.set_cons_zero]
        refine seq_end fun w5 hb5 hH => ?_
        have h11 : AccAt W1.heap.size w5 (.slice (some ⟨b28, 0, none⟩) n28 c28) (ints (bs.take k) ++ ints (bs.drop (k + 1))) := by
          have := hH 11 (by omega)
          simpa [addH] using this
        have hbs' : bs.take k ++ bs.drop (k + 1) = bs.eraseIdx k := (List.eraseIdx_eq_take_drop_succ bs k).symm
        rw [← ints_append, hbs'] at h11
        obtain ⟨_, _, e28⟩ := h11.form
        obtain rfl : n28 = (ints (bs.eraseIdx k)).length := by cases e28; rfl
        rw [ints_length] at *
        have hle : (bs.eraseIdx k).length ≤ bs.length := List.length_eraseIdx_le _ _
        have hX5 := (hb5.block X hXs).trans HX1.out
        have y7 : w5.cell? ⟨X, 0, none⟩ = some (.slice (some ⟨b, off, none⟩) bs.length cap) := by rw [cell_of_heap hX5]; rfl
        have s7 : w5.frozen? ⟨X, 0, none⟩ = false := frozen_of_heap hX5
        obtain ⟨W6, hW6⟩ : ∃ W6, w5.setCell ⟨X, 0, none⟩ (.slice (some ⟨b28, 0, none⟩) (bs.eraseIdx k).length c28) = W6 := ⟨_, rfl⟩
        have hX6 : W6.heap[X]? = some (.cells #[.slice (some ⟨b28, 0, none⟩) (bs.eraseIdx k).length c28, .int .i64 g, .int .i64 d] 25 (0, 0)) := by rw [← hW6, heap_setCell_at hX5]; rfl
        have hsl6 : Sl (fun j => W1.heap.size ≤ j) W6 (.slice (some ⟨b28, 0, none⟩) (bs.eraseIdx k).length c28) (ints (bs.eraseIdx k)) := by
          rw [← hW6]
          exact h11.sl.cells fun bb o hbb _ => World.cell?_setCell_other _ _ _ _ (fun e => by simp at e <;> omega)
        have hoth : ∀ bb o x, bb ≠ X → W1.cell? ⟨bb, o, none⟩ = some x → W6.cell? ⟨bb, o, none⟩ = some x := fun bb o x hne hx => by
          rw [← hW6]
          exact (World.cell?_setCell_other _ _ _ _ (fun e => by simp at e <;> omega)).trans (bAt hb5 hx)
        have hblk : ∀ j, j < W1.heap.size → j ≠ X → W6.heap[j]? = W1.heap[j]? := fun j hj hne => by
          rw [← hW6, Below.heap_setCell _ _ _ _ (by simpa using hne)]
          exact hb5.block j hj
        have hz6 : W1.heap.size ≤ W6.heap.size := by rw [← hW6]; simpa using hb5.size
        have hB6 : Below X W1 W6 := by rw [← hW6]; exact (hb5.mono (by omega)).setCell (p := ⟨X, 0, none⟩) (by simp) _
        have x0 := hoth _ _ _ (by omega) g0
        obtain ⟨_, _, e3, hb3, c3⟩ := HS2.out.cell hlt
        cases e3
        have x3 := hoth _ _ _ (by omega) c3
        have HX6 := Lib.hid hX6
        have HSL6 := Lib.hid hsl6
        have HW6 := Lib.hid hW6
        have HBLK := Lib.hid hblk
        clear hH g0 hs21 hs27 h11 e28 hbs' hX5 hX6 hsl6 hoth hblk hW6 c3
        simp only [List.drop_succ_cons, List.drop_zero]
        have x7 : W6.cell? ⟨X, 0, none⟩ = some (.slice (some ⟨b28, 0, none⟩) (bs.eraseIdx k).length c28) := by rw [cell_of_heap HX6.out]; rfl
        have x8 : W6.cell? ⟨X, 1, none⟩ = some (.int .i64 g) := by rw [cell_of_heap HX6.out]; rfl
        have x9 : W6.cell? ⟨X, 2, none⟩ = some (.int .i64 d) := by rw [cell_of_heap HX6.out]; rfl
        rw [← HW6.out] at x7 x8 x9
        go_wp2_with fail
        rw [HW6.out]
        refine (rNumber_any (bs.eraseIdx k) g d s _ _ HSL6.out (fun y hy => HBS.out y (List.mem_of_mem_eraseIdx hy)) (by omega) HG.out hd hm).mono ?_
        rintro e W7 ⟨rfl, hb7⟩
        clear x7 x8 x9 y7 s7
        replace x0 := bAt hb7 x0
        replace x3 := bAt hb7 x3
        have hz7 := hb7.size
        have hown7 : W7.ownsRow B 61 1 u5 (forcedTo g bs d s k).length (ints (forcedTo g bs d s k)) := owns_keep HOWN.out (fun q hq => by
          have hq2 := (HOWN.out.lt q hq).2
          rw [HX.out] at hq2
          have hwo : W1.heap[q]? = wo.heap[q]? := by rw [← HW1.out]; exact Below.heap_alloc _ _ _ (by rw [HX.out]; exact hq2)
          exact (hb7.block q (by omega)).trans ((HBLK.out q (by omega) (by omega)).trans hwo)) (by have := HX.out; omega)
        have hbr7 : Below B w0 W7 := by
          have h1 : Below B wo W1 := by rw [← HW1.out]; exact (aB wo _).mono (by rw [HX.out]; omega)
          exact ((hbr.trans h1).trans (hB6.mono (by omega))).trans (hb7.mono (by omega))
        have HO7 := Lib.hid hown7
        have hw07 : w0.heap.size ≤ W7.heap.size := by have := HX.out; omega
        have hflen := forcedTo_length g bs d s k
        by_cases hz : colSum (cnts g (bs.eraseIdx k) d s) s d = 0
        · have HNX : Hid (forcedTo g bs d s (k + 1) = forcedTo g bs d s k ++ [bs[k]]) := Lib.hid (by rw [forcedTo_yes hz, getElem_getD hlt])
          rw [hz]
          clear hz hown7
          go_wp2_with (refine wpList_append1 rfl (.tmp 34) (.tmp 40) 22 rfl B 61 (.int .i64 0) 8 Try.underlying22 info61 rfl _ _ _ rfl (HO7.out.alloc _) W7.heap.size 0 1 (.int .i64 bs[k]) rfl (cell_new _ _ _) rfl (by omega) (by omega) (by simp; omega) ?_)
          intro q7 c7 W8 ho hgr hat
          have hb8 : Below B w0 W8 := (hbr7.alloc (by omega) _).grown hgr (by simp; omega) (fun j hj => (HO7.out.lt j hj).1)
          have hz8 := hgr.size
          simp only [World.size_alloc] at hz8
          have HO := Lib.hid ho
          clear ho hgr hat x0 x3
          go_wp2_with fail
          go_roundw
          case rel => exact ⟨k + 1, by omega, by go_num, hb8, by omega, by rw [HNX.out, ints_append, List.length_append]; exact HO.out⟩
          case measure => simp [intOf]; omega
        · have HNX : Hid (forcedTo g bs d s (k + 1) = forcedTo g bs d s k) := Lib.hid (by rw [forcedTo_no hz])
          have f0 : (colSum (cnts g (bs.eraseIdx k) d s) s d == 0) = false := by simp [hz]
          clear hown7
          go_wp2_with fail
          go_roundw
          case rel => exact ⟨k + 1, by omega, by go_num, hbr7, by omega, by rw [HNX.out]; exact HO7.out⟩
          case measure => simp [intOf]; omega
    · obtain rfl : k = bs.length := by omega
      go_wp2
      go_ret
      exact ⟨_, rfl, hb0.trans (hbr.mono (by omega)), (Sl.of_owns HOWN.out).mono fun j hj => by omega⟩
end Go.Proofs.Ytcnofoopdghjiaa

/- Chapter 2, the reference's list of ways, in plain Lean. -/
namespace Go.Proofs.Ytcnofoopdghjiaa
open Go.RowKit Go.Oche Go.Proofs

def rStep (g : Int) (sub : Int → List Int → List (List Int) → List (List Int)) (n : Nat) (s : Int) (first : List Int) (f : List (List Int)) (x : Int) : List (List Int) :=
  if f.length ≤ 3000 then (if aftR s x g = 0 ∧ n = 0 then f ++ [first ++ [x]] else if 0 < aftR s x g ∧ 0 < n then sub (aftR s x g) (first ++ [x]) f else f) else f
/-- What List returns, with n beds. -/
def rList (g : Int) (bs : List Int) : Nat → Int → List Int → List (List Int) → List (List Int)
  | 0, _, _, found => found
  | n + 1, s, first, found => bs.foldl (rStep g (rList g bs n) n s first) found

theorem rStep_full {g : Int} {sub : Int → List Int → List (List Int) → List (List Int)} {n : Nat} {s : Int} {first : List Int} {f : List (List Int)} (h : 3000 < f.length) (x : Int) : rStep g sub n s first f x = f := by
  unfold rStep; rw [if_neg (by omega)]
theorem foldl_full {g : Int} {sub : Int → List Int → List (List Int) → List (List Int)} {n : Nat} {s : Int} {first : List Int} {f : List (List Int)} (h : 3000 < f.length) : ∀ l : List Int, l.foldl (rStep g sub n s first) f = f
  | [] => rfl
  | x :: l => by rw [List.foldl_cons, rStep_full h, foldl_full h l]

theorem take_take_app {α : Type} (a b c : List α) (m : Nat) : ((a ++ b).take m ++ c).take m = (a ++ b ++ c).take m := by
  rw [List.take_append, List.take_append (l₁ := a ++ b)]
  rw [List.take_take, Nat.min_self]
  by_cases h : m ≤ (a ++ b).length
  · have h1 : ((a ++ b).take m).length = m := by rw [List.length_take]; omega
    rw [h1, Nat.sub_self, show m - (a ++ b).length = 0 by omega]
  · rw [List.take_of_length_le (by omega)]

/-- One bed's lists. -/
def oneL (g : Int) (bs : List Int) (n : Nat) (s : Int) (first : List Int) (x : Int) : List (List Int) :=
  if aftOk g s x = true ∧ 0 < s then (outL g bs n (s - worth x)).map ((first ++ [x]) ++ ·) else []
theorem outL_one {g : Int} {bs : List Int} (n : Nat) (s : Int) (first : List Int) : ∀ l : List Int, ((throwsL g s l).flatMap fun t => (outL g bs n t.2).map (t.1 :: ·)).map (first ++ ·) = l.flatMap (oneL g bs n s first)
  | [] => by simp [throwsL]
  | x :: l => by
    have ih := outL_one (g := g) (bs := bs) n s first l
    rw [List.flatMap_cons, ← ih]
    unfold oneL throwsL
    by_cases hs : 0 < s
    · rw [if_pos hs, if_pos hs]
      by_cases hx : aftOk g s x = true
      · rw [if_pos ⟨hx, hs⟩]
        simp [hx]
      · rw [if_neg (fun h => hx h.1)]
        simp [hx]
    · rw [if_neg hs, if_neg hs, if_neg (fun h => hs h.2)]; simp

theorem rList_take {g : Int} {bs : List Int} (hbs : ∀ b ∈ bs, bedOk b = true) : ∀ (n : Nat) (s : Int) (first : List Int) (found : List (List Int)), 0 < s → found.length ≤ 3001 →
    rList g bs (n + 1) s first found = (found ++ (outL g bs (n + 1) s).map (first ++ ·)).take 3001 := by
  intro n
  induction n with
  | zero =>
    intro s first found hs hf
    rw [rList, outL, outL_one]
    have key : ∀ (l : List Int) (f : List (List Int)), (∀ b ∈ l, bedOk b = true) → f.length ≤ 3001 → l.foldl (rStep g (rList g bs 0) 0 s first) f = (f ++ l.flatMap (oneL g bs 0 s first)).take 3001 := by
      intro l
      induction l with
      | nil => intro f _ hf; simp [List.take_of_length_le hf]
      | cons x l ih =>
        intro f hl hf
        by_cases h3 : f.length ≤ 3000
        · have hstep : rStep g (rList g bs 0) 0 s first f x = f ++ oneL g bs 0 s first x := by
            unfold rStep oneL aftR
            rw [if_pos h3]
            cases ha : aftOk g s x
            · simp
            · simp only [if_true]
              by_cases h0 : s - worth x = 0
              · simp [h0, hs, outL]
              · simp [h0, hs, outL]
          rw [List.foldl_cons, hstep, ih _ (fun b hb => hl b (by simp [hb])) (by
            have : (oneL g bs 0 s first x).length ≤ 1 := by
              unfold oneL
              split
              · simp only [outL]; split <;> simp
              · simp
            rw [List.length_append]; omega), List.flatMap_cons, List.append_assoc]
        · rw [foldl_full (by omega), List.take_append_of_le_length (by omega), List.take_of_length_le hf]
    exact key bs found hbs hf
  | succ n ih =>
    intro s first found hs hf
    rw [rList, outL, outL_one]
    have key : ∀ (l : List Int) (f : List (List Int)), (∀ b ∈ l, bedOk b = true) → f.length ≤ 3001 → l.foldl (rStep g (rList g bs (n + 1)) (n + 1) s first) f = (f ++ l.flatMap (oneL g bs (n + 1) s first)).take 3001 := by
      intro l
      induction l with
      | nil => intro f _ hf; simp [List.take_of_length_le hf]
      | cons x l ihl =>
        intro f hl hf
        by_cases h3 : f.length ≤ 3000
        · have hstep : rStep g (rList g bs (n + 1)) (n + 1) s first f x = (f ++ oneL g bs (n + 1) s first x).take 3001 := by
            unfold rStep oneL aftR
            rw [if_pos h3]
            cases ha : aftOk g s x
            · simp [List.take_of_length_le hf]
            · have h0 := aftOk_bd ha
              simp only [if_true, Nat.add_eq_zero_iff, Nat.succ_ne_self, and_false, if_false, true_and]
              by_cases hp : 0 < s - worth x
              · rw [if_pos ⟨hp, by omega⟩, if_pos hs, ih _ _ _ hp (by omega)]
              · rw [if_neg (fun h => hp h.1), if_pos hs]
                have : s - worth x = 0 := by omega
                rw [this]
                simp [outL, throwsL, List.take_of_length_le hf]
          rw [List.foldl_cons, hstep, ihl _ (fun b hb => hl b (by simp [hb])) (by rw [List.length_take]; omega), take_take_app, List.flatMap_cons, List.append_assoc]
        · rw [foldl_full (by omega), List.take_append_of_le_length (by omega), List.take_of_length_le hf]
    exact key bs found hbs hf

/-- What the reference's Ways has found with up to d darts. -/
def rWays (g : Int) (bs : List Int) (s : Int) : Nat → List (List Int)
  | 0 => []
  | d + 1 => rList g bs (d + 1) s [] (rWays g bs s d)
theorem rWays_take {g : Int} {bs : List Int} (hbs : ∀ b ∈ bs, bedOk b = true) {s : Int} (hs : 0 < s) : ∀ d, rWays g bs s d = (outAll g bs s d).take 3001
  | 0 => by simp [rWays, outAll]
  | d + 1 => by
    rw [rWays, rWays_take hbs hs d, rList_take hbs d s [] _ hs (by rw [List.length_take]; omega), outAll_succ]
    have : (outL g bs (d + 1) s).map (([] : List Int) ++ ·) = outL g bs (d + 1) s := by simp
    rw [this, ← List.append_nil (outAll g bs s d), take_take_app, List.append_nil]
theorem rList_len {g : Int} {bs : List Int} (hbs : ∀ b ∈ bs, bedOk b = true) (n : Nat) (s : Int) (first : List Int) (found : List (List Int)) (hs : 0 < s) (hf : found.length ≤ 3001) : (rList g bs n s first found).length ≤ 3001 := by
  cases n with
  | zero => exact hf
  | succ n => rw [rList_take hbs n s first found hs hf, List.length_take]; omega
end Go.Proofs.Ytcnofoopdghjiaa

/- Chapter 2, the references: List. -/
namespace Go.Proofs.Ytcnofoopdghjiaa
open Go.RowKit Go.Oche Go.Proofs

/-- The ways that were found, a slice of slices of its own. -/
def FA (B : Nat) (W : World) (v : Value) (xss : List (List Int)) : Prop :=
  ∃ vs, W.ownsRow B 22 1 v xss.length vs ∧ vs.length = xss.length ∧ ∀ i (h : i < xss.length), ∃ u, vs[i]? = some u ∧ Sl (fun k => Row 61 W k ∧ B ≤ k) W u (ints xss[i])
theorem rowSl {B : Nat} {W W' : World} {u : Value} {xs : List Value} (h : Sl (fun k => Row 61 W k ∧ B ≤ k) W u xs) (hr : ∀ k, Row 61 W k → W'.heap[k]? = W.heap[k]?) : Sl (fun k => Row 61 W' k ∧ B ≤ k) W' u xs :=
  (h.cells fun b _o hb _ => World.cell?_of_block (hr b hb.1)).mono fun k hk => ⟨hk.1.keep (hr k hk.1), hk.2⟩
theorem FA.kept {B : Nat} {W W' : World} {v : Value} {xss : List (List Int)} (h : FA B W v xss) (hq : ∀ q, v.ownBlock = some q → W'.heap[q]? = W.heap[q]?) (hr : ∀ k, Row 61 W k → W'.heap[k]? = W.heap[k]?) (hs : W.heap.size ≤ W'.heap.size) : FA B W' v xss := by
  obtain ⟨vs, h1, h2, h3⟩ := h
  exact ⟨vs, owns_keep h1 hq hs, h2, fun i hi => let ⟨u, hu, hsl⟩ := h3 i hi; ⟨u, hu, rowSl hsl hr⟩⟩
theorem FA.below {B : Nat} {W W' : World} {v : Value} {xss : List (List Int)} (h : FA B W v xss) (hb : Below W.heap.size W W') : FA B W' v xss := by
  have hlt : ∀ q, v.ownBlock = some q → q < W.heap.size := fun q hq => by obtain ⟨vs, h1, _⟩ := h; exact (h1.lt q hq).2
  exact h.kept (fun q hq => hb.block q (hlt q hq)) (fun k hk => hb.block k (by obtain ⟨c, fz, h⟩ := hk; exact (Array.getElem?_eq_some_iff.1 h).1)) hb.size
theorem FA.lt {B : Nat} {W : World} {v : Value} {xss : List (List Int)} (h : FA B W v xss) : ∀ q, v.ownBlock = some q → B ≤ q ∧ q < W.heap.size := by obtain ⟨vs, h1, _⟩ := h; exact h1.lt
theorem FA.row {B : Nat} {W : World} {v : Value} {xss : List (List Int)} (h : FA B W v xss) {k : Nat} {c : Array Value} {e : TypeId} {f : Nat × Nat} (hk : W.heap[k]? = some (.cells c e f)) (he : e ≠ 22) : some k ≠ v.ownBlock := by
  obtain ⟨vs, h1, _⟩ := h
  exact owns_ne h1 hk (fun h => he h.symm)
theorem FA.form {B : Nat} {W : World} {v : Value} {xss : List (List Int)} (h : FA B W v xss) : ∃ a cap, v = .slice a xss.length cap ∧ xss.length ≤ cap ∧ cap ≤ maxLen := by
  obtain ⟨vs, h1, h2, _⟩ := h
  rw [← h2]; exact (Sl.of_owns h1).form
theorem gAt {w w' : World} {row : Option Nat} (hg : w.grownBy w' row) {b o : Nat} {v : Value} (hv : w.cell? ⟨b, o, none⟩ = some v) (hne : some b ≠ row) : w'.cell? ⟨b, o, none⟩ = some v :=
  (World.cell?_of_block (w := w) (hg.block b (World.block_lt_of_cell? w _ hv) hne)).trans hv
/-- One more way at the end. -/
theorem FA.more {B : Nat} {W W1 W2 : World} {v v' : Value} {xss : List (List Int)} {u : Value} {xs : List Int} (h : FA B W v xss) (hu : Sl (fun k => Row 61 W k ∧ B ≤ k) W u (ints xs)) (hb : Below W.heap.size W W1)
    (ho : ∀ vs, W.ownsRow B 22 1 v xss.length vs → vs.length = xss.length → W2.ownsRow B 22 1 v' (xss.length + 1) (vs ++ [u])) (hg : W1.grownBy W2 v.ownBlock) : FA B W2 v' (xss ++ [xs]) := by
  have hrow : ∀ k, Row 61 W k → W2.heap[k]? = W.heap[k]? := fun k hk => by
    have hkl : k < W.heap.size := by obtain ⟨c, fz, h⟩ := hk; exact (Array.getElem?_eq_some_iff.1 h).1
    obtain ⟨c, fz, hc⟩ := hk
    exact (hg.block k (by have := hb.size; omega) (h.row hc (by decide))).trans (hb.block k hkl)
  obtain ⟨vs, h1, h2, h3⟩ := h
  refine ⟨vs ++ [u], by rw [List.length_append]; exact ho vs h1 h2, by simp [h2], fun i hi => ?_⟩
  by_cases hi2 : i < xss.length
  · obtain ⟨u', hu', hs⟩ := h3 i hi2
    exact ⟨u', by rw [List.getElem?_append_left (by omega)]; exact hu', by rw [List.getElem_append_left hi2]; exact rowSl hs hrow⟩
  · have : i = xss.length := by simp at hi; omega
    subst this
    exact ⟨u, by rw [← h2]; simp, by simpa using rowSl hu hrow⟩

theorem grown_next {w0 wo W7 : World} {row : Option Nat} {v : Value} (h : w0.grownBy wo row) (hat : ∀ q, v.ownBlock = some q → row = some q ∨ w0.heap.size ≤ q) (h2 : wo.grownBy W7 v.ownBlock) : w0.grownBy W7 row :=
  ⟨h2.os.trans h.os, h2.tape.trans h.tape, h2.output.trans h.output, Nat.le_trans h.size h2.size, fun k hk hne => (h2.block k (Nat.lt_of_lt_of_le hk h.size) (fun e => by
    rcases hat k e.symm with h | h
    · exact hne h.symm
    · omega)).trans (h.block k hk hne)⟩
/-- What List does, with n beds. -/
def ListAt (g : Int) (bs : List Int) (n : Nat) : Prop :=
  ∀ (B s : Nat) (d : Int) (first : List Int) (vb vf vx : Value) (found : List (List Int)) (W : World), Sl (fun k => k < B) W vb (ints bs) → 0 < s → s ≤ 1001 → first.length + n ≤ 50 → Sl (fun k => Row 61 W k ∧ B ≤ k) W vf (ints first) → found.length ≤ 3001 → B ≤ W.heap.size → FA B W vx found →
    Calls Try.prog 50 #[.agg #[vb, .int .i64 g, .int .i64 d], .int .i64 s, .int .i64 n, vf, vx] W fun e W' => ∃ vx', e = .returned vx' ∧ FA B W' vx' (rList g bs n s first found) ∧ W.grownBy W' vx.ownBlock ∧ ∀ q, vx'.ownBlock = some q → vx.ownBlock = some q ∨ W.heap.size ≤ q

set_option maxRecDepth 100000 in
set_option maxHeartbeats 2000000 in
theorem list_succ (g : Int) (bs : List Int) (n N : Nat) (hNn : N = n + 1) (hbs : ∀ b ∈ bs, bedOk b = true) (hbl : bs.length ≤ 82) (hg : gateOk g = true) (ih : 0 < n → ListAt g bs n) : ListAt g bs N := by
  intro B s d first vb vf vx found W hsb hs0 hs1 hfn hsf hfl hBW hfa
  obtain ⟨ab, cb, rfl, _, hcb⟩ := hsb.form
  obtain ⟨af, cf, rfl, hcf1, hcf⟩ := hsf.form
  obtain ⟨ax, cx, rfl, _, hcx⟩ := FA.form hfa
  simp only [ints_length] at *
  unfold maxLen at hcb hcf hcx
  obtain ⟨w0, hw0⟩ : ∃ w0, w0 = W.alloc (.cells #[.slice ab bs.length cb, .int .i64 g, .int .i64 d] 25) := ⟨_, rfl⟩
  have hb0 : Below W.heap.size W w0 := by rw [hw0]; exact aB _ _
  have h2 : w0.heap[W.heap.size]? = some (.cells #[.slice ab bs.length cb, .int .i64 g, .int .i64 d] 25 (0, 0)) := by rw [hw0]; exact World.alloc_heap_new _ _
  have e0 : w0.cell? ⟨W.heap.size, 0, none⟩ = some (.slice ab bs.length cb) := by rw [cell_of_heap h2]; rfl
  have e1 : w0.cell? ⟨W.heap.size, 1, none⟩ = some (.int .i64 g) := by rw [cell_of_heap h2]; rfl
  have e2 : w0.cell? ⟨W.heap.size, 2, none⟩ = some (.int .i64 d) := by rw [cell_of_heap h2]; rfl
  have hz0 : W.heap.size < w0.heap.size := (Array.getElem?_eq_some_iff.1 h2).1
  obtain ⟨row, hrow⟩ : ∃ row, (Value.slice ax found.length cx).ownBlock = row := ⟨_, rfl⟩
  have hrlt : ∀ q, row = some q → B ≤ q ∧ q < W.heap.size := fun q hq => hfa.lt q (hrow.trans hq)
  have hfold : rList g bs N s first found = bs.foldl (rStep g (rList g bs n) n s first) found := by rw [hNn]; rfl
  have HFA := Lib.hid (hfa.below hb0)
  have HSB := Lib.hid (hsb.below hb0)
  have HSF := Lib.hid (rowSl hsf (W' := w0) fun k hk => hb0.block k (by obtain ⟨c, fz, h⟩ := hk; exact (Array.getElem?_eq_some_iff.1 h).1))
  have HBS := Lib.hid hbs
  have HG := Lib.hid hg
  have HW := Lib.hid hw0
  have HNN := Lib.hid hNn
  have HIH := Lib.hid ih
  have HFOLD := Lib.hid hfold
  have HROW := Lib.hid hrow
  have HRLT := Lib.hid hrlt
  have H2 := Lib.hid h2
  have hN1 : 1 ≤ N := by omega
  have hN2 : n < N := by omega
  have hwn : IntKind.i64.wrap ((N : Int) - 1) = n := by rw [wrap_small _ (by omega) (by omega)]; omega
  have HWN := Lib.hid hwn
  clear hsb hsf hfa hbs hg hw0 hNn ih hfold hrow hrlt h2 hwn
  go_enter Try.func50, Try.ntmps50
  go_wp2_with fail
  rw [← HW.out]
  go_loopw [4, 11] (fun vx i wr => ∃ (k : Nat) (f : List (List Int)), k ≤ bs.length ∧ i = .int .i64 k ∧ f = (bs.take k).foldl (rStep g (rList g bs n) n s first) found ∧ f.length ≤ 3001 ∧ FA B wr vx f ∧ w0.grownBy wr row ∧ (∀ q, vx.ownBlock = some q → row = some q ∨ w0.heap.size ≤ q)) (fun _ i _ => bs.length - (intOf i).toNat)
  case atStart => exact ⟨0, found, by omega, rfl, by simp, hfl, HFA.out, ⟨rfl, rfl, rfl, Nat.le_refl _, fun _ _ _ => rfl⟩, fun q hq => .inl (HROW.out.symm.trans hq)⟩
  case round =>
    obtain ⟨k, f, hk, rfl, hf, hfl3, hfx, hgr, hat⟩ := hrel
    rename_i vx _ _
    obtain ⟨wo, rfl⟩ : ∃ wo : World, wo = wr := ⟨_, rfl⟩
    obtain ⟨xa, xc, rfl, hxc, hxm⟩ := FA.form hfx
    unfold maxLen at hxm
    have nr : ∀ b, b < B ∨ W.heap.size ≤ b → some b ≠ row := fun b hb e => by have := HRLT.out b e.symm; omega
    have f0 := gAt hgr e0 (nr _ (.inr (Nat.le_refl _)))
    have f1 := gAt hgr e1 (nr _ (.inr (Nat.le_refl _)))
    have f2 := gAt hgr e2 (nr _ (.inr (Nat.le_refl _)))
    have hzo := hgr.size
    have HF := Lib.hid hf
    have HFX := Lib.hid hfx
    have HGR := Lib.hid hgr
    have HAT := Lib.hid hat
    have NR := Lib.hid nr
    clear hf hfx hgr hat nr
    by_cases hlt : k < bs.length
    · have hdec : decide ((k : Int) < (bs.length : Int)) = true := by simp; omega
      by_cases hf3 : f.length ≤ 3000
      · have hdec3 : decide ((f.length : Int) ≤ 3000) = true := by simp; omega
        obtain ⟨b, off, hae, hbB, hcb⟩ := HSB.out.cell hlt
        cases hae
        obtain ⟨x, hx⟩ : ∃ x, bs[k] = x := ⟨_, rfl⟩
        rw [hx] at hcb
        have hxo : bedOk x = true := by rw [← hx]; exact HBS.out _ (List.getElem_mem hlt)
        have hwx := worth_bd hxo
        have f3 := gAt HGR.out hcb (NR.out b (.inl hbB))
        have HX := Lib.hid hx
        have HXO := Lib.hid hxo
        have hac := aftR_cases s x g
        obtain ⟨y, hy⟩ : ∃ y, aftR s x g = y := ⟨_, rfl⟩
        rw [hy] at hac
        have HAC := Lib.hid hac
        have HY := Lib.hid hy
        have hil : (k : Int) < (bs.length : Int) := by omega
        have hyb : -1 ≤ y ∧ y < s := by rcases hac with h | h <;> omega
        have hstep : (bs.take (k + 1)).foldl (rStep g (rList g bs n) n s first) found = if y = 0 ∧ n = 0 then f ++ [first ++ [x]] else if 0 < y ∧ 0 < n then rList g bs n y (first ++ [x]) f else f := by
          rw [List.take_succ_eq_append_getElem hlt, List.foldl_append, ← HF.out, hx]
          simp only [List.foldl_cons, List.foldl_nil, rStep, hy]
          rw [if_pos hf3]
        have HSTEP := Lib.hid hstep
        -- the first beds, as they lie now
        have hsf1 : Sl (fun k => Row 61 wo k ∧ B ≤ k) wo (.slice af first.length cf) (ints first) := rowSl HSF.out fun q hq => HGR.out.block q (by obtain ⟨c, fz, h⟩ := hq; exact (Array.getElem?_eq_some_iff.1 h).1) (fun e => by
          obtain ⟨c, fz, h⟩ := hq
          exact HFA.out.row h (by decide) (e.trans HROW.out.symm))
        have HSF1 := Lib.hid hsf1
        clear hcb hx hxo hac hy hstep hsf1
        go_wp2_with fail
        refine wp_region_seq 10 [.is ?_, .is ?_, .is ?_, .is ?_, .is ?_, .is ?_, .is ?_, .is ?_, .is (.int .i64 y), .is ?_] rfl mix (by kernel_rfl) (by kernel_rfl) ?seqm
        case seqm =>
          simp only [List.take_succ_cons, List.take_zero]
          iterate 8
            refine seq_is rfl (fun w1 hb1 _ => ?_) ?_
            · have z0 := bAt hb1 f0
              have z1 := bAt hb1 f1
              have z3 := bAt hb1 f3
              simp [opOK, go_sem, z0, z1, z3, hil, Below.refl]
              try exact rfl
            simp only [Act.put, List.setIfInBounds_toArray, List.set_cons_succ, List.set_cons_zero]
          refine seq_is rfl (fun w1 hb1 _ => ?_) ?_
          · simp [opOK, go_sem]
            exact (rAfter_any s g x w1 HXO.out (by omega) (by omega) HG.out).mono fun e w' h => ⟨_, h.1, by rw [HY.out], by rw [h.2]; exact Below.refl _ _⟩
          simp only [Act.put, List.setIfInBounds_toArray, List.set_cons_succ, List.set_cons_zero]
          refine seq_is rfl (fun w1 hb1 _ => ?_) ?_
          · simp [opOK, go_sem, Below.refl]
            try exact rfl
          simp only [Act.put, List.setIfInBounds_toArray, List.set_cons_succ, List.set_cons_zero]
          refine seq_end fun w5 hb5 _ => ?_
          simp only [List.drop_succ_cons, List.drop_zero]
          replace f0 := bAt hb5 f0
          replace f1 := bAt hb5 f1
          replace f2 := bAt hb5 f2
          replace f3 := bAt hb5 f3
          have hz5 := hb5.size
          have HB5 := Lib.hid hb5
          have HFX5 := Lib.hid (HFX.out.below hb5)
          have HSF5 := Lib.hid (rowSl HSF1.out (W' := w5) fun q hq => hb5.block q (by obtain ⟨c, fz, h⟩ := hq; exact (Array.getElem?_eq_some_iff.1 h).1))
          clear hb5
          have hop2 : ∀ w1, Below w5.heap.size w5 w1 → ∀ b35, ∃ v' W', (Builtin.append_ #[22, 22] 22 #[.slice (some ⟨b35, 0, none⟩) 0 0, .slice af first.length cf]).run Try.prog w1 = .ok v' W' ∧ AccAt w5.heap.size W' v' (ints first) ∧ Below w1.heap.size w1 W' := fun w1 hb1 b35 => by
            obtain ⟨a', c', e, _, _, h4⟩ := HSF5.out
            simp only [ints_length] at e
            cases e
            cases af with
            | none =>
              have hnil : first = [] := List.eq_nil_of_length_eq_zero (by
                rcases Nat.eq_zero_or_pos first.length with h | h
                · exact h
                · obtain ⟨_, _, e, _⟩ := h4 0 _ (intsAt h); cases e)
              subst hnil
              exact ⟨_, w1, acc_append_nil w1 b35 cf, .inl ⟨rfl, b35, rfl⟩, Below.refl _ _⟩
            | some ad =>
              obtain ⟨v', W', hrun, ha1, _, _, hb, _⟩ := acc_append (N := w5.heap.size) (W := w1) (v := .slice (some ⟨b35, 0, none⟩) 0 0) (xs := []) (.inl ⟨rfl, b35, rfl⟩) (by simp) ad first.length cf (ints first) (by simp) (by omega) (fun j u hj => by
                obtain ⟨b', off', e, _, hc⟩ := h4 j u hj
                cases e
                rw [addr_add]; exact bAt hb1 hc) ints_one hb1.size
              exact ⟨v', W', hrun, by simpa using ha1, hb rfl⟩
          have HOP2 := Lib.hid hop2
          clear hop2
          go_wp2_with fail
          refine wp_region_seq 10 [⟨fun v => ∃ b, v = .slice (some ⟨b, 0, none⟩) 0 0, fun _ _ => True, fun _ _ _ _ h => h⟩, .is ?_,
            ⟨fun v => ∃ b c, v = .slice (some ⟨b, 0, none⟩) first.length c, fun v w => AccAt w5.heap.size w v (ints first), fun v w w' hb h => h.below hb⟩, .is ?_, .is ?_, .is ?_, .is ?_, .is ?_,
            ⟨fun v => ∃ b, v = .slice (some ⟨b, 0, none⟩) 1 1, fun v w => ∃ b, v = .slice (some ⟨b, 0, none⟩) 1 1 ∧ w.cell? ⟨b, 0, none⟩ = some (.int .i64 x), fun v w w' hb ⟨b, h1, h2⟩ => ⟨b, h1, bAt hb h2⟩⟩,
            ⟨fun v => ∃ b n c, v = .slice (some ⟨b, 0, none⟩) n c, fun v w => AccAt w5.heap.size w v (ints first ++ [.int .i64 x]), fun v w w' hb h => h.below hb⟩] rfl mix (by kernel_rfl) (by kernel_rfl) ?seqn
          case seqn =>
            simp only [List.take_succ_cons, List.take_zero]
            refine seq_new ⟨_, 0, rfl⟩ (by rfl) (fun w1 hb _ => ?_) ?_
            · simp [opOK, go_sem]
              exact aB _ _
            rintro v35 ⟨b35, rfl⟩
            simp only [Act.put, List.setIfInBounds_toArray, List.set_cons_succ, List.set_cons_zero]
            refine seq_is rfl (fun w1 hb1 _ => ?_) ?_
            · simp [opOK, go_sem, Below.refl]
              try exact rfl
            simp only [Act.put, List.setIfInBounds_toArray, List.set_cons_succ, List.set_cons_zero]
            refine seq_new ⟨_, 0, 0, rfl⟩ (by rfl) (fun w1 hb1 _ => ?_) ?_
            · obtain ⟨v', W', hrun, ha1, hb⟩ := HOP2.out w1 hb1 b35
              refine opOK_append_run (v1 := .slice (some ⟨b35, 0, none⟩) 0 0) (v2 := .slice af first.length cf) (.tmp 35) (.tmp 36) 22 rfl rfl rfl hrun ⟨hb, ?_, ha1⟩
              obtain ⟨b', c', e⟩ := ha1.form
              exact ⟨b', c', by rw [e, ints_length]⟩
            rintro v37 ⟨b37, c37, rfl⟩
            simp only [Act.put, List.setIfInBounds_toArray, List.set_cons_succ, List.set_cons_zero]
            iterate 5
              refine seq_is rfl (fun w1 hb1 _ => ?_) ?_
              · have z0 := bAt hb1 f0
                have z3 := bAt hb1 f3
                simp [opOK, go_sem, z0, z3, hil, Below.refl]
                try exact rfl
              simp only [Act.put, List.setIfInBounds_toArray, List.set_cons_succ, List.set_cons_zero]
            refine seq_new ⟨_, 0, rfl⟩ (by rfl) (fun w1 hb _ => ?_) ?_
            · simp [opOK, go_sem]
              exact aB _ _
            rintro v43 ⟨b43, rfl⟩
            simp only [Act.put, List.setIfInBounds_toArray, List.set_cons_succ, List.set_cons_zero]
            refine seq_wr ⟨_, 0, 0, 0, rfl⟩ (by rfl) (fun w1 hb1 hH => ?_) ?_
            · have h5 : AccAt w5.heap.size w1 (.slice (some ⟨b37, 0, none⟩) first.length c37) (ints first) := by
                have := hH ⟨2, .data⟩ (by simp) rfl
                simpa [addH] using this
              obtain ⟨b', e, hc43⟩ : ∃ b, Value.slice (some ⟨b43, 0, none⟩) 1 1 = .slice (some ⟨b, 0, none⟩) 1 1 ∧ w1.cell? ⟨b, 0, none⟩ = some (.int .i64 x) := by
                have := hH ⟨8, .data⟩ (by simp) rfl
                simpa [addH] using this
              cases e
              obtain ⟨v', W', hrun, ha1, ha2, hbn, _, hz⟩ := acc_append h5 (by simp; omega) ⟨b43, 0, none⟩ 1 1 [.int .i64 x] rfl (by omega) (fun j u hj => by
                match j, hj with
                | 0, hj => simp at hj; subst hj; simpa [Addr.add] using hc43
                | j + 1, hj => simp at hj) (fun u hu => by simp at hu; subst hu; rfl) hb1.size
              refine opOK_append_run (v1 := .slice (some ⟨b37, 0, none⟩) first.length c37) (v2 := .slice (some ⟨b43, 0, none⟩) 1 1) (.tmp 37) (.tmp 43) 22 rfl rfl rfl hrun ⟨hbn, ?_, ?_, ha1⟩
              · intro j kj hj hj11 u hu hut hp
                match j, hj with
                | 0, hj => cases hj; trivial
                | 1, hj => cases hj; trivial
                | 2, hj =>
                  cases hj
                  have := hut ⟨⟨2, .data⟩, by simp, rfl, rfl⟩ _ 37 rfl rfl
                  simp at this
                  subst this
                  exact ha2
                | 3, hj => cases hj; trivial
                | 4, hj => cases hj; trivial
                | 5, hj => cases hj; trivial
                | 6, hj => cases hj; trivial
                | 7, hj => cases hj; trivial
                | 8, hj =>
                  cases hj
                  obtain ⟨b, h1, h2⟩ := hp
                  exact ⟨b, h1, hz b _ h2⟩
                | 9, hj => exact absurd rfl hj11
                | _ + 10, hj => simp at hj
              · obtain ⟨b', c', e⟩ := ha1.form
                exact ⟨b', _, c', e⟩
            rintro v44 ⟨b44, n44, c44, rfl⟩
            simp only [Act.put, List.setIfInBounds_toArray, List.set_cons_succ, List.set_cons_zero]
            refine seq_end fun w6 hb6 hH => ?_
            have h9 : AccAt w5.heap.size w6 (.slice (some ⟨b44, 0, none⟩) n44 c44) (ints (first ++ [x])) := by
              have := hH 9 (by omega)
              rw [ints_append]
              show AccAt _ _ _ (ints first ++ [.int .i64 x])
              simpa [addH] using this
            have hz6 := hb6.size
            have hway : Sl (fun k => Row 61 w6 k ∧ B ≤ k) w6 (.slice (some ⟨b44, 0, none⟩) n44 c44) (ints (first ++ [x])) := by
              rcases h9 with ⟨h, _⟩ | ⟨_, h⟩
              · simp [ints] at h
              · exact (owns_rows h).mono fun q hq => ⟨hq.2.2, by omega⟩
            obtain ⟨_, _, e44⟩ := h9.form
            obtain rfl : n44 = first.length + 1 := by cases e44; simp
            have hf0 := bAt hb6 f0
            have hf1 := bAt hb6 f1
            have hf2 := bAt hb6 f2
            have HFX6 := Lib.hid (HFX5.out.below hb6)
            have hb56 : Below wo.heap.size wo w6 := HB5.out.trans (hb6.mono (by omega))
            have HB6 := Lib.hid hb56
            have HWAY := Lib.hid hway
            clear hH f0 f1 f2 f3 h9 hway e44 hb6 hb56
            simp only [List.drop_succ_cons, List.drop_zero]
            by_cases hya : y = 0 ∧ n = 0
            · have hst := HSTEP.out
              rw [if_pos hya] at hst
              obtain ⟨rfl, hn0⟩ := hya
              have HST := Lib.hid hst
              have hN11 : ((N : Int) == 1) = true := by have := HNN.out; simp; omega
              have HN0 := Lib.hid hn0
              clear hst hn0
              obtain ⟨vs, ho, hvl, _⟩ := HFX6.out
              go_wp2_with (refine wpList_append1 rfl (.tmp 51) (.tmp 53) 29 rfl B 22 (.slice none 0 0) 24 Try.underlying29 info22 rfl _ f.length vs rfl (ho.alloc _) w6.heap.size 0 1 (.slice (some ⟨b44, 0, none⟩) (first.length + 1) c44) rfl (cell_new _ _ _) rfl (by omega) (by omega) (by simp; omega) ?_)
              intro q7 c7 W7 ho7 hg7 hat7
              have HFX7 : Hid (FA B W7 (.slice (some ⟨q7, 0, none⟩) (f.length + 1) c7) (f ++ [first ++ [x]])) := Lib.hid (by
                refine FA.more HFX6.out HWAY.out (aB _ _) (fun vs' ho' hvl' => ?_) hg7
                have : vs' = vs := List.ext_getElem? fun i => by
                  have h1 := (Sl.of_owns ho').form
                  by_cases hi : i < vs.length
                  · obtain ⟨a1, c1, e1, _, _, h1⟩ := Sl.of_owns ho
                    obtain ⟨a2, c2, e2, _, _, h2⟩ := Sl.of_owns ho'
                    rw [e1] at e2
                    obtain ⟨b1, o1, r1, _, d1⟩ := h1 i vs[i] (by simp [hi])
                    obtain ⟨b2, o2, r2, _, d2⟩ := h2 i (vs'[i]'(by omega)) (by simp [show i < vs'.length by omega])
                    subst r1
                    simp only [Value.slice.injEq] at e2
                    rw [r2] at e2
                    simp only [Option.some.injEq, Addr.mk.injEq, and_true] at e2
                    obtain ⟨⟨rfl, rfl⟩, -, -⟩ := e2
                    rw [d1] at d2
                    simp [hi, show i < vs'.length by omega, Option.some.inj d2]
                  · rw [List.getElem?_eq_none (by omega), List.getElem?_eq_none (by omega)]
                rw [this]; exact ho7)
              have hgo7 : wo.grownBy W7 (Value.slice xa f.length xc).ownBlock := grownBy_trans (grownBy_trans (grownBy_below _ HB6.out) (grownBy_below _ (aB _ _))) hg7
              have hgr7 := Lib.hid (grown_next HGR.out HAT.out hgo7)
              have hat7' : Hid (∀ q, (Value.slice (some ⟨q7, 0, none⟩) (f.length + 1) c7).ownBlock = some q → row = some q ∨ w0.heap.size ≤ q) := Lib.hid (fun q hq => by
                simp only [Value.ownBlock, Option.some.injEq] at hq
                subst hq
                rcases hat7 with h | h
                · exact HAT.out _ h
                · right; first | (rw [h]; simp; omega) | omega)
              clear ho ho7 hg7 hat7 hgo7 hf0 hf1 hf2
              go_wp2_with fail
              go_roundw
              case rel => exact ⟨k + 1, f ++ [first ++ [x]], by omega, by go_num, HST.out.symm, by simp; omega, by simpa using HFX7.out, hgr7.out, hat7'.out⟩
              case measure => simp [intOf]; omega
            · by_cases hyb2 : 0 < y ∧ 0 < n
              · obtain ⟨hy0, hn0⟩ := hyb2
                have hst := HSTEP.out
                rw [if_neg hya, if_pos ⟨hy0, hn0⟩] at hst
                have HST := Lib.hid hst
                have q0 : (y == 0) = false := by simp; omega
                have q1 : decide ((1 : Int) < (N : Int)) = true := by have := HNN.out; simp; omega
                obtain ⟨y, rfl⟩ : ∃ y' : Nat, y = y' := ⟨y.toNat, by omega⟩
                have hwn := HWN.out
                have hl3 := rList_len (g := g) HBS.out n y (first ++ [x]) f hy0 hfl3
                have hsb6 : Sl (fun k => k < B) w6 (.slice (some ⟨b, off, none⟩) bs.length cb) (ints bs) := (HSB.out.cells (w' := wo) (fun bb o hbb hs => by
                  obtain ⟨z, hz⟩ := Option.isSome_iff_exists.1 hs
                  rw [hz]; exact gAt HGR.out hz (NR.out bb (.inl hbb)))).below HB6.out
                have HSB6 := Lib.hid hsb6
                clear hst hya hsb6
                go_wp2_with fail
                refine (HIH.out hn0 B y d (first ++ [x]) _ _ _ f w6 HSB6.out (by omega) (by omega) (by simp; omega) (by simpa using HWAY.out) hfl3 (by omega) HFX6.out).mono ?_
                rintro e W7 ⟨vx', rfl, hfx7, hg7, hat7⟩
                have hgo7 : wo.grownBy W7 (Value.slice xa f.length xc).ownBlock := grownBy_trans (grownBy_below _ HB6.out) hg7
                have hgr7 := Lib.hid (grown_next HGR.out HAT.out hgo7)
                have hat7' : Hid (∀ q, vx'.ownBlock = some q → row = some q ∨ w0.heap.size ≤ q) := Lib.hid (fun q hq => by
                  rcases hat7 q hq with h | h
                  · exact HAT.out _ h
                  · right; omega)
                have HFX7 := Lib.hid hfx7
                clear hfx7 hg7 hat7 hgo7 hf0 hf1 hf2 hwn
                go_wp2_with fail
                go_roundw
                case rel => exact ⟨k + 1, _, by omega, by go_num, HST.out.symm, hl3, HFX7.out, hgr7.out, hat7'.out⟩
                case measure => simp [intOf]; omega
              · have hst := HSTEP.out
                rw [if_neg hya, if_neg hyb2] at hst
                have HST := Lib.hid hst
                have hgr7 := Lib.hid (grown_next HGR.out HAT.out (grownBy_below (Value.slice xa f.length xc).ownBlock HB6.out))
                by_cases hy0 : y = 0
                · have hn0 : ¬ n = 0 := fun h => hya ⟨hy0, h⟩
                  have q1 : ((N : Int) == 1) = false := by have := HNN.out; simp; omega
                  have q2 : N ≠ 1 := by have := HNN.out; omega
                  subst hy0
                  clear hst hya hyb2 hf0 hf1 hf2
                  go_wp2_with fail
                  go_roundw
                  case rel => exact ⟨k + 1, f, by omega, by go_num, HST.out.symm, hfl3, HFX6.out, hgr7.out, HAT.out⟩
                  case measure => simp [intOf]; omega
                · have q0 : (y == 0) = false := by simp [hy0]
                  by_cases hy1 : 0 < y
                  · have hn0 : ¬ 0 < n := fun h => hyb2 ⟨hy1, h⟩
                    have q1 : decide ((1 : Int) < (N : Int)) = false := by have := HNN.out; simp; omega
                    have q2 : ¬ 1 < N := by have := HNN.out; omega
                    clear hst hya hyb2 hf0 hf1 hf2
                    go_wp2_with fail
                    go_roundw
                    case rel => exact ⟨k + 1, f, by omega, by go_num, HST.out.symm, hfl3, HFX6.out, hgr7.out, HAT.out⟩
                    case measure => simp [intOf]; omega
                  · clear hst hya hyb2 hf0 hf1 hf2
                    go_wp2_with fail
                    go_roundw
                    case rel => exact ⟨k + 1, f, by omega, by go_num, HST.out.symm, hfl3, HFX6.out, hgr7.out, HAT.out⟩
                    case measure => simp [intOf]; omega
      · have hdec3 : decide ((f.length : Int) ≤ 3000) = false := by simp; omega
        have HEND : Hid (rList g bs N s first found = f) := Lib.hid (by
          have e := foldl_full (g := g) (sub := rList g bs n) (n := n) (s := s) (first := first) (f := f) (by omega) (bs.drop k)
          rw [HFOLD.out, ← List.take_append_drop k bs, List.foldl_append, List.take_append_drop, ← HF.out, e])
        go_wp2
        go_ret
        refine ⟨_, rfl, by rw [HEND.out]; exact HFX.out, ?_, fun q hq => ?_⟩
        · rw [HROW.out]; exact grownBy_trans (grownBy_below _ hb0) HGR.out
        · rcases HAT.out q hq with h | h
          · exact .inl (HROW.out.trans h)
          · exact .inr (by omega)
    · obtain rfl : k = bs.length := by omega
      have HEND : Hid (rList g bs N s first found = f) := Lib.hid (by rw [HFOLD.out, HF.out, List.take_length])
      go_wp2
      go_ret
      refine ⟨_, rfl, by rw [HEND.out]; exact HFX.out, ?_, fun q hq => ?_⟩
      · rw [HROW.out]; exact grownBy_trans (grownBy_below _ hb0) HGR.out
      · rcases HAT.out q hq with h | h
        · exact .inl (HROW.out.trans h)
        · exact .inr (by omega)
end Go.Proofs.Ytcnofoopdghjiaa

/- Chapter 2, the references: Ways. -/
namespace Go.Proofs.Ytcnofoopdghjiaa
open Go.RowKit Go.Oche Go.Proofs

theorem list_at (g : Int) (bs : List Int) (hbs : ∀ b ∈ bs, bedOk b = true) (hbl : bs.length ≤ 82) (hg : gateOk g = true) : ∀ n, 0 < n → ListAt g bs n
  | 0, h => absurd h (by omega)
  | n + 1, _ => list_succ g bs n (n + 1) rfl hbs hbl hg fun h => list_at g bs hbs hbl hg n h

def rWaysE (L : List (List Int)) : Int := if L.length = 0 then 7 else if 3000 < L.length then 5 else 0
def rWaysR (L : List (List Int)) : List (List Int) := if L.length = 0 then [] else if 3000 < L.length then [] else L

set_option maxRecDepth 100000 in
set_option maxHeartbeats 1000000 in
theorem rWays_any {S : Nat → Prop} (bs : List Int) (g : Int) (d s : Nat) (v : Value) (w : World) (hs : Sl S w v (ints bs)) (hbs : ∀ b ∈ bs, bedOk b = true) (hbl : bs.length ≤ 82) (hg : gateOk g = true) (hd : d ≤ 9) (hm : s ≤ 1001) (hs0 : 0 < s) :
    Calls Try.prog 22 #[.agg #[v, .int .i64 g, .int .i64 d], .int .i64 s] w fun e w' => ∃ lv, e = .returned (.tuple #[lv, .int .i64 (rWaysE (rWays g bs s d))]) ∧ Below w.heap.size w w' ∧ Rows2 (fun k => w.heap.size ≤ k) w' lv (rWaysR (rWays g bs s d)) := by
  obtain ⟨a, cap, rfl, hc1, h3⟩ := hs.form
  simp only [ints_length] at *
  unfold maxLen at h3
  obtain ⟨w0, hw0⟩ : ∃ w0, w0 = (w.alloc (.cells #[.slice a bs.length cap, .int .i64 g, .int .i64 d] 25)).alloc (.cells #[] 22) := ⟨_, rfl⟩
  have hb0 : Below w.heap.size w w0 := by rw [hw0]; exact (aB _ _).trans ((aB _ _).mono (by simp))
  have h2 : w0.heap[w.heap.size]? = some (.cells #[.slice a bs.length cap, .int .i64 g, .int .i64 d] 25 (0, 0)) := by rw [hw0, Below.heap_alloc _ _ _ (by simp)]; exact World.alloc_heap_new _ _
  have h5 : w0.heap[w.heap.size + 1]? = some (.cells #[] 22 (0, 0)) := by
    rw [hw0]; have := World.alloc_heap_new (w.alloc (.cells #[.slice a bs.length cap, .int .i64 g, .int .i64 d] 25)) (.cells #[] 22); rw [World.size_alloc] at this; exact this
  have e0 : w0.cell? ⟨w.heap.size, 0, none⟩ = some (.slice a bs.length cap) := by rw [cell_of_heap h2]; rfl
  have e1 : w0.cell? ⟨w.heap.size, 1, none⟩ = some (.int .i64 g) := by rw [cell_of_heap h2]; rfl
  have e2 : w0.cell? ⟨w.heap.size, 2, none⟩ = some (.int .i64 d) := by rw [cell_of_heap h2]; rfl
  obtain ⟨B, hB⟩ : ∃ B, w.heap.size + 1 = B := ⟨_, rfl⟩
  have hfa0 : FA B w0 (.slice (some ⟨B, 0, none⟩) 0 0) [] := by rw [← hB]; exact ⟨[], owns_empty h5 (Nat.le_refl _) rfl, rfl, fun i h => by simp at h⟩
  have hzB : B < w0.heap.size := by rw [← hB]; exact (Array.getElem?_eq_some_iff.1 h5).1
  have hNB : w.heap.size < B := by omega
  have HSL := Lib.hid (show Sl (fun k => k < B) w0 (.slice a bs.length cap) (ints bs) from (hs.lt.below hb0).mono fun k hk => by have := hk.2; omega)
  have HBS := Lib.hid hbs
  have HG := Lib.hid hg
  have HW := Lib.hid hw0
  have HB := Lib.hid hB
  clear hs hbs hg h2 h5 hw0 hB
  go_enter Try.func22, Try.ntmps22
  go_wp2_with fail
  rw [← HW.out, HB.out]
  go_loopw [6, 7] (fun lv i wr => ∃ k : Nat, 1 ≤ k ∧ k ≤ d + 1 ∧ i = .int .i64 k ∧ Below B w0 wr ∧ w0.heap.size ≤ wr.heap.size ∧ FA B wr lv (rWays g bs s (k - 1)) ∧ (rWays g bs s (k - 1)).length ≤ 3001) (fun _ i _ => d + 1 - (intOf i).toNat)
  case atStart => exact ⟨1, by omega, by omega, rfl, Below.refl _ _, Nat.le_refl _, hfa0, by simp [rWays]⟩
  case round =>
    obtain ⟨k, hk1, hk2, rfl, hbr, hszr, hfa, hfl⟩ := hrel
    rename_i vx _ _
    clear hfa0
    obtain ⟨wo, rfl⟩ : ∃ wo : World, wo = wr := ⟨_, rfl⟩
    have f0 : wo.cell? ⟨w.heap.size, 0, none⟩ = some (.slice a bs.length cap) := (hbr.cell (p := ⟨w.heap.size, 0, none⟩) (by simpa using hNB)).trans e0
    have f1 : wo.cell? ⟨w.heap.size, 1, none⟩ = some (.int .i64 g) := (hbr.cell (p := ⟨w.heap.size, 1, none⟩) (by simpa using hNB)).trans e1
    have f2 : wo.cell? ⟨w.heap.size, 2, none⟩ = some (.int .i64 d) := (hbr.cell (p := ⟨w.heap.size, 2, none⟩) (by simpa using hNB)).trans e2
    have HFA := Lib.hid hfa
    obtain ⟨xa, xc, rfl, hxc, hxm⟩ := FA.form hfa
    unfold maxLen at hxm
    obtain ⟨f, hf⟩ : ∃ f, rWays g bs s (k - 1) = f := ⟨_, rfl⟩
    rw [hf] at HFA hfl hxc
    have HF := Lib.hid hf
    rw [hf]
    clear hfa hf
    by_cases hlt : k ≤ d
    · have hdec : decide ((k : Int) ≤ (d : Int)) = true := by simp; omega
      have HS1 := Lib.hid (HSL.out.cells (w' := wo) (fun b o hb _ => hbr.cell (p := ⟨b, o, none⟩) hb))
      have HNX : Hid (rWays g bs s k = rList g bs k s [] f) := Lib.hid (by
        have h := show rWays g bs s (k - 1 + 1) = rList g bs (k - 1 + 1) s [] (rWays g bs s (k - 1)) from rfl
        rw [HF.out, show k - 1 + 1 = k by omega] at h; exact h)
      have hl3 := rList_len (g := g) HBS.out k s [] f (by omega) hfl
      go_wp2_with fail
      refine (list_at g bs HBS.out hbl HG.out k (by omega) B s d [] _ _ _ f wo HS1.out hs0 hm (by simp; omega) (Sl.nil _ _) hfl (by omega) HFA.out).mono ?_
      rintro e W7 ⟨vx', rfl, hfx7, hg7, hat7⟩
      have hb7 : Below B w0 W7 := hbr.grown hg7 (by omega) (fun q hq => (HFA.out.lt q hq).1)
      have hz7 := hg7.size
      have HFX7 := Lib.hid hfx7
      clear hfx7 hg7 hat7 f0 f1 f2
      go_wp2_with fail
      go_roundw
      case rel => exact ⟨k + 1, by omega, by omega, by go_num, hb7, by omega, by rw [Nat.add_sub_cancel, HNX.out]; exact HFX7.out, by rw [Nat.add_sub_cancel, HNX.out]; exact hl3⟩
      case measure => simp [intOf]; omega
    · obtain rfl : k = d + 1 := by omega
      rw [Nat.add_sub_cancel] at HF
      have hbE : Below w.heap.size w wo := hb0.trans (hbr.mono (by omega))
      by_cases hl0 : f.length = 0
      · have q0 : ((f.length : Int) == 0) = true := by simp [hl0]
        have HE : Hid (rWaysE (rWays g bs s d) = 7 ∧ rWaysR (rWays g bs s d) = []) := Lib.hid ⟨by rw [HF.out, rWaysE, if_pos hl0], by rw [HF.out, rWaysR, if_pos hl0]⟩
        rw [hl0] at *
        clear hl0
        go_wp2
        go_ret2
        exact ⟨_, by rw [HE.out.1]; rfl, hbE, by rw [HE.out.2]; exact Rows2.nil _ _⟩
      · have q0 : ((f.length : Int) == 0) = false := beq_eq_false_iff_ne.2 (by omega)
        have q0' : (f.length == 0) = false := beq_eq_false_iff_ne.2 hl0
        by_cases hl1 : 3000 < f.length
        · have HE : Hid (rWaysE (rWays g bs s d) = 5 ∧ rWaysR (rWays g bs s d) = []) := Lib.hid ⟨by rw [HF.out, rWaysE, if_neg hl0, if_pos hl1], by rw [HF.out, rWaysR, if_neg hl0, if_pos hl1]⟩
          go_wp2
          go_ret2
          exact ⟨_, by rw [HE.out.1]; rfl, hbE, by rw [HE.out.2]; exact Rows2.nil _ _⟩
        · have HE : Hid (rWaysE (rWays g bs s d) = 0 ∧ rWaysR (rWays g bs s d) = f) := Lib.hid ⟨by rw [HF.out, rWaysE, if_neg hl0, if_neg hl1], by rw [HF.out, rWaysR, if_neg hl0, if_neg hl1]⟩
          go_wp2
          go_ret2
          refine ⟨_, by rw [HE.out.1]; rfl, hbE, ?_⟩
          rw [HE.out.2]
          obtain ⟨vs, h1, h2, h3⟩ := HFA.out
          exact ⟨vs, (Sl.of_owns h1).mono (fun q hq => by omega), h2, fun i hi => let ⟨u, hu, hsl⟩ := h3 i hi; ⟨u, hu, hsl.mono fun q hq => by have := hq.2; omega⟩⟩
end Go.Proofs.Ytcnofoopdghjiaa
