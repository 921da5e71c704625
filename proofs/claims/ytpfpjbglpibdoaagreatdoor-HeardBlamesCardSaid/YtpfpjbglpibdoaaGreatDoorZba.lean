/- The texts PL, in build order. -/
import Derived.Test.YtpfpjbglpibdoaaGreatDoorZaz

/- Chapter 5, the reference: all visits of a player that are part of a truth. -/
namespace Go.Proofs.YtpfpjbglpibdoaaGreatDoor
open Go Go.RowKit Go.Oche Go.Proofs

theorem firsts_len {α : Type} [DecidableEq α] (l : List α) : (firsts l).length ≤ l.length := List.Nodup.length_le_of_subset (nodup_firsts l) fun _ h => mem_firsts.1 h
section
variable {sts : List (List Sp)} {now : List Std} {r : Nat} {st : List Sp}
def curL (sts : List (List Sp)) (now : List Std) (r : Nat) : List (List Sp) := sts.take r ++ (pruneL (sts.drop r) now).1
def keptF (now : List Std) (st : List Sp) : List Sp := st.filter fun s => decide (s.aft ∈ now)
theorem prune_at (h : sts[r]? = some st) : pruneL (sts.drop r) now = (keptF (pruneL (sts.drop (r + 1)) now).2 st :: (pruneL (sts.drop (r + 1)) now).1, firsts ((keptF (pruneL (sts.drop (r + 1)) now).2 st).map Sp.bef)) := by
  obtain ⟨hl, e⟩ := List.getElem?_eq_some_iff.1 h
  rw [List.drop_eq_getElem_cons hl, e]
  rfl
theorem cur_at (h : sts[r]? = some st) : (curL sts now (r + 1))[r]? = some st := by
  obtain ⟨hl, e⟩ := List.getElem?_eq_some_iff.1 h
  unfold curL
  rw [List.getElem?_append_left (by rw [List.length_take]; omega), List.getElem?_take, if_pos (by omega)]
  exact h
theorem cur_set (h : sts[r]? = some st) : (curL sts now (r + 1)).set r (keptF (pruneL (sts.drop (r + 1)) now).2 st) = curL sts now r := by
  obtain ⟨hl, e⟩ := List.getElem?_eq_some_iff.1 h
  unfold curL
  rw [prune_at h, List.take_succ_eq_append_getElem hl, List.append_assoc, List.set_append_right _ _ (by rw [List.length_take]; omega), List.length_take, Nat.min_eq_left (by omega), Nat.sub_self]
  rfl
theorem cur_all : curL sts now sts.length = sts := by
  unfold curL
  rw [List.take_length, List.drop_length]
  exact List.append_nil _
theorem cur_zero : curL sts now 0 = (pruneL sts now).1 := rfl
theorem cur_len : (curL sts now r).length = sts.length := by
  unfold curL
  rw [List.length_append, List.length_take, pruneL_len, List.length_drop]; omega
theorem kept_in {sp : Sp} (h : sp.aft ∈ now) (st : List Sp) : keptF now (st ++ [sp]) = keptF now st ++ [sp] := by unfold keptF; rw [List.filter_append]; simp [h]
theorem kept_out {sp : Sp} (h : sp.aft ∉ now) (st : List Sp) : keptF now (st ++ [sp]) = keptF now st := by unfold keptF; rw [List.filter_append]; simp [h]
theorem kept_len (now : List Std) (st : List Sp) : (keptF now st).length ≤ st.length := List.length_filter_le _ _
theorem own_set {M : Nat} {W : World} {g n c i : Nat} {u : Value} {xss : List (List Sp)} {vs : List Value} (h : OutR M W (.slice (some ⟨g, 0, none⟩) n c) xss vs) (hn : vs.length = n) (hu : vs[i]? = some u) : W.cell? ⟨g, i, none⟩ = some u ∧ W.frozen? ⟨g, i, none⟩ = false := by
  subst hn; exact own_cell h.row hu
end
set_option maxRecDepth 100000 in
set_option maxHeartbeats 40000000 in
theorem refPlayer_any {S S' S'' : Nat → Prop} (l : Lg) (hv : Valid l) (h6 : l.beds.length ≤ 6) (h60 : l.start ≤ 60) (h8 : l.turns ≤ 8) (bv lv blv : Value) (list : List Rp) (hrv : ∀ r ∈ list, -1 ≤ r.score ∧ -1 ≤ r.left) (bels : List Bool) (hbl : bels.length = list.length) (p : Nat) (hp : p ≤ 3) (w : World)
    (hs : Sl S w bv (ints l.beds)) (hl : SlN 3 S' w lv (list.map rpRow)) (hb : Sl S'' w blv (bels.map Value.bool)) :
    Calls Tryz.prog 64 #[legV l bv, lv, blv, .int .i64 (p : Int)] w fun e w' => ∃ v, e = .returned (.tuple #[v, .bool (playerL l (saidL list (fun i => bels.getD i false)) p).isSome]) ∧ Below w.heap.size w w' ∧
      ∀ ks, playerL l (saidL list (fun i => bels.getD i false)) p = some ks → ∃ vs, OutR w.heap.size w' v ks vs := by
  obtain ⟨a, cap, rfl, h2, h3⟩ := hs.form
  simp only [ints_length] at *
  unfold maxLen at h3
  obtain ⟨n, hn⟩ : ∃ n, l.beds.length = n := ⟨_, rfl⟩
  rw [hn] at h2 hs ⊢
  obtain ⟨said, hsaid⟩ : ∃ f, saidL list (fun i => bels.getD i false) = f := ⟨_, rfl⟩
  rw [hsaid]
  obtain ⟨N, hN⟩ : ∃ N, w.heap.size = N := ⟨_, rfl⟩
  obtain ⟨w1, hw1⟩ : ∃ x, w.alloc (.cells #[.int .i64 l.start, .int .i64 l.gin, .int .i64 l.gout, .slice a n cap, .int .i64 l.players, .int .i64 l.turns, .bool l.won] 27) = x := ⟨_, rfl⟩
  have hb1 : Below w.heap.size w w1 := by rw [← hw1]; exact aB _ _
  have k : w1.heap[N]? = some (.cells #[.int .i64 l.start, .int .i64 l.gin, .int .i64 l.gout, .slice a n cap, .int .i64 l.players, .int .i64 l.turns, .bool l.won] 27 (0, 0)) := by rw [← hw1, ← hN]; exact World.alloc_heap_new _ _
  have c0 : w1.cell? ⟨N, 0, none⟩ = some (.int .i64 l.start) := by rw [cell_of_heap k]; rfl
  have c1 : w1.cell? ⟨N, 1, none⟩ = some (.int .i64 l.gin) := by rw [cell_of_heap k]; rfl
  have c2 : w1.cell? ⟨N, 2, none⟩ = some (.int .i64 l.gout) := by rw [cell_of_heap k]; rfl
  have c3 : w1.cell? ⟨N, 3, none⟩ = some (.slice a n cap) := by rw [cell_of_heap k]; rfl
  have c4 : w1.cell? ⟨N, 4, none⟩ = some (.int .i64 l.players) := by rw [cell_of_heap k]; rfl
  have c5 : w1.cell? ⟨N, 5, none⟩ = some (.int .i64 l.turns) := by rw [cell_of_heap k]; rfl
  have c6 : w1.cell? ⟨N, 6, none⟩ = some (.bool l.won) := by rw [cell_of_heap k]; rfl
  have HS := Lib.hid (hs.below hb1)
  have HL := Lib.hid (hl.below hb1)
  have HBL := Lib.hid (hb.below hb1)
  have HB : Hid (Below N w w1) := Lib.hid (by rw [← hN]; exact hb1)
  have HW := Lib.hid hw1
  have HN := Lib.hid hN
  have HV := Lib.hid hv
  have HH6 := Lib.hid h6
  have HRV := Lib.hid hrv
  have HBLN := Lib.hid hbl
  have HSAID := Lib.hid hsaid
  have hN1 : N < w1.heap.size := (Array.getElem?_eq_some_iff.1 k).1
  obtain ⟨K, hK⟩ : ∃ K, w1.heap.size = K := ⟨_, rfl⟩
  have HK := Lib.hid hK
  have HNK : Hid (N < K) := Lib.hid (by rw [← hK]; exact hN1)
  have HST : Hid (2 ≤ l.start ∧ l.start ≤ 60) := Lib.hid ⟨hv.start.1, h60⟩
  have HTT : Hid (0 ≤ l.turns ∧ l.turns ≤ 8) := Lib.hid ⟨hv.turns.1, h8⟩
  have HPP : Hid (1 ≤ l.players ∧ l.players ≤ 4) := Lib.hid hv.players
  have C4 := c4
  obtain ⟨gb, hgb⟩ : ∃ b, (l.gin == 0) = b := ⟨_, rfl⟩
  have HG5 : Hid (start5 l = ⟨l.start, gb⟩) := Lib.hid (by rw [← hgb]; rfl)
  unfold legV legA
  rw [hN]
  clear hw1 hN k hb1 hn hs hl hb hv h6 hrv hbl hsaid hN1 h60 h8 hK
  go_enter Tryz.func64, Tryz.ntmps64
  go_upto_region 1 with fail
  rw [HW.out, HN.out]
  refine wp_region_seqW (kMk (K) 145 #[] 0 :: .is (.pointer (some ⟨N, 0, none⟩)) :: .is (.pointer (some ⟨N, 0, none⟩)) :: .is (.int .i64 l.start) :: .is (.pointer (some ⟨N, 0, none⟩)) :: .is (.pointer (some ⟨N, 1, none⟩)) :: .is (.int .i64 l.gin) :: .is (.bool gb) :: .is (.agg #[.int .i64 l.start, .bool gb]) :: kMk (K) 29 #[.int .i64 l.start, .bool gb] 1 :: kMk (K) 145 #[] 0 :: kMk (K) 29 #[.int .i64 l.start, .bool gb] 1 :: []) rfl mix (by kernel_rfl) (by kernel_rfl) ?_
  refine seq_new ⟨_, 0, rfl⟩ (by rfl) (fun w3 hb3 hH => ?_) ?_
  · exact opOK_val (v := .slice (some ⟨w3.heap.size, 0, none⟩) 0 0) (w' := w3.alloc (.cells #[] 145)) (by simp [go_sem, execOp]) ⟨aB _ _, ⟨_, rfl⟩, _, rfl, Nat.le_trans (Nat.le_of_eq HK.out.symm) hb3.size, World.alloc_heap_new _ _⟩
  rintro _ ⟨ob, rfl⟩
  simp only [Act.put, List.setIfInBounds_toArray, List.set_cons_succ, List.set_cons_zero]
  iterate 8
    refine seq_on (by rfl) (fun w3 hb3 _ => ?_) ?_
    · have c0' := bAt hb3 c0
      have c1' := bAt hb3 c1
      simp [opOK, go_sem, c0', c1', hgb, Below.refl]
      try exact rfl
    simp only [Act.put, List.setIfInBounds_toArray, List.set_cons_succ, List.set_cons_zero]
  refine seq_new ⟨_, 0, rfl⟩ (by rfl) (fun w3 hb3 hH => ?_) ?_
  · exact opOK_val (v := .slice (some ⟨w3.heap.size, 0, none⟩) 1 1) (w' := w3.alloc (.cells #[.int .i64 l.start, .bool gb] 29)) (by simp [go_sem, execOp]) ⟨aB _ _, ⟨_, rfl⟩, _, rfl, Nat.le_trans (Nat.le_of_eq HK.out.symm) hb3.size, World.alloc_heap_new _ _⟩
  rintro _ ⟨nb, rfl⟩
  simp only [Act.put, List.setIfInBounds_toArray, List.set_cons_succ, List.set_cons_zero]
  refine seq_new ⟨_, 0, rfl⟩ (by rfl) (fun w3 hb3 hH => ?_) ?_
  · have hsl := hH ⟨0, .data⟩ (by simp) rfl
    simp only [addH, kMk] at hsl
    simp at hsl
    exact opOK_val (v := .slice (some ⟨ob, 0, none⟩) 0 0) (w' := w3) (by simp [go_sem, execOp]) ⟨Below.refl _ _, ⟨_, rfl⟩, _, rfl, hsl⟩
  rintro _ ⟨ob', rfl⟩
  simp only [Act.put, List.setIfInBounds_toArray, List.set_cons_succ, List.set_cons_zero]
  refine seq_new ⟨_, 0, rfl⟩ (by rfl) (fun w3 hb3 hH => ?_) ?_
  · have hsl := hH ⟨9, .data⟩ (by simp) rfl
    simp only [addH, kMk] at hsl
    simp at hsl
    exact opOK_val (v := .slice (some ⟨nb, 0, none⟩) 1 1) (w' := w3) (by simp [go_sem, execOp]) ⟨Below.refl _ _, ⟨_, rfl⟩, _, rfl, hsl⟩
  rintro _ ⟨nb', rfl⟩
  simp only [Act.put, List.setIfInBounds_toArray, List.set_cons_succ, List.set_cons_zero]
  refine seq_end fun w2 hb2 hH => ?_
  have ho2 := hH 10 (by decide)
  have hn2 := hH 11 (by decide)
  simp only [addH, kMk] at ho2 hn2
  simp at ho2 hn2
  rw [HK.out] at hb2
  have HO2 : Hid (OutR K w2 (.slice (some ⟨ob', 0, none⟩) 0 0) [] []) := Lib.hid ⟨rfl, own_empty ho2.2 ho2.1, fun i u xs hu _ => by simp at hu⟩
  have HNW2 : Hid (SlN 2 (fun q => K ≤ q) w2 (.slice (some ⟨nb', 0, none⟩) 1 1) ([start5 l].map stRow)) := Lib.hid (now_sl (own_lit (cs := #[.int .i64 l.start, .bool gb]) (k := 2) (m := 1) hn2.2 hn2.1 (by decide) rfl |> fun h => by rw [HG5.out]; exact h))
  have HB2 : Hid (Below K w1 w2) := Lib.hid hb2
  have HAL : Hid (Along l said p p [] [] [start5 l]) := Lib.hid (Along.start (by omega))
  have HNR : Hid (NowR [start5 l]) := Lib.hid ⟨by simp, fun s hs => by rw [List.mem_singleton] at hs; subst hs; have := HST.out; rw [HG5.out]; simp only; omega⟩
  have HBD0 : Hid (∀ st ∈ ([] : List (List Sp)), st.length ≤ 41846) := Lib.hid (by simp)
  clear hH ho2 hn2 hb2
  go_wp2
  go_loopw [10, 11, 12] (fun ov nv tv wr => ∃ (t : Int) (ts : List Int) (sts : List (List Sp)) (now : List Std) (vs : List Value), tv = .int .i64 t ∧ 0 ≤ t ∧ t ≤ 12 ∧ Hid (Along l said p t ts sts now) ∧ Hid (NowR now) ∧ Hid (∀ st ∈ sts, st.length ≤ 41846) ∧ Hid (OutR K wr ov sts vs) ∧ Hid (SlN 2 (fun q => K ≤ q) wr nv (now.map stRow)) ∧ Hid (Below K w1 wr)) (fun _ _ tv _ => 100 - (intOf tv).toNat)
  case atStart => exact ⟨p, [], [], [start5 l], [], rfl, by omega, by omega, HAL, HNR, HBD0, HO2, HNW2, HB2⟩
  case round =>
    clear HO2 HNW2 HB2 HAL HNR HBD0
    obtain ⟨t, ts, sts, now, vs, rfl, ht0, ht12, HAr, HNRr, HBDr, HOr, HNr, HBr⟩ := hrel
    obtain ⟨wo, rfl⟩ : ∃ wo : World, wo = wr := ⟨_, rfl⟩
    have hbo : Below w1.heap.size w1 wo := by rw [HK.out]; exact HBr.out
    have c0 := bAt hbo c0
    have c1 := bAt hbo c1
    have c2 := bAt hbo c2
    have c3 := bAt hbo c3
    have c4 := bAt hbo c4
    have c5 := bAt hbo c5
    have c6 := bAt hbo c6
    obtain ⟨na, nc, rfl, -, hncm⟩ := HNr.out.form
    rw [List.length_map] at HNr ⊢
    obtain ⟨m, hm⟩ : ∃ m, now.length = m := ⟨_, rfl⟩
    rw [hm] at HNr ⊢
    have HM := Lib.hid hm
    have hm122 : m ≤ 122 := by rw [← hm]; exact HNRr.out.len
    have HLo := Lib.hid (HL.out.below hbo)
    have HBLo := Lib.hid (HBL.out.below hbo)
    have HSo := Lib.hid (HS.out.below hbo)
    obtain ⟨oa, oc, hov⟩ := owns_form HOr.out.row
    subst hov
    obtain ⟨j, hj⟩ : ∃ j, vs.length = j := ⟨_, rfl⟩
    rw [hj]
    have HJ := Lib.hid hj
    have d0 := c0
    have d1 := c1
    have d2 := c2
    have d3 := c3
    have d4 := c4
    have d5 := c5
    have d6 := c6
    clear hm hbo hncm hj
    by_cases hlt : t < l.turns
    · skip
      go_upto_region 6 with fail
      obtain ⟨Q, hQ⟩ : ∃ Q, wo.heap.size = Q := ⟨_, rfl⟩
      obtain ⟨wt, hwt⟩ : ∃ x, (wo.alloc (.cells #[] 147)).alloc (.cells #[] 29) = x := ⟨_, rfl⟩
      have hbt : Below Q wo wt := by rw [← hwt, ← hQ]; exact (aB _ _).alloc (by simp) _
      have kA : wt.heap[Q]? = some (.cells #[] 147 (0, 0)) := by rw [← hwt, ← hQ]; exact (Below.heap_alloc _ _ _ (by simp)).trans (World.alloc_heap_new _ _)
      have kB : wt.heap[Q + 1]? = some (.cells #[] 29 (0, 0)) := by
        rw [← hwt, ← hQ]
        have := World.alloc_heap_new (wo.alloc (.cells #[] 147)) (.cells #[] 29)
        simp only [World.size_alloc] at this
        exact this
      have HTU0 : Hid (TuSt Q wt (.slice (some ⟨Q, 0, none⟩) 0 0) (.slice (some ⟨Q + 1, 0, none⟩) 0 0) (stepL l said t (now.take 0)) (firsts ((stepL l said t (now.take 0)).map Sp.aft))) := Lib.hid ⟨own_empty kA (Nat.le_refl _), own_empty kB (by omega)⟩
      have HBT : Hid (Below Q wo wt) := Lib.hid hbt
      have HQ := Lib.hid hQ
      have HKQ : Hid (K ≤ Q) := Lib.hid (by rw [← hQ, ← HK.out]; exact (show Below w1.heap.size w1 wo by rw [HK.out]; exact HBr.out).size)
      rw [hwt, hQ]
      clear hbt kA kB hwt hQ
      go_wp2
      go_loopw [13, 14, 15] (fun sv xv iv wr => ∃ i : Nat, i ≤ m ∧ iv = .int .i64 i ∧ Hid (TuSt Q wr sv xv (stepL l said t (now.take i)) (firsts ((stepL l said t (now.take i)).map Sp.aft))) ∧ Hid (Below Q wo wr)) (fun _ _ iv _ => m - (intOf iv).toNat)
      case atStart => exact ⟨0, by omega, by go_num, HTU0, HBT⟩
      case round =>
        clear HTU0 HBT
        obtain ⟨i, hi, rfl, HTi, HBi⟩ := hrel
        obtain ⟨wi, rfl⟩ : ∃ wi : World, wi = wr := ⟨_, rfl⟩
        have hbi : Below wo.heap.size wo wi := by rw [HQ.out]; exact HBi.out
        have c0 := bAt hbi c0
        have c1 := bAt hbi c1
        have c2 := bAt hbi c2
        have c3 := bAt hbi c3
        have c4 := bAt hbi c4
        have c5 := bAt hbi c5
        have c6 := bAt hbi c6
        have HLi := Lib.hid (HLo.out.below hbi)
        have HBLi := Lib.hid (HBLo.out.below hbi)
        have HSi := Lib.hid (HSo.out.below hbi)
        have HNi := Lib.hid (HNr.out.below hbi)
        have HOi := Lib.hid (HOr.out.below hbi)
        have HBB := Lib.hid hbi
        clear hbi
        by_cases hlt2 : i < m
        · skip
          have hil : i < now.length := by rw [HM.out]; exact hlt2
          obtain ⟨⟨xl, xi⟩, hx⟩ : ∃ p, now[i] = p := ⟨_, rfl⟩
          have hxb : 0 ≤ xl ∧ xl ≤ 60 := by have := HNRr.out.2 now[i] (List.getElem_mem _); rw [hx] at this; exact this
          obtain ⟨b, off, hra, -, -, hc⟩ := HNr.out.cell (i := i) (by rw [List.length_map]; exact hil)
          cases hra
          have hrow : (now.map stRow)[i]'(by rw [List.length_map]; exact hil) = [.int .i64 xl, .bool xi] := by rw [List.getElem_map, hx]; rfl
          rw [hrow] at hc
          have y0 := hc 0 _ rfl
          have y1 := hc 1 _ rfl
          rw [Nat.add_zero] at y0
          have x0 := bAt HBB.out y0
          have x1 := bAt HBB.out y1
          have HX := Lib.hid hx
          clear hc hrow hx HBB
          go_upto_region 9 with fail
          refine wp_region_seq 5 [.is (.agg #[.int .i64 l.start, .int .i64 l.gin, .int .i64 l.gout, .slice a n cap, .int .i64 l.players, .int .i64 l.turns, .bool l.won]), .is (.slice (some ⟨b, off, none⟩) m nc), .is (.int .i64 (i : Int)), .is (.pointer (some ⟨b, off + i * 2, none⟩)), .is (.agg #[.int .i64 xl, .bool xi])] rfl mix (by kernel_rfl) (by kernel_rfl) ?_
          simp only [List.take_succ_cons, List.take_zero]
          iterate 5
            refine seq_on (by rfl) (fun w3 hb3 _ => ?_) ?_
            · have c0' := bAt hb3 c0
              have c1' := bAt hb3 c1
              have c2' := bAt hb3 c2
              have c3' := bAt hb3 c3
              have c4' := bAt hb3 c4
              have c5' := bAt hb3 c5
              have c6' := bAt hb3 c6
              have x0' := bAt hb3 x0
              have x1' := bAt hb3 x1
              simp [opOK, go_sem, c0', c1', c2', c3', c4', c5', c6', x0', x1', hlt2, Below.refl]
              try exact rfl
            simp only [Act.put, List.setIfInBounds_toArray, List.set_cons_succ, List.set_cons_zero]
          refine seq_end fun w3 hb3 _ => ?_
          simp only [List.drop_succ_cons, List.drop_zero]
          have HB3 : Hid (Below Q wo w3) := Lib.hid (bThenQ HBi.out HQ.out hb3)
          have HTU3 := Lib.hid (HTi.out.below hb3)
          have hsx := HSi.out.below hb3
          have c0 := bAt hb3 c0
          have c1 := bAt hb3 c1
          have c2 := bAt hb3 c2
          have c3 := bAt hb3 c3
          have c4 := bAt hb3 c4
          have c5 := bAt hb3 c5
          have c6 := bAt hb3 c6
          have x0 := bAt hb3 x0
          have x1 := bAt hb3 x1
          have HLi := Lib.hid (HLi.out.below hb3)
          have HBLi := Lib.hid (HBLi.out.below hb3)
          have HNi := Lib.hid (HNi.out.below hb3)
          have HOi := Lib.hid (HOi.out.below hb3)
          clear hb3 HTi HBi
          go_wp2_with fail
          have hcall := refVisits_any l HV.out HH6.out (.slice a n cap) ⟨xl, xi⟩ w3 ⟨hxb.1, by have := hxb.2; simp only; omega⟩ hsx
          unfold legV legA stV at hcall
          simp only at hcall
          refine hcall.mono ?_
          rintro e w4 ⟨rv, rfl, hb4, hrv⟩
          obtain ⟨ra, rc, rfl⟩ := owns_form hrv
          have HB4 := Lib.hid (bThenQ HB3.out HQ.out hb4)
          have HTU4 := Lib.hid (HTU3.out.below hb4)
          have c0 := bAt hb4 c0
          have c1 := bAt hb4 c1
          have c2 := bAt hb4 c2
          have c3 := bAt hb4 c3
          have c4 := bAt hb4 c4
          have c5 := bAt hb4 c5
          have c6 := bAt hb4 c6
          have x0 := bAt hb4 x0
          have x1 := bAt hb4 x1
          obtain ⟨V, hV⟩ : ∃ V, vis5 l ⟨xl, xi⟩ = V := ⟨_, rfl⟩
          have hleft : ∀ p ∈ V, 0 ≤ p.1.left ∧ p.1.left ≤ xl := fun p hp => by rw [← hV] at hp; exact vis_left HV.out.good hxb.1 hp
          have hrows : visRows l ⟨xl, xi⟩ = V.map fun p => visRow p.1 p.2 := by rw [← hV]; rfl
          rw [hrows, List.length_map] at hrv ⊢
          have hVb : V.length ≤ 343 := by rw [← hV]; exact visN_bd HH6.out _
          obtain ⟨q, hq⟩ : ∃ q, V.length = q := ⟨_, rfl⟩
          rw [hq] at hVb ⊢
          have HRV : Hid (w4.ownsRow Q 44 4 (.slice ra q rc) V.length (V.map fun p => visRow p.1 p.2).flatten) := Lib.hid (by rw [← hq] at *; exact own_mono hrv (by have := HB3.out.size; have := HQ.out; omega))
          have HVV := Lib.hid hV
          have HVQ := Lib.hid hq
          have HLEFT := Lib.hid hleft
          obtain ⟨A, hA⟩ : ∃ A, stepL l said t (now.take i) = A := ⟨_, rfl⟩
          have hAl : A.length ≤ 41846 - 343 := by
            have h1 := stepL_len (said := said) (t := t) HH6.out (now.take i)
            rw [hA, List.length_take, HM.out] at h1
            have h2 : min i m * 343 ≤ 121 * 343 := Nat.mul_le_mul_right _ (by omega)
            omega
          have hA0 : TuSt Q w4 u13 u14 (A ++ visS l said t ⟨xl, xi⟩ (V.take 0)) (firsts ((A ++ visS l said t ⟨xl, xi⟩ (V.take 0)).map Sp.aft)) := by
            have h1 := HTU4.out
            rw [hA] at h1
            simpa [visS] using h1
          have HA := Lib.hid hA
          have HTUV := Lib.hid hA0
          clear hcall hb4 hrv hrows hV hq hleft hA hA0 hsx HB3 HTU3 HTU4
          go_wp2
          go_loopw [13, 14, 17] (fun sv xv kv wr => ∃ kk : Nat, kk ≤ q ∧ kv = .int .i64 kk ∧ Hid (TuSt Q wr sv xv (A ++ visS l said t ⟨xl, xi⟩ (V.take kk)) (firsts ((A ++ visS l said t ⟨xl, xi⟩ (V.take kk)).map Sp.aft))) ∧ Hid (Below Q wo wr) ∧ Hid (wr.ownsRow Q 44 4 (.slice ra q rc) V.length (V.map fun p => visRow p.1 p.2).flatten)) (fun _ _ kv _ => q - (intOf kv).toNat)
          case atStart => exact ⟨0, by omega, by go_num, HTUV, HB4, HRV⟩
          case round =>
            clear HTUV HB4 HRV
            obtain ⟨kk, hk, rfl, HTk, HBk, HRk⟩ := hrel
            obtain ⟨wk, rfl⟩ : ∃ wk : World, wk = wr := ⟨_, rfl⟩
            have hbk : Below wo.heap.size wo wk := by rw [HQ.out]; exact HBk.out
            have c0 := bAt hbk d0
            have c1 := bAt hbk d1
            have c2 := bAt hbk d2
            have c3 := bAt hbk d3
            have c4 := bAt hbk d4
            have c5 := bAt hbk d5
            have c6 := bAt hbk d6
            have x0 := bAt hbk y0
            have x1 := bAt hbk y1
            have HLk := Lib.hid (HLo.out.below hbk)
            have HBLk := Lib.hid (HBLo.out.below hbk)
            clear hbk
            by_cases hlt3 : kk < q
            · skip
              have hkl : kk < V.length := by rw [HVQ.out]; exact hlt3
              obtain ⟨⟨⟨pl, pi, pb, pw⟩, pd⟩, hpv⟩ : ∃ p, V[kk] = p := ⟨_, rfl⟩
              have htk : V.take (kk + 1) = V.take kk ++ [(⟨pl, pi, pb, pw⟩, pd)] := by rw [List.take_succ_eq_append_getElem hkl, hpv]
              have hlf := HLEFT.out V[kk] (List.getElem_mem _)
              rw [hpv] at hlf
              simp only at hlf
              obtain ⟨b4, off4, hra, -, -, hc⟩ := (visRow_sl HRk.out).cell (i := kk) (by rw [List.length_map]; exact hkl)
              cases hra
              have hrow : (V.map fun p => visRow p.1 p.2)[kk]'(by rw [List.length_map]; exact hkl) = [.int .i64 pl, .bool pi, .bool pw, .int .i64 (pd : Int)] := by rw [List.getElem_map, hpv]; rfl
              rw [hrow] at hc
              have p0 := hc 0 _ rfl
              have p1 := hc 1 _ rfl
              have p2 := hc 2 _ rfl
              have p3 := hc 3 _ rfl
              rw [Nat.add_zero] at p0
              have HTK := Lib.hid htk
              have HPV := Lib.hid hpv
              clear hc hrow hpv htk
              obtain ⟨fi, hfi⟩ : ∃ b, fitsP ⟨xl, xi⟩ ⟨pl, pi, pb, pw⟩ (said t) = b := ⟨_, rfl⟩
              have hright : ∀ W, Below wk.heap.size wk W → Calls Tryz.prog 96 #[lv, blv, .int .i64 t, .agg #[.int .i64 xl, .bool xi], .agg #[.int .i64 pl, .bool pi, .bool pw, .int .i64 (pd : Int)]] W fun e w' => e = .returned (.bool fi) ∧ Below W.heap.size W w' := fun W hW => by
                have h := refRight_any list HRV.out bels HBLN.out lv blv t ⟨xl, xi⟩ ⟨pl, pi, pb, pw⟩ pd ⟨by simp only; omega, by simp only; omega⟩ ⟨by simp only; omega, by simp only; omega⟩ W (HLk.out.below hW) (HBLk.out.below hW)
                rw [HSAID.out, hfi] at h
                exact h
              have HRI := Lib.hid hright
              have HFI := Lib.hid hfi
              obtain ⟨te, hte⟩ : ∃ b, (t == l.turns - 1) = b := ⟨_, rfl⟩
              obtain ⟨lw, hlw⟩ : ∃ b, l.won = b := ⟨_, rfl⟩
              have hfit : fitV l said t ⟨xl, xi⟩ (⟨pl, pi, pb, pw⟩, pd) = ((pw == (lw && te)) && fi) := by
                unfold fitV
                simp only
                rw [hfi, hte, hlw]
              have HFIT := Lib.hid hfit
              have hwT : IntKind.i64.wrap (l.turns - 1) = l.turns - 1 := wrap_small _ (by have := HTT.out; omega) (by have := HTT.out; omega)
              rw [hlw] at c6
              have HLW := Lib.hid hlw
              have HTE := Lib.hid hte
              clear hright hfi hlw hfit
              go_upto_region 13 with fail
              cases lw
              · skip
                obtain ⟨ne, hne⟩ : ∃ b, (pw != false) = b := ⟨_, rfl⟩
                cases ne
                · skip
                  have hpw : pw = false := by cases pw <;> cases te <;> simp_all
                  have HFQ : Hid (fitV l said t ⟨xl, xi⟩ (⟨pl, pi, pb, pw⟩, pd) = fi) := Lib.hid (by rw [HFIT.out]; cases pw <;> cases te <;> simp_all)
                  refine wp_region_seqW (.is (.slice (some ⟨b4, off4, none⟩) q rc) :: .is (.int .i64 (kk : Int)) :: .is (.pointer (some ⟨b4, off4 + kk * 4, none⟩)) :: .is (.pointer (some ⟨b4, off4 + kk * 4 + 2, none⟩)) :: .is (.bool pw) :: .is (.pointer (some ⟨N, 6, none⟩)) :: .is (.bool false) :: .is (.bool false) :: .is (undef) :: .is (undef) :: .is (undef) :: .is (undef) :: .is (undef) :: .is (.bool false) :: .is (.bool false) :: .is (.bool false) :: .is (lv) :: .is (blv) :: .is (.int .i64 t) :: .is (.slice (some ⟨b, off, none⟩) m nc) :: .is (.int .i64 (i : Int)) :: .is (.pointer (some ⟨b, off + i * 2, none⟩)) :: .is (.agg #[.int .i64 xl, .bool xi]) :: .is (.slice (some ⟨b4, off4, none⟩) q rc) :: .is (.int .i64 (kk : Int)) :: .is (.pointer (some ⟨b4, off4 + kk * 4, none⟩)) :: .is (.agg #[.int .i64 pl, .bool pi, .bool pw, .int .i64 (pd : Int)]) :: .is (.bool fi) :: .is (.bool (!fi)) :: .is (.bool (!fi)) :: []) rfl mix (by kernel_rfl) (by kernel_rfl) ?_
                  iterate 8
                    refine seq_on (by rfl) (fun w3 hb3 _ => ?_) ?_
                    · have c5' := bAt hb3 c5
                      have c6' := bAt hb3 c6
                      have x0' := bAt hb3 x0
                      have x1' := bAt hb3 x1
                      have p0' := bAt hb3 p0
                      have p1' := bAt hb3 p1
                      have p2' := bAt hb3 p2
                      have p3' := bAt hb3 p3
                      simp [opOK, go_sem, c6', p2', hlt3, Below.refl]
                      try exact rfl
                    simp only [Act.put, List.setIfInBounds_toArray, List.set_cons_succ, List.set_cons_zero]
                  iterate 5
                    refine seq_off (by rfl) ?_
                    simp only [Act.put, List.setIfInBounds_toArray, List.set_cons_succ, List.set_cons_zero]
                  iterate 1
                    refine seq_on (by rfl) (fun w3 hb3 _ => ?_) ?_
                    · have c5' := bAt hb3 c5
                      have c6' := bAt hb3 c6
                      have x0' := bAt hb3 x0
                      have x1' := bAt hb3 x1
                      have p0' := bAt hb3 p0
                      have p1' := bAt hb3 p1
                      have p2' := bAt hb3 p2
                      have p3' := bAt hb3 p3
                      simp [opOK, go_sem, Below.refl]
                      try exact rfl
                    simp only [Act.put, List.setIfInBounds_toArray, List.set_cons_succ, List.set_cons_zero]
                  refine seq_on (by rfl) (fun w3 hb3 hH => ?_) ?_
                  · simp [opOK, go_sem, Below.refl]
                    exact hpw
                  simp only [Act.put, List.setIfInBounds_toArray, List.set_cons_succ, List.set_cons_zero]
                  iterate 12
                    refine seq_on (by rfl) (fun w3 hb3 _ => ?_) ?_
                    · have c5' := bAt hb3 c5
                      have c6' := bAt hb3 c6
                      have x0' := bAt hb3 x0
                      have x1' := bAt hb3 x1
                      have p0' := bAt hb3 p0
                      have p1' := bAt hb3 p1
                      have p2' := bAt hb3 p2
                      have p3' := bAt hb3 p3
                      simp [opOK, go_sem, x0', x1', p0', p1', p2', p3', hlt3, hlt2, Below.refl]
                      try exact rfl
                    simp only [Act.put, List.setIfInBounds_toArray, List.set_cons_succ, List.set_cons_zero]
                  refine seq_on (by rfl) (fun w3 hb3 hH => ?_) ?_
                  · refine opOK_call (f := 96) (args := #[lv, blv, .int .i64 t, .agg #[.int .i64 xl, .bool xi], .agg #[.int .i64 pl, .bool pi, .bool pw, .int .i64 (pd : Int)]]) (by simp [go_sem]) ?_
                    exact (HRI.out w3 hb3).mono fun e W' ⟨he, hb⟩ => ⟨_, he, rfl, hb⟩
                  simp only [Act.put, List.setIfInBounds_toArray, List.set_cons_succ, List.set_cons_zero]
                  iterate 2
                    refine seq_on (by rfl) (fun w3 hb3 _ => ?_) ?_
                    · have c5' := bAt hb3 c5
                      have c6' := bAt hb3 c6
                      have x0' := bAt hb3 x0
                      have x1' := bAt hb3 x1
                      have p0' := bAt hb3 p0
                      have p1' := bAt hb3 p1
                      have p2' := bAt hb3 p2
                      have p3' := bAt hb3 p3
                      simp [opOK, go_sem, Below.refl]
                      try exact rfl
                    simp only [Act.put, List.setIfInBounds_toArray, List.set_cons_succ, List.set_cons_zero]
                  refine seq_end fun w5 hb5 _ => ?_
                  clear hne hpw
                  cases fi
                  · have HF := HFQ
                    have HB5 := Lib.hid (bThenQ HBk.out HQ.out hb5)
                    have HT5 : Hid (TuSt Q w5 u13 u14 (A ++ visS l said t ⟨xl, xi⟩ (V.take (kk + 1))) (firsts ((A ++ visS l said t ⟨xl, xi⟩ (V.take (kk + 1))).map Sp.aft))) := Lib.hid (by rw [HTK.out, visS_out HF.out]; exact HTk.out.below hb5)
                    have HR5 := Lib.hid (ownsN_below HRk.out hb5)
                    clear hb5 HTk HBk HRk p0 p1 p2 p3
                    go_wp2
                    go_roundw
                    case rel => exact ⟨kk + 1, by omega, by go_num, HT5, HB5, HR5⟩
                    case measure => simp [intOf]; omega
                  · have HF := HFQ
                    have HB5 := Lib.hid (bThenQ HBk.out HQ.out hb5)
                    have HT5 := Lib.hid (HTk.out.below hb5)
                    have HR5 := Lib.hid (ownsN_below HRk.out hb5)
                    have x0 := bAt hb5 x0
                    have x1 := bAt hb5 x1
                    have p0 := bAt hb5 p0
                    have p1 := bAt hb5 p1
                    have p2 := bAt hb5 p2
                    have p3 := bAt hb5 p3
                    obtain ⟨st, hst⟩ : ∃ st, A ++ visS l said t ⟨xl, xi⟩ (V.take kk) = st := ⟨_, rfl⟩
                    have hst2 : A ++ visS l said t ⟨xl, xi⟩ (V.take (kk + 1)) = st ++ [⟨⟨xl, xi⟩, ⟨pl, pi, pb, pw⟩, pd⟩] := by rw [HTK.out, visS_in HF.out, ← hst, List.append_assoc]
                    have hls : st.length ≤ 41846 := by
                      have h1 := visS_len (l := l) (said := said) (t := t) (s := ⟨xl, xi⟩) (V.take kk)
                      rw [List.length_take] at h1
                      rw [← hst, List.length_append]
                      omega
                    rw [hst] at HT5
                    obtain ⟨sa, sc, hsv⟩ := owns_form HT5.out.steps
                    obtain ⟨xa, xc, hxv⟩ := owns_form HT5.out.next
                    obtain ⟨ns, hns⟩ : ∃ k, st.length = k := ⟨_, rfl⟩
                    obtain ⟨fx, hfx⟩ : ∃ f, firsts (st.map Sp.aft) = f := ⟨_, rfl⟩
                    rw [hfx] at HT5 hxv
                    obtain ⟨nf, hnf⟩ : ∃ k, fx.length = k := ⟨_, rfl⟩
                    rw [hns] at hsv
                    rw [hnf] at hxv
                    subst hsv hxv
                    have HNS := Lib.hid hns
                    have HNF := Lib.hid hnf
                    have HST2 := Lib.hid hst2
                    have HFX := Lib.hid hfx
                    have hfl : fx.length ≤ st.length := by rw [← hfx]; exact Nat.le_trans (firsts_len _) (by rw [List.length_map]; exact Nat.le_refl _)
                    have HNFM : Hid (nf + 1 ≤ 100000) := Lib.hid (by omega)
                    have hns2 : ns ≤ 41846 := by omega
                    have hszQ : Q ≤ w5.heap.size := by have := HB5.out.size; have := HQ.out; omega
                    have HSZ := Lib.hid hszQ
                    clear hb5 HTk HBk HRk hst hst2 hns hfx hnf hfl
                    go_upto_region 14 with fail
                    refine wp_region_seq 11 [.is (.slice sa ns sc), .is (.slice (some ⟨b, off, none⟩) m nc), .is (.int .i64 (i : Int)), .is (.pointer (some ⟨b, off + i * 2, none⟩)), .is (.agg #[.int .i64 xl, .bool xi]), .is (.slice (some ⟨b4, off4, none⟩) q rc), .is (.int .i64 (kk : Int)), .is (.pointer (some ⟨b4, off4 + kk * 4, none⟩)), .is (.agg #[.int .i64 pl, .bool pi, .bool pw, .int .i64 (pd : Int)]), .is (.agg #[.int .i64 xl, .bool xi, .int .i64 pl, .bool pi, .bool pw, .int .i64 (pd : Int)]), kMk Q 147 #[.int .i64 xl, .bool xi, .int .i64 pl, .bool pi, .bool pw, .int .i64 (pd : Int)] 1] rfl mix (by kernel_rfl) (by kernel_rfl) ?_
                    simp only [List.take_succ_cons, List.take_zero]
                    iterate 10
                      refine seq_on (by rfl) (fun w3 hb3 _ => ?_) ?_
                      · have x0' := bAt hb3 x0
                        have x1' := bAt hb3 x1
                        have p0' := bAt hb3 p0
                        have p1' := bAt hb3 p1
                        have p2' := bAt hb3 p2
                        have p3' := bAt hb3 p3
                        simp [opOK, go_sem, x0', x1', p0', p1', p2', p3', hlt3, hlt2, Below.refl]
                        try exact rfl
                      simp only [Act.put, List.setIfInBounds_toArray, List.set_cons_succ, List.set_cons_zero]
                    refine seq_new ⟨_, 0, rfl⟩ (by rfl) (fun w3 hb3 hH => ?_) ?_
                    · exact opOK_val (v := .slice (some ⟨w3.heap.size, 0, none⟩) 1 1) (w' := w3.alloc (.cells #[.int .i64 xl, .bool xi, .int .i64 pl, .bool pi, .bool pw, .int .i64 (pd : Int)] 147)) (by simp [go_sem, execOp]) ⟨aB _ _, ⟨_, rfl⟩, _, rfl, Nat.le_trans HSZ.out hb3.size, World.alloc_heap_new _ _⟩
                    rintro _ ⟨lb, rfl⟩
                    simp only [Act.put, List.setIfInBounds_toArray, List.set_cons_succ, List.set_cons_zero]
                    refine seq_end fun w6 hb6 hH => ?_
                    have hlit := hH 10 (by decide)
                    simp only [addH, kMk] at hlit
                    simp at hlit
                    simp only [List.drop_succ_cons, List.drop_zero]
                    have HLIT := Lib.hid hlit.2
                    have HB6 := Lib.hid (bThenQ HB5.out HQ.out hb6)
                    have HT6 := Lib.hid (HT5.out.below hb6)
                    have HR6 := Lib.hid (ownsN_below HR5.out hb6)
                    have HRS6 : Hid (w6.ownsRow Q 147 6 (.slice sa ns sc) ns ((st.map spRow).flatten)) := Lib.hid (by have h := HT6.out.steps; rw [HNS.out] at h; exact h)
                    have HSZ6 : Hid (Q ≤ w6.heap.size) := Lib.hid (Nat.le_trans HSZ.out hb6.size)
                    clear hb6 hH hlit HB5 HT5 HR5
                    go_wp2_with (at_builtin; refine wpList_appendN rfl (.tmp 91) (.tmp 101) 145 rfl Q 147 (.agg #[.int .i64 0, .bool false, .int .i64 0, .bool false, .bool false, .int .i64 0]) 6 48 Tryz.underlying145 info_step5 rfl (by decide) (.slice sa ns sc) ns ((st.map spRow).flatten) rfl HRS6.out lb 0 1 1 (spRow ⟨⟨xl, xi⟩, ⟨pl, pi, pb, pw⟩, pd⟩) rfl rfl (fun j u hj => by rw [cell_of_heap HLIT.out, Nat.zero_add]; simpa [spRow] using hj) (spRow_one _) (by omega) (by decide) HSZ6.out ?_)
                    intro v7 w7 ho7 hg7 hat7
                    obtain ⟨sa7, sc7, rfl⟩ := owns_form ho7
                    have ht7 := HT6.out.pushS (sp := ⟨⟨xl, xi⟩, ⟨pl, pi, pb, pw⟩, pd⟩) (by rw [HNS.out]; exact ho7) hg7
                    have HB7 : Hid (Below Q wo w7) := Lib.hid (HB6.out.trans (below_grownBy hg7 HSZ6.out (fun g hg => (HRS6.out.lt g hg).1)))
                    have HR7 : Hid (w7.ownsRow Q 44 4 (.slice (some ⟨b4, off4, none⟩) q rc) V.length (V.map fun p => visRow p.1 p.2).flatten) := Lib.hid (HR6.out.kept hg7 (ownsN_ne HR6.out HRS6.out (by decide)))
                    have HT7 := Lib.hid ht7
                    clear ho7 hg7 hat7 ht7 HT6 HR6 HRS6 HB6 HSZ6 HLIT p0 p1 p2 p3 x0 x1
                    obtain ⟨b4', off4', hra, -, -, hc⟩ := (visRow_sl HR7.out).cell (i := kk) (by rw [List.length_map, HVQ.out]; exact hlt3)
                    cases hra
                    have hrow : (V.map fun p => visRow p.1 p.2)[kk]'(by rw [List.length_map, HVQ.out]; exact hlt3) = [.int .i64 pl, .bool pi, .bool pw, .int .i64 (pd : Int)] := by rw [List.getElem_map, HPV.out]; rfl
                    rw [hrow] at hc
                    have p0 := hc 0 _ rfl
                    have p1 := hc 1 _ rfl
                    rw [Nat.add_zero] at p0
                    clear hc hrow
                    go_wp2_with fail
                    have hcall := refIndex_any fx (.slice xa nf xc) ⟨pl, pi⟩ w7 HT7.out.nowSl
                    unfold stV at hcall
                    simp only at hcall
                    refine hcall.mono ?_
                    rintro e w8 ⟨z, rfl, hb8, hz⟩
                    clear hcall
                    have HZI := Lib.hid hz
                    have HT8 := Lib.hid (HT7.out.below hb8)
                    have HB8 := Lib.hid (bThenQ HB7.out HQ.out hb8)
                    have HR8 := Lib.hid (ownsN_below HR7.out hb8)
                    have p0 := bAt hb8 p0
                    have p1 := bAt hb8 p1
                    clear hb8 hz HT7 HB7 HR7
                    by_cases hz0 : z < 0
                    · have dz : decide (z < 0) = true := decide_eq_true hz0
                      have HNI := Lib.hid (HZI.out.1 hz0)
                      have hF8 : Q ≤ w8.heap.size := by have := HB8.out.size; have := HQ.out; omega
                      have HSZ8 := Lib.hid hF8
                      have HRN8 : Hid (w8.ownsRow Q 29 2 (.slice xa nf xc) nf ((fx.map stRow).flatten)) := Lib.hid (by have h := HT8.out.next; rw [HNF.out] at h; exact h)
                      clear hz0 hF8
                      go_wp2_with (at_builtin; refine wpList_appendN rfl (.tmp 111) (.tmp 117) 180 rfl Q 29 (.agg #[.int .i64 0, .bool false]) 2 16 Tryz.underlying180 info_stand5 rfl (by decide) (.slice xa nf xc) nf ((fx.map stRow).flatten) rfl (HRN8.out.alloc _) w8.heap.size 0 1 1 (stRow ⟨pl, pi⟩) rfl rfl (fun j u hj => by rw [cell_of_heap (World.alloc_heap_new _ _), Nat.zero_add]; simpa [stRow] using hj) (stRow_one _) HNFM.out (by decide) (by have := HSZ8.out; simp; omega) ?_)
                      intro v9 w9 ho9 hg9 hat9
                      obtain ⟨xa9, xc9, rfl⟩ := owns_form ho9
                      have hba : Below w8.heap.size w8 (w8.alloc (.cells #[.int .i64 pl, .bool pi] 29)) := aB _ _
                      have ht8a := HT8.out.below hba
                      have hr8a := ownsN_below HR8.out hba
                      have ht9 := ht8a.pushN (s := ⟨pl, pi⟩) (by rw [HNF.out]; exact ho9) hg9
                      have hb9 : Below Q wo w9 := (HB8.out.trans (hba.mono HSZ8.out)).trans (below_grownBy hg9 (Nat.le_trans HSZ8.out hba.size) (fun g hg => (HRN8.out.lt g hg).1))
                      have HR9 : Hid (w9.ownsRow Q 44 4 (.slice (some ⟨b4, off4, none⟩) q rc) V.length (V.map fun p => visRow p.1 p.2).flatten) := Lib.hid (hr8a.kept hg9 (ownsN_ne hr8a (HRN8.out.alloc _) (by decide)))
                      have HB9 := Lib.hid hb9
                      have HT9 : Hid (TuSt Q w9 (.slice sa7 (ns + 1) sc7) (.slice xa9 (nf + 1) xc9) (A ++ visS l said t ⟨xl, xi⟩ (V.take (kk + 1))) (firsts ((A ++ visS l said t ⟨xl, xi⟩ (V.take (kk + 1))).map Sp.aft))) := Lib.hid (by
                        rw [HST2.out, List.map_append, List.map_cons, List.map_nil, firsts_snoc, HFX.out]
                        have e : addNew fx (Sp.aft ⟨⟨xl, xi⟩, ⟨pl, pi, pb, pw⟩, pd⟩) = fx ++ [⟨pl, pi⟩] := by unfold addNew; exact if_neg HNI.out
                        rw [e]; exact ht9)
                      clear ho9 hg9 hat9 hba ht8a hr8a ht9 hb9 HT8 HR8 HRN8 HB8 p0 p1
                      go_wp2_with fail
                      go_roundw
                      case rel => exact ⟨kk + 1, by omega, by go_num, HT9, HB9, HR9⟩
                      case measure => simp [intOf]; omega
                    · have dz : decide (z < 0) = false := decide_eq_false hz0
                      have HNI : Hid ((⟨pl, pi⟩ : Std) ∈ fx) := Lib.hid (Decidable.not_not.1 fun h => hz0 (HZI.out.2 h))
                      have HT9 : Hid (TuSt Q w8 (.slice sa7 (ns + 1) sc7) (.slice xa nf xc) (A ++ visS l said t ⟨xl, xi⟩ (V.take (kk + 1))) (firsts ((A ++ visS l said t ⟨xl, xi⟩ (V.take (kk + 1))).map Sp.aft))) := Lib.hid (by
                        rw [HST2.out, List.map_append, List.map_cons, List.map_nil, firsts_snoc, HFX.out]
                        have e : addNew fx (Sp.aft ⟨⟨xl, xi⟩, ⟨pl, pi, pb, pw⟩, pd⟩) = fx := by unfold addNew; exact if_pos HNI.out
                        rw [e]; exact HT8.out)
                      clear hz0 HT8 p0 p1
                      go_wp2_with fail
                      go_roundw
                      case rel => exact ⟨kk + 1, by omega, by go_num, HT9, HB8, HR8⟩
                      case measure => simp [intOf]; omega
                · skip
                  have hpw : pw = true := by cases pw <;> cases te <;> simp_all
                  have HF : Hid (fitV l said t ⟨xl, xi⟩ (⟨pl, pi, pb, pw⟩, pd) = false) := Lib.hid (by rw [HFIT.out]; cases pw <;> cases te <;> simp_all)
                  refine wp_region_seqW (.is (.slice (some ⟨b4, off4, none⟩) q rc) :: .is (.int .i64 (kk : Int)) :: .is (.pointer (some ⟨b4, off4 + kk * 4, none⟩)) :: .is (.pointer (some ⟨b4, off4 + kk * 4 + 2, none⟩)) :: .is (.bool pw) :: .is (.pointer (some ⟨N, 6, none⟩)) :: .is (.bool false) :: .is (.bool false) :: .is (undef) :: .is (undef) :: .is (undef) :: .is (undef) :: .is (undef) :: .is (.bool false) :: .is (.bool true) :: .is (.bool true) :: .is (undef) :: .is (undef) :: .is (undef) :: .is (undef) :: .is (undef) :: .is (undef) :: .is (undef) :: .is (undef) :: .is (undef) :: .is (undef) :: .is (undef) :: .is (undef) :: .is (undef) :: .is (.bool true) :: []) rfl mix (by kernel_rfl) (by kernel_rfl) ?_
                  iterate 8
                    refine seq_on (by rfl) (fun w3 hb3 _ => ?_) ?_
                    · have c5' := bAt hb3 c5
                      have c6' := bAt hb3 c6
                      have x0' := bAt hb3 x0
                      have x1' := bAt hb3 x1
                      have p0' := bAt hb3 p0
                      have p1' := bAt hb3 p1
                      have p2' := bAt hb3 p2
                      have p3' := bAt hb3 p3
                      simp [opOK, go_sem, c6', p2', hlt3, Below.refl]
                      try exact rfl
                    simp only [Act.put, List.setIfInBounds_toArray, List.set_cons_succ, List.set_cons_zero]
                  iterate 5
                    refine seq_off (by rfl) ?_
                    simp only [Act.put, List.setIfInBounds_toArray, List.set_cons_succ, List.set_cons_zero]
                  iterate 1
                    refine seq_on (by rfl) (fun w3 hb3 _ => ?_) ?_
                    · have c5' := bAt hb3 c5
                      have c6' := bAt hb3 c6
                      have x0' := bAt hb3 x0
                      have x1' := bAt hb3 x1
                      have p0' := bAt hb3 p0
                      have p1' := bAt hb3 p1
                      have p2' := bAt hb3 p2
                      have p3' := bAt hb3 p3
                      simp [opOK, go_sem, Below.refl]
                      try exact rfl
                    simp only [Act.put, List.setIfInBounds_toArray, List.set_cons_succ, List.set_cons_zero]
                  refine seq_on (by rfl) (fun w3 hb3 hH => ?_) ?_
                  · simp [opOK, go_sem, Below.refl]
                    exact hpw
                  simp only [Act.put, List.setIfInBounds_toArray, List.set_cons_succ, List.set_cons_zero]
                  iterate 1
                    refine seq_on (by rfl) (fun w3 hb3 _ => ?_) ?_
                    · have c5' := bAt hb3 c5
                      have c6' := bAt hb3 c6
                      have x0' := bAt hb3 x0
                      have x1' := bAt hb3 x1
                      have p0' := bAt hb3 p0
                      have p1' := bAt hb3 p1
                      have p2' := bAt hb3 p2
                      have p3' := bAt hb3 p3
                      simp [opOK, go_sem, Below.refl]
                      try exact rfl
                    simp only [Act.put, List.setIfInBounds_toArray, List.set_cons_succ, List.set_cons_zero]
                  iterate 13
                    refine seq_off (by rfl) ?_
                    simp only [Act.put, List.setIfInBounds_toArray, List.set_cons_succ, List.set_cons_zero]
                  iterate 1
                    refine seq_on (by rfl) (fun w3 hb3 _ => ?_) ?_
                    · have c5' := bAt hb3 c5
                      have c6' := bAt hb3 c6
                      have x0' := bAt hb3 x0
                      have x1' := bAt hb3 x1
                      have p0' := bAt hb3 p0
                      have p1' := bAt hb3 p1
                      have p2' := bAt hb3 p2
                      have p3' := bAt hb3 p3
                      simp [opOK, go_sem, Below.refl]
                      try exact rfl
                    simp only [Act.put, List.setIfInBounds_toArray, List.set_cons_succ, List.set_cons_zero]
                  refine seq_end fun w5 hb5 _ => ?_
                  clear hne hpw
                  have HB5 := Lib.hid (bThenQ HBk.out HQ.out hb5)
                  have HT5 : Hid (TuSt Q w5 u13 u14 (A ++ visS l said t ⟨xl, xi⟩ (V.take (kk + 1))) (firsts ((A ++ visS l said t ⟨xl, xi⟩ (V.take (kk + 1))).map Sp.aft))) := Lib.hid (by rw [HTK.out, visS_out HF.out]; exact HTk.out.below hb5)
                  have HR5 := Lib.hid (ownsN_below HRk.out hb5)
                  clear hb5 HTk HBk HRk p0 p1 p2 p3
                  go_wp2
                  go_roundw
                  case rel => exact ⟨kk + 1, by omega, by go_num, HT5, HB5, HR5⟩
                  case measure => simp [intOf]; omega
              · skip
                obtain ⟨ne, hne⟩ : ∃ b, (pw != te) = b := ⟨_, rfl⟩
                cases ne
                · skip
                  have hpw : pw = te := by cases pw <;> cases te <;> simp_all
                  have HFQ : Hid (fitV l said t ⟨xl, xi⟩ (⟨pl, pi, pb, pw⟩, pd) = fi) := Lib.hid (by rw [HFIT.out]; cases pw <;> cases te <;> simp_all)
                  refine wp_region_seqW (.is (.slice (some ⟨b4, off4, none⟩) q rc) :: .is (.int .i64 (kk : Int)) :: .is (.pointer (some ⟨b4, off4 + kk * 4, none⟩)) :: .is (.pointer (some ⟨b4, off4 + kk * 4 + 2, none⟩)) :: .is (.bool pw) :: .is (.pointer (some ⟨N, 6, none⟩)) :: .is (.bool true) :: .is (.bool true) :: .is (.int .i64 t) :: .is (.pointer (some ⟨N, 5, none⟩)) :: .is (.int .i64 l.turns) :: .is (.int .i64 (l.turns - 1)) :: .is (.bool te) :: .is (.bool te) :: .is (.bool false) :: .is (.bool false) :: .is (lv) :: .is (blv) :: .is (.int .i64 t) :: .is (.slice (some ⟨b, off, none⟩) m nc) :: .is (.int .i64 (i : Int)) :: .is (.pointer (some ⟨b, off + i * 2, none⟩)) :: .is (.agg #[.int .i64 xl, .bool xi]) :: .is (.slice (some ⟨b4, off4, none⟩) q rc) :: .is (.int .i64 (kk : Int)) :: .is (.pointer (some ⟨b4, off4 + kk * 4, none⟩)) :: .is (.agg #[.int .i64 pl, .bool pi, .bool pw, .int .i64 (pd : Int)]) :: .is (.bool fi) :: .is (.bool (!fi)) :: .is (.bool (!fi)) :: []) rfl mix (by kernel_rfl) (by kernel_rfl) ?_
                  iterate 14
                    refine seq_on (by rfl) (fun w3 hb3 _ => ?_) ?_
                    · have c5' := bAt hb3 c5
                      have c6' := bAt hb3 c6
                      have x0' := bAt hb3 x0
                      have x1' := bAt hb3 x1
                      have p0' := bAt hb3 p0
                      have p1' := bAt hb3 p1
                      have p2' := bAt hb3 p2
                      have p3' := bAt hb3 p3
                      simp [opOK, go_sem, c5', c6', p2', hlt3, hwT, hte, Below.refl]
                      try exact rfl
                    simp only [Act.put, List.setIfInBounds_toArray, List.set_cons_succ, List.set_cons_zero]
                  refine seq_on (by rfl) (fun w3 hb3 hH => ?_) ?_
                  · simp [opOK, go_sem, Below.refl]
                    exact hpw
                  simp only [Act.put, List.setIfInBounds_toArray, List.set_cons_succ, List.set_cons_zero]
                  iterate 12
                    refine seq_on (by rfl) (fun w3 hb3 _ => ?_) ?_
                    · have c5' := bAt hb3 c5
                      have c6' := bAt hb3 c6
                      have x0' := bAt hb3 x0
                      have x1' := bAt hb3 x1
                      have p0' := bAt hb3 p0
                      have p1' := bAt hb3 p1
                      have p2' := bAt hb3 p2
                      have p3' := bAt hb3 p3
                      simp [opOK, go_sem, x0', x1', p0', p1', p2', p3', hlt3, hlt2, Below.refl]
                      try exact rfl
                    simp only [Act.put, List.setIfInBounds_toArray, List.set_cons_succ, List.set_cons_zero]
                  refine seq_on (by rfl) (fun w3 hb3 hH => ?_) ?_
                  · refine opOK_call (f := 96) (args := #[lv, blv, .int .i64 t, .agg #[.int .i64 xl, .bool xi], .agg #[.int .i64 pl, .bool pi, .bool pw, .int .i64 (pd : Int)]]) (by simp [go_sem]) ?_
                    exact (HRI.out w3 hb3).mono fun e W' ⟨he, hb⟩ => ⟨_, he, rfl, hb⟩
                  simp only [Act.put, List.setIfInBounds_toArray, List.set_cons_succ, List.set_cons_zero]
                  iterate 2
                    refine seq_on (by rfl) (fun w3 hb3 _ => ?_) ?_
                    · have c5' := bAt hb3 c5
                      have c6' := bAt hb3 c6
                      have x0' := bAt hb3 x0
                      have x1' := bAt hb3 x1
                      have p0' := bAt hb3 p0
                      have p1' := bAt hb3 p1
                      have p2' := bAt hb3 p2
                      have p3' := bAt hb3 p3
                      simp [opOK, go_sem, Below.refl]
                      try exact rfl
                    simp only [Act.put, List.setIfInBounds_toArray, List.set_cons_succ, List.set_cons_zero]
                  refine seq_end fun w5 hb5 _ => ?_
                  clear hne hpw
                  cases fi
                  · have HF := HFQ
                    have HB5 := Lib.hid (bThenQ HBk.out HQ.out hb5)
                    have HT5 : Hid (TuSt Q w5 u13 u14 (A ++ visS l said t ⟨xl, xi⟩ (V.take (kk + 1))) (firsts ((A ++ visS l said t ⟨xl, xi⟩ (V.take (kk + 1))).map Sp.aft))) := Lib.hid (by rw [HTK.out, visS_out HF.out]; exact HTk.out.below hb5)
                    have HR5 := Lib.hid (ownsN_below HRk.out hb5)
                    clear hb5 HTk HBk HRk p0 p1 p2 p3
                    go_wp2
                    go_roundw
                    case rel => exact ⟨kk + 1, by omega, by go_num, HT5, HB5, HR5⟩
                    case measure => simp [intOf]; omega
                  · have HF := HFQ
                    have HB5 := Lib.hid (bThenQ HBk.out HQ.out hb5)
                    have HT5 := Lib.hid (HTk.out.below hb5)
                    have HR5 := Lib.hid (ownsN_below HRk.out hb5)
                    have x0 := bAt hb5 x0
                    have x1 := bAt hb5 x1
                    have p0 := bAt hb5 p0
                    have p1 := bAt hb5 p1
                    have p2 := bAt hb5 p2
                    have p3 := bAt hb5 p3
                    obtain ⟨st, hst⟩ : ∃ st, A ++ visS l said t ⟨xl, xi⟩ (V.take kk) = st := ⟨_, rfl⟩
                    have hst2 : A ++ visS l said t ⟨xl, xi⟩ (V.take (kk + 1)) = st ++ [⟨⟨xl, xi⟩, ⟨pl, pi, pb, pw⟩, pd⟩] := by rw [HTK.out, visS_in HF.out, ← hst, List.append_assoc]
                    have hls : st.length ≤ 41846 := by
                      have h1 := visS_len (l := l) (said := said) (t := t) (s := ⟨xl, xi⟩) (V.take kk)
                      rw [List.length_take] at h1
                      rw [← hst, List.length_append]
                      omega
                    rw [hst] at HT5
                    obtain ⟨sa, sc, hsv⟩ := owns_form HT5.out.steps
                    obtain ⟨xa, xc, hxv⟩ := owns_form HT5.out.next
                    obtain ⟨ns, hns⟩ : ∃ k, st.length = k := ⟨_, rfl⟩
                    obtain ⟨fx, hfx⟩ : ∃ f, firsts (st.map Sp.aft) = f := ⟨_, rfl⟩
                    rw [hfx] at HT5 hxv
                    obtain ⟨nf, hnf⟩ : ∃ k, fx.length = k := ⟨_, rfl⟩
                    rw [hns] at hsv
                    rw [hnf] at hxv
                    subst hsv hxv
                    have HNS := Lib.hid hns
                    have HNF := Lib.hid hnf
                    have HST2 := Lib.hid hst2
                    have HFX := Lib.hid hfx
                    have hfl : fx.length ≤ st.length := by rw [← hfx]; exact Nat.le_trans (firsts_len _) (by rw [List.length_map]; exact Nat.le_refl _)
                    have HNFM : Hid (nf + 1 ≤ 100000) := Lib.hid (by omega)
                    have hns2 : ns ≤ 41846 := by omega
                    have hszQ : Q ≤ w5.heap.size := by have := HB5.out.size; have := HQ.out; omega
                    have HSZ := Lib.hid hszQ
                    clear hb5 HTk HBk HRk hst hst2 hns hfx hnf hfl
                    go_upto_region 14 with fail
                    refine wp_region_seq 11 [.is (.slice sa ns sc), .is (.slice (some ⟨b, off, none⟩) m nc), .is (.int .i64 (i : Int)), .is (.pointer (some ⟨b, off + i * 2, none⟩)), .is (.agg #[.int .i64 xl, .bool xi]), .is (.slice (some ⟨b4, off4, none⟩) q rc), .is (.int .i64 (kk : Int)), .is (.pointer (some ⟨b4, off4 + kk * 4, none⟩)), .is (.agg #[.int .i64 pl, .bool pi, .bool pw, .int .i64 (pd : Int)]), .is (.agg #[.int .i64 xl, .bool xi, .int .i64 pl, .bool pi, .bool pw, .int .i64 (pd : Int)]), kMk Q 147 #[.int .i64 xl, .bool xi, .int .i64 pl, .bool pi, .bool pw, .int .i64 (pd : Int)] 1] rfl mix (by kernel_rfl) (by kernel_rfl) ?_
                    simp only [List.take_succ_cons, List.take_zero]
                    iterate 10
                      refine seq_on (by rfl) (fun w3 hb3 _ => ?_) ?_
                      · have x0' := bAt hb3 x0
                        have x1' := bAt hb3 x1
                        have p0' := bAt hb3 p0
                        have p1' := bAt hb3 p1
                        have p2' := bAt hb3 p2
                        have p3' := bAt hb3 p3
                        simp [opOK, go_sem, x0', x1', p0', p1', p2', p3', hlt3, hlt2, Below.refl]
                        try exact rfl
                      simp only [Act.put, List.setIfInBounds_toArray, List.set_cons_succ, List.set_cons_zero]
                    refine seq_new ⟨_, 0, rfl⟩ (by rfl) (fun w3 hb3 hH => ?_) ?_
                    · exact opOK_val (v := .slice (some ⟨w3.heap.size, 0, none⟩) 1 1) (w' := w3.alloc (.cells #[.int .i64 xl, .bool xi, .int .i64 pl, .bool pi, .bool pw, .int .i64 (pd : Int)] 147)) (by simp [go_sem, execOp]) ⟨aB _ _, ⟨_, rfl⟩, _, rfl, Nat.le_trans HSZ.out hb3.size, World.alloc_heap_new _ _⟩
                    rintro _ ⟨lb, rfl⟩
                    simp only [Act.put, List.setIfInBounds_toArray, List.set_cons_succ, List.set_cons_zero]
                    refine seq_end fun w6 hb6 hH => ?_
                    have hlit := hH 10 (by decide)
                    simp only [addH, kMk] at hlit
                    simp at hlit
                    simp only [List.drop_succ_cons, List.drop_zero]
                    have HLIT := Lib.hid hlit.2
                    have HB6 := Lib.hid (bThenQ HB5.out HQ.out hb6)
                    have HT6 := Lib.hid (HT5.out.below hb6)
                    have HR6 := Lib.hid (ownsN_below HR5.out hb6)
                    have HRS6 : Hid (w6.ownsRow Q 147 6 (.slice sa ns sc) ns ((st.map spRow).flatten)) := Lib.hid (by have h := HT6.out.steps; rw [HNS.out] at h; exact h)
                    have HSZ6 : Hid (Q ≤ w6.heap.size) := Lib.hid (Nat.le_trans HSZ.out hb6.size)
                    clear hb6 hH hlit HB5 HT5 HR5
                    go_wp2_with (at_builtin; refine wpList_appendN rfl (.tmp 91) (.tmp 101) 145 rfl Q 147 (.agg #[.int .i64 0, .bool false, .int .i64 0, .bool false, .bool false, .int .i64 0]) 6 48 Tryz.underlying145 info_step5 rfl (by decide) (.slice sa ns sc) ns ((st.map spRow).flatten) rfl HRS6.out lb 0 1 1 (spRow ⟨⟨xl, xi⟩, ⟨pl, pi, pb, pw⟩, pd⟩) rfl rfl (fun j u hj => by rw [cell_of_heap HLIT.out, Nat.zero_add]; simpa [spRow] using hj) (spRow_one _) (by omega) (by decide) HSZ6.out ?_)
                    intro v7 w7 ho7 hg7 hat7
                    obtain ⟨sa7, sc7, rfl⟩ := owns_form ho7
                    have ht7 := HT6.out.pushS (sp := ⟨⟨xl, xi⟩, ⟨pl, pi, pb, pw⟩, pd⟩) (by rw [HNS.out]; exact ho7) hg7
                    have HB7 : Hid (Below Q wo w7) := Lib.hid (HB6.out.trans (below_grownBy hg7 HSZ6.out (fun g hg => (HRS6.out.lt g hg).1)))
                    have HR7 : Hid (w7.ownsRow Q 44 4 (.slice (some ⟨b4, off4, none⟩) q rc) V.length (V.map fun p => visRow p.1 p.2).flatten) := Lib.hid (HR6.out.kept hg7 (ownsN_ne HR6.out HRS6.out (by decide)))
                    have HT7 := Lib.hid ht7
                    clear ho7 hg7 hat7 ht7 HT6 HR6 HRS6 HB6 HSZ6 HLIT p0 p1 p2 p3 x0 x1
                    obtain ⟨b4', off4', hra, -, -, hc⟩ := (visRow_sl HR7.out).cell (i := kk) (by rw [List.length_map, HVQ.out]; exact hlt3)
                    cases hra
                    have hrow : (V.map fun p => visRow p.1 p.2)[kk]'(by rw [List.length_map, HVQ.out]; exact hlt3) = [.int .i64 pl, .bool pi, .bool pw, .int .i64 (pd : Int)] := by rw [List.getElem_map, HPV.out]; rfl
                    rw [hrow] at hc
                    have p0 := hc 0 _ rfl
                    have p1 := hc 1 _ rfl
                    rw [Nat.add_zero] at p0
                    clear hc hrow
                    go_wp2_with fail
                    have hcall := refIndex_any fx (.slice xa nf xc) ⟨pl, pi⟩ w7 HT7.out.nowSl
                    unfold stV at hcall
                    simp only at hcall
                    refine hcall.mono ?_
                    rintro e w8 ⟨z, rfl, hb8, hz⟩
                    clear hcall
                    have HZI := Lib.hid hz
                    have HT8 := Lib.hid (HT7.out.below hb8)
                    have HB8 := Lib.hid (bThenQ HB7.out HQ.out hb8)
                    have HR8 := Lib.hid (ownsN_below HR7.out hb8)
                    have p0 := bAt hb8 p0
                    have p1 := bAt hb8 p1
                    clear hb8 hz HT7 HB7 HR7
                    by_cases hz0 : z < 0
                    · have dz : decide (z < 0) = true := decide_eq_true hz0
                      have HNI := Lib.hid (HZI.out.1 hz0)
                      have hF8 : Q ≤ w8.heap.size := by have := HB8.out.size; have := HQ.out; omega
                      have HSZ8 := Lib.hid hF8
                      have HRN8 : Hid (w8.ownsRow Q 29 2 (.slice xa nf xc) nf ((fx.map stRow).flatten)) := Lib.hid (by have h := HT8.out.next; rw [HNF.out] at h; exact h)
                      clear hz0 hF8
                      go_wp2_with (at_builtin; refine wpList_appendN rfl (.tmp 111) (.tmp 117) 180 rfl Q 29 (.agg #[.int .i64 0, .bool false]) 2 16 Tryz.underlying180 info_stand5 rfl (by decide) (.slice xa nf xc) nf ((fx.map stRow).flatten) rfl (HRN8.out.alloc _) w8.heap.size 0 1 1 (stRow ⟨pl, pi⟩) rfl rfl (fun j u hj => by rw [cell_of_heap (World.alloc_heap_new _ _), Nat.zero_add]; simpa [stRow] using hj) (stRow_one _) HNFM.out (by decide) (by have := HSZ8.out; simp; omega) ?_)
                      intro v9 w9 ho9 hg9 hat9
                      obtain ⟨xa9, xc9, rfl⟩ := owns_form ho9
                      have hba : Below w8.heap.size w8 (w8.alloc (.cells #[.int .i64 pl, .bool pi] 29)) := aB _ _
                      have ht8a := HT8.out.below hba
                      have hr8a := ownsN_below HR8.out hba
                      have ht9 := ht8a.pushN (s := ⟨pl, pi⟩) (by rw [HNF.out]; exact ho9) hg9
                      have hb9 : Below Q wo w9 := (HB8.out.trans (hba.mono HSZ8.out)).trans (below_grownBy hg9 (Nat.le_trans HSZ8.out hba.size) (fun g hg => (HRN8.out.lt g hg).1))
                      have HR9 : Hid (w9.ownsRow Q 44 4 (.slice (some ⟨b4, off4, none⟩) q rc) V.length (V.map fun p => visRow p.1 p.2).flatten) := Lib.hid (hr8a.kept hg9 (ownsN_ne hr8a (HRN8.out.alloc _) (by decide)))
                      have HB9 := Lib.hid hb9
                      have HT9 : Hid (TuSt Q w9 (.slice sa7 (ns + 1) sc7) (.slice xa9 (nf + 1) xc9) (A ++ visS l said t ⟨xl, xi⟩ (V.take (kk + 1))) (firsts ((A ++ visS l said t ⟨xl, xi⟩ (V.take (kk + 1))).map Sp.aft))) := Lib.hid (by
                        rw [HST2.out, List.map_append, List.map_cons, List.map_nil, firsts_snoc, HFX.out]
                        have e : addNew fx (Sp.aft ⟨⟨xl, xi⟩, ⟨pl, pi, pb, pw⟩, pd⟩) = fx ++ [⟨pl, pi⟩] := by unfold addNew; exact if_neg HNI.out
                        rw [e]; exact ht9)
                      clear ho9 hg9 hat9 hba ht8a hr8a ht9 hb9 HT8 HR8 HRN8 HB8 p0 p1
                      go_wp2_with fail
                      go_roundw
                      case rel => exact ⟨kk + 1, by omega, by go_num, HT9, HB9, HR9⟩
                      case measure => simp [intOf]; omega
                    · have dz : decide (z < 0) = false := decide_eq_false hz0
                      have HNI : Hid ((⟨pl, pi⟩ : Std) ∈ fx) := Lib.hid (Decidable.not_not.1 fun h => hz0 (HZI.out.2 h))
                      have HT9 : Hid (TuSt Q w8 (.slice sa7 (ns + 1) sc7) (.slice xa nf xc) (A ++ visS l said t ⟨xl, xi⟩ (V.take (kk + 1))) (firsts ((A ++ visS l said t ⟨xl, xi⟩ (V.take (kk + 1))).map Sp.aft))) := Lib.hid (by
                        rw [HST2.out, List.map_append, List.map_cons, List.map_nil, firsts_snoc, HFX.out]
                        have e : addNew fx (Sp.aft ⟨⟨xl, xi⟩, ⟨pl, pi, pb, pw⟩, pd⟩) = fx := by unfold addNew; exact if_pos HNI.out
                        rw [e]; exact HT8.out)
                      clear hz0 HT8 p0 p1
                      go_wp2_with fail
                      go_roundw
                      case rel => exact ⟨kk + 1, by omega, by go_num, HT9, HB8, HR8⟩
                      case measure => simp [intOf]; omega
                · skip
                  have hpw : ¬ pw = te := by cases pw <;> cases te <;> simp_all
                  have HF : Hid (fitV l said t ⟨xl, xi⟩ (⟨pl, pi, pb, pw⟩, pd) = false) := Lib.hid (by rw [HFIT.out]; cases pw <;> cases te <;> simp_all)
                  refine wp_region_seqW (.is (.slice (some ⟨b4, off4, none⟩) q rc) :: .is (.int .i64 (kk : Int)) :: .is (.pointer (some ⟨b4, off4 + kk * 4, none⟩)) :: .is (.pointer (some ⟨b4, off4 + kk * 4 + 2, none⟩)) :: .is (.bool pw) :: .is (.pointer (some ⟨N, 6, none⟩)) :: .is (.bool true) :: .is (.bool true) :: .is (.int .i64 t) :: .is (.pointer (some ⟨N, 5, none⟩)) :: .is (.int .i64 l.turns) :: .is (.int .i64 (l.turns - 1)) :: .is (.bool te) :: .is (.bool te) :: .is (.bool true) :: .is (.bool true) :: .is (undef) :: .is (undef) :: .is (undef) :: .is (undef) :: .is (undef) :: .is (undef) :: .is (undef) :: .is (undef) :: .is (undef) :: .is (undef) :: .is (undef) :: .is (undef) :: .is (undef) :: .is (.bool true) :: []) rfl mix (by kernel_rfl) (by kernel_rfl) ?_
                  iterate 14
                    refine seq_on (by rfl) (fun w3 hb3 _ => ?_) ?_
                    · have c5' := bAt hb3 c5
                      have c6' := bAt hb3 c6
                      have x0' := bAt hb3 x0
                      have x1' := bAt hb3 x1
                      have p0' := bAt hb3 p0
                      have p1' := bAt hb3 p1
                      have p2' := bAt hb3 p2
                      have p3' := bAt hb3 p3
                      simp [opOK, go_sem, c5', c6', p2', hlt3, hwT, hte, Below.refl]
                      try exact rfl
                    simp only [Act.put, List.setIfInBounds_toArray, List.set_cons_succ, List.set_cons_zero]
                  refine seq_on (by rfl) (fun w3 hb3 hH => ?_) ?_
                  · simp [opOK, go_sem, Below.refl]
                    exact hpw
                  simp only [Act.put, List.setIfInBounds_toArray, List.set_cons_succ, List.set_cons_zero]
                  iterate 1
                    refine seq_on (by rfl) (fun w3 hb3 _ => ?_) ?_
                    · have c5' := bAt hb3 c5
                      have c6' := bAt hb3 c6
                      have x0' := bAt hb3 x0
                      have x1' := bAt hb3 x1
                      have p0' := bAt hb3 p0
                      have p1' := bAt hb3 p1
                      have p2' := bAt hb3 p2
                      have p3' := bAt hb3 p3
                      simp [opOK, go_sem, Below.refl]
                      try exact rfl
                    simp only [Act.put, List.setIfInBounds_toArray, List.set_cons_succ, List.set_cons_zero]
                  iterate 13
                    refine seq_off (by rfl) ?_
                    simp only [Act.put, List.setIfInBounds_toArray, List.set_cons_succ, List.set_cons_zero]
                  iterate 1
                    refine seq_on (by rfl) (fun w3 hb3 _ => ?_) ?_
                    · have c5' := bAt hb3 c5
                      have c6' := bAt hb3 c6
                      have x0' := bAt hb3 x0
                      have x1' := bAt hb3 x1
                      have p0' := bAt hb3 p0
                      have p1' := bAt hb3 p1
                      have p2' := bAt hb3 p2
                      have p3' := bAt hb3 p3
                      simp [opOK, go_sem, Below.refl]
                      try exact rfl
                    simp only [Act.put, List.setIfInBounds_toArray, List.set_cons_succ, List.set_cons_zero]
                  refine seq_end fun w5 hb5 _ => ?_
                  clear hne hpw
                  have HB5 := Lib.hid (bThenQ HBk.out HQ.out hb5)
                  have HT5 : Hid (TuSt Q w5 u13 u14 (A ++ visS l said t ⟨xl, xi⟩ (V.take (kk + 1))) (firsts ((A ++ visS l said t ⟨xl, xi⟩ (V.take (kk + 1))).map Sp.aft))) := Lib.hid (by rw [HTK.out, visS_out HF.out]; exact HTk.out.below hb5)
                  have HR5 := Lib.hid (ownsN_below HRk.out hb5)
                  clear hb5 HTk HBk HRk p0 p1 p2 p3
                  go_wp2
                  go_roundw
                  case rel => exact ⟨kk + 1, by omega, by go_num, HT5, HB5, HR5⟩
                  case measure => simp [intOf]; omega
            · obtain rfl : kk = q := by omega
              have HT9 : Hid (TuSt Q wk u13 u14 (stepL l said t (now.take (i + 1))) (firsts ((stepL l said t (now.take (i + 1))).map Sp.aft))) := Lib.hid (by
                have hil : i < now.length := by rw [HM.out]; exact hlt2
                rw [stepL_take hil, HX.out, HA.out, HVV.out]
                have h := HTk.out
                rw [List.take_of_length_le (by rw [HVQ.out]; exact Nat.le_refl _)] at h
                exact h)
              have hwi : IntKind.i64.wrap ((i : Int) + 1) = (i : Int) + 1 := wrap_small _ (by omega) (by omega)
              clear HTk HRk
              go_wp2_with fail
              go_roundw
              case rel => exact ⟨i + 1, by omega, by go_num, HT9, HBk⟩
              case measure => simp [intOf]; omega
        · obtain rfl : i = m := by omega
          have hst9 : now.take i = now := List.take_of_length_le (by rw [HM.out]; exact Nat.le_refl _)
          obtain ⟨SP, hSP⟩ : ∃ y, stepL l said t now = y := ⟨_, rfl⟩
          have HT9 : Hid (TuSt Q wi u13 u14 SP (firsts (SP.map Sp.aft))) := Lib.hid (by have h := HTi.out; rw [hst9, hSP] at h; exact h)
          have HSP := Lib.hid hSP
          obtain ⟨sa, sc, hsv⟩ := owns_form HT9.out.steps
          obtain ⟨xa, xc, hxv⟩ := owns_form HT9.out.next
          obtain ⟨ns, hns⟩ : ∃ k, SP.length = k := ⟨_, rfl⟩
          obtain ⟨nf, hnf⟩ : ∃ k, (firsts (SP.map Sp.aft)).length = k := ⟨_, rfl⟩
          rw [hns] at hsv
          rw [hnf] at hxv
          subst hsv hxv
          have HNS := Lib.hid hns
          have HNF := Lib.hid hnf
          have hsts : sts.length ≤ 8 := by
            have h1 := HAr.out.len.2
            have h2 := HTT.out
            omega
          have hj9 : j + 1 ≤ 100000 := by
            have h1 := HOr.out.len
            rw [HJ.out] at h1
            omega
          have HSTS := Lib.hid hsts
          have HORW : Hid (wi.ownsRow K 145 1 (.slice oa j oc) j vs) := Lib.hid (by have h := HOi.out.row; rw [HJ.out] at h; exact h)
          have hszi : K ≤ wi.heap.size := by
            have h1 := HBi.out.size
            have h2 := HKQ.out
            rw [HQ.out] at h1
            omega
          have HSZI := Lib.hid hszi
          clear hst9 hSP hns hnf hsts hszi HTi d0 d1 d2 d3 d4 d5 d6
          go_wp2_with (at_builtin; refine wpList_append1 rfl (.tmp 119) (.tmp 121) 141 rfl K 145 (.slice none 0 0) 24 Tryz.underlying141 info_steps5 rfl (.slice oa j oc) j vs rfl (HORW.out.alloc _) wi.heap.size 0 1 (.slice sa ns sc) rfl (cell_new _ _ _) rfl hj9 (by decide) (by have := HSZI.out; simp; omega) ?_)
          intro g9 c9 w9 ho9 hg9 hat9
          have hba : Below wi.heap.size wi (wi.alloc (.cells #[.slice sa ns sc] 145)) := aB _ _
          have hta := HT9.out.below hba
          have hoa := HOi.out.below hba
          have hra := ownsN_below HORW.out hba
          have hsn : (wi.alloc (.cells #[.slice sa ns sc] 145)).ownsRow K 147 6 (.slice sa ns sc) SP.length ((SP.map spRow).flatten) := own_mono hta.steps HKQ.out
          have hO9 : OutR K w9 (.slice (some ⟨g9, 0, none⟩) (j + 1) c9) (sts ++ [SP]) (vs ++ [.slice sa ns sc]) := by
            refine hoa.snoc hsn ?_ (by rw [HJ.out]; exact ho9)
            rw [HJ.out]; exact hg9
          have hN9 : SlN 2 (fun q => K ≤ q) w9 (.slice xa nf xc) ((firsts (SP.map Sp.aft)).map stRow) := by
            have h := hta.next.kept hg9 (ownsN_ne hta.next hra (by decide))
            exact (now_sl h).mono fun q hq => Nat.le_trans HKQ.out hq
          have HO9 := Lib.hid hO9
          have HN9 := Lib.hid hN9
          have hbi2 : Below K w1 wi := HBr.out.trans (HBi.out.mono HKQ.out)
          have HB9 : Hid (Below K w1 w9) := Lib.hid ((hbi2.trans (hba.mono HSZI.out)).trans (below_grownBy hg9 (Nat.le_trans HSZI.out hba.size) (fun g hg => (HORW.out.lt g hg).1)))
          have hb19 : Below w1.heap.size w1 w9 := by rw [HK.out]; exact HB9.out
          have HNR9 : Hid (NowR (firsts (SP.map Sp.aft))) := Lib.hid (by rw [← HSP.out]; exact HNRr.out.step HV.out.good)
          have HBD9 : Hid (∀ st ∈ sts ++ [SP], st.length ≤ 41846) := Lib.hid (fun st hst => by
            rcases List.mem_append.1 hst with h | h
            · exact HBDr.out st h
            · rw [List.mem_singleton] at h
              rw [h, ← HSP.out]
              have h1 := stepL_len (said := said) (t := t) HH6.out now
              rw [HM.out] at h1
              have h2 : i * 343 ≤ 122 * 343 := Nat.mul_le_mul_right _ hm122
              omega)
          have HAL9 : Hid (Along l said p (t + l.players) (ts ++ [t]) (sts ++ [SP]) (firsts (SP.map Sp.aft))) := Lib.hid (by
            rcases HAr.out.next hlt with h | h
            · rw [HSP.out] at h; exact h
            · have := HPP.out; omega)
          have hwt2 : IntKind.i64.wrap (t + l.players) = t + l.players := wrap_small _ (by have := HPP.out; omega) (by have := HPP.out; omega)
          have HT12 : Hid (0 ≤ t + l.players ∧ t + l.players ≤ 12 ∧ 1 ≤ l.players) := Lib.hid (by have := HPP.out; have := HTT.out; omega)
          clear c0 c1 c2 c3 c4 c5 c6
          have c4 := bAt hb19 C4
          clear ho9 hg9 hat9 hba hta hoa hra hsn hO9 hN9 hbi2 hb19 HT9 HORW HOi
          go_wp2_with fail
          go_roundw
          case rel => exact ⟨t + l.players, ts ++ [t], sts ++ [SP], firsts (SP.map Sp.aft), vs ++ [.slice sa ns sc], rfl, HT12.out.1, HT12.out.2.1, HAL9, HNR9, HBD9, HO9, HN9, HB9⟩
          case measure => have := HT12.out; simp [intOf]; omega
    · skip
      have hdone := HAr.out.done hlt
      have hPL : playerL l said p = if now = [] then none else some (pruneL sts now).1 := by unfold playerL; rw [hdone.2]
      have hjs : sts.length = j := by rw [← HOr.out.len]; exact HJ.out
      have hsts : j ≤ 8 := by
        have h1 := HAr.out.len.2
        have h2 := HTT.out
        omega
      have HPL := Lib.hid hPL
      have HJS := Lib.hid hjs
      have HBF : Hid (Below N w wo) := Lib.hid (HB.out.trans (HBr.out.mono (Nat.le_of_lt HNK.out)))
      clear hdone hPL hjs c0 c1 c2 c3 c4 c6 d0 d1 d2 d3 d4 d5 d6
      by_cases hm0 : m = 0
      · have dm : ((m : Int) == 0) = true := beq_iff_eq.2 (by omega)
        have HN0 : Hid (playerL l said p = none) := Lib.hid (by rw [HPL.out, if_pos (List.length_eq_zero_iff.1 (by rw [HM.out]; exact hm0))])
        clear hm0
        go_wp2_with fail
        go_returns
        rw [HN0.out]
        exact ⟨_, rfl, HBF.out, fun ks h => by cases h⟩
      · have dm : ((m : Int) == 0) = false := beq_eq_false_iff_ne.2 (by omega)
        have HN1 : Hid (playerL l said p = some (pruneL sts now).1) := Lib.hid (by rw [HPL.out, if_neg (fun e => hm0 (by rw [← HM.out, e]; rfl))])
        have HO4 : Hid (OutR K wo (.slice oa j oc) (curL sts now j) vs) := Lib.hid (by have h := HOr.out; rw [HJ.out] at h; rw [← HJS.out, cur_all, HJS.out]; exact h)
        have HN4 : Hid (SlN 2 (fun q => K ≤ q) wo (.slice na m nc) ((pruneL (sts.drop j) now).2.map stRow)) := Lib.hid (by rw [← HJS.out, List.drop_length]; exact HNr.out)
        have wj : IntKind.i64.wrap ((j : Int) - 1) = (j : Int) - 1 := wrap_small _ (by omega) (by omega)
        have HBr4 := HBr
        clear hm0 HOr HNr HBr
        go_wp2_with fail
        go_loopw [11, 18] (fun nv iv wr => ∃ (r : Nat) (z : Int) (vs' : List Value), iv = .int .i64 z ∧ z = (r : Int) - 1 ∧ r ≤ j ∧ Hid (OutR K wr (.slice oa j oc) (curL sts now r) vs') ∧ Hid (SlN 2 (fun q => K ≤ q) wr nv ((pruneL (sts.drop r) now).2.map stRow)) ∧ Hid (Below K w1 wr)) (fun _ iv _ => (intOf iv + 1).toNat)
        case atStart => exact ⟨j, (j : Int) - 1, vs, by go_num, rfl, Nat.le_refl _, HO4, HN4, HBr4⟩
        case round =>
          clear HO4 HN4 HBr4
          obtain ⟨r, z, vs', rfl, hz, hrj, HO, HNW, HBr⟩ := hrel
          obtain ⟨w2', rfl⟩ : ∃ x : World, x = wo := ⟨_, rfl⟩
          obtain ⟨wo, rfl⟩ : ∃ wo : World, wo = wr := ⟨_, rfl⟩
          by_cases hr0 : r = 0
          · obtain rfl : z = -1 := by omega
            have HOF : Hid (OutR N wo (.slice oa j oc) (pruneL sts now).1 vs') := Lib.hid (by
              have h := HO.out
              rw [hr0, cur_zero] at h
              exact h.mono (Nat.le_of_lt HNK.out))
            have HBF2 : Hid (Below N w wo) := Lib.hid (HB.out.trans (HBr.out.mono (Nat.le_of_lt HNK.out)))
            clear hz hr0 HO HNW hrj
            go_wp2_with fail
            go_returns
            rw [HN1.out]
            exact ⟨_, rfl, HBF2.out, fun ks h => by cases h; exact ⟨vs', HOF.out⟩⟩
          · obtain ⟨i, rfl⟩ : ∃ i, r = i + 1 := ⟨r - 1, by omega⟩
            obtain rfl : z = (i : Int) := by omega
            have hjl : vs'.length = j := by rw [HO.out.len, cur_len]; exact HJS.out
            have hrow0 := HO.out.row
            rw [hjl] at hrow0
            obtain ⟨g, c, ev⟩ := own_pos hrow0 (by omega)
            clear hrow0
            cases ev
            have hvl : i < vs'.length := by omega
            obtain ⟨u, hu⟩ : ∃ u, vs'[i] = u := ⟨_, rfl⟩
            have hua : vs'[i]? = some u := by rw [List.getElem?_eq_getElem hvl, hu]
            have hsl : i < sts.length := by rw [HJS.out]; omega
            obtain ⟨st, hst⟩ : ∃ s, sts[i] = s := ⟨_, rfl⟩
            have hsta : sts[i]? = some st := by rw [List.getElem?_eq_getElem hsl, hst]
            have hrow := HO.out.rows i u st hua (cur_at hsta)
            obtain ⟨ua, uc, rfl⟩ := owns_form hrow
            obtain ⟨ns, hns⟩ : ∃ n, st.length = n := ⟨_, rfl⟩
            have hnsb : ns ≤ 41846 := by rw [← hns, ← hst]; exact HBDr.out _ (List.getElem_mem _)
            rw [hns] at hrow hua
            have hss : SlN 6 (fun q => K ≤ q) wo (.slice ua ns uc) (st.map spRow) := by have h := steps_sl (by rw [hns]; exact hrow); exact h
            obtain ⟨cg, fg⟩ := own_set HO.out hjl hua
            obtain ⟨NW, hNW⟩ : ∃ y, (pruneL (sts.drop (i + 1)) now).2 = y := ⟨_, rfl⟩
            rw [hNW] at HNW
            obtain ⟨nwa, nwc, rfl, -, -⟩ := HNW.out.form
            rw [List.length_map] at HNW ⊢
            obtain ⟨nw, hnw⟩ : ∃ n, NW.length = n := ⟨_, rfl⟩
            rw [hnw] at HNW ⊢
            have HPR := Lib.hid (prune_at (now := now) hsta)
            have HCS := Lib.hid (cur_set (now := now) hsta)
            have HNWE := Lib.hid hNW
            have HUA := Lib.hid hua
            have HSS := Lib.hid hss
            have HNS := Lib.hid hns
            have HJL := Lib.hid hjl
            have hij : (i : Int) < (j : Int) := by omega
            have hi0 : decide ((0 : Int) ≤ (i : Int)) = true := decide_eq_true (by omega)
            have hwi1 : IntKind.i64.wrap ((i : Int) - 1) = (i : Int) - 1 := wrap_small _ (by omega) (by omega)
            obtain ⟨Q, hQ⟩ : ∃ Q, wo.heap.size = Q := ⟨_, rfl⟩
            obtain ⟨wt, hwt⟩ : ∃ x, (wo.alloc (.cells #[] 147)).alloc (.cells #[] 29) = x := ⟨_, rfl⟩
            have hbt : Below Q wo wt := by rw [← hwt, ← hQ]; exact (aB _ _).alloc (by simp) _
            have kA : wt.heap[Q]? = some (.cells #[] 147 (0, 0)) := by rw [← hwt, ← hQ]; exact (Below.heap_alloc _ _ _ (by simp)).trans (World.alloc_heap_new _ _)
            have kB : wt.heap[Q + 1]? = some (.cells #[] 29 (0, 0)) := by
              rw [← hwt, ← hQ]
              have := World.alloc_heap_new (wo.alloc (.cells #[] 147)) (.cells #[] 29)
              simp only [World.size_alloc] at this
              exact this
            have HTU0 : Hid (TuSt Q wt (.slice (some ⟨Q, 0, none⟩) 0 0) (.slice (some ⟨Q + 1, 0, none⟩) 0 0) (keptF NW (st.take 0)) (firsts ((keptF NW (st.take 0)).map Sp.bef))) := Lib.hid ⟨own_empty kA (Nat.le_refl _), own_empty kB (by omega)⟩
            have HBT : Hid (Below Q wo wt) := Lib.hid hbt
            have HQ := Lib.hid hQ
            have HWT := Lib.hid hwt
            have HKQ : Hid (K ≤ Q) := Lib.hid (by rw [← hQ, ← HK.out]; exact (show Below w1.heap.size w1 wo by rw [HK.out]; exact HBr.out).size)
            clear hz hr0 hvl hu hua hsl hst hsta hrow hns hss hNW hnw hbt kA kB hwt hQ hjl
            go_upto_region 24 with fail
            rw [HWT.out, HQ.out]
            go_wp2_with fail
            go_loopw [19, 20, 21] (fun kv bv xv wr => ∃ k : Nat, k ≤ ns ∧ xv = .int .i64 (k : Int) ∧ Hid (TuSt Q wr kv bv (keptF NW (st.take k)) (firsts ((keptF NW (st.take k)).map Sp.bef))) ∧ Hid (Below Q wo wr)) (fun _ _ xv _ => ns - (intOf xv).toNat)
            case atStart => exact ⟨0, by omega, by go_num, HTU0, HBT⟩
            case round =>
              clear HTU0 HBT
              obtain ⟨k, hk, rfl, HTk, HBk⟩ := hrel
              obtain ⟨wk, rfl⟩ : ∃ wk : World, wk = wr := ⟨_, rfl⟩
              have hbk : Below wo.heap.size wo wk := by rw [HQ.out]; exact HBk.out
              have cg9 := bAt hbk cg
              have HNWk := Lib.hid (HNW.out.below hbk)
              have HOk := Lib.hid (HO.out.below hbk)
              by_cases hlk : k < ns
              · skip
                have hkl : k < st.length := by rw [HNS.out]; exact hlk
                obtain ⟨⟨⟨bl, bi⟩, ⟨el, ei, eb, ew⟩, dd⟩, hsp⟩ : ∃ s, st[k] = s := ⟨_, rfl⟩
                have htk : st.take (k + 1) = st.take k ++ [⟨⟨bl, bi⟩, ⟨el, ei, eb, ew⟩, dd⟩] := by rw [List.take_succ_eq_append_getElem hkl, hsp]
                obtain ⟨ub, uf, hxa, -, -, hc⟩ := (HSS.out.below hbk).cell (i := k) (by rw [List.length_map]; exact hkl)
                cases hxa
                have hrow : (st.map spRow)[k]'(by rw [List.length_map]; exact hkl) = [.int .i64 bl, .bool bi, .int .i64 el, .bool ei, .bool ew, .int .i64 (dd : Int)] := by rw [List.getElem_map, hsp]; rfl
                rw [hrow] at hc
                have p0 := hc 0 _ rfl
                have p1 := hc 1 _ rfl
                have p2 := hc 2 _ rfl
                have p3 := hc 3 _ rfl
                have p4 := hc 4 _ rfl
                have p5 := hc 5 _ rfl
                rw [Nat.add_zero] at p0
                have HTK := Lib.hid htk
                have hki : (k : Int) < (ns : Int) := by omega
                have hwk : IntKind.i64.wrap ((k : Int) + 1) = (k : Int) + 1 := wrap_small _ (by omega) (by omega)
                obtain ⟨KP, hKP⟩ : ∃ y, keptF NW (st.take k) = y := ⟨_, rfl⟩
                have hkpl : KP.length ≤ k := by rw [← hKP]; exact Nat.le_trans (kept_len _ _) (by rw [List.length_take]; omega)
                rw [hKP] at HTk
                have HKP := Lib.hid hKP
                obtain ⟨ka, kc, hkv⟩ := owns_form HTk.out.steps
                obtain ⟨xa, xc, hxv⟩ := owns_form HTk.out.next
                obtain ⟨nk, hnk⟩ : ∃ n, KP.length = n := ⟨_, rfl⟩
                obtain ⟨fx, hfx⟩ : ∃ f, firsts (KP.map Sp.bef) = f := ⟨_, rfl⟩
                rw [hfx] at HTk hxv
                obtain ⟨nf, hnf⟩ : ∃ n, fx.length = n := ⟨_, rfl⟩
                have hfl : fx.length ≤ KP.length := by rw [← hfx]; exact Nat.le_trans (firsts_len _) (by rw [List.length_map]; exact Nat.le_refl _)
                rw [hnk] at hkv
                rw [hnf] at hxv
                subst hkv hxv
                have HNK2 := Lib.hid hnk
                have HNF := Lib.hid hnf
                have HFX := Lib.hid hfx
                have hnk9 : nk + 1 ≤ 100000 := by omega
                have HNFM : Hid (nf + 1 ≤ 100000) := Lib.hid (by omega)
                clear hbk hkl hsp htk hc hrow hKP hkpl hnk hfx hnf hfl
                go_wp2_with fail
                have hcall := refIndex_any NW (.slice nwa nw nwc) ⟨el, ei⟩ wk HNWk.out
                unfold stV at hcall
                simp only at hcall
                refine hcall.mono ?_
                rintro e w5 ⟨z, rfl, hb5, hz⟩
                clear hcall
                have HZI := Lib.hid hz
                have HT5 := Lib.hid (HTk.out.below hb5)
                have HB5 := Lib.hid (bThenQ HBk.out HQ.out hb5)
                have cg9 := bAt hb5 cg9
                have p0 := bAt hb5 p0
                have p1 := bAt hb5 p1
                have p2 := bAt hb5 p2
                have p3 := bAt hb5 p3
                have p4 := bAt hb5 p4
                have p5 := bAt hb5 p5
                clear hb5 hz HTk HBk
                by_cases hz0 : z < 0
                · have dz : decide (z < 0) = true := decide_eq_true hz0
                  have HT9 : Hid (TuSt Q w5 (.slice ka nk kc) (.slice xa nf xc) (keptF NW (st.take (k + 1))) (firsts ((keptF NW (st.take (k + 1))).map Sp.bef))) := Lib.hid (by
                    rw [HTK.out, kept_out (HZI.out.1 hz0), HKP.out, HFX.out]; exact HT5.out)
                  clear hz0 HT5 p0 p1 p2 p3 p4 p5
                  go_wp2_with fail
                  go_roundw
                  case rel => exact ⟨k + 1, by omega, by go_num, HT9, HB5⟩
                  case measure => simp [intOf]; omega
                · have dz : decide (z < 0) = false := decide_eq_false hz0
                  have HIN : Hid ((⟨el, ei⟩ : Std) ∈ NW) := Lib.hid (Decidable.not_not.1 fun h => hz0 (HZI.out.2 h))
                  have HSZ5 : Hid (Q ≤ w5.heap.size) := Lib.hid (by have := HB5.out.size; have := HQ.out; omega)
                  have HRS5 : Hid (w5.ownsRow Q 147 6 (.slice ka nk kc) nk ((KP.map spRow).flatten)) := Lib.hid (by have h := HT5.out.steps; rw [HNK2.out] at h; exact h)
                  have HOW5 : Hid (OutR K w5 (.slice (some ⟨g, 0, none⟩) j oc) (curL sts now (i + 1)) vs') := Lib.hid (HO.out.below (by rw [HQ.out]; exact HB5.out))
                  clear hz0
                  go_wp2_with (at_builtin; refine wpList_appendN rfl (.tmp 157) (.tmp 165) 145 rfl Q 147 (.agg #[.int .i64 0, .bool false, .int .i64 0, .bool false, .bool false, .int .i64 0]) 6 48 Tryz.underlying145 info_step5 rfl (by decide) (.slice ka nk kc) nk ((KP.map spRow).flatten) rfl (HRS5.out.alloc _) w5.heap.size 0 1 1 (spRow ⟨⟨bl, bi⟩, ⟨el, ei, eb, ew⟩, dd⟩) rfl rfl (fun j u hj => by rw [cell_of_heap (World.alloc_heap_new _ _), Nat.zero_add]; simpa [spRow] using hj) (spRow_one _) hnk9 (by decide) (by have := HSZ5.out; simp; omega) ?_)
                  intro v7 w7 ho7 hg7 hat7
                  obtain ⟨sa7, sc7, rfl⟩ := owns_form ho7
                  have hba : Below w5.heap.size w5 (w5.alloc (.cells #[.int .i64 bl, .bool bi, .int .i64 el, .bool ei, .bool ew, .int .i64 (dd : Int)] 147)) := aB _ _
                  have ht5a := HT5.out.below hba
                  have ht7 := ht5a.pushS (sp := ⟨⟨bl, bi⟩, ⟨el, ei, eb, ew⟩, dd⟩) (by rw [HNK2.out]; exact ho7) hg7
                  have hb57 : Below Q w5 w7 := (hba.mono HSZ5.out).trans (below_grownBy hg7 (Nat.le_trans HSZ5.out hba.size) (fun g hg => (HRS5.out.lt g hg).1))
                  have HB7 : Hid (Below Q wo w7) := Lib.hid (HB5.out.trans hb57)
                  have HT7 := Lib.hid ht7
                  have hbo7 : Below wo.heap.size wo w7 := by rw [HQ.out]; exact HB7.out
                  clear cg9 p0 p1 p2 p3 p4 p5
                  have cg9 := bAt hbo7 cg
                  obtain ⟨ub', uf', hxa, -, -, hc⟩ := (HSS.out.below hbo7).cell (i := k) (by rw [List.length_map, HNS.out]; exact hlk)
                  cases hxa
                  have hrow : (st.map spRow)[k]'(by rw [List.length_map, HNS.out]; exact hlk) = [.int .i64 bl, .bool bi, .int .i64 el, .bool ei, .bool ew, .int .i64 (dd : Int)] := by
                    have h := HTK.out
                    have h2 : st[k]? = some ⟨⟨bl, bi⟩, ⟨el, ei, eb, ew⟩, dd⟩ := by
                      have h3 := congrArg (fun l : List Sp => l[k]?) h
                      simp only [List.getElem?_take] at h3
                      rw [if_pos (by omega)] at h3
                      rw [h3, List.getElem?_append_right (by rw [List.length_take]; omega), List.length_take, HNS.out, Nat.min_eq_left (by omega), Nat.sub_self]
                      rfl
                    rw [List.getElem_map, (List.getElem?_eq_some_iff.1 h2).2]; rfl
                  rw [hrow] at hc
                  have p0 := hc 0 _ rfl
                  have p1 := hc 1 _ rfl
                  rw [Nat.add_zero] at p0
                  clear hc hrow ho7 hg7 hat7 hba ht5a ht7 hb57 hbo7 HT5 HB5 HRS5 HOW5
                  go_wp2_with fail
                  have hcall := refIndex_any fx (.slice xa nf xc) ⟨bl, bi⟩ w7 HT7.out.nowSl
                  unfold stV at hcall
                  simp only at hcall
                  refine hcall.mono ?_
                  rintro e w8 ⟨z2, rfl, hb8, hz2⟩
                  clear hcall
                  have HZ2 := Lib.hid hz2
                  have HT8 := Lib.hid (HT7.out.below hb8)
                  have HB8 := Lib.hid (bThenQ HB7.out HQ.out hb8)
                  have cg9 := bAt hb8 cg9
                  have p0 := bAt hb8 p0
                  have p1 := bAt hb8 p1
                  clear hb8 hz2 HT7 HB7
                  by_cases hz3 : z2 < 0
                  · have dz2 : decide (z2 < 0) = true := decide_eq_true hz3
                    have HNI := Lib.hid (HZ2.out.1 hz3)
                    have HSZ8 : Hid (Q ≤ w8.heap.size) := Lib.hid (by have := HB8.out.size; have := HQ.out; omega)
                    have HRN8 : Hid (w8.ownsRow Q 29 2 (.slice xa nf xc) nf ((fx.map stRow).flatten)) := Lib.hid (by have h := HT8.out.next; rw [HNF.out] at h; exact h)
                    clear hz3
                    go_wp2_with (at_builtin; refine wpList_appendN rfl (.tmp 178) (.tmp 187) 180 rfl Q 29 (.agg #[.int .i64 0, .bool false]) 2 16 Tryz.underlying180 info_stand5 rfl (by decide) (.slice xa nf xc) nf ((fx.map stRow).flatten) rfl (HRN8.out.alloc _) w8.heap.size 0 1 1 (stRow ⟨bl, bi⟩) rfl rfl (fun j u hj => by rw [cell_of_heap (World.alloc_heap_new _ _), Nat.zero_add]; simpa [stRow] using hj) (stRow_one _) HNFM.out (by decide) (by have := HSZ8.out; simp; omega) ?_)
                    intro v9 w9 ho9 hg9 hat9
                    obtain ⟨xa9, xc9, rfl⟩ := owns_form ho9
                    have hba : Below w8.heap.size w8 (w8.alloc (.cells #[.int .i64 bl, .bool bi] 29)) := aB _ _
                    have ht8a := HT8.out.below hba
                    have ht9 := ht8a.pushN (s := ⟨bl, bi⟩) (by rw [HNF.out]; exact ho9) hg9
                    have HB9 : Hid (Below Q wo w9) := Lib.hid ((HB8.out.trans (hba.mono HSZ8.out)).trans (below_grownBy hg9 (Nat.le_trans HSZ8.out hba.size) (fun g hg => (HRN8.out.lt g hg).1)))
                    have HT9 : Hid (TuSt Q w9 (.slice sa7 (nk + 1) sc7) (.slice xa9 (nf + 1) xc9) (keptF NW (st.take (k + 1))) (firsts ((keptF NW (st.take (k + 1))).map Sp.bef))) := Lib.hid (by
                      rw [HTK.out, kept_in HIN.out, HKP.out, List.map_append, List.map_cons, List.map_nil, firsts_snoc, HFX.out]
                      have e : addNew fx (Sp.bef ⟨⟨bl, bi⟩, ⟨el, ei, eb, ew⟩, dd⟩) = fx ++ [⟨bl, bi⟩] := by unfold addNew; exact if_neg HNI.out
                      rw [e]; exact ht9)
                    clear ho9 hg9 hat9 hba ht8a ht9 HT8 HRN8 HB8 p0 p1 cg9
                    go_wp2_with fail
                    go_roundw
                    case rel => exact ⟨k + 1, by omega, by go_num, HT9, HB9⟩
                    case measure => simp [intOf]; omega
                  · have dz2 : decide (z2 < 0) = false := decide_eq_false hz3
                    have HNI : Hid ((⟨bl, bi⟩ : Std) ∈ fx) := Lib.hid (Decidable.not_not.1 fun h => hz3 (HZ2.out.2 h))
                    have HT9 : Hid (TuSt Q w8 (.slice sa7 (nk + 1) sc7) (.slice xa nf xc) (keptF NW (st.take (k + 1))) (firsts ((keptF NW (st.take (k + 1))).map Sp.bef))) := Lib.hid (by
                      rw [HTK.out, kept_in HIN.out, HKP.out, List.map_append, List.map_cons, List.map_nil, firsts_snoc, HFX.out]
                      have e : addNew fx (Sp.bef ⟨⟨bl, bi⟩, ⟨el, ei, eb, ew⟩, dd⟩) = fx := by unfold addNew; exact if_pos HNI.out
                      rw [e]; exact HT8.out)
                    clear hz3 HT8 p0 p1 cg9
                    go_wp2_with fail
                    go_roundw
                    case rel => exact ⟨k + 1, by omega, by go_num, HT9, HB8⟩
                    case measure => simp [intOf]; omega
              · as_aux_lemma =>
                obtain rfl : k = ns := by omega
                have hst9 : st.take k = st := List.take_of_length_le (by rw [HNS.out]; exact Nat.le_refl _)
                obtain ⟨KP, hKP⟩ : ∃ y, keptF NW st = y := ⟨_, rfl⟩
                rw [hst9, hKP] at HTk
                obtain ⟨ka, kc, hkv⟩ := owns_form HTk.out.steps
                obtain ⟨xa, xc, hxv⟩ := owns_form HTk.out.next
                obtain ⟨nk, hnk⟩ : ∃ n, KP.length = n := ⟨_, rfl⟩
                obtain ⟨nf, hnf⟩ : ∃ n, (firsts (KP.map Sp.bef)).length = n := ⟨_, rfl⟩
                rw [hnk] at hkv
                rw [hnf] at hxv
                subst hkv hxv
                have hkrow : wk.ownsRow K 147 6 (.slice ka nk kc) KP.length ((KP.map spRow).flatten) := own_mono HTk.out.steps HKQ.out
                have hOk2 : OutR K wk (.slice (some ⟨g, 0, none⟩) vs'.length oc) (curL sts now (i + 1)) vs' := by rw [HJL.out]; exact HOk.out
                have hset := hOk2.set (j := i) hkrow
                rw [HJL.out] at hset
                have fg9 : wk.frozen? ⟨g, i, none⟩ = false := (own_set HOk.out HJL.out HUA.out).2
                have hgK : K ≤ g := (HOk.out.row.lt g rfl).1
                obtain ⟨w9, hw9⟩ : ∃ y, wk.setCell ⟨g, i, none⟩ (.slice ka nk kc) = y := ⟨_, rfl⟩
                rw [hw9] at hset
                have HO9 : Hid (OutR K w9 (.slice (some ⟨g, 0, none⟩) j oc) (curL sts now i) (vs'.set i (.slice ka nk kc))) := Lib.hid (by
                  have h := hset.1
                  have e := HCS.out
                  rw [HNWE.out, hKP] at e
                  rw [e] at h; exact h)
                have HN9 : Hid (SlN 2 (fun q => K ≤ q) w9 (.slice xa nf xc) ((pruneL (sts.drop i) now).2.map stRow)) := Lib.hid (by
                  have h := HTk.out.next.kept hset.2 (by
                    have h2 := ownsN_ne HTk.out.next HOk.out.row (by decide)
                    exact h2)
                  have h3 := (now_sl h).mono (S' := fun q => K ≤ q) fun q hq => Nat.le_trans HKQ.out hq
                  have e := HPR.out
                  rw [HNWE.out, hKP] at e
                  rw [e, ← hnf] at *
                  exact h3)
                have HB9 : Hid (Below K w1 w9) := Lib.hid (by rw [← hw9]; exact (HBr.out.trans (HBk.out.mono HKQ.out)).setCell (p := ⟨g, i, none⟩) hgK _)
                have HW9 := Lib.hid hw9
                clear hst9 hKP hnk hnf hkrow hOk2 hset hgK hw9 hbk HTk HNWk HOk
                go_upto_region 22 with fail
                rw [HW9.out]
                go_wp2_with fail
                go_roundw
                case rel => exact ⟨i, (i : Int) - 1, vs'.set i (.slice ka nk kc), by go_num, rfl, by omega, HO9, HN9, HB9⟩
                case measure => simp [intOf]
end Go.Proofs.YtpfpjbglpibdoaaGreatDoor
