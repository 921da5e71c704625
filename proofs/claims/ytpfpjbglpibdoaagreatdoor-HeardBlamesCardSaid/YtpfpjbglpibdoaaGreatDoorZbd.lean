/- The texts RW, in build order. -/
import Derived.Test.YtpfpjbglpibdoaaGreatDoorZbc
import Derived.Deep.DeepCutAuto
import Derived.Deep.CutRange
import Derived.Deep.CutBlock

/- Chapter 5, the reference: the smallest sets. -/
namespace Go.Proofs.YtpfpjbglpibdoaaGreatDoor
open Go Go.RowKit Go.Oche Go.Proofs

theorem bit64 : ∀ (s : Fin 32) (i : Fin 5), (bits BinOp.and IntKind.i64 (((s.val : Nat) : Int) / 2 ^ i.val) 1 == 1) = s.val.testBit i.val := by decide +kernel
theorem IsMin.bd {n k : Nat} {is : Nat → Bool} {OL : List (List Nat)} (h : IsMin n is k OL) : OL.length ≤ k := by
  have hn : OL.Nodup := h.asc.imp fun h e => by rw [e, smaller_irrefl] at h; cases h
  have := List.Nodup.length_le_of_subset hn (l₂ := (List.range k).map (bitsN n)) fun x hx => by
    obtain ⟨⟨s, h1, -, rfl⟩, -⟩ := (h.mem x).1 hx
    exact List.mem_map_of_mem (List.mem_range.2 h1)
  simpa using this
theorem bitsN_succ (i s : Nat) : bitsN (i + 1) s = bitsN i s ++ if s.testBit i = true then [i] else [] := by
  unfold bitsN
  rw [List.range_succ, List.filter_append]
  congr 1
  by_cases h : s.testBit i = true
  · simp [h]
  · simp [h]
theorem belS_succ (i s : Nat) (bl : Bool) : belS (i + 1) s bl = belS i s bl ++ [s.testBit i == bl] := by unfold belS; rw [List.range_succ, List.map_append]; rfl
structure JS (u : Value) (xs : List Value) (m : Nat) (w0 : World) (L : Nat → Bool) (vs : Nat → Value) (W : World) : Prop where
  base : Below w0.heap.size w0 W
  lit : L 4 = true → L 8 = false → W.ownsRow w0.heap.size 35 1 (vs 4) 1 [u]
  app : L 8 = true → W.ownsRow w0.heap.size 35 1 (vs 8) m (u :: xs)
  d8 : L 8 = true → L 4 = true
section
variable {u : Value} {xs : List Value} {m : Nat} {w0 W W' : World} {L : Nat → Bool} {vs vs' : Nat → Value}
theorem JS.congr (hc : ∀ j, L j = true → vs j = vs' j) (h : JS u xs m w0 L vs W) : JS u xs m w0 L vs' W :=
  ⟨h.base, fun e e8 => by rw [← hc _ e]; exact h.lit e e8, fun e => by rw [← hc _ e]; exact h.app e, h.d8⟩
theorem JS.start (vs : Nat → Value) : JS u xs m w0 (fun _ => false) vs w0.drew := ⟨⟨rfl, rfl, rfl, Nat.le_refl _, fun _ _ => rfl⟩, fun h => (by cases h), fun h => (by cases h), fun h => (by cases h)⟩
theorem JS.oth (h : JS u xs m w0 L vs W) {i : Nat} {v : Value} (h4 : 4 ≠ i) (h8 : 8 ≠ i) : JS u xs m w0 (setB L i) (updV vs i v) W :=
  ⟨h.base, fun e e8 => by rw [setB_ne h4] at e; rw [setB_ne h8] at e8; rw [updV_ne h4]; exact h.lit e e8, fun e => by rw [setB_ne h8] at e; rw [updV_ne h8]; exact h.app e, fun e => by rw [setB_ne h8] at e; rw [setB_ne h4]; exact h.d8 e⟩
theorem JS.lit4 (h : JS u xs m w0 L vs W) (hL : L 4 = false) : JS u xs m w0 (setB L 4) (updV vs 4 (.slice (some ⟨W.heap.size, 0, none⟩) 1 1)) (W.alloc (.cells #[u] 35)) := by
  have h8 : L 8 = false := by
    cases e : L 8 with
    | false => rfl
    | true => rw [h.d8 e] at hL; cases hL
  refine ⟨bThen h.base (aB _ _), fun _ _ => ?_, fun e => ?_, fun e => ?_⟩
  · rw [updV_eq]
    exact own_lit (cs := #[u]) (World.alloc_heap_new _ _) h.base.size (by decide) rfl
  · rw [setB_ne (by decide), h8] at e; cases e
  · rw [setB_eq]
theorem JS.app8 (h : JS u xs m w0 L vs W) (h4 : L 4 = true) (hL : L 8 = false) {v : Value} (hg : W.grownBy W' (vs 4).ownBlock) (ho : W'.ownsRow w0.heap.size 35 1 v m (u :: xs)) : JS u xs m w0 (setB L 8) (updV vs 8 v) W' := by
  refine ⟨h.base.trans (below_grownBy hg h.base.size fun q hq => ((h.lit h4 hL).lt q hq).1), fun _ e8 => ?_, fun _ => ?_, fun _ => ?_⟩
  · rw [setB_eq] at e8; cases e8
  · rw [updV_eq]; exact ho
  · rw [setB_ne (by decide)]; exact h4
end
set_option maxRecDepth 100000 in
set_option maxHeartbeats 40000000 in
theorem refSets_any {S S' : Nat → Prop} (l : Lg) (hv : Valid l) (h6 : l.beds.length ≤ 6) (h60 : l.start ≤ 60) (h8 : l.turns ≤ 8) (bv lv : Value) (list : List Rp) (hrv : ∀ r ∈ list, -1 ≤ r.score ∧ -1 ≤ r.left) (hlen : list.length ≤ 5) (bl : Bool) (w : World)
    (hs : Sl S w bv (ints l.beds)) (hl : SlN 3 S' w lv (list.map rpRow)) :
    Calls Tryz.prog 32 #[legV l bv, lv, .bool bl] w fun e w' => ∃ v out vs, e = .returned v ∧ Below w.heap.size w w' ∧ IsMin list.length (isS l list bl) (2 ^ list.length) out ∧ SetR w.heap.size w' v out vs := by
  obtain ⟨a, cap, rfl, h2, h3⟩ := hs.form
  obtain ⟨la, lc, rfl, h2', h3'⟩ := hl.form
  simp only [ints_length, List.length_map] at *
  unfold maxLen at h3 h3'
  obtain ⟨n, hn⟩ : ∃ n, l.beds.length = n := ⟨_, rfl⟩
  obtain ⟨m, hm⟩ : ∃ n, list.length = n := ⟨_, rfl⟩
  rw [hn] at h2 hs ⊢
  rw [hm] at h2' hl hlen ⊢
  obtain ⟨N, hN⟩ : ∃ N, w.heap.size = N := ⟨_, rfl⟩
  obtain ⟨w1, hw1⟩ : ∃ x, w.alloc (.cells #[.int .i64 l.start, .int .i64 l.gin, .int .i64 l.gout, .slice a n cap, .int .i64 l.players, .int .i64 l.turns, .bool l.won] 27) = x := ⟨_, rfl⟩
  have hb1 : Below w.heap.size w w1 := by rw [← hw1]; exact aB _ _
  have k : w1.heap[N]? = some (.cells #[.int .i64 l.start, .int .i64 l.gin, .int .i64 l.gout, .slice a n cap, .int .i64 l.players, .int .i64 l.turns, .bool l.won] 27 (0, 0)) := by rw [← hw1, ← hN]; exact World.alloc_heap_new _ _
  have c0 : w1.cell? ⟨N, 0, none⟩ = some (.int .i64 l.start) := by rw [cell_of_heap k]; rfl
  have c1 : w1.cell? ⟨N, 1, none⟩ = some (.int .i64 l.gin) := by rw [cell_of_heap k]; rfl
  have c2 : w1.cell? ⟨N, 2, none⟩ = some (.int .i64 l.gout) := by rw [cell_of_heap k]; rfl
  have c3 : w1.cell? ⟨N, 3, none⟩ = some (.slice a n cap) := by rw [cell_of_heap k]; rfl
  have c4 : w1.cell? ⟨N, 4, none⟩ = some (.int .i64 l.players) := by rw [cell_of_heap k]; rfl
  have c5 : w1.cell? ⟨N, 5, none⟩ = some (.int .i64 l.turns) := by rw [cell_of_heap k]; rfl
  have c6 : w1.cell? ⟨N, 6, none⟩ = some (.bool l.won) := by rw [cell_of_heap k]; rfl
  have HS := Lib.hid (hs.below hb1)
  have HL := Lib.hid (hl.below hb1)
  have HB : Hid (Below N w w1) := Lib.hid (by rw [← hN]; exact hb1)
  have HW := Lib.hid hw1
  have HN := Lib.hid hN
  have HV := Lib.hid hv
  have HH6 := Lib.hid h6
  have HH60 := Lib.hid h60
  have HH8 := Lib.hid h8
  have HRV := Lib.hid hrv
  have HM := Lib.hid hm
  have hN1 : N < w1.heap.size := (Array.getElem?_eq_some_iff.1 k).1
  obtain ⟨K, hK⟩ : ∃ K, w1.heap.size = K := ⟨_, rfl⟩
  have HNK : Hid (N < K) := Lib.hid (by rw [← hK]; exact hN1)
  obtain ⟨w2, hw2⟩ : ∃ x, w1.alloc (.cells #[] 35) = x := ⟨_, rfl⟩
  have hb2 : Below K w1 w2 := by rw [← hw2, ← hK]; exact aB _ _
  have k2 : w2.heap[K]? = some (.cells #[] 35 (0, 0)) := by rw [← hw2, ← hK]; exact World.alloc_heap_new _ _
  have HO2 : Hid (SetR K w2 (.slice (some ⟨K, 0, none⟩) 0 0) [] []) := Lib.hid ⟨rfl, own_empty k2 (Nat.le_refl _), fun i u xs hu _ => by simp at hu⟩
  have HI2 : Hid (IsMin m (isS l list bl) 0 []) := Lib.hid IsMin.start
  have HB2 := Lib.hid hb2
  have HW2 := Lib.hid hw2
  have HK := Lib.hid hK
  obtain ⟨p2, hp2⟩ : ∃ p, 2 ^ m = p := ⟨_, rfl⟩
  have hp32 : p2 ≤ 32 := by rw [← hp2]; exact Nat.pow_le_pow_right (by decide) hlen
  have HP2 := Lib.hid hp2
  have h2m : ((2 : Int) ^ m) = (p2 : Int) := by rw [← hp2]; simp
  have hwp : IntKind.i64.wrap (p2 : Int) = (p2 : Int) := wrap_small _ (by omega) (by omega)
  unfold legV legA
  rw [hN, hp2]
  clear hw1 hN k hb1 hn hs hl hv h6 hrv h60 h8 hm hN1 hw2 hb2 k2 hK hp2
  go_enter Tryz.func32, Tryz.ntmps32
  go_upto_region 1 with fail
  rw [HW.out, HN.out]
  go_upto_region 2 with fail
  rw [HW2.out, HK.out]
  go_wp2_with fail
  go_loopw [7, 8] (fun ov sv wr => ∃ (s : Nat) (OL : List (List Nat)) (vs : List Value), s ≤ p2 ∧ sv = .int .i64 (s : Int) ∧ (∃ g c, ov = .slice (some ⟨g, 0, none⟩) vs.length c) ∧ Hid (IsMin m (isS l list bl) s OL) ∧ Hid (SetR K wr ov OL vs) ∧ Hid (Below K w1 wr)) (fun _ sv _ => p2 - (intOf sv).toNat)
  case atStart => exact ⟨0, [], [], by omega, by go_num, ⟨K, 0, rfl⟩, HI2, HO2, HB2⟩
  case round =>
    clear HI2 HO2 HB2
    obtain ⟨s, OL, vs, hs, rfl, ⟨og, oc, rfl⟩, HI, HO, HBr⟩ := hrel
    obtain ⟨wo, rfl⟩ : ∃ wo : World, wo = wr := ⟨_, rfl⟩
    obtain ⟨j, hj⟩ : ∃ j, vs.length = j := ⟨_, rfl⟩
    have HOj : Hid (SetR K wo (.slice (some ⟨og, 0, none⟩) j oc) OL vs) := Lib.hid (by rw [← hj]; exact HO.out)
    have HJ := Lib.hid hj
    rw [hj]
    have hbo : Below w1.heap.size w1 wo := by rw [HK.out]; exact HBr.out
    clear HO hj
    have c0 := bAt hbo c0
    have c1 := bAt hbo c1
    have c2 := bAt hbo c2
    have c3 := bAt hbo c3
    have c4 := bAt hbo c4
    have c5 := bAt hbo c5
    have c6 := bAt hbo c6
    by_cases hlt : s < p2
    · have t1 : decide ((s : Int) < (p2 : Int)) = true := decide_eq_true (by omega)
      have t2 : decide (s < p2) = true := decide_eq_true hlt
      obtain ⟨Q, hQ⟩ : ∃ Q, wo.heap.size = Q := ⟨_, rfl⟩
      have HQ := Lib.hid hQ
      have HKQ : Hid (K ≤ Q) := Lib.hid (by rw [← hQ, ← HK.out]; exact hbo.size)
      have HLo := Lib.hid (HL.out.below hbo)
      have HSo := Lib.hid (HS.out.below hbo)
      clear hQ hbo
      go_upto_region 5 with fail
      clear t1 t2
      refine wp_region_seqW (kMk Q 3 #[] 0 :: .is (.slice la m lc) :: .is (.int .i64 (m : Int)) :: kMk Q 4 ((List.replicate m false).map Value.bool).toArray m :: kMk Q 3 #[] 0 :: kMk Q 4 ((List.replicate m false).map Value.bool).toArray m :: []) rfl mix (by kernel_rfl) (by kernel_rfl) ?_
      refine seq_new ⟨_, 0, rfl⟩ (by rfl) (fun w3 hb3 hH => ?_) ?_
      · exact opOK_val (v := .slice (some ⟨w3.heap.size, 0, none⟩) 0 0) (w' := w3.alloc (.cells #[] 3)) (by simp [go_sem, execOp]) ⟨aB _ _, ⟨_, rfl⟩, _, rfl, Nat.le_trans (Nat.le_of_eq HQ.out.symm) hb3.size, World.alloc_heap_new _ _⟩
      rintro _ ⟨ia, rfl⟩
      simp only [Act.put, List.setIfInBounds_toArray, List.set_cons_succ, List.set_cons_zero]
      iterate 2
        refine seq_on (by rfl) (fun w3 hb3 _ => ?_) ?_
        · simp [opOK, go_sem, Below.refl]
          try exact rfl
        simp only [Act.put, List.setIfInBounds_toArray, List.set_cons_succ, List.set_cons_zero]
      refine seq_new ⟨_, 0, rfl⟩ (by rfl) (fun w3 hb3 hH => ?_) ?_
      · exact opOK_val (v := .slice (some ⟨w3.heap.size, 0, none⟩) m m) (w' := w3.alloc (.cells ((List.replicate m false).map Value.bool).toArray 4)) (by simp [go_sem, execOp, make_bls m (by omega)]) ⟨aB _ _, ⟨_, rfl⟩, _, rfl, Nat.le_trans (Nat.le_of_eq HQ.out.symm) hb3.size, World.alloc_heap_new _ _⟩
      rintro _ ⟨ba, rfl⟩
      simp only [Act.put, List.setIfInBounds_toArray, List.set_cons_succ, List.set_cons_zero]
      refine seq_new ⟨_, 0, rfl⟩ (by rfl) (fun w3 hb3 hH => ?_) ?_
      · have hsl := hH ⟨0, .data⟩ (by simp) rfl
        simp only [addH, kMk] at hsl
        simp at hsl
        exact opOK_val (v := .slice (some ⟨ia, 0, none⟩) 0 0) (w' := w3) (by simp [go_sem, execOp]) ⟨Below.refl _ _, ⟨_, rfl⟩, _, rfl, hsl.1, by simpa using hsl.2⟩
      rintro _ ⟨ia', rfl⟩
      simp only [Act.put, List.setIfInBounds_toArray, List.set_cons_succ, List.set_cons_zero]
      refine seq_new ⟨_, 0, rfl⟩ (by rfl) (fun w3 hb3 hH => ?_) ?_
      · have hsl := hH ⟨3, .data⟩ (by simp) rfl
        simp only [addH, kMk] at hsl
        simp at hsl
        exact opOK_val (v := .slice (some ⟨ba, 0, none⟩) m m) (w' := w3) (by simp [go_sem, execOp]) ⟨Below.refl _ _, ⟨_, rfl⟩, _, rfl, hsl.1, by simpa using hsl.2⟩
      rintro _ ⟨ba', rfl⟩
      simp only [Act.put, List.setIfInBounds_toArray, List.set_cons_succ, List.set_cons_zero]
      refine seq_end fun w3 hb3 hH => ?_
      obtain ⟨I9, eI, hI1, hI2⟩ := hH 4 (by decide)
      cases eI
      obtain ⟨E9, eE, hE1, hE2⟩ := hH 5 (by decide)
      cases eE
      rw [HQ.out] at hb3
      have HB3 : Hid (Below Q wo w3) := Lib.hid hb3
      have HF3 : Hid (w3.ownsRow Q 3 1 (.slice (some ⟨ia', 0, none⟩) 0 0) (bitsN 0 s).length (ints (nInts (bitsN 0 s)))) := Lib.hid (own_empty hI2 hI1)
      have HE3 : Hid (w3.ownsRow Q 4 1 (.slice (some ⟨ba', 0, none⟩) m m) m ((belS 0 s bl ++ List.replicate (m - 0) false).map Value.bool)) := Lib.hid (by
        have h := own_lit hE2 hE1 (by omega) (k := 1) (m := m) (by simp)
        simpa [belS] using h)
      clear hb3 hH hI1 hI2 hE1 hE2
      go_wp2_with fail
      go_loopw [9, 11] (fun fv iv wr => ∃ i : Nat, i ≤ m ∧ iv = .int .i64 (i : Int) ∧ Hid (wr.ownsRow Q 3 1 fv (bitsN i s).length (ints (nInts (bitsN i s)))) ∧ Hid (wr.ownsRow Q 4 1 (.slice (some ⟨ba', 0, none⟩) m m) m ((belS i s bl ++ List.replicate (m - i) false).map Value.bool)) ∧ Hid (Below Q wo wr)) (fun _ iv _ => m - (intOf iv).toNat)
      case atStart => exact ⟨0, by omega, by go_num, HF3, HE3, HB3⟩
      case round =>
        clear HF3 HE3 HB3
        obtain ⟨i, hi, rfl, HF, HE, HBi⟩ := hrel
        obtain ⟨wi, rfl⟩ : ∃ wo : World, wo = wr := ⟨_, rfl⟩
        obtain ⟨fa, fc, hfv⟩ := owns_form HF.out
        subst hfv
        obtain ⟨fl, hfl⟩ : ∃ x, (bitsN i s).length = x := ⟨_, rfl⟩
        have hfl5 : fl ≤ i := by rw [← hfl]; exact bits_len i s
        rw [hfl] at HF ⊢
        have HFL := Lib.hid hfl
        clear hfl
        by_cases hli : i < m
        · obtain ⟨b, hb⟩ : ∃ b, s.testBit i = b := ⟨_, rfl⟩
          have hbit : (bits BinOp.and IntKind.i64 ((s : Int) / 2 ^ i) 1 == 1) = b := by rw [← hb]; exact bit64 ⟨s, by omega⟩ ⟨i, by omega⟩
          have HBIT := Lib.hid hb
          have hii : (i : Int) < (m : Int) := by omega
          have hwi : IntKind.i64.wrap ((i : Int) + 1) = (i : Int) + 1 := wrap_small _ (by omega) (by omega)
          have hcl : ((belS i s bl ++ List.replicate (m - i) false).map Value.bool)[i]? = some (.bool false) := by
            rw [List.getElem?_map, List.getElem?_append_right (by rw [belS_len]; exact Nat.le_refl _), belS_len, Nat.sub_self]
            have : 0 < m - i := by omega
            simp [this]
          have hset : ((belS i s bl ++ List.replicate (m - i) false).map Value.bool).set i (.bool (b == bl)) = (belS (i + 1) s bl ++ List.replicate (m - (i + 1)) false).map Value.bool := by
            rw [← List.map_set]
            congr 1
            rw [List.set_append_right _ _ (by rw [belS_len]; exact Nat.le_refl _), belS_len, Nat.sub_self, belS_succ, hb]
            obtain ⟨q, hq⟩ : ∃ q, m - i = q + 1 := ⟨m - i - 1, by omega⟩
            rw [hq, show m - (i + 1) = q by omega, List.replicate_succ, List.set_cons_zero, List.append_assoc]
            rfl
          have HCL := Lib.hid hcl
          have HSET := Lib.hid hset
          clear hb hcl hset
          cases b
          · skip
            have HF9 : Hid (wi.ownsRow Q 3 1 (.slice fa fl fc) (bitsN (i + 1) s).length (ints (nInts (bitsN (i + 1) s)))) := Lib.hid (by
              have e : bitsN (i + 1) s = bitsN i s := by rw [bitsN_succ, if_neg (by rw [HBIT.out]; simp), List.append_nil]
              rw [e, HFL.out]; exact HF.out)
            have HE9 := HE
            have HB9 := HBi
            clear HF HE HBi
            cases bl
            · obtain ⟨e0, f0⟩ := own_cell HE9.out HCL.out
              have hst := HE9.out.stored i (.bool true)
              obtain ⟨w10, hw10⟩ : ∃ y, wi.setCell ⟨ba', i, none⟩ (.bool true) = y := ⟨_, rfl⟩
              rw [hw10] at hst
              have HE10 : Hid (w10.ownsRow Q 4 1 (.slice (some ⟨ba', 0, none⟩) m m) m ((belS (i + 1) s false ++ List.replicate (m - (i + 1)) false).map Value.bool)) := Lib.hid (by
                have h := hst.1
                have e := HSET.out
                rw [show ((false : Bool) == false) = true from rfl] at e
                rw [e] at h; exact h)
              have HF10 : Hid (w10.ownsRow Q 3 1 (.slice fa fl fc) (bitsN (i + 1) s).length (ints (nInts (bitsN (i + 1) s)))) := Lib.hid (HF9.out.kept hst.2 (ownsN_ne HF9.out HE9.out (by decide)))
              have hEQ : Q ≤ ba' := (HE9.out.lt ba' rfl).1
              have HB10 : Hid (Below Q wo w10) := Lib.hid (by rw [← hw10]; exact HB9.out.setCell (p := ⟨ba', i, none⟩) hEQ _)
              have HW10 := Lib.hid hw10
              clear hst hw10 hEQ HF9 HE9 HB9 HSET HCL
              go_upto_region 8 with fail
              rw [HW10.out]
              clear e0 f0
              go_wp2_with fail
              go_roundw
              case rel => exact ⟨i + 1, by omega, by go_num, HF10, HE10, HB10⟩
              case measure => simp [intOf]; omega
            · obtain ⟨e0, f0⟩ := own_cell HE9.out HCL.out
              have hst := HE9.out.stored i (.bool false)
              obtain ⟨w10, hw10⟩ : ∃ y, wi.setCell ⟨ba', i, none⟩ (.bool false) = y := ⟨_, rfl⟩
              rw [hw10] at hst
              have HE10 : Hid (w10.ownsRow Q 4 1 (.slice (some ⟨ba', 0, none⟩) m m) m ((belS (i + 1) s true ++ List.replicate (m - (i + 1)) false).map Value.bool)) := Lib.hid (by
                have h := hst.1
                have e := HSET.out
                rw [show ((false : Bool) == true) = false from rfl] at e
                rw [e] at h; exact h)
              have HF10 : Hid (w10.ownsRow Q 3 1 (.slice fa fl fc) (bitsN (i + 1) s).length (ints (nInts (bitsN (i + 1) s)))) := Lib.hid (HF9.out.kept hst.2 (ownsN_ne HF9.out HE9.out (by decide)))
              have hEQ : Q ≤ ba' := (HE9.out.lt ba' rfl).1
              have HB10 : Hid (Below Q wo w10) := Lib.hid (by rw [← hw10]; exact HB9.out.setCell (p := ⟨ba', i, none⟩) hEQ _)
              have HW10 := Lib.hid hw10
              clear hst hw10 hEQ HF9 HE9 HB9 HSET HCL
              go_upto_region 8 with fail
              rw [HW10.out]
              clear e0 f0
              go_wp2_with fail
              go_roundw
              case rel => exact ⟨i + 1, by omega, by go_num, HF10, HE10, HB10⟩
              case measure => simp [intOf]; omega
          · skip
            have HBS : Hid (bitsN (i + 1) s = bitsN i s ++ [i]) := Lib.hid (by rw [bitsN_succ, if_pos HBIT.out])
            have HSZ : Hid (Q ≤ wi.heap.size) := Lib.hid (by have := HBi.out.size; have := HQ.out; omega)
            have hf9 : fl + 1 ≤ 100000 := by omega
            go_wp2_with (at_builtin; refine wpList_append1 rfl (.tmp 40) (.tmp 42) 35 rfl Q 3 (.int .i64 0) 8 Tryz.underlying35 info_i5 rfl (.slice fa fl fc) fl _ rfl (HF.out.alloc _) wi.heap.size 0 1 (.int .i64 (i : Int)) rfl (cell_new _ _ _) rfl hf9 (by decide) (by have := HSZ.out; simp; omega) ?_)
            intro g9 c9 w9 ho9 hg9 hat9
            have hb9 : Below wi.heap.size wi (wi.alloc (.cells #[.int .i64 (i : Int)] 3)) := aB _ _
            have hf8 := ownsN_below HF.out hb9
            have he8 := ownsN_below HE.out hb9
            have HF9 : Hid (w9.ownsRow Q 3 1 (.slice (some ⟨g9, 0, none⟩) (fl + 1) c9) (bitsN (i + 1) s).length (ints (nInts (bitsN (i + 1) s)))) := Lib.hid (by
              rw [HBS.out, List.length_append, HFL.out]
              have e : ints (nInts (bitsN i s ++ [i])) = ints (nInts (bitsN i s)) ++ [.int .i64 (i : Int)] := by simp [ints, nInts]
              rw [e]; exact ho9)
            have HE9 : Hid (w9.ownsRow Q 4 1 (.slice (some ⟨ba', 0, none⟩) m m) m ((belS i s bl ++ List.replicate (m - i) false).map Value.bool)) := Lib.hid (he8.kept hg9 (ownsN_ne he8 hf8 (by decide)))
            have HB9 : Hid (Below Q wo w9) := Lib.hid ((HBi.out.trans (hb9.mono HSZ.out)).trans (below_grownBy hg9 (Nat.le_trans HSZ.out hb9.size) (fun q hq => (HF.out.lt q hq).1)))
            clear ho9 hg9 hat9 hb9 hf8 he8 HF HE HBi
            cases bl
            · obtain ⟨e0, f0⟩ := own_cell HE9.out HCL.out
              have hst := HE9.out.stored i (.bool false)
              obtain ⟨w10, hw10⟩ : ∃ y, w9.setCell ⟨ba', i, none⟩ (.bool false) = y := ⟨_, rfl⟩
              rw [hw10] at hst
              have HE10 : Hid (w10.ownsRow Q 4 1 (.slice (some ⟨ba', 0, none⟩) m m) m ((belS (i + 1) s false ++ List.replicate (m - (i + 1)) false).map Value.bool)) := Lib.hid (by
                have h := hst.1
                have e := HSET.out
                rw [show ((true : Bool) == false) = false from rfl] at e
                rw [e] at h; exact h)
              have HF10 : Hid (w10.ownsRow Q 3 1 (.slice (some ⟨g9, 0, none⟩) (fl + 1) c9) (bitsN (i + 1) s).length (ints (nInts (bitsN (i + 1) s)))) := Lib.hid (HF9.out.kept hst.2 (ownsN_ne HF9.out HE9.out (by decide)))
              have hEQ : Q ≤ ba' := (HE9.out.lt ba' rfl).1
              have HB10 : Hid (Below Q wo w10) := Lib.hid (by rw [← hw10]; exact HB9.out.setCell (p := ⟨ba', i, none⟩) hEQ _)
              have HW10 := Lib.hid hw10
              clear hst hw10 hEQ HF9 HE9 HB9 HSET HCL
              go_upto_region 8 with fail
              rw [HW10.out]
              clear e0 f0
              go_wp2_with fail
              go_roundw
              case rel => exact ⟨i + 1, by omega, by go_num, HF10, HE10, HB10⟩
              case measure => simp [intOf]; omega
            · obtain ⟨e0, f0⟩ := own_cell HE9.out HCL.out
              have hst := HE9.out.stored i (.bool true)
              obtain ⟨w10, hw10⟩ : ∃ y, w9.setCell ⟨ba', i, none⟩ (.bool true) = y := ⟨_, rfl⟩
              rw [hw10] at hst
              have HE10 : Hid (w10.ownsRow Q 4 1 (.slice (some ⟨ba', 0, none⟩) m m) m ((belS (i + 1) s true ++ List.replicate (m - (i + 1)) false).map Value.bool)) := Lib.hid (by
                have h := hst.1
                have e := HSET.out
                rw [show ((true : Bool) == true) = true from rfl] at e
                rw [e] at h; exact h)
              have HF10 : Hid (w10.ownsRow Q 3 1 (.slice (some ⟨g9, 0, none⟩) (fl + 1) c9) (bitsN (i + 1) s).length (ints (nInts (bitsN (i + 1) s)))) := Lib.hid (HF9.out.kept hst.2 (ownsN_ne HF9.out HE9.out (by decide)))
              have hEQ : Q ≤ ba' := (HE9.out.lt ba' rfl).1
              have HB10 : Hid (Below Q wo w10) := Lib.hid (by rw [← hw10]; exact HB9.out.setCell (p := ⟨ba', i, none⟩) hEQ _)
              have HW10 := Lib.hid hw10
              clear hst hw10 hEQ HF9 HE9 HB9 HSET HCL
              go_upto_region 8 with fail
              rw [HW10.out]
              clear e0 f0
              go_wp2_with fail
              go_roundw
              case rel => exact ⟨i + 1, by omega, by go_num, HF10, HE10, HB10⟩
              case measure => simp [intOf]; omega
        · skip
          obtain rfl : i = m := by omega
          obtain ⟨SB, hSB⟩ : ∃ y, bitsN i s = y := ⟨_, rfl⟩
          rw [hSB] at HF HFL
          have HSB := Lib.hid hSB
          have HEB : Hid (Sl (fun q => Q ≤ q) wi (.slice (some ⟨ba', 0, none⟩) i i) ((belS i s bl).map Value.bool)) := Lib.hid (by
            have h := HE.out
            rw [Nat.sub_self, List.replicate_zero, List.append_nil] at h
            exact Sl.of_owns h)
          have hbi : Below wo.heap.size wo wi := by rw [HQ.out]; exact HBi.out
          have HOi := Lib.hid (HOj.out.below hbi)
          have HLi := Lib.hid (HLo.out.below hbi)
          have HSi := Lib.hid (HSo.out.below hbi)
          have HBB : Hid (Below K w1 wi) := Lib.hid (HBr.out.trans (HBi.out.mono HKQ.out))
          have c0 := bAt hbi c0
          have c1 := bAt hbi c1
          have c2 := bAt hbi c2
          have c3 := bAt hbi c3
          have c4 := bAt hbi c4
          have c5 := bAt hbi c5
          have c6 := bAt hbi c6
          have HJO : Hid (OL.length = j) := Lib.hid (by rw [← HOj.out.len]; exact HJ.out)
          obtain ⟨cb, hcb⟩ : ∃ b, canL l list (fun z => (belS list.length s bl).getD z false) = b := ⟨_, rfl⟩
          have hcs := can_bel l list bl s
          rw [hcb] at hcs
          obtain ⟨r, hr⟩ : ∃ r, (cb == bl) = r := ⟨_, rfl⟩
          rw [hr] at hcs
          have HCS := Lib.hid hcs
          have HCB := Lib.hid hcb
          clear hSB hbi HE hcb hcs
          go_upto_region 13 with fail
          go_cut [69] from 50 to 68 (fun v wx => ∃ b, v = .bool b ∧ Hid (b = true → IsMin i (isS l list bl) (s + 1) OL) ∧ Hid (b = false → isS l list bl s = true ∧ ∀ y ∈ OL, fl ≤ y.length) ∧ Hid (Below wi.heap.size wi wx))
          case first =>
            by_cases hj0 : j = 0
            · have d0 : decide ((0 : Int) < (j : Int)) = false := decide_eq_false (by omega)
              have d1 : decide (0 < j) = false := decide_eq_false (by omega)
              have HNIL : Hid (OL = []) := Lib.hid (List.length_eq_zero_iff.1 (by rw [HJO.out]; exact hj0))
              clear hj0
              go_wp2_with fail
              have hcall := refCan_any l HV.out HH6.out HH60.out HH8.out (.slice a n cap) (.slice la i lc) (.slice (some ⟨ba', 0, none⟩) i i) list HRV.out (belS list.length s bl) (belS_len _ _ _) wi HSi.out HLi.out (by rw [HM.out]; exact HEB.out)
              unfold legV legA at hcall
              rw [HCB.out] at hcall
              refine hcall.mono ?_
              rintro e wy ⟨rfl, hby⟩
              clear hcall
              have HX := Lib.hid hby
              clear hby
              have R1 : Hid (r = true → IsMin i (isS l list bl) (s + 1) OL) := Lib.hid (fun h => HI.out.no (by have := HCS.out; rw [h] at this; simpa using this.symm))
              have R2 : Hid (r = false → isS l list bl s = true ∧ ∀ y ∈ OL, fl ≤ y.length) := Lib.hid (fun h => ⟨by have := HCS.out; rw [h] at this; simpa using this.symm, fun y hy => by rw [HNIL.out] at hy; cases hy⟩)
              go_wp2_with fail
              go_meet
              case rel => exact ⟨r, rfl, R1, R2, HX⟩
            · have d0 : decide ((0 : Int) < (j : Int)) = true := decide_eq_true (by omega)
              have d1 : decide (0 < j) = true := decide_eq_true (by omega)
              have hol : 0 < OL.length := by rw [HJO.out]; omega
              have hvl : 0 < vs.length := by rw [HJ.out]; omega
              obtain ⟨y0, hy⟩ : ∃ y, OL[0] = y := ⟨_, rfl⟩
              obtain ⟨u0, hu⟩ : ∃ y, vs[0] = y := ⟨_, rfl⟩
              have hya : OL[0]? = some y0 := by rw [List.getElem?_eq_getElem hol, hy]
              have hua : vs[0]? = some u0 := by rw [List.getElem?_eq_getElem hvl, hu]
              have hr0 := HOi.out.rows 0 u0 y0 hua hya
              obtain ⟨ua, uc, rfl⟩ := owns_form hr0
              obtain ⟨yl, hyl⟩ : ∃ n, y0.length = n := ⟨_, rfl⟩
              obtain ⟨g0, -⟩ := own_cell (show wi.ownsRow K 35 1 (.slice (some ⟨og, 0, none⟩) j oc) j vs by have h := HOi.out.row; rw [HJ.out] at h; exact h) hua
              rw [hyl] at g0
              have HY0 : Hid (y0 ∈ OL) := Lib.hid (List.mem_of_getElem? hya)
              have HYL := Lib.hid hyl
              have hji : (0 : Int) < (j : Int) := by omega
              have hjn : 0 < j := by omega
              clear hj0 hol hvl hy hu hya hua hr0 hyl
              by_cases hlong : yl < fl
              · have d2 : decide ((yl : Int) < (fl : Int)) = true := decide_eq_true (by omega)
                have d3 : decide (yl < fl) = true := decide_eq_true hlong
                have HX : Hid (Below wi.heap.size wi wi) := Lib.hid (Below.refl _ _)
                have R1 : Hid (IsMin i (isS l list bl) (s + 1) OL) := Lib.hid (HI.out.long HY0.out (by rw [HSB.out, HFL.out, HYL.out]; exact hlong))
                clear hlong
                go_wp2_with fail
                go_meet
                case rel => exact ⟨true, rfl, Lib.hid fun _ => R1.out, Lib.hid (fun h => by cases h), HX⟩
              · have d2 : decide ((yl : Int) < (fl : Int)) = false := decide_eq_false (by omega)
                have d3 : decide (yl < fl) = false := decide_eq_false hlong
                have HLE : Hid (fl ≤ yl) := Lib.hid (by omega)
                clear hlong
                go_wp2_with fail
                have hcall := refCan_any l HV.out HH6.out HH60.out HH8.out (.slice a n cap) (.slice la i lc) (.slice (some ⟨ba', 0, none⟩) i i) list HRV.out (belS list.length s bl) (belS_len _ _ _) wi HSi.out HLi.out (by rw [HM.out]; exact HEB.out)
                unfold legV legA at hcall
                rw [HCB.out] at hcall
                refine hcall.mono ?_
                rintro e wy ⟨rfl, hby⟩
                clear hcall
                have HX := Lib.hid hby
                clear hby
                have R1 : Hid (r = true → IsMin i (isS l list bl) (s + 1) OL) := Lib.hid (fun h => HI.out.no (by have := HCS.out; rw [h] at this; simpa using this.symm))
                have R2 : Hid (r = false → isS l list bl s = true ∧ ∀ y ∈ OL, fl ≤ y.length) := Lib.hid (fun h => ⟨by have := HCS.out; rw [h] at this; simpa using this.symm, fun y hy => by rw [HI.out.len hy HY0.out, HYL.out]; exact HLE.out⟩)
                go_wp2_with fail
                go_meet
                case rel => exact ⟨r, rfl, R1, R2, HX⟩
          case rest =>
          obtain ⟨b, rfl, HA, HC, HX⟩ := hcut
          obtain ⟨wx, rfl⟩ : ∃ y : World, y = wc := ⟨_, rfl⟩
          cases b
          · skip
            have HIS := Lib.hid (HC.out rfl).1
            have HLEN := Lib.hid (HC.out rfl).2
            have HOx : Hid (SetR K wx (.slice (some ⟨og, 0, none⟩) j oc) OL vs) := Lib.hid (HOi.out.below HX.out)
            have HFx := Lib.hid (ownsN_below HF.out HX.out)
            have HBx : Hid (Below K w1 wx) := Lib.hid (by have h := bThen (show Below w1.heap.size w1 wi by rw [HK.out]; exact HBB.out) HX.out; rw [HK.out] at h; exact h)
            have HJB : Hid (j ≤ 32) := Lib.hid (by rw [← HJO.out]; exact Nat.le_trans HI.out.bd (by omega))
            clear HA HC HX HF HOi HBB c0 c1 c2 c3 c4 c5 c6
            go_upto_region 14 with fail
            go_cut [81] from 70 to 80 (fun v wz => ∃ b, v = .bool b ∧ Hid (b = true → ∃ y ∈ OL, fl < y.length) ∧ Hid (b = false → ∀ y ∈ OL, y.length = fl) ∧ wx = wz)
            case first =>
              by_cases hj0 : j = 0
              · have d0 : decide ((0 : Int) < (j : Int)) = false := decide_eq_false (by omega)
                have d1 : decide (0 < j) = false := decide_eq_false (by omega)
                have R1 : Hid (∀ x ∈ OL, x.length = fl) := Lib.hid (fun x hx => by rw [List.length_eq_zero_iff.1 (show OL.length = 0 by rw [HJO.out]; exact hj0)] at hx; cases hx)
                clear hj0
                go_wp2_with fail
                go_meet
                case rel => exact ⟨false, rfl, Lib.hid (fun h => by cases h), Lib.hid fun _ => R1.out, rfl⟩
              · have d0 : decide ((0 : Int) < (j : Int)) = true := decide_eq_true (by omega)
                have d1 : decide (0 < j) = true := decide_eq_true (by omega)
                have hol : 0 < OL.length := by rw [HJO.out]; omega
                have hvl : 0 < vs.length := by rw [HJ.out]; omega
                obtain ⟨y0, hy⟩ : ∃ y, OL[0] = y := ⟨_, rfl⟩
                obtain ⟨u0, hu⟩ : ∃ y, vs[0] = y := ⟨_, rfl⟩
                have hya : OL[0]? = some y0 := by rw [List.getElem?_eq_getElem hol, hy]
                have hua : vs[0]? = some u0 := by rw [List.getElem?_eq_getElem hvl, hu]
                have hr0 := HOx.out.rows 0 u0 y0 hua hya
                obtain ⟨ua, uc, rfl⟩ := owns_form hr0
                obtain ⟨yl, hyl⟩ : ∃ n, y0.length = n := ⟨_, rfl⟩
                obtain ⟨g0, -⟩ := own_cell (show wx.ownsRow K 35 1 (.slice (some ⟨og, 0, none⟩) j oc) j vs by have h := HOx.out.row; rw [HJ.out] at h; exact h) hua
                rw [hyl] at g0
                have HY0 : Hid (y0 ∈ OL) := Lib.hid (List.mem_of_getElem? hya)
                have HYL := Lib.hid hyl
                have hyf : fl ≤ yl := by rw [← hyl]; exact HLEN.out y0 HY0.out
                have hji : (0 : Int) < (j : Int) := by omega
                have hjn : 0 < j := by omega
                clear hj0 hol hvl hy hu hya hua hr0 hyl
                by_cases hsh : fl < yl
                · have d2 : decide ((fl : Int) < (yl : Int)) = true := decide_eq_true (by omega)
                  have d3 : decide (fl < yl) = true := decide_eq_true hsh
                  have R1 : Hid (∃ y ∈ OL, fl < y.length) := Lib.hid ⟨y0, HY0.out, by rw [HYL.out]; exact hsh⟩
                  clear hsh hyf
                  go_wp2_with fail
                  go_meet
                  case rel => exact ⟨true, rfl, Lib.hid fun _ => R1.out, Lib.hid (fun h => by cases h), rfl⟩
                · have d2 : decide ((fl : Int) < (yl : Int)) = false := decide_eq_false (by omega)
                  have d3 : decide (fl < yl) = false := decide_eq_false hsh
                  have R1 : Hid (∀ x ∈ OL, x.length = fl) := Lib.hid (fun x hx => by have h := HI.out.len hx HY0.out; rw [HYL.out] at h; omega)
                  clear hsh hyf
                  go_wp2_with fail
                  go_meet
                  case rel => exact ⟨false, rfl, Lib.hid (fun h => by cases h), Lib.hid fun _ => R1.out, rfl⟩
            case rest =>
            obtain ⟨sh, rfl, HSH, HNS, rfl⟩ := hcut
            go_upto_if 81 with fail
            go_cut [7] from 82 to 82 (fun v wy => ∃ (OL2 : List (List Nat)) (vs2 : List Value) (g2 c2 : Nat), v = .slice (some ⟨g2, 0, none⟩) vs2.length c2 ∧ vs2.length ≤ 32 ∧ Hid (SetR K wy v OL2 vs2) ∧ Hid (∀ x ∈ OL2, x.length = fl) ∧ Hid (∀ p, (∀ x ∈ OL2.take p, smallerN x SB = true) → (∀ x, OL2[p]? = some x → smallerN x SB = false) → IsMin i (isS l list bl) (s + 1) (OL2.take p ++ SB :: OL2.drop p)) ∧ Hid (Below wx.heap.size wx wy))
            case first =>
              cases sh
              · have R1 : Hid (∀ x ∈ OL, x.length = fl) := Lib.hid (HNS.out rfl)
                have R2 : Hid (∀ p, (∀ x ∈ OL.take p, smallerN x SB = true) → (∀ x, OL[p]? = some x → smallerN x SB = false) → IsMin i (isS l list bl) (s + 1) (OL.take p ++ SB :: OL.drop p)) := Lib.hid (fun p h1 h2 => by
                  rw [← HSB.out] at h1 h2 ⊢
                  rcases List.eq_nil_or_concat OL with e | ⟨L', y, e⟩
                  · have h := HI.out
                    rw [e] at h ⊢
                    rw [List.take_nil, List.drop_nil]
                    exact h.first HIS.out
                  · have hy : y ∈ OL := by rw [e]; simp
                    exact HI.out.ins HIS.out (by rw [HP2.out]; exact hlt) hy (by rw [HSB.out, HFL.out, R1.out y hy]) h1 h2)
                have HX0 : Hid (Below wx.heap.size wx wx) := Lib.hid (Below.refl _ _)
                go_wp2_with fail
                go_meet
                case rel => exact ⟨OL, vs, og, oc, by rw [HJ.out], by rw [HJ.out]; exact HJB.out, HOx, R1, R2, HX0⟩
              · obtain ⟨y0, hy0, hsh⟩ := HSH.out rfl
                obtain ⟨X, hX⟩ : ∃ X, wx.heap.size = X := ⟨_, rfl⟩
                obtain ⟨w7, hw7⟩ : ∃ y, wx.alloc (.cells #[] 35) = y := ⟨_, rfl⟩
                have k7 : w7.heap[X]? = some (.cells #[] 35 (0, 0)) := by rw [← hw7, ← hX]; exact World.alloc_heap_new _ _
                have HX7 : Hid (Below wx.heap.size wx w7) := Lib.hid (by rw [← hw7]; exact aB _ _)
                have hKX : K ≤ X := by rw [← hX]; have := HBx.out.size; rw [HK.out] at this; exact this
                have R0 : Hid (SetR K w7 (.slice (some ⟨X, 0, none⟩) 0 0) [] []) := Lib.hid ⟨rfl, own_empty k7 hKX, fun i u xs hu _ => by simp at hu⟩
                have R2 : Hid (∀ p, (∀ x ∈ ([] : List (List Nat)).take p, smallerN x SB = true) → (∀ x, ([] : List (List Nat))[p]? = some x → smallerN x SB = false) → IsMin i (isS l list bl) (s + 1) (([] : List (List Nat)).take p ++ SB :: ([] : List (List Nat)).drop p)) := Lib.hid (fun p _ _ => by
                  rw [List.take_nil, List.drop_nil, ← HSB.out]
                  exact HI.out.short HIS.out hy0 (by rw [HSB.out, HFL.out]; exact hsh))
                have HW7 := Lib.hid hw7
                have HXX := Lib.hid hX
                clear hsh hy0 hw7 k7 hX hKX
                go_wp2_with fail
                rw [HW7.out, HXX.out]
                go_meet
                case rel => exact ⟨[], [], X, 0, rfl, by simp, R0, Lib.hid (fun x hx => by cases hx), R2, HX7⟩
            case rest =>
            obtain ⟨OL2, vs2, g2, c2', rfl, hv32, HO2, HL2, HSP, HY⟩ := hcut
            obtain ⟨wy, rfl⟩ : ∃ y : World, y = wc := ⟨_, rfl⟩
            have HFy := Lib.hid (ownsN_below HFx.out HY.out)
            obtain ⟨j2, hj2⟩ : ∃ x, vs2.length = x := ⟨_, rfl⟩
            rw [hj2] at HO2 hv32 ⊢
            have HJ2 := Lib.hid hj2
            have HOL2 : Hid (OL2.length = j2) := Lib.hid (by rw [← HO2.out.len]; exact hj2)
            have HSBL : Hid (SB.length = fl) := HFL
            have hfl32 : fl ≤ 5 := by omega
            have HLW : Hid (∀ x ∈ OL2.take 0, smallerN x SB = true) := Lib.hid (by simp)
            have HYE : Hid (Below wy.heap.size wy wy) := Lib.hid (Below.refl _ _)
            clear hj2 HSH HNS HOx HFx
            go_upto_block 4 with fail
            go_cut [13] from 83 to 96 (fun v wz => ∃ p : Nat, v = .int .i64 (p : Int) ∧ p ≤ j2 ∧ Hid (∀ x ∈ OL2.take p, smallerN x SB = true) ∧ Hid (∀ x, OL2[p]? = some x → smallerN x SB = false) ∧ Hid (Below wy.heap.size wy wz))
            case first =>
              go_wp2_with fail
              go_loopw [13] (fun pv wr => ∃ p : Nat, p ≤ j2 ∧ pv = .int .i64 (p : Int) ∧ Hid (∀ x ∈ OL2.take p, smallerN x SB = true) ∧ Hid (Below wy.heap.size wy wr)) (fun pv _ => j2 - (intOf pv).toNat)
              case atStart => exact ⟨0, by omega, by go_num, HLW, HYE⟩
              case round =>
                clear HLW HYE
                obtain ⟨p, hp, rfl, HLP, HBp⟩ := hrel
                obtain ⟨wp, rfl⟩ : ∃ y : World, y = wr := ⟨_, rfl⟩
                by_cases hpj : p < j2
                · have hol : p < OL2.length := by rw [HOL2.out]; exact hpj
                  have hvl : p < vs2.length := by rw [HJ2.out]; exact hpj
                  obtain ⟨x, hx⟩ : ∃ y, OL2[p] = y := ⟨_, rfl⟩
                  obtain ⟨u, hu⟩ : ∃ y, vs2[p] = y := ⟨_, rfl⟩
                  have hxa : OL2[p]? = some x := by rw [List.getElem?_eq_getElem hol, hx]
                  have hua : vs2[p]? = some u := by rw [List.getElem?_eq_getElem hvl, hu]
                  have hOp := HO2.out.below HBp.out
                  have hxr := hOp.rows p u x hua hxa
                  obtain ⟨ua, uc, rfl⟩ := owns_form hxr
                  have hxl : x.length = fl := HL2.out x (List.mem_of_getElem? hxa)
                  obtain ⟨g0, -⟩ := own_cell (show wp.ownsRow K 35 1 (.slice (some ⟨g2, 0, none⟩) j2 c2') j2 vs2 by have h := hOp.row; rw [HJ2.out] at h; exact h) hua
                  rw [hxl] at hxr g0
                  have HXR : Hid (Sl (fun q => K ≤ q) wp (.slice ua fl uc) (ints (nInts x))) := Lib.hid (Sl.of_owns hxr)
                  have HFp : Hid (Sl (fun q => Q ≤ q) wp (.slice fa fl fc) (ints (nInts SB))) := Lib.hid (Sl.of_owns (ownsN_below HFy.out HBp.out))
                  have htk : OL2.take (p + 1) = OL2.take p ++ [x] := by rw [List.take_succ_eq_append_getElem hol, hx]
                  have HTK := Lib.hid htk
                  have HXA := Lib.hid hxa
                  have HXLN := Lib.hid hxl
                  have t1 : decide ((p : Int) < (j2 : Int)) = true := decide_eq_true (by omega)
                  have t2 : decide (p < j2) = true := decide_eq_true hpj
                  have hpi : (p : Int) < (j2 : Int) := by omega
                  have hwp : IntKind.i64.wrap ((p : Int) + 1) = (p : Int) + 1 := wrap_small _ (by omega) (by omega)
                  obtain ⟨b, hb⟩ : ∃ b, smallerN x SB = b := ⟨_, rfl⟩
                  have HBS := Lib.hid hb
                  clear hol hvl hx hu hxa hua hOp hxr hxl htk
                  go_wp2_with fail
                  have hcall := refSmaller_any x SB (.slice ua fl uc) (.slice fa fl fc) wp HXR.out HFp.out (by rw [HXLN.out, HSBL.out]) (by rw [HXLN.out]; omega)
                  rw [hb] at hcall
                  refine hcall.mono ?_
                  rintro e wq ⟨rfl, hbq⟩
                  clear hcall hb
                  have HBq := Lib.hid (bThen HBp.out hbq)
                  clear hbq g0 t1 t2
                  cases b
                  · have HH : Hid (∀ z, OL2[p]? = some z → smallerN z SB = false) := Lib.hid (fun z hz => by rw [HXA.out] at hz; cases hz; exact HBS.out)
                    go_wp2_with fail
                    go_meet
                    case rel => exact ⟨p, rfl, by omega, HLP, HH, HBq⟩
                  · have HLP2 : Hid (∀ z ∈ OL2.take (p + 1), smallerN z SB = true) := Lib.hid (fun z hz => by
                      rw [HTK.out] at hz
                      rcases List.mem_append.1 hz with h | h
                      · exact HLP.out z h
                      · rw [List.mem_singleton] at h; rw [h]; exact HBS.out)
                    go_wp2_with fail
                    go_roundw
                    case rel => exact ⟨p + 1, by omega, by go_num, HLP2, HBq⟩
                    case measure => simp [intOf]; omega
                · have t1 : decide ((p : Int) < (j2 : Int)) = false := decide_eq_false (by omega)
                  have t2 : decide (p < j2) = false := decide_eq_false hpj
                  have HH : Hid (∀ z, OL2[p]? = some z → smallerN z SB = false) := Lib.hid (fun z hz => by
                    have := (List.getElem?_eq_some_iff.1 hz).1
                    rw [HOL2.out] at this; omega)
                  go_wp2_with fail
                  go_meet
                  case rel => exact ⟨p, rfl, by omega, HLP, HH, HBp⟩
            case rest =>
            obtain ⟨p, rfl, hpj, HLP, HHI, HBp⟩ := hcut
            obtain ⟨wp, rfl⟩ : ∃ y : World, y = wc := ⟨_, rfl⟩
            have HNEW := Lib.hid (HSP.out p HLP.out HHI.out)
            have HOp := Lib.hid (HO2.out.below HBp.out)
            have HFp := Lib.hid (ownsN_below HFy.out HBp.out)
            have HBz : Hid (Below K w1 wp) := Lib.hid (by
              have h := bThen (bThen (show Below w1.heap.size w1 wx by rw [HK.out]; exact HBx.out) HY.out) HBp.out
              rw [HK.out] at h; exact h)
            clear HSP HLP HHI HO2 HFy HY HBp HBx
            have hcap : j2 ≤ c2' := by
              rcases HOp.out.row.2 with ⟨e1, _⟩ | ⟨g', cap, cur, e1, h1, h2, h3, h4, h5, h6⟩
              · cases e1
              · cases e1; rw [HJ2.out] at h3; exact h3
            have hpc : (p : Int) ≤ (c2' : Int) := by omega
            have hpj3 : (p : Int) ≤ (j2 : Int) := by omega
            obtain ⟨o9, ho9⟩ : ∃ o, o = if c2' = p then 0 else p := ⟨_, rfl⟩
            have hjc : (j2 : Int) ≤ (c2' : Int) := by omega
            have HONE : Hid (∀ u ∈ vs2.drop p, u.oneCell' = true) := Lib.hid (fun u hu => by
              obtain ⟨z, hz⟩ := List.mem_iff_getElem?.1 (List.mem_of_mem_drop hu)
              have hzl := (List.getElem?_eq_some_iff.1 hz).1
              have hz2 : z < OL2.length := by rw [HOL2.out, ← HJ2.out]; exact hzl
              have hr := HOp.out.rows z u OL2[z] hz (List.getElem?_eq_getElem hz2)
              obtain ⟨xa, xc, rfl⟩ := owns_form hr
              rfl)
            go_upto_region 19 with fail
            refine wp_region_seqV 9 ((fun v => v = .slice (some ⟨g2, 0, none⟩) j2 c2') :: (fun v => v = .int .i64 (p : Int)) :: (fun v => v = .slice (some ⟨g2, 0, none⟩) p c2') :: (fun v => v = .slice fa fl fc) :: (fun v => ∃ q, v = .slice (some ⟨q, 0, none⟩) 1 1) :: (fun v => v = .slice (some ⟨g2, 0, none⟩) j2 c2') :: (fun v => v = .int .i64 (p : Int)) :: (fun v => v = .slice (some ⟨g2, o9, none⟩) (j2 - p) (c2' - p)) :: (fun v => ∃ q : Nat × Nat, v = .slice (some ⟨q.1, 0, none⟩) (1 + (j2 - p)) q.2) :: []) (JS (.slice fa fl fc) (vs2.drop p) (1 + (j2 - p)) wp) rfl mix (by kernel_rfl) (by kernel_rfl) (fun _ _ _ _ hc h => h.congr hc) (fun vs => JS.start vs) ?_
            simp only [List.take_succ_cons, List.take_zero]
            refine sv_new ⟨_, rfl⟩ rfl (fun W L vs hvs hL hj hd => ?_) ?_
            · simp only [List.length_nil] at hL ⊢
              exact opOK_val (v := .slice (some ⟨g2, 0, none⟩) j2 c2') (w' := W) (by simp [go_sem, execOp]) ⟨rfl, hj.oth (by decide) (by decide)⟩
            rintro _ rfl
            simp only [Act.put, List.setIfInBounds_toArray, List.set_cons_succ, List.set_cons_zero]
            refine sv_new ⟨_, rfl⟩ rfl (fun W L vs hvs hL hj hd => ?_) ?_
            · simp only [List.length_append, List.length_cons, List.length_nil, Nat.zero_add, Nat.reduceAdd] at hL ⊢
              exact opOK_val (v := .int .i64 (p : Int)) (w' := W) (by simp [go_sem, execOp]) ⟨rfl, hj.oth (by decide) (by decide)⟩
            rintro _ rfl
            simp only [Act.put, List.setIfInBounds_toArray, List.set_cons_succ, List.set_cons_zero]
            refine sv_new ⟨_, rfl⟩ rfl (fun W L vs hvs hL hj hd => ?_) ?_
            · simp only [List.length_append, List.length_cons, List.length_nil, Nat.zero_add, Nat.reduceAdd] at hL ⊢
              exact opOK_val (v := .slice (some ⟨g2, 0, none⟩) p c2') (w' := W) (by simp [go_sem, execOp, hpc, hpj3, hjc]) ⟨rfl, hj.oth (by decide) (by decide)⟩
            rintro _ rfl
            simp only [Act.put, List.setIfInBounds_toArray, List.set_cons_succ, List.set_cons_zero]
            refine sv_new ⟨_, rfl⟩ rfl (fun W L vs hvs hL hj hd => ?_) ?_
            · simp only [List.length_append, List.length_cons, List.length_nil, Nat.zero_add, Nat.reduceAdd] at hL ⊢
              exact opOK_val (v := .slice fa fl fc) (w' := W) (by simp [go_sem, execOp]) ⟨rfl, hj.oth (by decide) (by decide)⟩
            rintro _ rfl
            simp only [Act.put, List.setIfInBounds_toArray, List.set_cons_succ, List.set_cons_zero]
            refine sv_new ⟨_, 0, rfl⟩ rfl (fun W L vs hvs hL hj hd => ?_) ?_
            · simp only [List.length_append, List.length_cons, List.length_nil, Nat.zero_add, Nat.reduceAdd] at hL ⊢
              exact opOK_val (v := .slice (some ⟨W.heap.size, 0, none⟩) 1 1) (w' := W.alloc (.cells #[.slice fa fl fc] 35)) (by simp [go_sem, execOp]) ⟨⟨_, rfl⟩, hj.lit4 hL⟩
            rintro _ ⟨q4, rfl⟩
            simp only [Act.put, List.setIfInBounds_toArray, List.set_cons_succ, List.set_cons_zero]
            refine sv_new ⟨_, rfl⟩ rfl (fun W L vs hvs hL hj hd => ?_) ?_
            · simp only [List.length_append, List.length_cons, List.length_nil, Nat.zero_add, Nat.reduceAdd] at hL ⊢
              exact opOK_val (v := .slice (some ⟨g2, 0, none⟩) j2 c2') (w' := W) (by simp [go_sem, execOp]) ⟨rfl, hj.oth (by decide) (by decide)⟩
            rintro _ rfl
            simp only [Act.put, List.setIfInBounds_toArray, List.set_cons_succ, List.set_cons_zero]
            refine sv_new ⟨_, rfl⟩ rfl (fun W L vs hvs hL hj hd => ?_) ?_
            · simp only [List.length_append, List.length_cons, List.length_nil, Nat.zero_add, Nat.reduceAdd] at hL ⊢
              exact opOK_val (v := .int .i64 (p : Int)) (w' := W) (by simp [go_sem, execOp]) ⟨rfl, hj.oth (by decide) (by decide)⟩
            rintro _ rfl
            simp only [Act.put, List.setIfInBounds_toArray, List.set_cons_succ, List.set_cons_zero]
            refine sv_new ⟨_, rfl⟩ rfl (fun W L vs hvs hL hj hd => ?_) ?_
            · simp only [List.length_append, List.length_cons, List.length_nil, Nat.zero_add, Nat.reduceAdd] at hL ⊢
              exact opOK_val (v := .slice (some ⟨g2, o9, none⟩) (j2 - p) (c2' - p)) (w' := W) (by simp [go_sem, execOp, hpc, hpj3, hjc, ho9]; split <;> rfl) ⟨rfl, hj.oth (by decide) (by decide)⟩
            rintro _ rfl
            simp only [Act.put, List.setIfInBounds_toArray, List.set_cons_succ, List.set_cons_zero]
            refine sv_new ⟨_, (0, 0), rfl⟩ rfl (fun W L vs hvs hL hj hd => ?_) ?_
            · simp only [List.length_append, List.length_cons, List.length_nil, Nat.zero_add, Nat.reduceAdd] at hL ⊢
              have hL4 := hd ⟨4, .data⟩ (by simp) rfl
              have e4 := hvs 4 (.slice (some ⟨q4, 0, none⟩) 1 1) (by simp)
              have hlit := hj.lit hL4 hL
              have hlit2 := hlit
              rw [e4] at hlit2
              have hOW := HOp.out.below hj.base
              have hrw : W.ownsRow K 35 1 (.slice (some ⟨g2, 0, none⟩) j2 c2') j2 vs2 := by have h := hOW.row; rw [HJ2.out] at h; exact h
              refine opOK_mono (opOK_appendN_at (.tmp 101) (.tmp 104) 66 rfl wp.heap.size 35 (.slice none 0 0) 1 24 Tryz.underlying66 info_sl5 rfl (by decide) (.slice (some ⟨q4, 0, none⟩) 1 1) 1 [.slice fa fl fc] rfl hlit2 g2 o9 (j2 - p) (c2' - p) (vs2.drop p) rfl (by rw [List.length_drop, HJ2.out]; omega) (fun z u hz => by
                rw [List.getElem?_drop] at hz
                have hzl := (List.getElem?_eq_some_iff.1 hz).1
                rw [HJ2.out] at hzl
                have e9 : o9 = p := by rw [ho9, if_neg (by omega)]
                rw [e9]; exact (own_cell hrw hz).1) HONE.out (by omega) (by decide) hj.base.size) ?_
              rintro v' w' ⟨h1, h2, h3⟩
              obtain ⟨g9, c9, rfl⟩ := own_pos h1 (by omega)
              exact ⟨⟨(g9, c9), rfl⟩, hj.app8 hL4 hL (by rw [e4]; exact h2) h1⟩
            rintro _ ⟨⟨q8, c8⟩, rfl⟩
            simp only [Act.put, List.setIfInBounds_toArray, List.set_cons_succ, List.set_cons_zero]
            refine sv_end fun vsx wq hvs hj => ?_
            simp only [List.drop_succ_cons, List.drop_zero]
            have e8 := hvs 8 (.slice (some ⟨q8, 0, none⟩) (1 + (j2 - p)) c8) (by simp)
            have happ := hj.app (by decide)
            rw [e8] at happ
            have HOq := Lib.hid (HOp.out.below hj.base)
            have HFq := Lib.hid (ownsN_below HFp.out hj.base)
            have HBq : Hid (Below K w1 wq) := Lib.hid (by
              have h := bThen (show Below w1.heap.size w1 wp by rw [HK.out]; exact HBz.out) hj.base
              rw [HK.out] at h; exact h)
            have HAPP := Lib.hid happ
            have HTAKE : Hid (wq.ownsRow K 35 1 (.slice (some ⟨g2, 0, none⟩) p c2') p (vs2.take p)) := Lib.hid (by
              have h := own_take (k := 1) (show wq.ownsRow K 35 1 (.slice (some ⟨g2, 0, none⟩) j2 c2') j2 vs2 by have h := HOq.out.row; rw [HJ2.out] at h; exact h) hpj
              rw [Nat.mul_one] at h; exact h)
            have HSZ : Hid (K ≤ wq.heap.size) := Lib.hid (by have h := HBq.out.size; rw [HK.out] at h; exact h)
            clear hvs hj e8 happ HOp HFp HBz ho9
            go_wp2_with (at_builtin; refine wpList_appendN rfl (.tmp 99) (.tmp 105) 66 rfl K 35 (.slice none 0 0) 1 24 Tryz.underlying66 info_sl5 rfl (by decide) (.slice (some ⟨g2, 0, none⟩) p c2') p (vs2.take p) rfl HTAKE.out q8 0 (1 + (j2 - p)) c8 (.slice fa fl fc :: vs2.drop p) rfl (by rw [List.length_cons, List.length_drop, HJ2.out]; omega) (fun z u hz => by rw [Nat.zero_add]; exact (own_cell HAPP.out hz).1) (fun u hu => (List.mem_cons.1 hu).elim (fun e => by rw [e]; rfl) (HONE.out u)) (by omega) (by decide) HSZ.out ?_)
            intro v9 w9 ho9 hg9 hat9
            obtain ⟨g9, c9, rfl⟩ := own_pos ho9 (by omega)
            have hlen9 : p + (1 + (j2 - p)) = j2 + 1 := by omega
            have hset := HOq.out.ins (p := p) (u := .slice fa fl fc) (xs := SB) (W' := w9) (v' := .slice (some ⟨g9, 0, none⟩) (p + (1 + (j2 - p))) c9) (by rw [HJ2.out]; exact hpj) (own_mono (by rw [HSBL.out]; exact HFq.out) HKQ.out) hg9 (by rw [HJ2.out, ← hlen9]; exact ho9)
            have HO9 := Lib.hid hset
            have HB9 : Hid (Below K w1 w9) := Lib.hid (HBq.out.trans (below_grownBy hg9 HSZ.out (fun z hz => (HTAKE.out.lt z hz).1)))
            have HVL : Hid ((vs2.take p ++ .slice fa fl fc :: vs2.drop p).length = p + (1 + (j2 - p))) := Lib.hid (by rw [List.length_append, List.length_take, List.length_cons, List.length_drop, HJ2.out]; omega)
            have hws : IntKind.i64.wrap ((s : Int) + 1) = (s : Int) + 1 := wrap_small _ (by omega) (by omega)
            clear ho9 hg9 hat9 hlen9 hset
            go_wp2_with fail
            go_roundw
            case rel => exact ⟨s + 1, _, _, by omega, by go_num, ⟨g9, c9, by rw [HVL.out]⟩, HNEW, HO9, HB9⟩
            case measure => simp [intOf]; omega
          · have HI9 : Hid (IsMin i (isS l list bl) (s + 1) OL) := Lib.hid (HA.out rfl)
            have HO9 : Hid (SetR K wx (.slice (some ⟨og, 0, none⟩) j oc) OL vs) := Lib.hid (HOi.out.below HX.out)
            have HB9 : Hid (Below K w1 wx) := Lib.hid (by have h := bThen (show Below w1.heap.size w1 wi by rw [HK.out]; exact HBB.out) HX.out; rw [HK.out] at h; exact h)
            have hws : IntKind.i64.wrap ((s : Int) + 1) = (s : Int) + 1 := wrap_small _ (by omega) (by omega)
            clear HA HC
            go_wp2_with fail
            go_roundw
            case rel => exact ⟨s + 1, OL, vs, by omega, by go_num, ⟨og, oc, by rw [HJ.out]⟩, HI9, HO9, HB9⟩
            case measure => simp [intOf]; omega
    · obtain rfl : s = p2 := by omega
      have t1 : decide ((s : Int) < (s : Int)) = false := decide_eq_false (by omega)
      have t2 : decide (s < s) = false := decide_eq_false (by omega)
      have HBZ : Hid (Below N w wo) := Lib.hid (HB.out.trans (HBr.out.mono (Nat.le_of_lt HNK.out)))
      have HOF : Hid (SetR N wo (.slice (some ⟨og, 0, none⟩) j oc) OL vs) := Lib.hid ⟨HOj.out.len, by have h := HOj.out.row; exact own_mono h (Nat.le_of_lt HNK.out), fun i u xs hu hx => own_mono (HOj.out.rows i u xs hu hx) (Nat.le_of_lt HNK.out)⟩
      go_wp2_with fail
      go_returns
      exact ⟨_, _, _, rfl, HBZ.out, HI.out, HOF.out⟩
end Go.Proofs.YtpfpjbglpibdoaaGreatDoor
