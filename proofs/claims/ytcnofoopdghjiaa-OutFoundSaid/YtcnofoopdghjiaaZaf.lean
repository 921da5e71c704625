/- The texts R, S, in build order. -/
import Derived.Test.YtcnofoopdghjiaaZae

/- Chapter 2: Closed. -/
namespace Go.Proofs.Ytcnofoopdghjiaa
open Go.RowKit Go.Oche Go.Proofs
attribute [local go_sem] Oper.semAt_some

def closedErr (bs : List Int) (g d : Int) (n : Nat) : Int := if rulesOk bs g d then (if n ≤ 1002 then 0 else 5) else 2
def closedRes (bs : List Int) (g d : Int) (nv : List Bool) : Bool := closedErr bs g d nv.length == 0 && closedB g bs nv

/-- The draws so far are proofs, where it matters. -/
def PreOk (x : Bool) (nv : List Bool) (pre : List (Int × Int)) : Prop := x = true → ∀ t ∈ pre, nv.getD t.2.toNat false = true
theorem Rel.below_same {O O' : Nat → Prop} {W W' : World} {B : Nat} (h : Rel O W O' W') (hB : B ≤ W.heap.size) (hs : ∀ k, k < B → O k → W'.heap[k]? = W.heap[k]?) : Below B W W' :=
  ⟨h.os, h.tape, h.output, h.size, fun k hk => by
    by_cases ho : O k
    · exact hs k hk ho
    · exact h.block k (Nat.lt_of_lt_of_le hk hB) ho⟩

set_option maxRecDepth 100000 in
set_option maxHeartbeats 1000000 in
theorem closed_ok {S S' : Nat → Prop} (bs : List Int) (g d : Int) (nv : List Bool) (v vn : Value) (w : World) (hs : Sl S w v (ints bs)) (hn : Sl S' w vn (bools nv)) (hi : ∀ b ∈ bs, I64 b) (hr : rulesOk bs g d = true) (hl : nv.length ≤ 1002) :
    Calls Try.prog 30 #[.agg #[v, .int .i64 g, .int .i64 d], vn] w fun e w' => e = .returned (.tuple #[.bool (closedB g bs nv), .int .i64 0]) ∧ Below w.heap.size w w' := by
  obtain ⟨a, cap, rfl, _, _⟩ := hs.form
  obtain ⟨an, capn, rfl, hcn1, hcn2⟩ := hn.form
  simp only [ints_length, bools_length] at *
  obtain ⟨w0, hw0⟩ : ∃ w0, w0 = ((((w.alloc (.cells #[.slice a bs.length cap, .int .i64 g, .int .i64 d] 25)).alloc (.cells #[.slice an nv.length capn] 44)).alloc (.cells #[.bool false] 4)).alloc (.cells #[.int .i64 0] 30)) := ⟨_, rfl⟩
  have hb0 : Below w.heap.size w w0 := by rw [hw0]; exact ((((Below.refl _ _).alloc (Nat.le_refl _) _).alloc (by simp) _).alloc (by simp; omega) _).alloc (by simp; omega) _
  have hz0 : w.heap.size + 4 ≤ w0.heap.size := by rw [hw0]; simp
  have h2 : w0.heap[w.heap.size]? = some (.cells #[.slice a bs.length cap, .int .i64 g, .int .i64 d] 25 (0, 0)) := by
    rw [hw0, Below.heap_alloc _ _ _ (by simp <;> omega), Below.heap_alloc _ _ _ (by simp <;> omega), Below.heap_alloc _ _ _ (by simp)]
    exact World.alloc_heap_new _ _
  have h3 : w0.heap[w.heap.size + 1]? = some (.cells #[.slice an nv.length capn] 44 (0, 0)) := by
    rw [hw0, Below.heap_alloc _ _ _ (by simp <;> omega), Below.heap_alloc _ _ _ (by simp)]
    have := World.alloc_heap_new (w.alloc (.cells #[.slice a bs.length cap, .int .i64 g, .int .i64 d] 25)) (.cells #[.slice an nv.length capn] 44)
    simpa only [World.size_alloc] using this
  have h4 : w0.heap[w.heap.size + 2]? = some (.cells #[.bool false] 4 (0, 0)) := by
    rw [hw0, Below.heap_alloc _ _ _ (by simp)]
    have := World.alloc_heap_new ((w.alloc (.cells #[.slice a bs.length cap, .int .i64 g, .int .i64 d] 25)).alloc (.cells #[.slice an nv.length capn] 44)) (.cells #[.bool false] 4)
    simpa only [World.size_alloc] using this
  have h5 : w0.heap[w.heap.size + 3]? = some (.cells #[.int .i64 0] 30 (0, 0)) := by
    rw [hw0]
    have := World.alloc_heap_new (((w.alloc (.cells #[.slice a bs.length cap, .int .i64 g, .int .i64 d] 25)).alloc (.cells #[.slice an nv.length capn] 44)).alloc (.cells #[.bool false] 4)) (.cells #[.int .i64 0] 30)
    simpa only [World.size_alloc] using this
  have hrs := rulesOk_spec hr
  have hbsp := bedsOk_spec hrs.1
  have HBS := Lib.hid hbsp.1
  have hbl := hbsp.2.2.2
  have HS := Lib.hid (hs.below hb0)
  have HNV := Lib.hid (hn.lt.below hb0)
  have HI := Lib.hid hi
  have HW := Lib.hid hw0
  have HR := Lib.hid hr
  have H2 := Lib.hid h2
  have H3 := Lib.hid h3
  have H4 := Lib.hid h4
  have H5 := Lib.hid h5
  unfold maxLen at hcn2
  clear hs hn hi hw0 hr hrs hbsp h2 h3 h4 h5
  refine (callsIn_wide (n := 0)).1 (callsIn_of_wp_marks Try.func30 rfl trivial ?_ rfl)
  simp only [Try.ntmps30, List.size_toArray, List.length_cons, List.length_nil, Nat.reduceAdd, Nat.reduceSub, Array.replicate_succ, Array.replicate_zero, List.push_toArray, List.append_toArray, List.nil_append, List.cons_append]
  gi_wp2_with fail
  rw [← HW.out]
  refine ⟨trivial, rfl, (callsIn_wide.2 (check_r bs g d _ HR _ _ HS.out HI.out)).mono ?_⟩
  rw [show chkN true = 0 from rfl]
  rintro e w1 ⟨rfl, hb1⟩
  have hz1 := hb1.size
  have H2' := Lib.hid ((hb1.block w.heap.size (by omega)).trans H2.out)
  have H3' := Lib.hid ((hb1.block (w.heap.size + 1) (by omega)).trans H3.out)
  have H4' := Lib.hid ((hb1.block (w.heap.size + 2) (by omega)).trans H4.out)
  have H5' := Lib.hid ((hb1.block (w.heap.size + 3) (by omega)).trans H5.out)
  have HS1 := Lib.hid (HS.out.below hb1)
  have HNV1 := Lib.hid (HNV.out.below hb1)
  have e0 : w1.cell? ⟨w.heap.size, 0, none⟩ = some (.slice a bs.length cap) := by rw [cell_of_heap H2'.out]; rfl
  have e1 : w1.cell? ⟨w.heap.size, 1, none⟩ = some (.int .i64 g) := by rw [cell_of_heap H2'.out]; rfl
  have e3 : w1.cell? ⟨w.heap.size + 1, 0, none⟩ = some (.slice an nv.length capn) := by rw [cell_of_heap H3'.out]; rfl
  have hbw1 : Below w.heap.size w w1 := hb0.trans (hb1.mono (by omega))
  clear H2 H3 H4 H5 hb1
  gi_wp2_with fail
  refine ⟨trivial, rfl, (callsIn_wide.2 (newBoard_any bs g 0 0 _ _ HS1.out HBS.out hbl (by omega) (by omega))).mono ?_⟩
  rintro e w5 ⟨P, rfl, hb5, hBd⟩
  have hz5 := hb5.size
  have hbw5 : Below w.heap.size w w5 := hbw1.trans (hb5.mono (by omega))
  have H3 := Lib.hid ((hb5.block (w.heap.size + 1) (by omega)).trans H3'.out)
  have H4 := Lib.hid ((hb5.block (w.heap.size + 2) (by omega)).trans H4'.out)
  have H5 := Lib.hid ((hb5.block (w.heap.size + 3) (by omega)).trans H5'.out)
  have HNV5 := Lib.hid (HNV1.out.below hb5)
  have HBd := Lib.hid hBd
  clear e0 e1 e3 H2' H3' H4' H5' hBd hb5
  obtain ⟨N, hN⟩ : ∃ N, w.heap.size = N := ⟨_, rfl⟩
  have e3 : w5.cell? ⟨N + 1, 0, none⟩ = some (.slice an nv.length capn) := by rw [← hN, cell_of_heap H3.out]; rfl
  have hH4 := H4.out
  have hH5 := H5.out
  rw [hN] at hbw5 hH4 hH5 hz0
  have H4' := Lib.hid hH4
  have H5' := Lib.hid hH5
  have HN := Lib.hid hN
  have hNz : N + 4 ≤ w5.heap.size := by omega
  have hNP : N + 4 ≤ w1.heap.size := by omega
  clear H4 H5 hH4 hH5
  gi_wp2_with fail
  clear hN
  obtain ⟨hPS, vb, vc, vs, c0, c1, c2, hslb, hslc, hvl, hrows⟩ := HBd.out
  have C0 := Lib.hid c0
  have C1 := Lib.hid c1
  have E3 := Lib.hid e3
  clear hslc hrows hvl c2 c0 c1 e3
  refine wpIn_loop (fun A W => ∃ (k : Nat) (Ds : List Nat) (u7 u8 u27 u28 u29 u30 u31 u32 u33 u34 u35 u36 u37 u38 u49 : Value), k ≤ nv.length ∧ Below w5.heap.size w5 W ∧ Marks w5.heap.size W Ds ∧ (∀ s, s < k → closedAt g bs nv s = true) ∧ A = { tmps := #[.agg #[.slice a bs.length cap, .int .i64 g, .int .i64 d], .slice an nv.length capn, .pointer (some ⟨N, 0, none⟩), .pointer (some ⟨N + 1, 0, none⟩), .pointer (some ⟨N + 1 + 1, 0, none⟩), .pointer (some ⟨N + 1 + 1 + 1, 0, none⟩), .pointer (some ⟨P, 0, none⟩), u7, u8, undef, undef, .bool false, .agg #[.slice a bs.length cap, .int .i64 g, .int .i64 d], .int .i64 0, .bool false, .bool (decide (1002 < (nv.length : Int))), .slice an nv.length capn, .int .i64 nv.length, .bool (decide (1002 < (nv.length : Int))), .pointer (some ⟨N, 0, none⟩), .slice a bs.length cap, .pointer (some ⟨N, 1, none⟩), .int .i64 g, .pointer (some ⟨P, 0, none⟩), .slice an nv.length capn, .int .i64 nv.length, .int .i64 k, u27, u28, u29, u30, u31, u32, u33, u34, u35, u36, u37, u38, undef, undef, undef, undef, undef, undef, undef, undef, undef, undef, u49], defers := Ds.map mk }) (fun A _ => nv.length - (intOf (A.tmps.getD 26 undef)).toNat) ?_ ?_
  · exact ⟨0, [], _, _, _, _, _, _, _, _, _, _, _, _, _, _, _, Nat.zero_le _, Below.refl _ _, Marks.nil _ _, by simp, rfl⟩
  rintro a' W ⟨k, Ds, u7, u8, u27, u28, u29, u30, u31, u32, u33, u34, u35, u36, u37, u38, u49, hk, hB, hMk, hall, rfl⟩
  have hzW := hB.size
  have f4 := (hB.block (N + 1 + 1) (by omega)).trans H4'.out
  have f5 := (hB.block (N + 1 + 1 + 1) (by omega)).trans H5'.out
  have f3 := bAt hB E3.out
  have HALL := Lib.hid hall
  clear hall
  by_cases hlt : k < nv.length
  · have hsn := HNV5.out.below (hB.mono (by omega))
    obtain ⟨an', capn', har, _, _, h4⟩ := hsn
    obtain ⟨bn, offn, rfl, hSn, hcn⟩ := h4 k _ (bools_at hlt)
    simp only [Value.slice.injEq] at har
    obtain ⟨rfl, -, rfl⟩ := har
    have H4N := Lib.hid h4
    clear h4
    have hkx : nv.getD k false = nv[k] := by simp [hlt]
    cases hx : nv[k]
    · rw [hx] at hcn hkx
      have HKX := Lib.hid hkx
      clear hx hkx
      obtain ⟨W2, hW2⟩ : ∃ W2, (((W.alloc (.cells #[.bool false] 4)).alloc (.cells #[.pointer (some ⟨P, 0, none⟩)] 72)).alloc (.cells #[.int .i64 k] 3)) = W2 := ⟨_, rfl⟩
      have hB2 : Below W.heap.size W W2 := by rw [← hW2]; exact (((Below.refl _ _).alloc (Nat.le_refl _) _).alloc (by simp) _).alloc (by simp; omega) _
      have hZ2 : W2.heap.size = W.heap.size + 3 := by rw [← hW2]; simp
      have g8 : W2.cell? ⟨W.heap.size, 0, none⟩ = some (.bool false) := by rw [← hW2]; exact bAt (aB _ _) (bAt (aB _ _) (cell_new _ _ _))
      have gb : W2.cell? ⟨W.heap.size + 1, 0, none⟩ = some (.pointer (some ⟨P, 0, none⟩)) := by rw [← hW2]; have := cell_new (W.alloc (.cells #[.bool false] 4)) (.pointer (some ⟨P, 0, none⟩)) 72; rw [World.size_alloc] at this; exact bAt (aB _ _) this
      have gs : W2.cell? ⟨W.heap.size + 1 + 1, 0, none⟩ = some (.int .i64 k) := by rw [← hW2]; have := cell_new ((W.alloc (.cells #[.bool false] 4)).alloc (.cells #[.pointer (some ⟨P, 0, none⟩)] 72)) (.int .i64 k) 3; simpa only [World.size_alloc] using this
      have hbW2 : Below w5.heap.size w5 W2 := hB.trans (hB2.mono (by omega))
      have G4 := (hB2.block (N + 1 + 1) (by omega)).trans f4
      have G5 := (hB2.block (N + 1 + 1 + 1) (by omega)).trans f5
      have gM := hMk.below hB2
      have hMkl := hMk.lt
      have hMlow := hMk.low
      have HW2 := Lib.hid hW2
      have G8 := Lib.hid g8
      clear hW2 hMk f4 f5 g8
      gi_wp2_with fail
      refine ⟨trivial, rfl, (callsIn_wide.2 (throws_any _ _ _)).mono ?_⟩
      rintro e w' ⟨rfl, rfl⟩
      gi_wp2_with fail
      rw [HW2.out]
      refine wpIn_range (gf := 67) (fa := #[]) (lb := #[.pointer (some ⟨W.heap.size + 1, 0, none⟩), .pointer (some ⟨W.heap.size + 1 + 1, 0, none⟩)]) rfl (enters_of Try.func67 (by kernel_rfl) rfl)
        (throws1_in g k bs (W.heap.size + 1) (W.heap.size + 1 + 1) P vb W2 (fun j => j < W2.heap.size ∧ j ≠ N + 1 + 1 ∧ j ≠ N + 1 + 1 + 1) HBS.out (by omega) (by omega) gb gs (bAt hbW2 C0.out) (bAt hbW2 C1.out) (hslb.below hbW2) ⟨by omega, by omega, by omega⟩ ⟨by omega, by omega, by omega⟩ ⟨by have := hPS.2; omega, by have := hPS.1; omega, by have := hPS.1; omega⟩ (fun j hj hj2 => ⟨hj2, by have := hj.1; omega, by have := hj.1; omega⟩))
        (fun pre O W' => (∀ j, O j ↔ j = N + 1 + 1 ∨ j = N + 1 + 1 + 1) ∧ W'.heap[N + 1 + 1]? = some (.cells #[.bool false] 4 (0, 0)) ∧ W'.heap[N + 1 + 1 + 1]? = some (.cells #[.int .i64 0] 30 (0, 0)) ∧ PreOk false nv pre)
        (fun c pre O W' => c = .ret ∧ (∀ j, O j ↔ j = N + 1 + 1 ∨ j = N + 1 + 1 + 1) ∧ W'.heap[N + 1 + 1]? = some (.cells #[.bool false] 4 (0, 0)) ∧ W'.heap[N + 1 + 1 + 1]? = some (.cells #[.int .i64 0] 30 (0, 0)) ∧ closedAt g bs nv k = false)
        (fun pre O A B h _ _ _ _ hk => ⟨h.1, (hk _ (Array.getElem?_eq_some_iff.1 h.2.1).1 (.inl ((h.1 _).2 (.inl rfl)))).trans h.2.1, (hk _ (Array.getElem?_eq_some_iff.1 h.2.2.1).1 (.inl ((h.1 _).2 (.inr rfl)))).trans h.2.2.1, h.2.2.2⟩)
        (fun c pre O A B h _ _ _ _ hk => ⟨h.1, h.2.1, (hk _ (Array.getElem?_eq_some_iff.1 h.2.2.1).1 (.inl ((h.2.1 _).2 (.inl rfl)))).trans h.2.2.1, (hk _ (Array.getElem?_eq_some_iff.1 h.2.2.2.1).1 (.inl ((h.2.1 _).2 (.inr rfl)))).trans h.2.2.2.1, h.2.2.2.2⟩)
        (fun j => j = N + 1 + 1 ∨ j = N + 1 + 1 + 1) (fun j hj => by rcases hj with rfl | rfl <;> omega) (fun j hj => ⟨hj.1, fun h => by rcases h with h | h; exact hj.2.1 h; exact hj.2.2 h⟩) ⟨fun _ => Iff.rfl, G4, G5, fun _ _ h => by cases h⟩
        (fun b args O W' h => by subst h; rfl) ?round ?done ?stop
      case round =>
        rintro l pre ⟨y, z⟩ post args O₁ W₁ hL hl1 hl2 hnl hnl' hrel ⟨hO1, hb41, hb51, hpre⟩ henc
        subst henc
        clear hpre hO1 hb41 hb51
        gi_wp2_with fail
        refine ⟨Below.refl _ _, ?_⟩
        rintro W₃ hon ⟨hO, hR4, hR5, -⟩
        have x8 := (hon.cell _).trans (rAt hrel G8.out (by omega))
        have hO3 : ∀ j, O₁ j → j < W₃.heap.size := fun j hj => by
          rcases (hO j).1 hj with rfl | rfl
          · exact (Array.getElem?_eq_some_iff.1 hR4).1
          · exact (Array.getElem?_eq_some_iff.1 hR5).1
        gi_wp2_with fail
        exact ⟨O₁, Rel.refl hO3, hO, hR4, hR5, fun h => by cases h⟩

      case done =>
        intro D O₁ W' hD hnD hrel hI hDD
        obtain ⟨hO, hR4, hR5, hpre⟩ := hI
        have hM' : Marks w5.heap.size W' (D :: Ds) := (gM.rel hrel (fun E hE => by have := hMlow E hE; intro h; omega)).cons hDD (by omega) (fun hE => by have := hMkl D hE; omega)
        have hbW : Below w5.heap.size w5 W' := hbW2.trans (Rel.below_same hrel (by have := hbW2.size; omega) (fun j hj ho => by rcases ho with rfl | rfl; exact hR4.trans G4.symm; exact hR5.trans G5.symm))
        have HM' := Lib.hid hM'
        clear hrel hDD hM' gM
        gi_wp2_with fail
        refine ⟨⟨k + 1, D :: Ds, _, _, _, _, _, _, _, _, _, _, _, _, _, _, _, by omega, hbW, HM'.out, ?_, rfl⟩, ?_⟩
        · intro s hs
          by_cases hsk : s < k
          · exact HALL.out s hsk
          · obtain rfl : s = k := by omega
            unfold closedAt
            rw [HKX.out]; rfl
        · simp [intOf]; omega
      case stop =>
        rintro D c pre O₁ W' hD hnD hpre hrel ⟨rfl, hO, hR4, hR5, hcl⟩ hDD
        have hM' : Marks w5.heap.size W' (D :: Ds) := (gM.rel hrel (fun E hE => by have := hMlow E hE; intro h; omega)).cons hDD (by omega) (fun hE => by have := hMkl D hE; omega)
        have hbW : Below w5.heap.size w5 W' := hbW2.trans (Rel.below_same hrel (by have := hbW2.size; omega) (fun j hj ho => by rcases ho with rfl | rfl; exact hR4.trans G4.symm; exact hR5.trans G5.symm))
        have HM' := Lib.hid hM'
        have HCL := Lib.hid hcl
        clear hrel hDD hM' gM hcl
        gi_wp2_with fail
        refine leave_marks (D :: Ds) _ HM'.out fun W'' hp => ?_
        have hz4 : W''.cell? ⟨N + 1 + 1, 0, none⟩ = some (.bool false) := (hp.cell _).trans (by rw [cell_of_heap hR4]; rfl)
        have hz5 : W''.cell? ⟨N + 1 + 1 + 1, 0, none⟩ = some (.int .i64 0) := (hp.cell _).trans (by rw [cell_of_heap hR5]; rfl)
        refine ⟨.tuple #[.bool false, .int .i64 0], by simp [results, Try.results30, go_sem, hz4, hz5], by rw [closedB_bad hlt HCL.out], ?_⟩
        rw [HN.out]
        exact hbw5.trans ((hbW.mono (by omega)).trans (hp.below fun E hE => by have := HM'.out.low E hE; omega))
    · rw [hx] at hcn hkx
      have HKX := Lib.hid hkx
      clear hx hkx
      by_cases hk0 : k = 0
      · subst hk0
        simp only [Nat.add_zero] at hcn
        have hcl : Hid (closedAt g bs nv 0 = false) := by show _ = _; unfold closedAt; rw [HKX.out]; rfl
        obtain ⟨W2, hW2⟩ : ∃ W2, W.alloc (.cells #[.bool true] 4) = W2 := ⟨_, rfl⟩
        have hB2 : Below W.heap.size W W2 := by rw [← hW2]; exact aB _ _
        have G4 := (hB2.block (N + 1 + 1) (by omega)).trans f4
        have G5 := (hB2.block (N + 1 + 1 + 1) (by omega)).trans f5
        have z4 : (W.alloc (.cells #[.bool true] 4)).cell? ⟨N + 1 + 1, 0, none⟩ = some (.bool false) := by rw [hW2, cell_of_heap G4]; rfl
        have z5 : ((W.alloc (.cells #[.bool true] 4)).setCell ⟨N + 1 + 1, 0, none⟩ (.bool false)).cell? ⟨N + 1 + 1 + 1, 0, none⟩ = some (.int .i64 0) := by rw [World.cell?_setCell_other _ _ _ _ (by simp), hW2, cell_of_heap G5]; rfl
        have fz4 : (W.alloc (.cells #[.bool true] 4)).frozen? ⟨N + 1 + 1, 0, none⟩ = false := by rw [hW2]; exact frozen_of_heap G4
        have fz5 : (W.alloc (.cells #[.bool true] 4)).frozen? ⟨N + 1 + 1 + 1, 0, none⟩ = false := by rw [hW2]; exact frozen_of_heap G5
        have gM := Lib.hid (hMk.below hB2)
        have HW2 := Lib.hid hW2
        have HG4 := Lib.hid G4
        have HG5 := Lib.hid G5
        clear hMk f4 f5 hW2 G4 G5
        gi_wp2_with fail
        rw [HW2.out]
        have hM2 := (gM.out.setCell ⟨N + 1 + 1, 0, none⟩ (.bool false) (fun h => by have := gM.out.low _ h; simp at this; omega)).setCell ⟨N + 1 + 1 + 1, 0, none⟩ (.int .i64 0) (fun h => by have := gM.out.low _ h; simp at this; omega)
        have hbE : Below N w ((W2.setCell ⟨N + 1 + 1, 0, none⟩ (.bool false)).setCell ⟨N + 1 + 1 + 1, 0, none⟩ (.int .i64 0)) := ((hbw5.trans ((hB.trans (hB2.mono hzW)).mono (by omega))).setCell (p := ⟨N + 1 + 1, 0, none⟩) (by simp; omega) _).setCell (p := ⟨N + 1 + 1 + 1, 0, none⟩) (by simp; omega) _
        have K4 : ((W2.setCell ⟨N + 1 + 1, 0, none⟩ (.bool false)).setCell ⟨N + 1 + 1 + 1, 0, none⟩ (.int .i64 0)).heap[N + 1 + 1]? = some (.cells #[.bool false] 4 (0, 0)) := by rw [Below.heap_setCell _ _ _ _ (by simp), heap_setCell_at HG4.out]; rfl
        have K5 : ((W2.setCell ⟨N + 1 + 1, 0, none⟩ (.bool false)).setCell ⟨N + 1 + 1 + 1, 0, none⟩ (.int .i64 0)).heap[N + 1 + 1 + 1]? = some (.cells #[.int .i64 0] 30 (0, 0)) := by rw [heap_setCell_at (c := #[.int .i64 0]) (t := 30) (fz := (0, 0)) (by rw [Below.heap_setCell _ _ _ _ (by simp)]; exact HG5.out)]; rfl
        refine leave_marks Ds _ hM2 fun W'' hp => ?_
        have hz4 : W''.cell? ⟨N + 1 + 1, 0, none⟩ = some (.bool false) := (hp.cell _).trans (by rw [cell_of_heap K4]; rfl)
        have hz5 : W''.cell? ⟨N + 1 + 1 + 1, 0, none⟩ = some (.int .i64 0) := (hp.cell _).trans (by rw [cell_of_heap K5]; rfl)
        refine ⟨.tuple #[.bool false, .int .i64 0], by simp [results, Try.results30, go_sem, hz4, hz5], by rw [closedB_bad hlt hcl.out], ?_⟩
        rw [HN.out]
        exact hbE.trans (hp.below fun E hE => by have := gM.out.low E hE; omega)
      have hkz : ((k : Int) == 0) = false := by simp [hk0]
      obtain ⟨W2, hW2⟩ : ∃ W2, (((W.alloc (.cells #[.bool true] 4)).alloc (.cells #[.pointer (some ⟨P, 0, none⟩)] 72)).alloc (.cells #[.int .i64 k] 3)) = W2 := ⟨_, rfl⟩
      have hB2 : Below W.heap.size W W2 := by rw [← hW2]; exact (((Below.refl _ _).alloc (Nat.le_refl _) _).alloc (by simp) _).alloc (by simp; omega) _
      have hZ2 : W2.heap.size = W.heap.size + 3 := by rw [← hW2]; simp
      have g8 : W2.cell? ⟨W.heap.size, 0, none⟩ = some (.bool true) := by rw [← hW2]; exact bAt (aB _ _) (bAt (aB _ _) (cell_new _ _ _))
      have gb : W2.cell? ⟨W.heap.size + 1, 0, none⟩ = some (.pointer (some ⟨P, 0, none⟩)) := by rw [← hW2]; have := cell_new (W.alloc (.cells #[.bool true] 4)) (.pointer (some ⟨P, 0, none⟩)) 72; rw [World.size_alloc] at this; exact bAt (aB _ _) this
      have gs : W2.cell? ⟨W.heap.size + 1 + 1, 0, none⟩ = some (.int .i64 k) := by rw [← hW2]; have := cell_new ((W.alloc (.cells #[.bool true] 4)).alloc (.cells #[.pointer (some ⟨P, 0, none⟩)] 72)) (.int .i64 k) 3; simpa only [World.size_alloc] using this
      have hbW2 : Below w5.heap.size w5 W2 := hB.trans (hB2.mono (by omega))
      have G4 := (hB2.block (N + 1 + 1) (by omega)).trans f4
      have G5 := (hB2.block (N + 1 + 1 + 1) (by omega)).trans f5
      have gM := hMk.below hB2
      have hMkl := hMk.lt
      have hMlow := hMk.low
      have HW2 := Lib.hid hW2
      have G8 := Lib.hid g8
      clear hW2 hMk f4 f5 g8
      gi_wp2_with fail
      refine ⟨trivial, rfl, (callsIn_wide.2 (throws_any _ _ _)).mono ?_⟩
      rintro e w' ⟨rfl, rfl⟩
      gi_wp2_with fail
      rw [HW2.out]
      refine wpIn_range (gf := 67) (fa := #[]) (lb := #[.pointer (some ⟨W.heap.size + 1, 0, none⟩), .pointer (some ⟨W.heap.size + 1 + 1, 0, none⟩)]) rfl (enters_of Try.func67 (by kernel_rfl) rfl)
        (throws1_in g k bs (W.heap.size + 1) (W.heap.size + 1 + 1) P vb W2 (fun j => j < W2.heap.size ∧ j ≠ N + 1 + 1 ∧ j ≠ N + 1 + 1 + 1) HBS.out (by omega) (by omega) gb gs (bAt hbW2 C0.out) (bAt hbW2 C1.out) (hslb.below hbW2) ⟨by omega, by omega, by omega⟩ ⟨by omega, by omega, by omega⟩ ⟨by have := hPS.2; omega, by have := hPS.1; omega, by have := hPS.1; omega⟩ (fun j hj hj2 => ⟨hj2, by have := hj.1; omega, by have := hj.1; omega⟩))
        (fun pre O W' => (∀ j, O j ↔ j = N + 1 + 1 ∨ j = N + 1 + 1 + 1) ∧ W'.heap[N + 1 + 1]? = some (.cells #[.bool false] 4 (0, 0)) ∧ W'.heap[N + 1 + 1 + 1]? = some (.cells #[.int .i64 0] 30 (0, 0)) ∧ PreOk true nv pre)
        (fun c pre O W' => c = .ret ∧ (∀ j, O j ↔ j = N + 1 + 1 ∨ j = N + 1 + 1 + 1) ∧ W'.heap[N + 1 + 1]? = some (.cells #[.bool false] 4 (0, 0)) ∧ W'.heap[N + 1 + 1 + 1]? = some (.cells #[.int .i64 0] 30 (0, 0)) ∧ closedAt g bs nv k = false)
        (fun pre O A B h _ _ _ _ hk => ⟨h.1, (hk _ (Array.getElem?_eq_some_iff.1 h.2.1).1 (.inl ((h.1 _).2 (.inl rfl)))).trans h.2.1, (hk _ (Array.getElem?_eq_some_iff.1 h.2.2.1).1 (.inl ((h.1 _).2 (.inr rfl)))).trans h.2.2.1, h.2.2.2⟩)
        (fun c pre O A B h _ _ _ _ hk => ⟨h.1, h.2.1, (hk _ (Array.getElem?_eq_some_iff.1 h.2.2.1).1 (.inl ((h.2.1 _).2 (.inl rfl)))).trans h.2.2.1, (hk _ (Array.getElem?_eq_some_iff.1 h.2.2.2.1).1 (.inl ((h.2.1 _).2 (.inr rfl)))).trans h.2.2.2.1, h.2.2.2.2⟩)
        (fun j => j = N + 1 + 1 ∨ j = N + 1 + 1 + 1) (fun j hj => by rcases hj with rfl | rfl <;> omega) (fun j hj => ⟨hj.1, fun h => by rcases h with h | h; exact hj.2.1 h; exact hj.2.2 h⟩) ⟨fun _ => Iff.rfl, G4, G5, fun _ _ h => by cases h⟩
        (fun b args O W' h => by subst h; rfl) ?round ?done ?stop
      case round =>
        rintro l pre ⟨y, z⟩ post args O₁ W₁ hL hl1 hl2 hnl hnl' hrel ⟨hO1, hb41, hb51, hpre⟩ henc
        subst henc
        have hmem : (y, z) ∈ throwsL g k bs := by rw [hL]; simp
        obtain ⟨hyb, hao, hz, hz0'⟩ := throwsL_mem hmem
        have hwy := worth_bd (HBS.out y hyb)
        have hza := aftOk_bd hao
        obtain ⟨q, rfl⟩ : ∃ q : Nat, z = q := ⟨z.toNat, by omega⟩
        have hqk : q < nv.length := by omega
        have HPRE := Lib.hid hpre
        have HMEM := Lib.hid hmem
        obtain ⟨bq, offq, hbq, hSq, hcq⟩ := H4N.out q _ (bools_at hqk)
        simp only [Option.some.injEq, Addr.mk.injEq] at hbq
        obtain ⟨rfl, rfl, -⟩ := hbq
        have y3 := rAt hrel (bAt hB2 f3) (by omega)
        have yq := rAt hrel (bAt hB2 hcq) (by have := hSq.2; have := HN.out; omega)
        clear hcq hpre hO1 hb41 hb51 hao hz hyb hL hmem
        gi_wp2_with fail
        refine ⟨Below.refl _ _, ?_⟩
        rintro W₃ hon ⟨hO, hR4, hR5, -⟩
        have x8 := (hon.cell _).trans (rAt hrel G8.out (by omega))
        have x3 := (hon.cell _).trans y3
        have xq := (hon.cell _).trans yq
        have hO3 : ∀ j, O₁ j → j < W₃.heap.size := fun j hj => by
          rcases (hO j).1 hj with rfl | rfl
          · exact (Array.getElem?_eq_some_iff.1 hR4).1
          · exact (Array.getElem?_eq_some_iff.1 hR5).1
        have HO := Lib.hid hO
        have HR4 := Lib.hid hR4
        have HR5 := Lib.hid hR5
        clear hR4 hR5 hO y3 yq hon
        cases hv : nv[q]
        · rw [hv] at xq
          have HV : Hid (nv.getD q false = false) := by show _ = _; simp [hqk, hv]
          have z4 : W₃.cell? ⟨N + 1 + 1, 0, none⟩ = some (.bool false) := by rw [cell_of_heap HR4.out]; rfl
          have z5 : W₃.cell? ⟨N + 1 + 1 + 1, 0, none⟩ = some (.int .i64 0) := by rw [cell_of_heap HR5.out]; rfl
          have fz4 : W₃.frozen? ⟨N + 1 + 1, 0, none⟩ = false := frozen_of_heap HR4.out
          have fz5 : W₃.frozen? ⟨N + 1 + 1 + 1, 0, none⟩ = false := frozen_of_heap HR5.out
          clear hv
          gi_wp2_with fail
          refine ⟨O₁, ((Rel.refl hO3).setCell (p := ⟨N + 1 + 1, 0, none⟩) ((HO.out _).2 (.inl rfl)) _).setCell (p := ⟨N + 1 + 1 + 1, 0, none⟩) ((HO.out _).2 (.inr rfl)) _, rfl, HO.out, ?_, ?_, ?_⟩
          · rw [Below.heap_setCell _ _ _ _ (by simp), heap_setCell_at HR4.out]; rfl
          · rw [heap_setCell_at (c := #[.int .i64 0]) (t := 30) (fz := (0, 0)) (by rw [Below.heap_setCell _ _ _ _ (by simp)]; exact HR5.out)]; rfl
          · unfold closedAt
            rw [HKX.out]
            simp only [Bool.not_true, Bool.false_or, Bool.and_eq_false_iff]
            right
            rw [List.all_eq_false]
            exact ⟨_, HMEM.out, by simp only [Int.toNat_natCast]; rw [HV.out]; simp⟩
        · rw [hv] at xq
          have HV : Hid (nv.getD q false = true) := by show _ = _; simp [hqk, hv]
          clear hv
          gi_wp2_with fail
          refine ⟨O₁, Rel.refl hO3, HO.out, HR4.out, HR5.out, ?_⟩
          intro _ t ht
          rcases List.mem_append.1 ht with ht | ht
          · exact HPRE.out rfl t ht
          · simp at ht; subst ht; simp only [Int.toNat_natCast]; exact HV.out

      case done =>
        intro D O₁ W' hD hnD hrel hI hDD
        obtain ⟨hO, hR4, hR5, hpre⟩ := hI
        have hM' : Marks w5.heap.size W' (D :: Ds) := (gM.rel hrel (fun E hE => by have := hMlow E hE; intro h; omega)).cons hDD (by omega) (fun hE => by have := hMkl D hE; omega)
        have hbW : Below w5.heap.size w5 W' := hbW2.trans (Rel.below_same hrel (by have := hbW2.size; omega) (fun j hj ho => by rcases ho with rfl | rfl; exact hR4.trans G4.symm; exact hR5.trans G5.symm))
        have HM' := Lib.hid hM'
        clear hrel hDD hM' gM
        gi_wp2_with fail
        refine ⟨⟨k + 1, D :: Ds, _, _, _, _, _, _, _, _, _, _, _, _, _, _, _, by omega, hbW, HM'.out, ?_, rfl⟩, ?_⟩
        · intro s hs
          by_cases hsk : s < k
          · exact HALL.out s hsk
          · obtain rfl : s = k := by omega
            unfold closedAt
            rw [HKX.out]; simp only [Bool.not_true, Bool.false_or, Bool.and_eq_true, List.all_eq_true]; exact ⟨by simp [hk0], fun t ht => hpre rfl t ht⟩
        · simp [intOf]; omega
      case stop =>
        rintro D c pre O₁ W' hD hnD hpre hrel ⟨rfl, hO, hR4, hR5, hcl⟩ hDD
        have hM' : Marks w5.heap.size W' (D :: Ds) := (gM.rel hrel (fun E hE => by have := hMlow E hE; intro h; omega)).cons hDD (by omega) (fun hE => by have := hMkl D hE; omega)
        have hbW : Below w5.heap.size w5 W' := hbW2.trans (Rel.below_same hrel (by have := hbW2.size; omega) (fun j hj ho => by rcases ho with rfl | rfl; exact hR4.trans G4.symm; exact hR5.trans G5.symm))
        have HM' := Lib.hid hM'
        have HCL := Lib.hid hcl
        clear hrel hDD hM' gM hcl
        gi_wp2_with fail
        refine leave_marks (D :: Ds) _ HM'.out fun W'' hp => ?_
        have hz4 : W''.cell? ⟨N + 1 + 1, 0, none⟩ = some (.bool false) := (hp.cell _).trans (by rw [cell_of_heap hR4]; rfl)
        have hz5 : W''.cell? ⟨N + 1 + 1 + 1, 0, none⟩ = some (.int .i64 0) := (hp.cell _).trans (by rw [cell_of_heap hR5]; rfl)
        refine ⟨.tuple #[.bool false, .int .i64 0], by simp [results, Try.results30, go_sem, hz4, hz5], by rw [closedB_bad hlt HCL.out], ?_⟩
        rw [HN.out]
        exact hbw5.trans ((hbW.mono (by omega)).trans (hp.below fun E hE => by have := HM'.out.low E hE; omega))
  · have hk' : k = nv.length := by omega
    subst hk'
    have hMk' := Lib.hid hMk
    have z4 : W.cell? ⟨N + 1 + 1, 0, none⟩ = some (.bool false) := by rw [cell_of_heap f4]; rfl
    have z5 : (W.setCell ⟨N + 1 + 1, 0, none⟩ (.bool true)).cell? ⟨N + 1 + 1 + 1, 0, none⟩ = some (.int .i64 0) := by rw [World.cell?_setCell_other _ _ _ _ (by simp), cell_of_heap f5]; rfl
    have fz4 : W.frozen? ⟨N + 1 + 1, 0, none⟩ = false := frozen_of_heap f4
    have fz5 : W.frozen? ⟨N + 1 + 1 + 1, 0, none⟩ = false := frozen_of_heap f5
    have HG4 := Lib.hid f4
    have HG5 := Lib.hid f5
    clear hMk f4 f5
    gi_wp2_with fail
    have hM2 := (hMk'.out.setCell ⟨N + 1 + 1, 0, none⟩ (.bool true) (fun h => by have := hMk'.out.low _ h; simp at this; omega)).setCell ⟨N + 1 + 1 + 1, 0, none⟩ (.int .i64 0) (fun h => by have := hMk'.out.low _ h; simp at this; omega)
    have hbE : Below N w ((W.setCell ⟨N + 1 + 1, 0, none⟩ (.bool true)).setCell ⟨N + 1 + 1 + 1, 0, none⟩ (.int .i64 0)) := ((hbw5.trans (hB.mono (by omega))).setCell (p := ⟨N + 1 + 1, 0, none⟩) (by simp; omega) _).setCell (p := ⟨N + 1 + 1 + 1, 0, none⟩) (by simp; omega) _
    have K4 : ((W.setCell ⟨N + 1 + 1, 0, none⟩ (.bool true)).setCell ⟨N + 1 + 1 + 1, 0, none⟩ (.int .i64 0)).heap[N + 1 + 1]? = some (.cells #[.bool true] 4 (0, 0)) := by rw [Below.heap_setCell _ _ _ _ (by simp), heap_setCell_at HG4.out]; rfl
    have K5 : ((W.setCell ⟨N + 1 + 1, 0, none⟩ (.bool true)).setCell ⟨N + 1 + 1 + 1, 0, none⟩ (.int .i64 0)).heap[N + 1 + 1 + 1]? = some (.cells #[.int .i64 0] 30 (0, 0)) := by rw [heap_setCell_at (c := #[.int .i64 0]) (t := 30) (fz := (0, 0)) (by rw [Below.heap_setCell _ _ _ _ (by simp)]; exact HG5.out)]; rfl
    refine leave_marks Ds _ hM2 fun W'' hp => ?_
    have hz4 : W''.cell? ⟨N + 1 + 1, 0, none⟩ = some (.bool true) := (hp.cell _).trans (by rw [cell_of_heap K4]; rfl)
    have hz5 : W''.cell? ⟨N + 1 + 1 + 1, 0, none⟩ = some (.int .i64 0) := (hp.cell _).trans (by rw [cell_of_heap K5]; rfl)
    refine ⟨.tuple #[.bool true, .int .i64 0], by simp [results, Try.results30, go_sem, hz4, hz5], by rw [closedB_all HALL.out], ?_⟩
    rw [HN.out]
    exact hbE.trans (hp.below fun E hE => by have := hMk'.out.low E hE; omega)
end Go.Proofs.Ytcnofoopdghjiaa

/- Chapter 2: Closed, whole. -/
namespace Go.Proofs.Ytcnofoopdghjiaa
open Go.RowKit Go.Oche Go.Proofs

set_option maxRecDepth 100000 in
set_option maxHeartbeats 1000000 in
theorem closed_bad {S S' : Nat → Prop} (bs : List Int) (g d : Int) (nv : List Bool) (v vn : Value) (w : World) (hs : Sl S w v (ints bs)) (hn : Sl S' w vn (bools nv)) (hi : ∀ b ∈ bs, I64 b) (herr : closedErr bs g d nv.length ≠ 0) :
    Calls Try.prog 30 #[.agg #[v, .int .i64 g, .int .i64 d], vn] w fun e w' => e = .returned (.tuple #[.bool false, .int .i64 (closedErr bs g d nv.length)]) ∧ Below w.heap.size w w' := by
  obtain ⟨a, cap, rfl, _, _⟩ := hs.form
  obtain ⟨an, capn, rfl, hcn1, hcn2⟩ := hn.form
  simp only [ints_length, bools_length] at *
  obtain ⟨w0, hw0⟩ : ∃ w0, w0 = ((((w.alloc (.cells #[.slice a bs.length cap, .int .i64 g, .int .i64 d] 25)).alloc (.cells #[.slice an nv.length capn] 44)).alloc (.cells #[.bool false] 4)).alloc (.cells #[.int .i64 0] 30)) := ⟨_, rfl⟩
  have hb0 : Below w.heap.size w w0 := by rw [hw0]; exact ((((Below.refl _ _).alloc (Nat.le_refl _) _).alloc (by simp) _).alloc (by simp; omega) _).alloc (by simp; omega) _
  have hz0 : w.heap.size + 4 ≤ w0.heap.size := by rw [hw0]; simp
  have h3 : w0.heap[w.heap.size + 1]? = some (.cells #[.slice an nv.length capn] 44 (0, 0)) := by
    rw [hw0, Below.heap_alloc _ _ _ (by simp <;> omega), Below.heap_alloc _ _ _ (by simp)]
    have := World.alloc_heap_new (w.alloc (.cells #[.slice a bs.length cap, .int .i64 g, .int .i64 d] 25)) (.cells #[.slice an nv.length capn] 44)
    simpa only [World.size_alloc] using this
  have h4 : w0.heap[w.heap.size + 1 + 1]? = some (.cells #[.bool false] 4 (0, 0)) := by
    rw [hw0, Below.heap_alloc _ _ _ (by simp)]
    have := World.alloc_heap_new ((w.alloc (.cells #[.slice a bs.length cap, .int .i64 g, .int .i64 d] 25)).alloc (.cells #[.slice an nv.length capn] 44)) (.cells #[.bool false] 4)
    simpa only [World.size_alloc] using this
  have h5 : w0.heap[w.heap.size + 1 + 1 + 1]? = some (.cells #[.int .i64 0] 30 (0, 0)) := by
    rw [hw0]
    have := World.alloc_heap_new (((w.alloc (.cells #[.slice a bs.length cap, .int .i64 g, .int .i64 d] 25)).alloc (.cells #[.slice an nv.length capn] 44)).alloc (.cells #[.bool false] 4)) (.cells #[.int .i64 0] 30)
    simpa only [World.size_alloc] using this
  obtain ⟨r, hr⟩ : ∃ r, rulesOk bs g d = r := ⟨_, rfl⟩
  have HE : Hid (closedErr bs g d nv.length = if r then (if nv.length ≤ 1002 then 0 else 5) else 2) := by show _ = _; rw [closedErr, hr]
  have HERR := Lib.hid herr
  have HS := Lib.hid (hs.below hb0)
  have HI := Lib.hid hi
  have HW := Lib.hid hw0
  have HR := Lib.hid hr
  have H3 := Lib.hid h3
  have H4 := Lib.hid h4
  have H5 := Lib.hid h5
  clear hs hn hi hw0 hr h3 h4 h5 herr
  unfold maxLen at hcn2
  cases r
  · go_enter Try.func30, Try.ntmps30
    go_wp2_with fail
    rw [← HW.out]
    refine (check_r bs g d _ HR _ _ HS.out HI.out).mono ?_
    rw [show chkN false = 2 from rfl]
    rintro e w1 ⟨rfl, hb1⟩
    have hz1 := hb1.size
    have f4 := (hb1.block (w.heap.size + 1 + 1) (by omega)).trans H4.out
    have f5 := (hb1.block (w.heap.size + 1 + 1 + 1) (by omega)).trans H5.out
    have z4 : w1.cell? ⟨w.heap.size + 1 + 1, 0, none⟩ = some (.bool false) := by rw [cell_of_heap f4]; rfl
    have z5 : (w1.setCell ⟨w.heap.size + 1 + 1, 0, none⟩ (.bool false)).cell? ⟨w.heap.size + 1 + 1 + 1, 0, none⟩ = some (.int .i64 0) := by rw [World.cell?_setCell_other _ _ _ _ (by simp), cell_of_heap f5]; rfl
    have fz4 : w1.frozen? ⟨w.heap.size + 1 + 1, 0, none⟩ = false := frozen_of_heap f4
    have fz5 : w1.frozen? ⟨w.heap.size + 1 + 1 + 1, 0, none⟩ = false := frozen_of_heap f5
    have hbw1 : Below w.heap.size w w1 := hb0.trans (hb1.mono (by omega))
    have F4 := Lib.hid f4
    have F5 := Lib.hid f5
    clear f4 f5
    go_wp2_with fail
    refine bodyPost_ret (v := .tuple #[.bool false, .int .i64 2]) ?_ rfl ⟨by rw [HE.out]; rfl, ?_⟩
    · have K4 : ((w1.setCell ⟨w.heap.size + 1 + 1, 0, none⟩ (.bool false)).setCell ⟨w.heap.size + 1 + 1 + 1, 0, none⟩ (.int .i64 2)).cell? ⟨w.heap.size + 1 + 1, 0, none⟩ = some (.bool false) := by rw [cell_of_heap (by rw [Below.heap_setCell _ _ _ _ (by simp), heap_setCell_at F4.out])]; rfl
      have K5 : ((w1.setCell ⟨w.heap.size + 1 + 1, 0, none⟩ (.bool false)).setCell ⟨w.heap.size + 1 + 1 + 1, 0, none⟩ (.int .i64 2)).cell? ⟨w.heap.size + 1 + 1 + 1, 0, none⟩ = some (.int .i64 2) := World.cell?_setCell_same _ _ _ z5
      simp [results, Try.results30, go_sem, K4, K5]
    · exact (hbw1.setCell (p := ⟨w.heap.size + 1 + 1, 0, none⟩) (by simp; omega) _).setCell (p := ⟨w.heap.size + 1 + 1 + 1, 0, none⟩) (by simp; omega) _
  · by_cases hl : nv.length ≤ 1002
    · exact absurd (by rw [HE.out]; simp [hl]) HERR.out
    have HL := Lib.hid hl
    have hgt : (1002 : Int) < (nv.length : Int) := by omega
    clear hl
    go_enter Try.func30, Try.ntmps30
    go_wp2_with fail
    rw [← HW.out]
    refine (check_r bs g d _ HR _ _ HS.out HI.out).mono ?_
    rw [show chkN true = 0 from rfl]
    rintro e w1 ⟨rfl, hb1⟩
    have hz1 := hb1.size
    have f3 : w1.cell? ⟨w.heap.size + 1, 0, none⟩ = some (.slice an nv.length capn) := by rw [cell_of_heap ((hb1.block (w.heap.size + 1) (by omega)).trans H3.out)]; rfl
    have f4 := (hb1.block (w.heap.size + 1 + 1) (by omega)).trans H4.out
    have f5 := (hb1.block (w.heap.size + 1 + 1 + 1) (by omega)).trans H5.out
    have z4 : w1.cell? ⟨w.heap.size + 1 + 1, 0, none⟩ = some (.bool false) := by rw [cell_of_heap f4]; rfl
    have z5 : (w1.setCell ⟨w.heap.size + 1 + 1, 0, none⟩ (.bool false)).cell? ⟨w.heap.size + 1 + 1 + 1, 0, none⟩ = some (.int .i64 0) := by rw [World.cell?_setCell_other _ _ _ _ (by simp), cell_of_heap f5]; rfl
    have fz4 : w1.frozen? ⟨w.heap.size + 1 + 1, 0, none⟩ = false := frozen_of_heap f4
    have fz5 : w1.frozen? ⟨w.heap.size + 1 + 1 + 1, 0, none⟩ = false := frozen_of_heap f5
    have hbw1 : Below w.heap.size w w1 := hb0.trans (hb1.mono (by omega))
    have F4 := Lib.hid f4
    have F5 := Lib.hid f5
    clear f4 f5
    go_wp2_with fail
    refine bodyPost_ret (v := .tuple #[.bool false, .int .i64 5]) ?_ rfl ⟨by rw [HE.out, if_neg HL.out]; rfl, ?_⟩
    · have K4 : ((w1.setCell ⟨w.heap.size + 1 + 1, 0, none⟩ (.bool false)).setCell ⟨w.heap.size + 1 + 1 + 1, 0, none⟩ (.int .i64 5)).cell? ⟨w.heap.size + 1 + 1, 0, none⟩ = some (.bool false) := by rw [cell_of_heap (by rw [Below.heap_setCell _ _ _ _ (by simp), heap_setCell_at F4.out])]; rfl
      have K5 : ((w1.setCell ⟨w.heap.size + 1 + 1, 0, none⟩ (.bool false)).setCell ⟨w.heap.size + 1 + 1 + 1, 0, none⟩ (.int .i64 5)).cell? ⟨w.heap.size + 1 + 1 + 1, 0, none⟩ = some (.int .i64 5) := World.cell?_setCell_same _ _ _ z5
      simp [results, Try.results30, go_sem, K4, K5]
    · exact (hbw1.setCell (p := ⟨w.heap.size + 1 + 1, 0, none⟩) (by simp; omega) _).setCell (p := ⟨w.heap.size + 1 + 1 + 1, 0, none⟩) (by simp; omega) _

/-- Closed, at any rules and any list. -/
theorem closed_any {S S' : Nat → Prop} (bs : List Int) (g d : Int) (nv : List Bool) (v vn : Value) (w : World) (hs : Sl S w v (ints bs)) (hn : Sl S' w vn (bools nv)) (hi : ∀ b ∈ bs, I64 b) :
    Calls Try.prog 30 #[.agg #[v, .int .i64 g, .int .i64 d], vn] w fun e w' => e = .returned (.tuple #[.bool (closedRes bs g d nv), .int .i64 (closedErr bs g d nv.length)]) ∧ Below w.heap.size w w' := by
  by_cases he : closedErr bs g d nv.length = 0
  · have h2 : rulesOk bs g d = true ∧ nv.length ≤ 1002 := by
      unfold closedErr at he
      split at he
      · split at he
        · exact ⟨by assumption, by assumption⟩
        · omega
      · omega
    rw [he, show closedRes bs g d nv = closedB g bs nv by simp [closedRes, he]]
    exact closed_ok bs g d nv v vn w hs hn hi h2.1 h2.2
  · rw [show closedRes bs g d nv = false by simp [closedRes, he]]
    exact closed_bad bs g d nv v vn w hs hn hi he
end Go.Proofs.Ytcnofoopdghjiaa
