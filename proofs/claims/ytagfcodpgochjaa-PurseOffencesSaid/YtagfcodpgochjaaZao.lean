/- The texts KN, RI, RF, Cpy, WF, JApp, in build order. -/
import Derived.Test.YtagfcodpgochjaaZan
import Derived.Lib.MinMax

/- Chapter 12: the document's examples (known). -/
namespace Go.Proofs.Ytagfcodpgochjaa
open Go.RowKit Go.Oche Go.Proofs

theorem slN_blk {k b : Nat} {w : World} {t : TypeId} {fz : Nat × Nat} {cs : Array Value} {rows : List (List Value)} (h : w.heap[b]? = some (.cells cs t fz)) (hcs : cs.toList = rows.flatten) (hr : ∀ r ∈ rows, r.length = k) (hl : rows.length ≤ maxLen) :
    SlN k (fun _ => True) w (.slice (some ⟨b, 0, none⟩) rows.length rows.length) rows := by
  refine ⟨_, _, rfl, Nat.le_refl _, hl, fun i r hi => ⟨hr r (List.mem_of_getElem? hi), b, 0, rfl, trivial, fun j x hx => ?_⟩⟩
  have h2 := SlN.of_owns.flat_at (n := 0) (c := 0) (rows := []) hr hi hx
  rw [← hcs] at h2
  rw [cell_of_heap h, Nat.zero_add]
  simpa using h2
theorem sl_at {S : Nat → Prop} {w : World} {v : Value} {xs : List Int} (h : Sl S w v (ints xs)) (hx : 0 < xs.length) : ∃ b o c, v = .slice (some ⟨b, o, none⟩) xs.length c ∧ ∀ i x, xs[i]? = some x → w.cell? ⟨b, o + i, none⟩ = some (.int .i64 x) := by
  obtain ⟨a, c, rfl, h1, h2, h3⟩ := h
  obtain ⟨b, o, rfl, _, _⟩ := h3 0 _ (intsAt hx)
  refine ⟨b, o, c, by simp, fun i x hi => ?_⟩
  obtain ⟨b', o', e, _, hc⟩ := h3 i (.int .i64 x) (by simp [ints, hi])
  cases e
  exact hc
theorem post_known : postRes [100, 0] [0, 0] [(2, 1, 0, 30), (1, 0, 1, 40)] = ([90, 10], 0, 0) := by
  have h1 : bookOk [100, 0] [0, 0] = true := by decide +kernel
  have h2 : scanMv 2 [(2, 1, 0, 30), (1, 0, 1, 40)] 0 [] = .ok [((2, 1, 0, 30), 0), ((1, 0, 1, 40), 1)] := by rfl
  have h3 : sortE [((2, 1, 0, 30), 0), ((1, 0, 1, 40), 1)] = [((1, 0, 1, 40), 1), ((2, 1, 0, 30), 0)] := by
    have : ascL [2, 1] = [1, 2] := by
      rw [ascL_perm (ys := [1, 2]) (List.Perm.swap _ _ _)]
      exact List.mergeSort_of_pairwise (by simp)
    unfold sortE
    show ((ascL [2, 1]).map _) = _
    rw [this]; rfl
  simp only [postRes, h1, List.length_cons, List.length_nil]
  rw [if_neg (by simp), if_neg (by omega)]
  show (match scanMv 2 [(2, 1, 0, 30), (1, 0, 1, 40)] 0 [] with | .error (k, e) => ([], (k : Int), e) | .ok E => runMv [0, 0] [100, 0] (sortE E)) = _
  rw [h2]
  show runMv [0, 0] [100, 0] (sortE [((2, 1, 0, 30), 0), ((1, 0, 1, 40), 1)]) = _
  rw [h3]
  decide +kernel
theorem info74 : (Try.prog.info? 76).map (fun i => (i.zero, i.size, i.bytes)) = some (some (.agg #[.int .i64 0, .int .i64 0]), 2, 16) := by kernel_rfl
theorem made8 : madeCells #[.int .i64 0, .int .i64 0] 8 = #[.int .i64 0, .int .i64 0, .int .i64 0, .int .i64 0, .int .i64 0, .int .i64 0, .int .i64 0, .int .i64 0] := by
  kernel_rfl
theorem make_offs (w : World) : (Instr.makeSlice 37 (.int .i64 4) (.int .i64 4)).run Try.prog w = .ok (.slice (some ⟨w.heap.size, 0, none⟩) 4 4) (w.alloc (.cells #[.int .i64 0, .int .i64 0, .int .i64 0, .int .i64 0, .int .i64 0, .int .i64 0, .int .i64 0, .int .i64 0] 76)) := by
  obtain ⟨i, hi, hz, hs, hb⟩ := info_parts info74
  have := run_make (P := Try.prog) w 37 76 i _ Try.underlying37 hi hz .i64 .i64 (4 : Int) (4 : Int) (by omega) (by omega) (by rw [hb]; omega) (by omega)
  rw [this, hs, ← made8]
  rfl
set_option maxRecDepth 100000 in
set_option maxHeartbeats 4000000 in
theorem known_any (w : World) : Calls Try.prog 12 #[] w fun e w' => e = .returned (.bool true) ∧ Below w.heap.size w w' := by
  go_enter Try.func12, Try.ntmps12
  go_wp2_with fail
  refine (share20_any 100 [5, 3, 0] _ _ (Sl.new (fun _ => True) w trivial 3 (ints [5, 3, 0]) (by simp [maxLen])) (by simp)).mono ?_
  rintro e w1 ⟨r1, rfl, hb1, hs1⟩
  replace hb1 := bThen (aB w _) hb1
  rw [show shareErr 100 [5, 3, 0] = 0 by decide +kernel]
  rw [show shareRes 100 [5, 3, 0] = [63, 37, 0] by decide +kernel] at hs1
  obtain ⟨b1, o1, c1, rfl, hc1⟩ := sl_at hs1 (by simp)
  have a0 := hc1 0 63 rfl
  have a1 := hc1 1 37 rfl
  have HB1 := Lib.hid hb1
  clear hs1 hc1 hb1
  go_wp2_with fail
  obtain ⟨v1, hv1⟩ : ∃ v, ((((w1.alloc (.cells #[.int .i64 500, .int .i64 300, .int .i64 200] 3)).alloc (.cells #[.int .i64 2] 3)).alloc (.cells #[.int .i64 0, .int .i64 3] 3)).alloc (.cells #[.int .i64 1] 3)).alloc (.cells #[.slice (some ⟨w1.heap.size + 1, 0, none⟩) 1 1, .slice (some ⟨w1.heap.size + 1 + 1, 0, none⟩) 2 2, .slice (some ⟨w1.heap.size + 1 + 1 + 1, 0, none⟩) 1 1] 22) = v := ⟨_, rfl⟩
  rw [hv1]
  have hbv : Below w1.heap.size w1 v1 := by rw [← hv1]; exact (((((Below.refl _ _).alloc (Nat.le_refl _) _).alloc (by simp) _).alloc (by simp; omega) _).alloc (by simp; omega) _).alloc (by simp; omega) _
  have e0 : v1.heap[w1.heap.size]? = some (.cells #[.int .i64 500, .int .i64 300, .int .i64 200] 3 (0, 0)) := by
    rw [← hv1]
    exact (Below.heap_alloc _ _ _ (by simp <;> omega)).trans ((Below.heap_alloc _ _ _ (by simp <;> omega)).trans ((Below.heap_alloc _ _ _ (by simp <;> omega)).trans ((Below.heap_alloc _ _ _ (by simp <;> omega)).trans (World.alloc_heap_new _ _))))
  have e1 : v1.heap[w1.heap.size + 1]? = some (.cells #[.int .i64 2] 3 (0, 0)) := by
    rw [← hv1]
    refine (Below.heap_alloc _ _ _ (by simp <;> omega)).trans ((Below.heap_alloc _ _ _ (by simp <;> omega)).trans ((Below.heap_alloc _ _ _ (by simp <;> omega)).trans ?_))
    have := World.alloc_heap_new (w1.alloc (.cells #[.int .i64 500, .int .i64 300, .int .i64 200] 3)) (.cells #[.int .i64 2] 3)
    simpa only [World.size_alloc] using this
  have e2 : v1.heap[w1.heap.size + 1 + 1]? = some (.cells #[.int .i64 0, .int .i64 3] 3 (0, 0)) := by
    rw [← hv1]
    refine (Below.heap_alloc _ _ _ (by simp <;> omega)).trans ((Below.heap_alloc _ _ _ (by simp <;> omega)).trans ?_)
    have := World.alloc_heap_new ((w1.alloc (.cells #[.int .i64 500, .int .i64 300, .int .i64 200] 3)).alloc (.cells #[.int .i64 2] 3)) (.cells #[.int .i64 0, .int .i64 3] 3)
    simpa only [World.size_alloc] using this
  have e3 : v1.heap[w1.heap.size + 1 + 1 + 1]? = some (.cells #[.int .i64 1] 3 (0, 0)) := by
    rw [← hv1]
    refine (Below.heap_alloc _ _ _ (by simp <;> omega)).trans ?_
    have := World.alloc_heap_new (((w1.alloc (.cells #[.int .i64 500, .int .i64 300, .int .i64 200] 3)).alloc (.cells #[.int .i64 2] 3)).alloc (.cells #[.int .i64 0, .int .i64 3] 3)) (.cells #[.int .i64 1] 3)
    simpa only [World.size_alloc] using this
  have e4 : v1.heap[w1.heap.size + 1 + 1 + 1 + 1]? = some (.cells #[.slice (some ⟨w1.heap.size + 1, 0, none⟩) 1 1, .slice (some ⟨w1.heap.size + 1 + 1, 0, none⟩) 2 2, .slice (some ⟨w1.heap.size + 1 + 1 + 1, 0, none⟩) 1 1] 22 (0, 0)) := by
    rw [← hv1]
    have := World.alloc_heap_new ((((w1.alloc (.cells #[.int .i64 500, .int .i64 300, .int .i64 200] 3)).alloc (.cells #[.int .i64 2] 3)).alloc (.cells #[.int .i64 0, .int .i64 3] 3)).alloc (.cells #[.int .i64 1] 3)) (.cells #[.slice (some ⟨w1.heap.size + 1, 0, none⟩) 1 1, .slice (some ⟨w1.heap.size + 1 + 1, 0, none⟩) 2 2, .slice (some ⟨w1.heap.size + 1 + 1 + 1, 0, none⟩) 1 1] 22)
    simpa only [World.size_alloc] using this
  have hss : SlSl (fun _ => True) v1 (.slice (some ⟨w1.heap.size + 1 + 1 + 1 + 1, 0, none⟩) 3 3) [[2], [0, 3], [1]] := by
    refine ⟨_, sl_blk (xs := [.slice (some ⟨w1.heap.size + 1, 0, none⟩) 1 1, .slice (some ⟨w1.heap.size + 1 + 1, 0, none⟩) 2 2, .slice (some ⟨w1.heap.size + 1 + 1 + 1, 0, none⟩) 1 1]) e4 (by simp [maxLen]), rfl, fun i hi => ?_⟩
    match i, hi with
    | 0, _ => exact ⟨_, rfl, sl_blk (xs := ints [2]) e1 (by simp [maxLen])⟩
    | 1, _ => exact ⟨_, rfl, sl_blk (xs := ints [0, 3]) e2 (by simp [maxLen])⟩
    | 2, _ => exact ⟨_, rfl, sl_blk (xs := ints [1]) e3 (by simp [maxLen])⟩
    | i + 3, hi => simp at hi; omega
  refine (prizes_any 10001 4 [500, 300, 200] [[2], [0, 3], [1]] _ _ v1 (sl_blk (xs := ints [500, 300, 200]) e0 (by simp [maxLen])) hss).mono ?_
  rintro e w2 ⟨r2, rfl, hb2, hs2⟩
  replace hb2 := bThen hbv hb2
  rw [show prizesErr 10001 4 [500, 300, 200] [[2], [0, 3], [1]] = 0 by decide +kernel, show (prizesRes 10001 4 [500, 300, 200] [[2], [0, 3], [1]]).2 = 1 by decide +kernel]
  rw [show (prizesRes 10001 4 [500, 300, 200] [[2], [0, 3], [1]]).1 = [2500, 0, 5000, 2500] by decide +kernel] at hs2
  obtain ⟨b2, o2, c2, rfl, hc2⟩ := sl_at hs2 (by simp)
  have p2 := hc2 2 5000 rfl
  have p3 := hc2 3 2500 rfl
  replace a0 := bAt hb2 a0
  replace a1 := bAt hb2 a1
  have HB2 := Lib.hid (bThen HB1.out hb2)
  clear hs2 hc2 hb2 hss e0 e1 e2 e3 e4 hbv hv1 HB1
  have hmk := make_offs
  go_wp2_with fail
  clear hmk
  obtain ⟨v2, hv2⟩ : ∃ v, (w2.alloc (.cells #[.int .i64 50, .int .i64 25, .int .i64 90] 73)).alloc (.cells #[.int .i64 0, .int .i64 0, .int .i64 0, .int .i64 0, .int .i64 0, .int .i64 0, .int .i64 0, .int .i64 0] 76) = v := ⟨_, rfl⟩
  rw [hv2]
  have hbv : Below w2.heap.size w2 v2 := by rw [← hv2]; exact ((Below.refl _ _).alloc (Nat.le_refl _) _).alloc (by simp) _
  have e0 : v2.heap[w2.heap.size]? = some (.cells #[.int .i64 50, .int .i64 25, .int .i64 90] 73 (0, 0)) := by
    rw [← hv2]; exact (Below.heap_alloc _ _ _ (by simp <;> omega)).trans (World.alloc_heap_new _ _)
  have e1 : v2.heap[w2.heap.size + 1]? = some (.cells #[.int .i64 0, .int .i64 0, .int .i64 0, .int .i64 0, .int .i64 0, .int .i64 0, .int .i64 0, .int .i64 0] 76 (0, 0)) := by
    rw [← hv2]
    have := World.alloc_heap_new (w2.alloc (.cells #[.int .i64 50, .int .i64 25, .int .i64 90] 73)) (.cells #[.int .i64 0, .int .i64 0, .int .i64 0, .int .i64 0, .int .i64 0, .int .i64 0, .int .i64 0, .int .i64 0] 76)
    simpa only [World.size_alloc] using this
  refine (fines_any 1 [(50, 25, 90)] [(0, 0), (0, 0), (0, 0), (0, 0)] _ _ v2 (slN_blk (k := 3) (rows := [(50, 25, 90)].map tarRow) e0 rfl (by simp [tarRow]) (by simp [maxLen])) (slN_blk (k := 2) (rows := [(0, 0), (0, 0), (0, 0), (0, 0)].map offRow) e1 rfl (by simp [offRow]) (by simp [maxLen]))).mono ?_
  rintro e w3 ⟨r3, rfl, hb3, hs3⟩
  replace hb3 := bThen hbv hb3
  rw [show finesErr 1 [(50, 25, 90)] [(0, 0), (0, 0), (0, 0), (0, 0)] = 0 by decide +kernel]
  rw [show finesRes 1 [(50, 25, 90)] [(0, 0), (0, 0), (0, 0), (0, 0)] = [305] by decide +kernel] at hs3
  obtain ⟨b3, o3, c3, rfl, hc3⟩ := sl_at hs3 (by simp)
  have f0 := hc3 0 305 rfl
  replace a0 := bAt hb3 a0
  replace a1 := bAt hb3 a1
  replace p2 := bAt hb3 p2
  replace p3 := bAt hb3 p3
  have HB3 := Lib.hid (bThen HB2.out hb3)
  clear hs3 hc3 hb3 e0 e1 hbv hv2 HB2
  go_wp2_with fail
  obtain ⟨v3, hv3⟩ : ∃ v, ((w3.alloc (.cells #[.int .i64 100, .int .i64 0] 3)).alloc (.cells #[.int .i64 0, .int .i64 0] 3)).alloc (.cells #[.int .i64 2, .int .i64 1, .int .i64 0, .int .i64 30, .int .i64 1, .int .i64 0, .int .i64 1, .int .i64 40] 44) = v := ⟨_, rfl⟩
  rw [hv3]
  have hbv : Below w3.heap.size w3 v3 := by rw [← hv3]; exact (((Below.refl _ _).alloc (Nat.le_refl _) _).alloc (by simp) _).alloc (by simp; omega) _
  have e0 : v3.heap[w3.heap.size]? = some (.cells #[.int .i64 100, .int .i64 0] 3 (0, 0)) := by
    rw [← hv3]; exact (Below.heap_alloc _ _ _ (by simp <;> omega)).trans ((Below.heap_alloc _ _ _ (by simp <;> omega)).trans (World.alloc_heap_new _ _))
  have e1 : v3.heap[w3.heap.size + 1]? = some (.cells #[.int .i64 0, .int .i64 0] 3 (0, 0)) := by
    rw [← hv3]
    refine (Below.heap_alloc _ _ _ (by simp <;> omega)).trans ?_
    have := World.alloc_heap_new (w3.alloc (.cells #[.int .i64 100, .int .i64 0] 3)) (.cells #[.int .i64 0, .int .i64 0] 3)
    simpa only [World.size_alloc] using this
  have e2 : v3.heap[w3.heap.size + 1 + 1]? = some (.cells #[.int .i64 2, .int .i64 1, .int .i64 0, .int .i64 30, .int .i64 1, .int .i64 0, .int .i64 1, .int .i64 40] 44 (0, 0)) := by
    rw [← hv3]
    have := World.alloc_heap_new ((w3.alloc (.cells #[.int .i64 100, .int .i64 0] 3)).alloc (.cells #[.int .i64 0, .int .i64 0] 3)) (.cells #[.int .i64 2, .int .i64 1, .int .i64 0, .int .i64 30, .int .i64 1, .int .i64 0, .int .i64 1, .int .i64 40] 44)
    simpa only [World.size_alloc] using this
  refine (post_any [100, 0] [0, 0] [(2, 1, 0, 30), (1, 0, 1, 40)] _ _ _ v3 (sl_blk (xs := ints [100, 0]) e0 (by simp [maxLen])) (sl_blk (xs := ints [0, 0]) e1 (by simp [maxLen])) (slN_blk (k := 4) (rows := [(2, 1, 0, 30), (1, 0, 1, 40)].map mvRow) e2 rfl (by simp [mvRow]) (by simp [maxLen]))).mono ?_
  rintro e w4 ⟨r4, rfl, hb4, hs4⟩
  replace hb4 := bThen hbv hb4
  rw [post_known] at hs4 ⊢
  obtain ⟨b4, o4, c4, rfl, hc4⟩ := sl_at hs4 (by simp)
  have d0 := hc4 0 90 rfl
  have d1 := hc4 1 10 rfl
  replace a0 := bAt hb4 a0
  replace a1 := bAt hb4 a1
  replace p2 := bAt hb4 p2
  replace p3 := bAt hb4 p3
  replace f0 := bAt hb4 f0
  have HB4 := Lib.hid (bThen HB3.out hb4)
  clear hs4 hc4 hb4 e0 e1 e2 hbv hv3 HB3
  go_wp2_with fail
  refine (settle_any [50, -30, 20, -40] _ _ (Sl.new (fun _ => True) w4 trivial 3 (ints [50, -30, 20, -40]) (by simp [maxLen]))).mono ?_
  rintro e w5 ⟨r5, rfl, hb5, hs5⟩
  replace hb5 := bThen (aB w4 _) hb5
  rw [show setErr [50, -30, 20, -40] = 0 by decide +kernel]
  rw [show setRes [50, -30, 20, -40] = [(3, 0, 40), (1, 2, 20), (1, 0, 10)] by decide +kernel] at hs5
  obtain ⟨a5, c5, rfl, -, -⟩ := hs5.form
  obtain ⟨b5, o5, rfl, -, -, hc5⟩ := hs5.cell (i := 1) (by simp)
  have s0 := hc5 0 (.int .i64 1) rfl
  have s1 := hc5 1 (.int .i64 1) rfl
  have s2 := hc5 2 (.int .i64 2) rfl
  have s3 := hc5 3 (.int .i64 20) rfl
  simp only [payRows_length, List.length_cons, List.length_nil] at *
  replace a0 := bAt hb5 a0
  replace a1 := bAt hb5 a1
  replace p2 := bAt hb5 p2
  replace p3 := bAt hb5 p3
  replace f0 := bAt hb5 f0
  replace d0 := bAt hb5 d0
  replace d1 := bAt hb5 d1
  have HB5 := Lib.hid (bThen HB4.out hb5)
  clear hs5 hc5 hb5 HB4
  go_wp2_with fail
  have hN := World.alloc_heap_new w5 (.cells #[.int .i64 50, .int .i64 2, .int .i64 20, .int .i64 3, .int .i64 1, .int .i64 9] 66)
  refine (coins_any 63 [(50, 2), (20, 3), (1, 9)] _ _ (slN_blk (k := 2) (rows := [(50, 2), (20, 3), (1, 9)].map coinRow) hN rfl (by simp [coinRow]) (by simp [maxLen]))).mono ?_
  rintro e w6 ⟨r6, rfl, hb6, hs6⟩
  replace hb6 := bThen (aB w5 _) hb6
  rw [show coinsErr 63 [(50, 2), (20, 3), (1, 9)] = 0 by decide +kernel]
  rw [show coinsRes 63 [(50, 2), (20, 3), (1, 9)] = [0, 3, 3] by decide +kernel] at hs6
  obtain ⟨b6, o6, c6, rfl, hc6⟩ := sl_at hs6 (by simp)
  have k0 := hc6 0 0 rfl
  have k1 := hc6 1 3 rfl
  have k2 := hc6 2 3 rfl
  replace a0 := bAt hb6 a0
  replace a1 := bAt hb6 a1
  replace p2 := bAt hb6 p2
  replace p3 := bAt hb6 p3
  replace f0 := bAt hb6 f0
  replace d0 := bAt hb6 d0
  replace d1 := bAt hb6 d1
  replace s0 := bAt hb6 s0
  replace s1 := bAt hb6 s1
  replace s2 := bAt hb6 s2
  replace s3 := bAt hb6 s3
  have HB6 := Lib.hid (bThen HB5.out hb6)
  clear hs6 hc6 hb6 HB5 hN
  simp only [Nat.add_zero] at *
  go_wp2
  go_ret
  exact ⟨rfl, HB6.out⟩
end Go.Proofs.Ytagfcodpgochjaa

/- Chapter 12, the reference: In; a struct compared. -/
namespace Go.Proofs.Ytagfcodpgochjaa
open Go.RowKit Go.Oche Go.Proofs
theorem refIn_any (n lo hi : Int) (r : Bool) (hr : Hid (isIn n lo hi = r)) (w : World) : Calls Try.prog 31 #[.int .i64 n, .int .i64 lo, .int .i64 hi] w fun e w' => e = .returned (.bool r) ∧ w = w' := by
  rw [← hr.out]
  clear hr
  obtain ⟨b1, hb1⟩ : ∃ b, decide (lo ≤ n) = b := ⟨_, rfl⟩
  obtain ⟨b2, hb2⟩ : ∃ b, decide (n ≤ hi) = b := ⟨_, rfl⟩
  have e : isIn n lo hi = (b1 && b2) := by rw [← hb1, ← hb2]; rfl
  rw [e]
  clear e
  go_enter Try.func31, Try.ntmps31
  cases b1 <;> cases b2
  all_goals
    go_wp2
    go_ret
    exact ⟨rfl, rfl⟩
theorem off_eql (x y : Int × Int) (w : World) : (binOp .eql 76 (.agg #[.int .i64 x.1, .int .i64 x.2]) (.agg #[.int .i64 y.1, .int .i64 y.2])).run Try.prog w = .ok (.bool (decide (y = x))) w := by
  have := off_eq x y w
  unfold offV Op.equal at this
  rw [show Op.maxDepth = 10000 from rfl] at this
  rw [run_eql_struct, this]
  rfl
end Go.Proofs.Ytagfcodpgochjaa

/- Chapter 12, the reference: Fines. -/
namespace Go.Proofs.Ytagfcodpgochjaa
open Go.RowKit Go.Oche Go.Proofs

set_option maxRecDepth 100000 in
set_option maxHeartbeats 4000000 in
theorem refFines_any {S S' : Nat → Prop} (players : Int) (ts : List (Int × Int × Int)) (l : List (Int × Int)) (v vl : Value) (w : World) (hs : SlN 3 S w v (ts.map tarRow)) (hl : SlN 2 S' w vl (l.map offRow)) :
    Calls Try.prog 20 #[.int .i64 players, v, vl] w fun e w' => ∃ r, e = .returned (.tuple #[r, .int .i64 (finesErr players ts l)]) ∧ Below w.heap.size w w' ∧ Sl (fun k => w.heap.size ≤ k) w' r (ints (finesRes players ts l)) := by
  obtain ⟨a, cap, rfl, h2, h3⟩ := hs.form
  obtain ⟨al, capl, rfl, h2l, h3l⟩ := hl.form
  simp only [List.length_map] at *
  unfold maxLen at h3 h3l
  obtain ⟨b1, hb1⟩ : ∃ b, isIn players 1 60 = b := ⟨_, rfl⟩
  obtain ⟨b2, hb2⟩ : ∃ b, isIn (ts.length : Int) 1 20 = b := ⟨_, rfl⟩
  obtain ⟨b3, hb3⟩ : ∃ b, ts.any tarBad = b := ⟨_, rfl⟩
  obtain ⟨er, her⟩ : ∃ x, finesErr players ts l = x := ⟨_, rfl⟩
  obtain ⟨rs, hrs⟩ : ∃ x, finesRes players ts l = x := ⟨_, rfl⟩
  have ER : Hid (er = if b1 = false then 2 else if b2 = false then 4 else if b3 = true then 2 else if 1000 < l.length then 5 else if l.any (offBad players ts.length) = true then 7 else 0) := Lib.hid (by rw [← her, ← hb1, ← hb2, ← hb3]; rfl)
  have RS : Hid (rs = if er = 0 then finesTo players.toNat ts l l.length else []) := Lib.hid (by rw [← hrs, ← her]; rfl)
  have H1 := Lib.hid hb1
  have H2 := Lib.hid hb2
  have H3 := Lib.hid hb3
  have HS := Lib.hid hs
  have HL := Lib.hid hl
  rw [her, hrs]
  clear her hrs hb1 hb2 hb3 hs hl
  go_enter Try.func20, Try.ntmps20
  go_wp2_with fail
  refine (refIn_any players 1 60 b1 H1 w).mono ?_
  rintro e w1 ⟨rfl, rfl⟩
  cases b1
  · have er2 : er = 2 := ER.out
    clear ER
    subst er2
    have rs2 : rs = [] := RS.out
    clear RS
    subst rs2
    go_wp2
    go_ret2
    exact ⟨_, rfl, Below.refl _ _, Sl.nil _ _⟩
  · go_wp2_with fail
    refine (refIn_any ts.length 1 20 b2 H2 w).mono ?_
    rintro e w1 ⟨rfl, rfl⟩
    cases b2
    · have er2 : er = 4 := ER.out
      clear ER
      subst er2
      have rs2 : rs = [] := RS.out
      clear RS
      subst rs2
      go_wp2
      go_ret2
      exact ⟨_, rfl, Below.refl _ _, Sl.nil _ _⟩
    · have hpl : 1 ≤ players ∧ players ≤ 60 := by simpa [isIn] using H1.out
      have htl : 1 ≤ ts.length ∧ ts.length ≤ 20 := by have := H2.out; simp [isIn] at this; omega
      have ER1 : Hid (er = if b3 = true then 2 else if 1000 < l.length then 5 else if l.any (offBad players ts.length) = true then 7 else 0) := Lib.hid ER.out
      clear ER
      obtain ⟨n, rfl⟩ : ∃ n : Nat, players = n := ⟨players.toNat, by omega⟩
      go_wp2_with fail
      go_loopw [8] (fun i wr => ∃ k : Nat, k ≤ ts.length ∧ i = .int .i64 k ∧ Hid (∀ j, j < k → ∀ h : j < ts.length, tarBad ts[j] = false) ∧ Below w.heap.size w wr) (fun i _ => ts.length - (intOf i).toNat)
      case atStart => exact ⟨0, Nat.zero_le _, rfl, Lib.hid (fun j hj => by omega), Below.refl _ _⟩
      case round =>
        obtain ⟨k, hk, rfl, HO, hb⟩ := hrel
        obtain ⟨wo, rfl⟩ : ∃ wo : World, wo = wr := ⟨_, rfl⟩
        by_cases hlt : k < ts.length
        · obtain ⟨bt, ot, hat, _, _, hct⟩ := (HS.out.below hb).cell (show k < (ts.map tarRow).length by simpa using hlt)
          cases hat
          obtain ⟨t, ht⟩ : ∃ t, ts[k] = t := ⟨_, rfl⟩
          obtain ⟨f, m, x⟩ := t
          have z0 := hct 0 (.int .i64 f) (by simp [tarRow, ht])
          have z1 := hct 1 (.int .i64 m) (by simp [tarRow, ht])
          have z2 := hct 2 (.int .i64 x) (by simp [tarRow, ht])
          simp only [Nat.add_zero] at z0
          obtain ⟨c1, hc1⟩ : ∃ c, isIn f 0 1000000 = c := ⟨_, rfl⟩
          obtain ⟨c2, hc2⟩ : ∃ c, isIn m 0 1000000 = c := ⟨_, rfl⟩
          obtain ⟨c3, hc3⟩ : ∃ c, isIn x f 1000000 = c := ⟨_, rfl⟩
          have OB : Hid (tarBad ts[k] = !(c1 && c2 && c3)) := Lib.hid (by rw [ht, tarBad, hc1, hc2, hc3])
          have BAD : Hid ((c1 && c2 && c3) = false → er = 2) := Lib.hid (fun h => by
            rw [ER1.out, if_pos]
            rw [← H3.out]
            exact List.any_eq_true.2 ⟨ts[k], List.getElem_mem hlt, by rw [OB.out, h]; rfl⟩)
          have C1 := Lib.hid hc1
          have C2 := Lib.hid hc2
          have C3 := Lib.hid hc3
          have HB := Lib.hid hb
          have hb2 : Below w.heap.size w (wo.alloc (.cells #[.int .i64 f, .int .i64 m, .int .i64 x] 73)) := bThen hb (aB _ _)
          have HB2 := Lib.hid hb2
          clear hct ht hc1 hc2 hc3 hb hb2
          go_wp2_with fail
          refine (refIn_any f 0 1000000 c1 C1 _).mono ?_
          rintro e w1 ⟨rfl, rfl⟩
          cases c1
          · have er2 : er = 2 := BAD.out rfl
            clear ER1 BAD
            subst er2
            have rs2 : rs = [] := RS.out
            clear RS
            subst rs2
            go_wp2
            go_ret2
            exact ⟨_, rfl, HB2.out, Sl.nil _ _⟩
          · go_wp2_with fail
            refine (refIn_any m 0 1000000 c2 C2 _).mono ?_
            rintro e w1 ⟨rfl, rfl⟩
            cases c2
            · have er2 : er = 2 := BAD.out rfl
              clear ER1 BAD
              subst er2
              have rs2 : rs = [] := RS.out
              clear RS
              subst rs2
              go_wp2
              go_ret2
              exact ⟨_, rfl, HB2.out, Sl.nil _ _⟩
            · go_wp2_with fail
              refine (refIn_any x f 1000000 c3 C3 _).mono ?_
              rintro e w1 ⟨rfl, rfl⟩
              cases c3
              · have er2 : er = 2 := BAD.out rfl
                clear ER1 BAD
                subst er2
                have rs2 : rs = [] := RS.out
                clear RS
                subst rs2
                go_wp2
                go_ret2
                exact ⟨_, rfl, HB2.out, Sl.nil _ _⟩
              · go_wp2
                go_roundw
                case rel => exact ⟨k + 1, by omega, by go_num, Lib.hid (fun j hj h => by
                  by_cases e : j = k
                  · subst e; rw [OB.out]; rfl
                  · exact HO.out j (by omega) h), HB2.out⟩
                case measure => simp [intOf]; omega
        · obtain rfl : k = ts.length := by omega
          have hb3 : b3 = false := by
            rw [← H3.out, List.any_eq_false]
            intro t ht
            obtain ⟨j, hj, rfl⟩ := List.mem_iff_getElem.1 ht
            simp [HO.out j hj hj]
          subst hb3
          have HB := Lib.hid hb
          clear hb HO
          by_cases hl4 : 1000 < l.length
          · have d1 : decide ((1000 : Int) < (l.length : Int)) = true := decide_eq_true (by omega)
            have d1n : decide (1000 < l.length) = true := decide_eq_true hl4
            have er2 : er = 5 := by rw [ER1.out]; simp [hl4]
            clear ER1
            subst er2
            have rs2 : rs = [] := RS.out
            clear RS
            subst rs2
            go_wp2
            go_ret2
            exact ⟨_, rfl, HB.out, Sl.nil _ _⟩
          · have d1 : decide ((1000 : Int) < (l.length : Int)) = false := decide_eq_false (by omega)
            have d1n : decide (1000 < l.length) = false := decide_eq_false hl4
            have er2 : er = if l.any (offBad n ts.length) = true then 7 else 0 := by rw [ER1.out]; simp [hl4]
            have ER2 := Lib.hid er2
            clear ER1 er2
            have hmk := make_ints n (by omega)
            obtain ⟨w4, hw4⟩ : ∃ w4, wo.alloc (.cells (madeCells #[.int .i64 0] n) 3) = w4 := ⟨_, rfl⟩
            obtain ⟨R, hR⟩ : ∃ R, R = wo.heap.size := ⟨_, rfl⟩
            have hb4 : Below wo.heap.size wo w4 := by rw [← hw4]; exact aB _ _
            have hI : IntBlk w4 R 3 n (fun j => (finesTo n ts l 0).getD j 0) := by
              rw [← hw4, hR]
              exact (IntBlk.made wo 3 n).congr fun j hj => by simp [finesTo, List.getD_eq_getElem?_getD, hj]
            have HI := Lib.hid hI
            have HW4 := Lib.hid hw4
            have HR := Lib.hid hR
            clear hI hw4 hR
            go_wp2_with fail
            rw [HW4.out, ← HR.out]
            clear d1 d1n hmk
            go_loopw [11] (fun i wr => ∃ k : Nat, k ≤ l.length ∧ i = .int .i64 k ∧ Hid (∀ j, j < k → ∀ h : j < l.length, offBad n ts.length l[j] = false) ∧ Hid (IntBlk wr R 3 n (fun j => (finesTo n ts l k).getD j 0)) ∧ Below wo.heap.size wo wr) (fun i _ => l.length - (intOf i).toNat)
            case atStart => exact ⟨0, by omega, rfl, Lib.hid (fun j hj => by omega), HI, hb4⟩
            case round =>
              obtain ⟨k, hk, rfl, HO, HI, hb⟩ := hrel
              obtain ⟨wi, rfl⟩ : ∃ wi : World, wi = wr := ⟨_, rfl⟩
              have HB5 := Lib.hid (bThen HB.out hb)
              have HBO := Lib.hid hb
              have HS5 := Lib.hid (HS.out.below HB5.out)
              have HL5 := Lib.hid (HL.out.below HB5.out)
              clear hb
              by_cases hlt : k < l.length
              · obtain ⟨b, off, hal, _, _, hc⟩ := HL5.out.cell (show k < (l.map offRow).length by simpa using hlt)
                cases hal
                obtain ⟨⟨x1, x2⟩, hx⟩ : ∃ x, l[k] = x := ⟨_, rfl⟩
                have z0 := hc 0 (.int .i64 x1) (by simp [offRow, hx])
                have z1 := hc 1 (.int .i64 x2) (by simp [offRow, hx])
                simp only [Nat.add_zero] at z0
                have hwn : IntKind.i64.wrap ((n : Int) - 1) = (n : Int) - 1 := wrap_small _ (by omega) (by omega)
                have hwt : IntKind.i64.wrap ((ts.length : Int) - 1) = (ts.length : Int) - 1 := wrap_small _ (by omega) (by omega)
                obtain ⟨c1, hc1⟩ : ∃ c, isIn x1 0 ((n : Int) - 1) = c := ⟨_, rfl⟩
                obtain ⟨c2, hc2⟩ : ∃ c, isIn x2 0 ((ts.length : Int) - 1) = c := ⟨_, rfl⟩
                have OB : Hid (offBad n ts.length l[k] = (!c1 || !c2)) := Lib.hid (by rw [hx, offBad, hc1, hc2])
                have BAD : Hid ((c1 && c2) = false → er = 7) := Lib.hid (fun h => by
                  rw [ER2.out, if_pos]
                  exact List.any_eq_true.2 ⟨l[k], List.getElem_mem hlt, by rw [OB.out]; cases c1 <;> cases c2 <;> simp_all⟩)
                have C1 := Lib.hid hc1
                have C2 := Lib.hid hc2
                have HX := Lib.hid hx
                clear hc hx hc1 hc2
                go_wp2_with fail
                refine (refIn_any x1 0 ((n : Int) - 1) c1 C1 _).mono ?_
                rintro e w1 ⟨rfl, rfl⟩
                cases c1
                · have er2 : er = 7 := BAD.out rfl
                  clear ER2 BAD
                  subst er2
                  have rs2 : rs = [] := RS.out
                  clear RS
                  subst rs2
                  go_wp2
                  go_ret2
                  exact ⟨_, rfl, HB5.out, Sl.nil _ _⟩
                · go_wp2_with fail
                  refine (refIn_any x2 0 ((ts.length : Int) - 1) c2 C2 _).mono ?_
                  rintro e w1 ⟨rfl, rfl⟩
                  cases c2
                  · have er2 : er = 7 := BAD.out rfl
                    clear ER2 BAD
                    subst er2
                    have rs2 : rs = [] := RS.out
                    clear RS
                    subst rs2
                    go_wp2
                    go_ret2
                    exact ⟨_, rfl, HB5.out, Sl.nil _ _⟩
                  · have g1 : 0 ≤ x1 ∧ x1 ≤ (n : Int) - 1 := by simpa [isIn] using C1.out
                    have g2 : 0 ≤ x2 ∧ x2 ≤ (ts.length : Int) - 1 := by simpa [isIn] using C2.out
                    obtain ⟨p, rfl⟩ : ∃ p : Nat, x1 = p := ⟨x1.toNat, by omega⟩
                    obtain ⟨q, rfl⟩ : ∃ q : Nat, x2 = q := ⟨x2.toNat, by omega⟩
                    clear hwn hwt
                    go_wp2_with fail
                    go_loopw [12, 13] (fun bv jv wr => ∃ j : Nat, j ≤ k ∧ jv = .int .i64 j ∧ bv = .int .i64 ((l.take j).count ((p : Int), (q : Int)) : Nat) ∧ Below wi.heap.size wi wr) (fun _ jv _ => k - (intOf jv).toNat)
                    case atStart => exact ⟨0, Nat.zero_le _, rfl, rfl, Below.refl _ _⟩
                    case round =>
                      obtain ⟨j, hj, rfl, rfl, hbj⟩ := hrel
                      obtain ⟨wj, rfl⟩ : ∃ wj : World, wj = wr := ⟨_, rfl⟩
                      have y0 := bAt hbj z0
                      have y1 := bAt hbj z1
                      by_cases hjk : j < k
                      · have hjl : j < l.length := by omega
                        obtain ⟨b', off', hal, _, _, hc⟩ := (HL5.out.below hbj).cell (show j < (l.map offRow).length by simpa using hjl)
                        cases hal
                        obtain ⟨⟨u1, u2⟩, hu⟩ : ∃ u, l[j] = u := ⟨_, rfl⟩
                        have v0 := hc 0 (.int .i64 u1) (by simp [offRow, hu])
                        have v1 := hc 1 (.int .i64 u2) (by simp [offRow, hu])
                        simp only [Nat.add_zero] at v0
                        obtain ⟨cb, hcb⟩ : ∃ cb, decide (((p : Int), (q : Int)) = (u1, u2)) = cb := ⟨_, rfl⟩
                        have hcnt : (l.take (j + 1)).count ((p : Int), (q : Int)) = (l.take j).count ((p : Int), (q : Int)) + if cb then 1 else 0 := by
                          rw [List.take_succ_eq_append_getElem hjl, List.count_append, hu, List.count_singleton]
                          congr 1
                          rw [← hcb]
                          by_cases e : ((p : Int), (q : Int)) = (u1, u2)
                          · rw [e]; simp
                          · simp [e]; intro h1 h2; exact e (by rw [← h1, ← h2])
                        obtain ⟨cj, hcj⟩ : ∃ c, (l.take j).count ((p : Int), (q : Int)) = c := ⟨_, rfl⟩
                        have hcjb : cj ≤ j := by rw [← hcj]; exact Nat.le_trans List.count_le_length (by simp; omega)
                        have heq : ∀ w, (binOp .eql 76 (.agg #[.int .i64 u1, .int .i64 u2]) (.agg #[.int .i64 p, .int .i64 q])).run Try.prog w = .ok (.bool cb) w := fun w => by
                          have := off_eql (u1, u2) ((p : Int), (q : Int)) w
                          rw [hcb] at this; exact this
                        rw [hcj] at hcnt ⊢
                        have HCNT := Lib.hid hcnt
                        have HBJ := Lib.hid hbj
                        clear hc hcnt hcj hu hcb hbj
                        go_wp2_with fail
                        refine wp_region_seq 9 [.is ?_, .is ?_, .is ?_, .is ?_, .is ?_, .is ?_, .is ?_, .is ?_, .is (.bool cb)] rfl mix (by kernel_rfl) (by kernel_rfl) ?seqm
                        case seqm =>
                          simp only [List.take_succ_cons, List.take_zero]
                          iterate 9
                            refine seq_is rfl (fun u1 hb1 _ => ?_) ?_
                            · have y0' := bAt hb1 y0
                              have y1' := bAt hb1 y1
                              have v0' := bAt hb1 v0
                              have v1' := bAt hb1 v1
                              simp [opOK, go_sem, y0', y1', v0', v1', hlt, hjl, heq, Below.refl]
                              try exact rfl
                            simp only [Act.put, List.setIfInBounds_toArray, List.set_cons_succ, List.set_cons_zero]
                          refine seq_end fun w6 hb6 _ => ?_
                          simp only [List.drop_succ_cons, List.drop_zero]
                          have HB6 := Lib.hid (bThen HBJ.out hb6)
                          have hwc : IntKind.i64.wrap ((cj : Int) + 1) = (cj : Int) + 1 := by rw [IntKind.wrap_i64]; omega
                          clear hb6 y0 y1 v0 v1 heq
                          cases cb
                          · go_wp2
                            go_roundw
                            case rel => exact ⟨j + 1, by omega, by go_num, by rw [HCNT.out]; simp, HB6.out⟩
                            case measure => simp [intOf]; omega
                          · go_wp2
                            go_roundw
                            case rel => exact ⟨j + 1, by omega, by go_num, by rw [HCNT.out]; simp, HB6.out⟩
                            case measure => simp [intOf]; omega
                      · obtain rfl : j = k := by omega
                        have hqt : q < ts.length := by omega
                        have hpn : p < n := by omega
                        have hpni : (p : Int) < (n : Int) := by omega
                        have hqti : (q : Int) < (ts.length : Int) := by omega
                        obtain ⟨bt, ot, hat, _, _, hct⟩ := (HS5.out.below hbj).cell (show q < (ts.map tarRow).length by simpa using hqt)
                        cases hat
                        obtain ⟨⟨f, m, x⟩, ht⟩ : ∃ t, ts[q] = t := ⟨_, rfl⟩
                        have t0 := hct 0 (.int .i64 f) (by simp [tarRow, ht])
                        have t1 := hct 1 (.int .i64 m) (by simp [tarRow, ht])
                        have t2 := hct 2 (.int .i64 x) (by simp [tarRow, ht])
                        simp only [Nat.add_zero] at t0
                        have hall : ∀ t ∈ ts, tarBad t = false := fun t ht => by
                          have h := H3.out
                          rw [List.any_eq_false] at h
                          simpa using h t ht
                        have htb : tarBad (f, m, x) = false := hall _ (ht ▸ List.getElem_mem hqt)
                        obtain ⟨F, hF⟩ : ∃ F, (finesTo n ts l j).getD p 0 = F := ⟨_, rfl⟩
                        obtain ⟨c, hc⟩ : ∃ c, (l.take j).count ((p : Int), (q : Int)) = c := ⟨_, rfl⟩
                        obtain ⟨C, hC⟩ : ∃ C, costP (f, m, x) c = C := ⟨_, rfl⟩
                        have hck : c ≤ j := by rw [← hc]; exact Nat.le_trans List.count_le_length (by simp; omega)
                        have hFb : 0 ≤ F ∧ F ≤ 1000000 * (j : Int) := by
                          refine finesTo_bd (n := n) (l := l) hall j F ?_
                          rw [← hF, List.getD_eq_getElem?_getD, List.getElem?_eq_getElem (by simpa using hpn)]
                          exact List.getElem_mem _
                        have hCb : 0 ≤ C ∧ C ≤ 1000000 := by rw [← hC]; exact costP_bd htb (by omega)
                        obtain ⟨htb1, htb2, htb3, htb4, htb5, htb6⟩ := tarBad_spec htb
                        simp only at htb1 htb2 htb3 htb4 htb5 htb6
                        have hmul : 0 ≤ (c : Int) * m ∧ (c : Int) * m ≤ 1000 * 1000000 := ⟨Int.mul_nonneg (by omega) htb3, Int.mul_le_mul (by omega) htb4 htb3 (by omega)⟩
                        have hw1 : IntKind.i64.wrap ((c : Int) * m) = (c : Int) * m := wrap_small _ (by omega) (by omega)
                        have hw2 : IntKind.i64.wrap (f + (c : Int) * m) = f + (c : Int) * m := wrap_small _ (by omega) (by omega)
                        have hmin : min x (f + (c : Int) * m) = C := by rw [← hC, costP]
                        have hw3 : IntKind.i64.wrap (F + C) = F + C := wrap_small _ (by omega) (by omega)
                        have r0 := (HI.out.below hbj).cell hpn
                        simp only [hF] at r0
                        have hnext : ∀ i, i < n → (if i = p then F + C else (finesTo n ts l j).getD i 0) = (finesTo n ts l (j + 1)).getD i 0 := fun i hi => by
                          have hld : l.getD j (0, 0) = ((p : Int), (q : Int)) := by rw [List.getD_eq_getElem?_getD, List.getElem?_eq_getElem hlt, HX.out]; rfl
                          have htd : ts.getD q (0, 0, 0) = (f, m, x) := by rw [List.getD_eq_getElem?_getD, List.getElem?_eq_getElem hqt, ht]; rfl
                          rw [finesTo, hld]
                          simp only [Int.toNat_natCast, cntB, hld, htd, hc, hC, addAt, hF]
                          simp only [List.getD_eq_getElem?_getD, List.getElem?_set]
                          by_cases e : p = i
                          · subst e; simp [hpn]
                          · simp [e, Ne.symm e]
                        have HNEXT := Lib.hid hnext
                        rw [hc]
                        have HI6 := Lib.hid (HI.out.below hbj)
                        obtain ⟨w5, hw5⟩ : ∃ w5, wj.alloc (.cells #[.int .i64 f, .int .i64 m, .int .i64 x] 73) = w5 := ⟨_, rfl⟩
                        have hb5 : Below wj.heap.size wj w5 := by rw [← hw5]; exact aB _ _
                        have s0 : w5.cell? ⟨wj.heap.size, 0, none⟩ = some (.int .i64 f) := by rw [← hw5]; simp
                        have s1 : w5.cell? ⟨wj.heap.size, 1, none⟩ = some (.int .i64 m) := by rw [← hw5]; simp
                        have s2 : w5.cell? ⟨wj.heap.size, 2, none⟩ = some (.int .i64 x) := by rw [← hw5]; simp
                        have hbi5 := bThen hbj hb5
                        have HB5' := Lib.hid hbi5
                        have HI5 := Lib.hid (HI6.out.below hb5)
                        have HW5 := Lib.hid hw5
                        have v0 := bAt hb5 y0
                        have v1 := bAt hb5 y1
                        have r5 := bAt hb5 r0
                        clear hct ht hF hc hC hnext hbj hw5 hb5 hbi5 r0 hall HI6
                        go_wp2_with fail
                        rw [HW5.out]
                        refine wp_region_seq 20 [.is ?_, .is ?_, .is ?_, .is ?_, .is ?_, .is ?_, .is ?_, .is ?_, .is ?_, .is ?_, .is ?_, .is ?_, .is ?_, .is ?_, .is ?_, .is ?_, .is ?_, .is (.int .i64 C), .is ?_, .is ?_] rfl mix (by kernel_rfl) (by kernel_rfl) ?seqm
                        case seqm =>
                          simp only [List.take_succ_cons, List.take_zero]
                          iterate 20
                            refine seq_is rfl (fun u1 hb1 _ => ?_) ?_
                            · have v0' := bAt hb1 v0
                              have v1' := bAt hb1 v1
                              have s0' := bAt hb1 s0
                              have s1' := bAt hb1 s1
                              have s2' := bAt hb1 s2
                              have r5' := bAt hb1 r5
                              simp [opOK, go_sem, v0', s0', s1', s2', r5', hlt, hpn, hw1, hw2, hmin, hw3, Below.refl]
                              try exact rfl
                            simp only [Act.put, List.setIfInBounds_toArray, List.set_cons_succ, List.set_cons_zero]
                          refine seq_end fun w6 hb6 _ => ?_
                          simp only [List.drop_succ_cons, List.drop_zero]
                          have hI6 := HI5.out.below hb6
                          have r6 := bAt hb6 r5
                          have f6 := hI6.frozen p
                          have HI7 := Lib.hid ((hI6.set p (F + C)).congr HNEXT.out)
                          have hbR : Below wo.heap.size wo (w6.setCell ⟨R, p, none⟩ (.int .i64 (F + C))) := (bThen HBO.out (bThen HB5'.out hb6)).setCell (by have := HR.out; simp; omega) _
                          have HBR := Lib.hid hbR
                          clear hI6 hbR hb6 v0 v1 s0 s1 s2 r5 hw1 hw2 hw3 hmin
                          go_wp2
                          go_roundw
                          case rel => exact ⟨j + 1, by omega, by go_num, Lib.hid (fun i hi h => by
                            by_cases e : i = j
                            · subst e; rw [OB.out]; rfl
                            · exact HO.out i (by omega) h), HI7, HBR.out⟩
                          case measure => simp [intOf]; omega
              · obtain rfl : k = l.length := by omega
                have he : er = 0 := by
                  rw [ER2.out, if_neg]
                  simp only [List.any_eq_true, not_exists, not_and]
                  intro x hx
                  obtain ⟨j, hj, rfl⟩ := List.mem_iff_getElem.1 hx
                  simp [HO.out j hj hj]
                clear ER2
                subst he
                have rs2 : rs = finesTo n ts l l.length := RS.out
                clear RS
                subst rs2
                go_wp2
                go_ret2
                have hmap : (List.range n).map (fun j => (finesTo n ts l l.length).getD j 0) = finesTo n ts l l.length := by
                  refine List.ext_getElem (by simp) fun j h1 h2 => ?_
                  rw [List.getElem_map, List.getElem_range, List.getD_eq_getElem?_getD, List.getElem?_eq_getElem h2]; rfl
                have hs := HI.out.sl (by unfold maxLen; omega)
                rw [hmap] at hs
                refine ⟨_, rfl, HB5.out, hs.mono fun k hk => ?_⟩
                rw [hk, HR.out]
                exact HB.out.size
end Go.Proofs.Ytagfcodpgochjaa

/- append([]T{}, l...): a copy of one's own. -/
namespace Go.Oche
open Go Go.RowKit
section
variable {P : Program} {w : World}
theorem run_append_empty (t ty e : TypeId) (i : TypeInfo) (z : Value) (ht : P.underlying t = some (.slice e)) (hi : P.info? e = some i) (_hz : i.zero = some z) (b : Addr) (a : Option Addr) (cap : Nat) :
    (Builtin.append_ #[t, t] ty #[.slice (some b) 0 0, .slice a 0 cap]).run P w = .ok (.slice (some b) 0 0) w := by
  cases a <;> simp [Builtin.append_, run_underlying ht, sizeOf, typeInfo, hi, Builtin.lenOf, Builtin.firstCells, loadCells, loadCellsFrom, storeCells, Sem.run_pure]
theorem flat_len {size : Nat} : ∀ {rows : List (List Value)}, (∀ r ∈ rows, r.length = size) → rows.flatten.length = rows.length * size
  | [], _ => by simp
  | r :: rows, h => by rw [List.flatten_cons, List.length_append, h r (by simp), flat_len (fun r hr => h r (by simp [hr])), List.length_cons, Nat.add_mul]; omega
/-- The copy, in a list of operations: x is a slice that reads as rows, s a slice with nothing in it, in a block of one's own. -/
theorem opOK_copy {o : Oper} {a : Act} (s x : Operand) (t : TypeId) (ho : o.op = .call { callee := .builtin .append, args := #[s, x], argTypes := #[t, t] })
    (base : Nat) (e : TypeId) (z : Value) (size bytes : Nat) (ht : P.underlying t = some (.slice e)) (hi : (P.info? e).map (fun i => (i.zero, i.size, i.bytes)) = some (some z, size, bytes)) (hzs : z.cells.size = size) (hsz : 0 < size)
    (g : Nat) (hs : a.eval s = .slice (some ⟨g, 0, none⟩) 0 0) (hown : w.ownsRow base e size (.slice (some ⟨g, 0, none⟩) 0 0) 0 []) {S : Nat → Prop} (v : Value) (rows : List (List Value)) (hx : a.eval x = v) (hsl : SlN size S w v rows) (h1 : ∀ r ∈ rows, ∀ u ∈ r, u.oneCell' = true)
    (h63 : rows.length ≤ 100000) (hbytes : bytes ≤ 1000) (hbase : base ≤ w.heap.size) :
    opOK P o a w (fun v' w' => Below base w w' ∧ SlN size (fun k => base ≤ k) w' v' rows) := by
  obtain ⟨i, hi', hz0, hz1, hz2⟩ := info_parts hi
  obtain ⟨al, cap, rfl, hc1, hc2, hcell⟩ := hsl
  by_cases h0 : rows = []
  · subst h0
    unfold opOK execOp
    simp only [ho, resolve, invoke, builtin, Sem.run_bind, Sem.run_pure, Result.andThen_ok, List.map_toArray, List.map_cons, List.map_nil, hs, hx, List.length_nil, run_append_empty t o.type e i z ht hi' hz0]
    exact ⟨⟨rfl, rfl, rfl, Nat.le_refl _, fun _ _ => rfl⟩, _, _, rfl, Nat.le_refl _, Nat.zero_le _, fun i r hr => by simp at hr⟩
  · have hlen : 0 < rows.length := List.length_pos_iff.2 h0
    have hr : ∀ r ∈ rows, r.length = size := fun r hr => by
      obtain ⟨i, hi⟩ := List.getElem?_of_mem hr
      exact (hcell i r hi).1
    obtain ⟨_, b, off, rfl, _, _⟩ := hcell 0 rows[0] (List.getElem?_eq_getElem hlen)
    have hfl : rows.flatten.length = rows.length * size := flat_len hr
    refine opOK_mono (opOK_appendN_at s x t ho base e z size bytes ht hi hzs hsz _ 0 [] hs hown b off rows.length cap rows.flatten hx hfl (fun j u hj => ?_) (fun u hu => ?_) (by omega) hbytes hbase) ?_
    · have hjl : j < rows.length * size := by rw [← hfl]; exact (List.getElem?_eq_some_iff.1 hj).1
      have hi2 : j / size < rows.length := (Nat.div_lt_iff_lt_mul hsz).2 hjl
      have hr2 := hr rows[j / size] (List.getElem_mem hi2)
      have hm : j % size < size := Nat.mod_lt _ hsz
      obtain ⟨_, b', off', hal, _, hc⟩ := hcell (j / size) _ (List.getElem?_eq_getElem hi2)
      cases hal
      have h3 := SlN.of_owns.flat_at (n := 0) (c := 0) (rows := []) hr (List.getElem?_eq_getElem hi2) (List.getElem?_eq_getElem (by rw [hr2]; exact hm))
      have hj2 : j / size * size + j % size = j := by rw [Nat.mul_comm]; exact Nat.div_add_mod j size
      rw [hj2, hj] at h3
      have h4 := hc (j % size) _ (List.getElem?_eq_getElem (by rw [hr2]; exact hm))
      rw [Nat.add_assoc, hj2] at h4
      rw [h4, h3]
    · obtain ⟨r, hr3, hu⟩ := List.mem_flatten.1 hu
      exact h1 r hr3 u hu
    · rintro v' w' ⟨hown', hg, _⟩
      rw [Nat.zero_add, List.nil_append] at hown'
      refine ⟨below_grownBy hg hbase fun k hk => ?_, ?_⟩
      · cases hk
        rcases hown.2 with ⟨h, _⟩ | ⟨g', c', cur, h, hb, _⟩
        · cases h
        · cases h; exact hb
      · rcases hown'.2 with ⟨_, h⟩ | ⟨g', c', cur, rfl, hb, _, hc3, hc4, _⟩
        · omega
        · exact (SlN.of_owns hown' hr rfl hc3 hc4).mono fun k hk => by rw [hk]; exact hb
theorem wpList_copy {ops : Array Oper} {rest : List Oper} {Q : Exit → Act → World → Prop} {o : Oper} {a : Act} (hg : o.guard = none) (s x : Operand) (t : TypeId) (ho : o.op = .call { callee := .builtin .append, args := #[s, x], argTypes := #[t, t] })
    (e : TypeId) (z : Value) (size bytes : Nat) (ht : P.underlying t = some (.slice e)) (hi : (P.info? e).map (fun i => (i.zero, i.size, i.bytes)) = some (some z, size, bytes)) (hzs : z.cells.size = size) (hsz : 0 < size)
    (hs : a.eval s = .slice (some ⟨w.heap.size, 0, none⟩) 0 0) {S : Nat → Prop} (v : Value) (rows : List (List Value)) (hx : a.eval x = v) (hsl : SlN size S w v rows) (h1 : ∀ r ∈ rows, ∀ u ∈ r, u.oneCell' = true)
    (h63 : rows.length ≤ 100000) (hbytes : bytes ≤ 1000)
    (hK : ∀ v' w', Below w.heap.size w w' → SlN size (fun k => w.heap.size ≤ k) w' v' rows → wpList P ops Q rest (a.put o.dst v') w') : wpList P ops Q (o :: rest) a (w.alloc (.cells #[] e)) :=
  wpList_opOK hg (opOK_copy s x t ho w.heap.size e z size bytes ht hi hzs hsz w.heap.size hs (World.ownsRow_made w #[] 0 (Nat.le_refl _) (Nat.zero_le _) (by simp)) v rows hx (hsl.below (aB _ _)) h1 h63 hbytes (by simp)) fun v' w' ⟨h1, h2⟩ => hK v' w' ((aB w _).trans h1) h2
theorem Sl.toN {S : Nat → Prop} {v : Value} {xs : List Value} (h : Sl S w v xs) : SlN 1 S w v (xs.map fun x => [x]) := by
  obtain ⟨a, cap, rfl, h2, h3, h4⟩ := h
  refine ⟨a, cap, by simp, by simpa using h2, h3, fun i r hr => ?_⟩
  rw [List.getElem?_map, Option.map_eq_some_iff] at hr
  obtain ⟨x, hx, rfl⟩ := hr
  obtain ⟨b, off, e, s, c⟩ := h4 i x hx
  refine ⟨rfl, b, off, e, s, fun j y hj => ?_⟩
  match j, hj with
  | 0, hj => cases hj; simpa using c
  | j + 1, hj => simp at hj
theorem SlN.to1 {S : Nat → Prop} {v : Value} {xs : List Value} (h : SlN 1 S w v (xs.map fun x => [x])) : Sl S w v xs := by
  obtain ⟨a, cap, rfl, h2, h3, h4⟩ := h
  refine ⟨a, cap, by simp, by simpa using h2, h3, fun i x hx => ?_⟩
  obtain ⟨_, b, off, e, s, c⟩ := h4 i [x] (by simp [hx])
  exact ⟨b, off, e, s, by simpa using c 0 x rfl⟩
end
end Go.Oche

/- Chapter 12: PurseFines. -/
namespace Go.Proofs.Ytagfcodpgochjaa
open Go.RowKit Go.Oche Go.Proofs
theorem info73 : (Try.prog.info? 73).map (fun i => (i.zero, i.size, i.bytes)) = some (some (.agg #[.int .i64 0, .int .i64 0, .int .i64 0]), 3, 24) := by kernel_rfl
theorem tar_one (ts : List (Int × Int × Int)) : ∀ r ∈ ts.map tarRow, ∀ u ∈ r, u.oneCell' = true := by
  intro r hr u hu
  obtain ⟨t, _, rfl⟩ := List.mem_map.1 hr
  simp only [tarRow, List.mem_cons, List.not_mem_nil, or_false] at hu
  rcases hu with rfl | rfl | rfl <;> rfl
theorem off_one (l : List (Int × Int)) : ∀ r ∈ l.map offRow, ∀ u ∈ r, u.oneCell' = true := by
  intro r hr u hu
  obtain ⟨t, _, rfl⟩ := List.mem_map.1 hr
  simp only [offRow, List.mem_cons, List.not_mem_nil, or_false] at hu
  rcases hu with rfl | rfl <;> rfl
set_option maxRecDepth 100000 in
set_option maxHeartbeats 4000000 in
theorem purseFines_any {S S' : Nat → Prop} (players : Int) (ts : List (Int × Int × Int)) (l : List (Int × Int)) (v vl : Value) (w : World) (hs : SlN 3 S w v (ts.map tarRow)) (hl : SlN 2 S' w vl (l.map offRow)) :
    Calls Try.prog 5 #[.int .i64 players, v, vl] w fun e w' => e = .returned (.bool true) ∧ Below w.heap.size w w' := by
  obtain ⟨a, cap, rfl, h2, h3⟩ := hs.form
  obtain ⟨al, capl, rfl, h2l, h3l⟩ := hl.form
  simp only [List.length_map] at *
  unfold maxLen at h3 h3l
  have HS := Lib.hid hs
  have HL := Lib.hid hl
  clear hs hl
  obtain ⟨b1, hb1⟩ : ∃ b, decide (25 < ts.length) = b := ⟨_, rfl⟩
  obtain ⟨b2, hb2⟩ : ∃ b, decide (200 < l.length) = b := ⟨_, rfl⟩
  obtain ⟨b3, hb3⟩ : ∃ b, decide (l.length ≤ 1000) = b := ⟨_, rfl⟩
  obtain ⟨b4, hb4⟩ : ∃ b, decide (1010 < l.length) = b := ⟨_, rfl⟩
  have hb1i : decide ((25 : Int) < (ts.length : Int)) = b1 := by rw [← hb1]; exact decide_eq_decide.2 (by omega)
  have hb2i : decide ((200 : Int) < (l.length : Int)) = b2 := by rw [← hb2]; exact decide_eq_decide.2 (by omega)
  have hb3i : decide ((l.length : Int) ≤ (1000 : Int)) = b3 := by rw [← hb3]; exact decide_eq_decide.2 (by omega)
  have hb4i : decide ((1010 : Int) < (l.length : Int)) = b4 := by rw [← hb4]; exact decide_eq_decide.2 (by omega)
  have g1 : b1 = false → ts.length ≤ 25 := fun h => by have := of_decide_eq_false (hb1.trans h); omega
  have g4 : b4 = false → l.length ≤ 1010 := fun h => by have := of_decide_eq_false (hb4.trans h); omega
  go_enter Try.func5, Try.ntmps5
  cases b1
  · cases b2
    · cases b4
      · have g1 := g1 rfl
        have g4 := g4 rfl
        go_wp2_with (at_builtin; refine wpList_copy rfl (.tmp 32) (.tmp 33) 36 rfl 73 (.agg #[.int .i64 0, .int .i64 0, .int .i64 0]) 3 24 Try.underlying36 info73 rfl (by decide) rfl _ (ts.map tarRow) rfl HS.out (tar_one ts) (by simp; omega) (by decide) ?_)
        intro v1 w1 hb1 hs1
        have HB1 := Lib.hid hb1
        have HC1 := Lib.hid hs1
        have HL1 := Lib.hid (HL.out.below hb1)
        clear hb1 hs1
        go_wp2_with (at_builtin; refine wpList_copy rfl (.tmp 35) (.tmp 36) 37 rfl 76 (.agg #[.int .i64 0, .int .i64 0]) 2 16 Try.underlying37 info74 rfl (by decide) rfl _ (l.map offRow) rfl HL1.out (off_one l) (by simp; omega) (by decide) ?_)
        intro v2 w2 hb2 hs2
        have HB2 := Lib.hid (bThen HB1.out hb2)
        have HC2 := Lib.hid (HC1.out.below hb2)
        have HD2 := Lib.hid hs2
        clear hb2 hs2 HC1 HL1
        go_wp2_with fail
        refine (fines_any players ts l _ _ w2 HC2.out HD2.out).mono ?_
        rintro e w3 ⟨r3, rfl, hb3, hs3⟩
        have HB3 := Lib.hid (bThen HB2.out hb3)
        have HR3 := Lib.hid hs3
        have HS3 := Lib.hid (HS.out.below HB3.out)
        have HL3 := Lib.hid (HL.out.below HB3.out)
        clear hb3 hs3 HC2 HD2
        go_wp2_with fail
        refine (refFines_any players ts l _ _ w3 HS3.out HL3.out).mono ?_
        rintro e w4 ⟨r4, rfl, hb4, hs4⟩
        have HB4 := Lib.hid (bThen HB3.out hb4)
        have HR4 := Lib.hid hs4
        have HR5 := Lib.hid (HR3.out.below hb4)
        clear hb4 hs4
        go_wp2_with fail
        refine (ints_any (finesRes players ts l) (finesRes players ts l) _ _ w4 HR5.out HR4.out).mono ?_
        rintro e w5 ⟨rfl, hb5⟩
        have HB5 := Lib.hid (bThen HB4.out hb5)
        clear hb5
        have hd : decide (finesRes players ts l = finesRes players ts l) = true := decide_eq_true rfl
        rw [hd]
        clear hd
        go_wp2_with fail
        refine (known_any w5).mono ?_
        rintro e w6 ⟨rfl, hb6⟩
        have HB6 := Lib.hid (bThen HB5.out hb6)
        clear hb6
        go_wp2
        go_ret
        exact ⟨rfl, HB6.out⟩
      · go_wp2_with fail
        refine (known_any w).mono ?_
        rintro e w6 ⟨rfl, hb6⟩
        have HB6 := Lib.hid hb6
        clear hb6
        go_wp2
        go_ret
        exact ⟨rfl, HB6.out⟩
    · cases b3
      · cases b4
        · have g1 := g1 rfl
          have g4 := g4 rfl
          go_wp2_with (at_builtin; refine wpList_copy rfl (.tmp 32) (.tmp 33) 36 rfl 73 (.agg #[.int .i64 0, .int .i64 0, .int .i64 0]) 3 24 Try.underlying36 info73 rfl (by decide) rfl _ (ts.map tarRow) rfl HS.out (tar_one ts) (by simp; omega) (by decide) ?_)
          intro v1 w1 hb1 hs1
          have HB1 := Lib.hid hb1
          have HC1 := Lib.hid hs1
          have HL1 := Lib.hid (HL.out.below hb1)
          clear hb1 hs1
          go_wp2_with (at_builtin; refine wpList_copy rfl (.tmp 35) (.tmp 36) 37 rfl 76 (.agg #[.int .i64 0, .int .i64 0]) 2 16 Try.underlying37 info74 rfl (by decide) rfl _ (l.map offRow) rfl HL1.out (off_one l) (by simp; omega) (by decide) ?_)
          intro v2 w2 hb2 hs2
          have HB2 := Lib.hid (bThen HB1.out hb2)
          have HC2 := Lib.hid (HC1.out.below hb2)
          have HD2 := Lib.hid hs2
          clear hb2 hs2 HC1 HL1
          go_wp2_with fail
          refine (fines_any players ts l _ _ w2 HC2.out HD2.out).mono ?_
          rintro e w3 ⟨r3, rfl, hb3, hs3⟩
          have HB3 := Lib.hid (bThen HB2.out hb3)
          have HR3 := Lib.hid hs3
          have HS3 := Lib.hid (HS.out.below HB3.out)
          have HL3 := Lib.hid (HL.out.below HB3.out)
          clear hb3 hs3 HC2 HD2
          go_wp2_with fail
          refine (refFines_any players ts l _ _ w3 HS3.out HL3.out).mono ?_
          rintro e w4 ⟨r4, rfl, hb4, hs4⟩
          have HB4 := Lib.hid (bThen HB3.out hb4)
          have HR4 := Lib.hid hs4
          have HR5 := Lib.hid (HR3.out.below hb4)
          clear hb4 hs4
          go_wp2_with fail
          refine (ints_any (finesRes players ts l) (finesRes players ts l) _ _ w4 HR5.out HR4.out).mono ?_
          rintro e w5 ⟨rfl, hb5⟩
          have HB5 := Lib.hid (bThen HB4.out hb5)
          clear hb5
          have hd : decide (finesRes players ts l = finesRes players ts l) = true := decide_eq_true rfl
          rw [hd]
          clear hd
          go_wp2_with fail
          refine (known_any w5).mono ?_
          rintro e w6 ⟨rfl, hb6⟩
          have HB6 := Lib.hid (bThen HB5.out hb6)
          clear hb6
          go_wp2
          go_ret
          exact ⟨rfl, HB6.out⟩
        · go_wp2_with fail
          refine (known_any w).mono ?_
          rintro e w6 ⟨rfl, hb6⟩
          have HB6 := Lib.hid hb6
          clear hb6
          go_wp2
          go_ret
          exact ⟨rfl, HB6.out⟩
      · go_wp2_with fail
        refine (known_any w).mono ?_
        rintro e w6 ⟨rfl, hb6⟩
        have HB6 := Lib.hid hb6
        clear hb6
        go_wp2
        go_ret
        exact ⟨rfl, HB6.out⟩
  · go_wp2_with fail
    refine (known_any w).mono ?_
    rintro e w6 ⟨rfl, hb6⟩
    have HB6 := Lib.hid hb6
    clear hb6
    go_wp2
    go_ret
    exact ⟨rfl, HB6.out⟩
end Go.Proofs.Ytagfcodpgochjaa

/- A region that draws its order, with one append of one new element to a row of one's own, among operations that only read. -/
namespace Go.Oche
open Go Go.RowKit
/-- Operation il makes the literal, ia appends it to v; those of sg assign what was appended. -/
structure JApp (w : World) (v : Value) (il ia : Nat) (sg : List Nat) (L : Nat → Bool) (W : World) : Prop where
  off : L ia = false → Below w.heap.size w W
  on : L ia = true → L il = true ∧ w.grownBy W v.ownBlock
  asg : ∀ i ∈ sg, L i = true → L ia = true
/-- The literal. -/
def LitAt (w : World) (u : Value) (v' : Value) (W : World) : Prop := ∃ b, v' = .slice (some ⟨b, 0, none⟩) 1 1 ∧ w.heap.size ≤ b ∧ b < W.heap.size ∧ W.cell? ⟨b, 0, none⟩ = some u
section
variable {w W : World} {v : Value} {il ia : Nat} {sg : List Nat} {L : Nat → Bool}
theorem JApp.start : JApp w v il ia sg (fun _ => false) w.drew := ⟨fun _ => ⟨rfl, rfl, rfl, Nat.le_refl _, fun _ _ => rfl⟩, fun h => (by cases h), fun _ _ h => (by cases h)⟩
theorem JApp.size (h : JApp w v il ia sg L W) : w.heap.size ≤ W.heap.size := by
  cases hL : L ia with
  | false => exact (h.off hL).size
  | true => exact (h.on hL).2.size
theorem JApp.cell (h : JApp w v il ia sg L W) {b o : Nat} {x : Value} (hv : w.cell? ⟨b, o, none⟩ = some x) (hb : some b ≠ v.ownBlock) : W.cell? ⟨b, o, none⟩ = some x := by
  have hlt := World.block_lt_of_cell? w _ hv
  cases hL : L ia with
  | false => exact bAt (h.off hL) hv
  | true => exact (World.cell?_of_block (w := w) ((h.on hL).2.block b hlt hb)).trans hv
theorem JApp.read (h : JApp w v il ia sg L W) {i : Nat} (h1 : ia ≠ i) (h2 : i ∉ sg) : JApp w v il ia sg (setB L i) W := by
  refine ⟨?_, ?_, fun j hj hs => ?_⟩
  · rw [setB_ne h1]; exact h.off
  · rw [setB_ne h1]; exact fun hL => ⟨by unfold setB; split; rfl; exact (h.on hL).1, (h.on hL).2⟩
  · rw [setB_ne h1]; rw [setB_ne (show j ≠ i from fun e => h2 (by rw [← e]; exact hj))] at hs; exact h.asg j hj hs
theorem JApp.readAs (h : JApp w v il ia sg L W) {i : Nat} (h1 : ia ≠ i) (hL : L ia = true) : JApp w v il ia sg (setB L i) W := by
  refine ⟨?_, ?_, fun j _ _ => ?_⟩
  · rw [setB_ne h1]; exact h.off
  · rw [setB_ne h1]; exact fun hL => ⟨by unfold setB; split; rfl; exact (h.on hL).1, (h.on hL).2⟩
  · rw [setB_ne h1]; exact hL
theorem JApp.not_app (h : JApp w v il ia sg L W) (hL : L il = false) : L ia = false := by
  cases hA : L ia with
  | false => rfl
  | true => rw [(h.on hA).1] at hL; cases hL
theorem JApp.lit (h : JApp w v il ia sg L W) (hL : L il = false) (hne : ia ≠ il) (hn : il ∉ sg) (ob : Obj) : JApp w v il ia sg (setB L il) (W.alloc ob) := by
  have hA := h.not_app hL
  refine ⟨fun _ => (h.off hA).trans ((aB _ _).mono (h.off hA).size), fun h' => ?_, fun j hj hs => ?_⟩
  · rw [setB_ne hne, hA] at h'; cases h'
  · rw [setB_ne (show j ≠ il from fun e => hn (by rw [← e]; exact hj))] at hs; rw [setB_ne hne]; exact h.asg j hj hs
theorem JApp.app (h : JApp w v il ia sg L W) (hL : L il = true) (hA : L ia = false) {Wn : World} (hg : W.grownBy Wn v.ownBlock) (hne : il ≠ ia) : JApp w v il ia sg (setB L ia) Wn := by
  refine ⟨fun h' => ?_, fun _ => ⟨by rw [setB_ne hne]; exact hL, grownBy_trans (grownBy_below _ (h.off hA)) hg⟩, fun _ _ _ => setB_eq⟩
  rw [setB_eq] at h'; cases h'
theorem LitAt.alloc {u v' : Value} (h : LitAt w u v' W) (ob : Obj) : LitAt w u v' (W.alloc ob) := by
  obtain ⟨b, e, h1, h2, h3⟩ := h
  exact ⟨b, e, h1, by simp; omega, bAt (aB _ _) h3⟩
theorem LitAt.grown {u v' : Value} {Wn : World} (h : LitAt w u v' W) (hg : W.grownBy Wn v.ownBlock) (hv : ∀ g, v.ownBlock = some g → g < w.heap.size) : LitAt w u v' Wn := by
  obtain ⟨b, e, h1, h2, h3⟩ := h
  refine ⟨b, e, h1, Nat.lt_of_lt_of_le h2 hg.size, ?_⟩
  exact (World.cell?_of_block (w := W) (hg.block b h2 (fun e => by have := hv b e.symm; omega))).trans h3
end
end Go.Oche
