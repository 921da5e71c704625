/- The texts QR0, QR1, QR2, QR3, in build order. -/
import Derived.Test.YtpfpjbglpibdoaaGreatDoorZay

/- Chapter 5, in plain Lean: HeardRight and HeardLeast: reports of which some are changed. -/
namespace Go.Proofs.YtpfpjbglpibdoaaGreatDoor
open Go.RowKit Go.Oche Go.Proofs

def wrongR (lies : List Int) (i : Nat) (r : Rp) : Rp :=
  if byteL lies i % 3 ≠ 0 ∨ lies = [] then r else if 0 ≤ r.score then { r with score := byteL lies i % 30 } else if 0 ≤ r.left then { r with left := byteL lies i % 30 } else r
def wrongL (list : List Rp) (lies : List Int) : List Rp := list.zipIdx.map fun p => wrongR lies p.2 p.1
theorem wrongL_len (list : List Rp) (lies : List Int) : (wrongL list lies).length = list.length := by unfold wrongL; rw [List.length_map, List.length_zipIdx]
theorem wrongL_at {list : List Rp} {lies : List Int} {i : Nat} {r : Rp} (h : list[i]? = some r) : (wrongL list lies)[i]? = some (wrongR lies i r) := by
  unfold wrongL
  rw [List.getElem?_map, List.getElem?_zipIdx, h]
  simp
def chgB (list : List Rp) (lies : List Int) (i : Nat) : Bool := decide ((wrongL list lies)[i]? ≠ list[i]?)
def chgL (list : List Rp) (lies : List Int) (k : Nat) : List Nat := (List.range k).filter (chgB list lies)
theorem chgL_succ (list : List Rp) (lies : List Int) (k : Nat) : (chgL list lies (k + 1)).length = (chgL list lies k).length + if chgB list lies k = true then 1 else 0 := by
  unfold chgL
  rw [List.range_succ, List.filter_append, List.length_append]
  congr 1
  by_cases h : chgB list lies k = true
  · rw [if_pos h]; simp [h]
  · rw [if_neg h]; simp [h]
variable {l : Lg}
theorem wrong_many {list : List Rp} {lies : List Int} (hT : HasTruth l (allS list)) {x : List Nat} (hx : MinS (wrongL list lies).length (isDrop l (wrongL list lies)) (2 ^ (wrongL list lies).length) x) : x.length ≤ (chgL list lies list.length).length := by
  refine drop_least hx ((List.pairwise_lt_range).filter _) (fun i hi => ?_) ?_
  · rw [wrongL_len]; exact List.mem_range.1 (List.mem_filter.1 hi).1
  · refine truth_less (fun t y hy => ?_) hT
    obtain ⟨hm, ht⟩ := mem_allS.1 hy
    unfold dropL at hm
    obtain ⟨⟨z, i⟩, hp, rfl⟩ := List.mem_map.1 hm
    obtain ⟨h1, h2⟩ := List.mem_filter.1 hp
    rw [List.mem_zipIdx_iff_getElem?] at h1
    have h3 : i ∉ chgL list lies list.length := of_decide_eq_true h2
    have hl : i < list.length := by rw [← wrongL_len list lies]; exact (List.getElem?_eq_some_iff.1 h1).1
    have h4 : (wrongL list lies)[i]? = list[i]? := by
      by_cases e : (wrongL list lies)[i]? = list[i]?
      · exact e
      · exact (h3 (List.mem_filter.2 ⟨List.mem_range.2 hl, decide_eq_true e⟩)).elim
    refine mem_allS.2 ⟨List.mem_of_getElem? (i := i) ?_, ht⟩
    rw [← h4]; exact h1
theorem wrongR_bd {lies : List Int} {i : Nat} {r : Rp} (h : -1 ≤ r.score ∧ r.score ≤ 240 ∧ -1 ≤ r.left ∧ r.left ≤ 1001) : (wrongR lies i r).turn = r.turn ∧ -1 ≤ (wrongR lies i r).score ∧ (wrongR lies i r).score ≤ 240 ∧ -1 ≤ (wrongR lies i r).left ∧ (wrongR lies i r).left ≤ 1001 := by
  unfold wrongR
  split
  · exact ⟨rfl, h⟩
  · split
    · exact ⟨rfl, by simp only; omega⟩
    · split
      · exact ⟨rfl, by simp only; omega⟩
      · exact ⟨rfl, h⟩
end Go.Proofs.YtpfpjbglpibdoaaGreatDoor

/- Chapter 5: pick, the walk. -/
namespace Go.Proofs.YtpfpjbglpibdoaaGreatDoor
open Go Go.RowKit Go.Oche Go.Proofs

def pickF (but : Int) (idx : List Nat) : List Nat := idx.filter fun i => decide ((i : Int) ≠ but)
set_option maxRecDepth 100000 in
set_option maxHeartbeats 4000000 in
theorem pick_any {S S' : Nat → Prop} (list : List Rp) (idx : List Nat) (but : Int) (lv xv : Value) (w : World) (hl : SlN 3 S w lv (list.map rpRow)) (hx : Sl S' w xv (ints (nInts idx))) (ha : idx.Pairwise (· < ·)) (hi : ∀ i ∈ idx, i < list.length) (hm : idx.length ≤ 1000) :
    Calls Tryz.prog 38 #[lv, xv, .int .i64 but] w fun e w' => ∃ v, e = .returned (.tuple #[v, .bool true]) ∧ Below w.heap.size w w' ∧ w'.ownsRow w.heap.size 83 3 v (pickF but idx).length (((pickL list (pickF but idx)).map rpRow).flatten) := by
  obtain ⟨la, lc, rfl, h2, h3⟩ := hl.form
  obtain ⟨xa, xc, rfl, hx2, hx3⟩ := hx.form
  have hln : (list.map rpRow).length = list.length := List.length_map ..
  have hxn : (ints (nInts idx)).length = idx.length := by simp [nInts]
  rw [hln] at h2 hl ⊢
  rw [hxn] at hx2 hx ⊢
  unfold maxLen at h3
  obtain ⟨m, hm2⟩ : ∃ n, list.length = n := ⟨_, rfl⟩
  obtain ⟨n, hn⟩ : ∃ n, idx.length = n := ⟨_, rfl⟩
  rw [hm2] at h2 hl ⊢
  rw [hn] at hx2 hx hm ⊢
  obtain ⟨N, hN⟩ : ∃ N, w.heap.size = N := ⟨_, rfl⟩
  obtain ⟨w1, hw1⟩ : ∃ y, w.alloc (.cells #[] 83) = y := ⟨_, rfl⟩
  have hb1 : Below w.heap.size w w1 := by rw [← hw1]; exact aB _ _
  have k1 : w1.heap[N]? = some (.cells #[] 83 (0, 0)) := by rw [← hw1, ← hN]; exact World.alloc_heap_new _ _
  have HO1 : Hid (w1.ownsRow N 83 3 (.slice (some ⟨N, 0, none⟩) 0 0) (pickF but (idx.take 0)).length (((pickL list (pickF but (idx.take 0))).map rpRow).flatten)) := Lib.hid (own_empty k1 (Nat.le_refl _))
  have HB1 := Lib.hid hb1
  have HZ1 : Hid (N ≤ w1.heap.size) := Lib.hid (by rw [← hN]; exact hb1.size)
  have HL := Lib.hid hl
  have HX := Lib.hid hx
  have HA := Lib.hid ha
  have HI := Lib.hid hi
  have HM := Lib.hid hm2
  have HN := Lib.hid hn
  have HW := Lib.hid hw1
  have HNN := Lib.hid hN
  clear hl hx ha hi hm2 hn hw1 hb1 k1 hN
  go_enter Tryz.func38, Tryz.ntmps38
  go_upto_region 3 with fail
  rw [HW.out, HNN.out]
  go_wp2_with fail
  go_loopw [8, 9] (fun ov iv wr => ∃ (i : Nat) (v : Value), v = ov ∧ i ≤ n ∧ iv = .int .i64 (i : Int) ∧ Hid (wr.ownsRow N 83 3 v (pickF but (idx.take i)).length (((pickL list (pickF but (idx.take i))).map rpRow).flatten)) ∧ Hid (N ≤ wr.heap.size) ∧ Hid (Below w.heap.size w wr)) (fun _ iv _ => n - (intOf iv).toNat)
  case atStart => exact ⟨0, _, rfl, by omega, by go_num, HO1, HZ1, HB1⟩
  case round =>
    clear HO1 HZ1 HB1
    obtain ⟨i, v, rfl, hin, rfl, HO, HZ, HBr⟩ := hrel
    obtain ⟨wo, rfl⟩ : ∃ wo : World, wo = wr := ⟨_, rfl⟩
    obtain ⟨oa, oc, hov⟩ := owns_form HO.out
    subst hov
    obtain ⟨q, hq⟩ : ∃ q, (pickF but (idx.take i)).length = q := ⟨_, rfl⟩
    obtain ⟨XS, hXS⟩ : ∃ y, ((pickL list (pickF but (idx.take i))).map rpRow).flatten = y := ⟨_, rfl⟩
    have hqi : q ≤ i := by rw [← hq]; unfold pickF; exact Nat.le_trans (List.length_filter_le _ _) (by rw [List.length_take]; omega)
    rw [hq, hXS] at HO
    have HQ := Lib.hid hq
    have HXS := Lib.hid hXS
    rw [hq]
    clear hq hXS
    by_cases hlt : i < n
    · have hil : i < idx.length := by rw [HN.out]; exact hlt
      obtain ⟨z, hz⟩ : ∃ z, idx[i] = z := ⟨_, rfl⟩
      have hza : idx[i]? = some z := by rw [List.getElem?_eq_getElem hil, hz]
      have hzm : z < m := by rw [← HM.out, ← hz]; exact HI.out _ (List.getElem_mem _)
      have hx := HX.out.below HBr.out
      obtain ⟨xb, xf, rfl, -, hc⟩ := Sl.at_ hx (show (ints (nInts idx))[i]? = some (.int .i64 (z : Int)) by simp [ints, nInts, hza])
      have htk : pickF but (idx.take (i + 1)) = pickF but (idx.take i) ++ if decide ((z : Int) ≠ but) = true then [z] else [] := by
        unfold pickF
        rw [List.take_succ_eq_append_getElem hil, hz, List.filter_append]
        congr 1
        by_cases e : (z : Int) ≠ but
        · simp [e]
        · simp [e]
      have HTK := Lib.hid htk
      have hzl : z < list.length := by rw [HM.out]; exact hzm
      obtain ⟨⟨rt, rs, rl⟩, hr⟩ : ∃ r, list[z] = r := ⟨_, rfl⟩
      obtain ⟨rb, rf, hra, -, -, hrc⟩ := (HL.out.below HBr.out).cell (i := z) (by rw [List.length_map]; exact hzl)
      cases hra
      have hrow : (list.map rpRow)[z]'(by rw [List.length_map]; exact hzl) = [.int .i64 rt, .int .i64 rs, .int .i64 rl] := by rw [List.getElem_map, hr]; rfl
      rw [hrow] at hrc
      have p0 := hrc 0 _ rfl
      have p1 := hrc 1 _ rfl
      have p2 := hrc 2 _ rfl
      rw [Nat.add_zero] at p0
      have HPK : Hid (pickL list [z] = [⟨rt, rs, rl⟩]) := Lib.hid (by unfold pickL; simp [List.getD_eq_getElem?_getD, List.getElem?_eq_getElem hzl, hr])
      have hii : (i : Int) < (n : Int) := by omega
      have hzi : (z : Int) < (m : Int) := by omega
      have g1 : decide ((z : Int) < 0) = false := decide_eq_false (by omega)
      have g2 : decide ((m : Int) ≤ (z : Int)) = false := decide_eq_false (by omega)
      have hwi : IntKind.i64.wrap ((i : Int) + 1) = (i : Int) + 1 := wrap_small _ (by omega) (by omega)
      by_cases hi0 : i = 0
      · have g0 : decide ((0 : Int) < (i : Int)) = false := decide_eq_false (by omega)
        have HI0 : Hid (i = 0) := Lib.hid hi0
        clear hi0
        go_upto_region 5 with fail
        refine wp_region_seqW (.is (.slice (some ⟨xb, xf, none⟩) n xc) :: .is (.int .i64 (i : Int)) :: .is (.pointer (some ⟨xb, xf + i, none⟩)) :: .is (.int .i64 (z : Int)) :: .is (.bool false) :: .is (.bool false) :: .is (.slice (some ⟨xb, xf, none⟩) n xc) :: .is (.int .i64 (i : Int)) :: .is (.pointer (some ⟨xb, xf + i, none⟩)) :: .is (.int .i64 (z : Int)) :: .is (.slice (some ⟨rb, rf, none⟩) m lc) :: .is (.int .i64 (m : Int)) :: .is (.bool false) :: .is (.bool false) :: .is (.bool false) :: .is (.int .i64 (i : Int)) :: .is (.bool false) :: .is (.bool false) :: .is (undef) :: .is (undef) :: .is (undef) :: .is (undef) :: .is (undef) :: .is (undef) :: .is (undef) :: .is (undef) :: .is (undef) :: .is (undef) :: .is (.bool false) :: .is (.bool false) :: []) rfl mix (by kernel_rfl) (by kernel_rfl) ?_
        iterate 18
          refine seq_on (by rfl) (fun w4 hb4 _ => ?_) ?_
          · have hc' := bAt hb4 hc
            simp [opOK, go_sem, hc', hii, g0, g1, g2, Below.refl]
            try first | exact rfl | omega | exact HI0.out
          simp only [Act.put, List.setIfInBounds_toArray, List.set_cons_succ, List.set_cons_zero]
        iterate 10
          refine seq_off (by rfl) ?_
          simp only [Act.put, List.setIfInBounds_toArray, List.set_cons_succ, List.set_cons_zero]
        iterate 2
          refine seq_on (by rfl) (fun w4 hb4 _ => ?_) ?_
          · have hc' := bAt hb4 hc
            simp [opOK, go_sem, hc', hii, g0, g1, g2, Below.refl]
            try first | exact rfl | omega | exact HI0.out
          simp only [Act.put, List.setIfInBounds_toArray, List.set_cons_succ, List.set_cons_zero]
        refine seq_end fun w4 hb4 hH => ?_
        have HO4 := Lib.hid (ownsN_below HO.out hb4)
        have HB4 := Lib.hid (bThen HBr.out hb4)
        have HZ4 : Hid (N ≤ w4.heap.size) := Lib.hid (Nat.le_trans HZ.out hb4.size)
        have hc := bAt hb4 hc
        have p0 := bAt hb4 p0
        have p1 := bAt hb4 p1
        have p2 := bAt hb4 p2
        clear hH hb4 HO HBr HZ
        by_cases hzb : (z : Int) = but
        · have db : ((z : Int) != but) = false := by rw [hzb]; simp
          have HO5 : Hid (w4.ownsRow N 83 3 (.slice oa q oc) (pickF but (idx.take (i + 1))).length (((pickL list (pickF but (idx.take (i + 1)))).map rpRow).flatten)) := Lib.hid (by
            rw [HTK.out, if_neg (by simp [hzb]), List.append_nil, HQ.out, HXS.out]; exact HO4.out)
          clear hzb p0 p1 p2 HO4
          go_wp2_with fail
          go_roundw
          case rel => exact ⟨i + 1, _, rfl, by omega, by go_num, HO5, HZ4, HB4⟩
          case measure => simp [intOf]; omega
        · have db : ((z : Int) != but) = true := bne_iff_ne.2 hzb
          have hq9 : q + 1 ≤ 100000 := by omega
          have HNB : Hid (decide ((z : Int) ≠ but) = true) := Lib.hid (decide_eq_true hzb)
          clear hzb
          go_wp2_with (at_builtin; refine wpList_appendN rfl (.tmp 53) (.tmp 61) 53 rfl N 83 (.agg #[.int .i64 0, .int .i64 0, .int .i64 0]) 3 24 Tryz.underlying53 info_rp rfl (by decide) (.slice oa q oc) q XS rfl (HO4.out.alloc _) w4.heap.size 0 1 1 (rpRow ⟨rt, rs, rl⟩) rfl rfl (fun j u hj => by rw [cell_of_heap (World.alloc_heap_new _ _), Nat.zero_add]; simpa [rpRow] using hj) (rpRow_one _) hq9 (by decide) (by have := HZ4.out; simp; omega) ?_)
          intro v6 w6 ho6 hg6 hat6
          have hb6 : Below w4.heap.size w4 (w4.alloc (.cells #[.int .i64 rt, .int .i64 rs, .int .i64 rl] 83)) := aB _ _
          have HO6 : Hid (w6.ownsRow N 83 3 v6 (pickF but (idx.take (i + 1))).length (((pickL list (pickF but (idx.take (i + 1)))).map rpRow).flatten)) := Lib.hid (by
            have e : pickL list (pickF but (idx.take i) ++ [z]) = pickL list (pickF but (idx.take i)) ++ pickL list [z] := List.map_append ..
            rw [HTK.out, if_pos HNB.out, e, HPK.out, List.length_append, HQ.out, List.map_append, List.flatten_append, HXS.out]
            simpa using ho6)
          have HB6 : Hid (Below w.heap.size w w6) := Lib.hid ((HB4.out.trans (hb6.mono HB4.out.size)).trans (below_grownBy hg6 (Nat.le_trans HB4.out.size hb6.size) (fun g hg => by have := (HO4.out.lt _ hg).1; rw [HNN.out]; exact this)))
          have HZ6 : Hid (N ≤ w6.heap.size) := Lib.hid (Nat.le_trans HZ4.out (Nat.le_trans hb6.size hg6.size))
          clear ho6 hg6 hat6 hb6 p0 p1 p2 HO4
          go_wp2_with fail
          go_roundw
          case rel => exact ⟨i + 1, _, rfl, by omega, by go_num, HO6, HZ6, HB6⟩
          case measure => simp [intOf]; omega
      · have g0 : decide ((0 : Int) < (i : Int)) = true := decide_eq_true (by omega)
        obtain ⟨ip, hip⟩ : ∃ ip, ip + 1 = i := ⟨i - 1, by omega⟩
        have hpl : ip < idx.length := by omega
        obtain ⟨y, hy⟩ : ∃ y, idx[ip] = y := ⟨_, rfl⟩
        have hya : idx[ip]? = some y := by rw [List.getElem?_eq_getElem hpl, hy]
        have hyz : y < z := by rw [← hy, ← hz]; exact List.pairwise_iff_getElem.1 HA.out ip i hpl hil (by omega)
        obtain ⟨xb2, xf2, e2, -, hyc⟩ := Sl.at_ hx (show (ints (nInts idx))[ip]? = some (.int .i64 (y : Int)) by simp [ints, nInts, hya])
        cases e2
        have hpi : (ip : Int) < (n : Int) := by omega
        have wip : IntKind.i64.wrap ((i : Int) - 1) = (ip : Int) := by rw [wrap_small _ (by omega) (by omega)]; omega
        have g3 : decide ((z : Int) ≤ (y : Int)) = false := decide_eq_false (by omega)
        have HI0 : Hid (0 < i) := Lib.hid (by omega)
        clear hi0 hpl hy hya
        go_upto_region 5 with fail
        refine wp_region_seqW (.is (.slice (some ⟨xb, xf, none⟩) n xc) :: .is (.int .i64 (i : Int)) :: .is (.pointer (some ⟨xb, xf + i, none⟩)) :: .is (.int .i64 (z : Int)) :: .is (.bool false) :: .is (.bool false) :: .is (.slice (some ⟨xb, xf, none⟩) n xc) :: .is (.int .i64 (i : Int)) :: .is (.pointer (some ⟨xb, xf + i, none⟩)) :: .is (.int .i64 (z : Int)) :: .is (.slice (some ⟨rb, rf, none⟩) m lc) :: .is (.int .i64 (m : Int)) :: .is (.bool false) :: .is (.bool false) :: .is (.bool false) :: .is (.int .i64 (i : Int)) :: .is (.bool true) :: .is (.bool true) :: .is (.slice (some ⟨xb, xf, none⟩) n xc) :: .is (.int .i64 (i : Int)) :: .is (.pointer (some ⟨xb, xf + i, none⟩)) :: .is (.int .i64 (z : Int)) :: .is (.slice (some ⟨xb, xf, none⟩) n xc) :: .is (.int .i64 (i : Int)) :: .is (.int .i64 (ip : Int)) :: .is (.pointer (some ⟨xb, xf + ip, none⟩)) :: .is (.int .i64 (y : Int)) :: .is (.bool false) :: .is (.bool false) :: .is (.bool false) :: []) rfl mix (by kernel_rfl) (by kernel_rfl) ?_
        iterate 30
          refine seq_on (by rfl) (fun w4 hb4 _ => ?_) ?_
          · have hc' := bAt hb4 hc
            have hy' := bAt hb4 hyc
            simp [opOK, go_sem, hc', hy', hpi, wip, g3, hii, g0, g1, g2, Below.refl]
            try first | exact rfl | omega | exact HI0.out
          simp only [Act.put, List.setIfInBounds_toArray, List.set_cons_succ, List.set_cons_zero]
        refine seq_end fun w4 hb4 hH => ?_
        have HO4 := Lib.hid (ownsN_below HO.out hb4)
        have HB4 := Lib.hid (bThen HBr.out hb4)
        have HZ4 : Hid (N ≤ w4.heap.size) := Lib.hid (Nat.le_trans HZ.out hb4.size)
        have hc := bAt hb4 hc
        have p0 := bAt hb4 p0
        have p1 := bAt hb4 p1
        have p2 := bAt hb4 p2
        clear hH hb4 HO HBr HZ
        by_cases hzb : (z : Int) = but
        · have db : ((z : Int) != but) = false := by rw [hzb]; simp
          have HO5 : Hid (w4.ownsRow N 83 3 (.slice oa q oc) (pickF but (idx.take (i + 1))).length (((pickL list (pickF but (idx.take (i + 1)))).map rpRow).flatten)) := Lib.hid (by
            rw [HTK.out, if_neg (by simp [hzb]), List.append_nil, HQ.out, HXS.out]; exact HO4.out)
          clear hzb p0 p1 p2 HO4
          go_wp2_with fail
          go_roundw
          case rel => exact ⟨i + 1, _, rfl, by omega, by go_num, HO5, HZ4, HB4⟩
          case measure => simp [intOf]; omega
        · have db : ((z : Int) != but) = true := bne_iff_ne.2 hzb
          have hq9 : q + 1 ≤ 100000 := by omega
          have HNB : Hid (decide ((z : Int) ≠ but) = true) := Lib.hid (decide_eq_true hzb)
          clear hzb
          go_wp2_with (at_builtin; refine wpList_appendN rfl (.tmp 53) (.tmp 61) 53 rfl N 83 (.agg #[.int .i64 0, .int .i64 0, .int .i64 0]) 3 24 Tryz.underlying53 info_rp rfl (by decide) (.slice oa q oc) q XS rfl (HO4.out.alloc _) w4.heap.size 0 1 1 (rpRow ⟨rt, rs, rl⟩) rfl rfl (fun j u hj => by rw [cell_of_heap (World.alloc_heap_new _ _), Nat.zero_add]; simpa [rpRow] using hj) (rpRow_one _) hq9 (by decide) (by have := HZ4.out; simp; omega) ?_)
          intro v6 w6 ho6 hg6 hat6
          have hb6 : Below w4.heap.size w4 (w4.alloc (.cells #[.int .i64 rt, .int .i64 rs, .int .i64 rl] 83)) := aB _ _
          have HO6 : Hid (w6.ownsRow N 83 3 v6 (pickF but (idx.take (i + 1))).length (((pickL list (pickF but (idx.take (i + 1)))).map rpRow).flatten)) := Lib.hid (by
            have e : pickL list (pickF but (idx.take i) ++ [z]) = pickL list (pickF but (idx.take i)) ++ pickL list [z] := List.map_append ..
            rw [HTK.out, if_pos HNB.out, e, HPK.out, List.length_append, HQ.out, List.map_append, List.flatten_append, HXS.out]
            simpa using ho6)
          have HB6 : Hid (Below w.heap.size w w6) := Lib.hid ((HB4.out.trans (hb6.mono HB4.out.size)).trans (below_grownBy hg6 (Nat.le_trans HB4.out.size hb6.size) (fun g hg => by have := (HO4.out.lt _ hg).1; rw [HNN.out]; exact this)))
          have HZ6 : Hid (N ≤ w6.heap.size) := Lib.hid (Nat.le_trans HZ4.out (Nat.le_trans hb6.size hg6.size))
          clear ho6 hg6 hat6 hb6 p0 p1 p2 HO4
          go_wp2_with fail
          go_roundw
          case rel => exact ⟨i + 1, _, rfl, by omega, by go_num, HO6, HZ6, HB6⟩
          case measure => simp [intOf]; omega
    · obtain rfl : i = n := by omega
      have HTA : Hid (idx.take i = idx) := Lib.hid (List.take_of_length_le (by rw [HN.out]; exact Nat.le_refl _))
      go_wp2
      go_returns
      exact ⟨_, rfl, HBr.out, by rw [HTA.out] at HQ HXS; rw [HNN.out, HQ.out, HXS.out]; exact HO.out⟩

end Go.Proofs.YtpfpjbglpibdoaaGreatDoor

/- Chapter 5: wrong, the walk: reports of which some are changed. -/
namespace Go.Proofs.YtpfpjbglpibdoaaGreatDoor
open Go Go.RowKit Go.Oche Go.Proofs

section
variable {list : List Rp} {lies : List Int} {i : Nat} {r : Rp}
def wrP (list : List Rp) (lies : List Int) (i : Nat) : List Rp := (wrongL list lies).take i ++ list.drop i
theorem wrP_len : (wrP list lies i).length = list.length := by unfold wrP; rw [List.length_append, List.length_take, List.length_drop, wrongL_len]; omega
theorem wrP_zero : wrP list lies 0 = list := by simp [wrP]
theorem wrP_all : wrP list lies list.length = wrongL list lies := by unfold wrP; rw [List.drop_length, List.append_nil, List.take_of_length_le (by rw [wrongL_len]; exact Nat.le_refl _)]
theorem wrP_at (h : list[i]? = some r) : (wrP list lies i)[i]? = some r := by
  unfold wrP
  have hl := (List.getElem?_eq_some_iff.1 h).1
  rw [List.getElem?_append_right (by rw [List.length_take, wrongL_len]; omega), List.length_take, wrongL_len, Nat.min_eq_left (by omega), Nat.sub_self, List.getElem?_drop]
  simpa using h
theorem wrP_succ (h : list[i]? = some r) : wrP list lies (i + 1) = (wrP list lies i).set i (wrongR lies i r) := by
  obtain ⟨hl, -⟩ := List.getElem?_eq_some_iff.1 h
  obtain ⟨hw, e⟩ := List.getElem?_eq_some_iff.1 (wrongL_at (lies := lies) h)
  unfold wrP
  rw [List.take_succ_eq_append_getElem hw, e, List.drop_eq_getElem_cons hl, List.set_append_right _ _ (by rw [List.length_take]; omega), List.length_take, Nat.min_eq_left (by omega), Nat.sub_self, List.set_cons_zero, List.append_assoc]
  rfl
theorem wrP_next (h : list[i]? = some r) : (wrP list lies (i + 1))[i]? = some (wrongR lies i r) := by
  rw [wrP_succ h]
  have := (List.getElem?_eq_some_iff.1 h).1
  rw [List.getElem?_set_self (by rw [wrP_len]; exact this)]
theorem chg_same (h : list[i]? = some r) (e : wrongR lies i r = r) : (chgL list lies (i + 1)).length = (chgL list lies i).length := by
  rw [chgL_succ, if_neg, Nat.add_zero]
  unfold chgB
  rw [wrongL_at h, h, e]
  simp
theorem chg_diff (h : list[i]? = some r) (e : wrongR lies i r ≠ r) : (chgL list lies (i + 1)).length = (chgL list lies i).length + 1 := by
  rw [chgL_succ, if_pos]
  unfold chgB
  rw [wrongL_at h, h]
  simpa using e
theorem wrP_same (h : list[i]? = some r) (e : wrongR lies i r = r) : wrP list lies (i + 1) = wrP list lies i := by
  rw [wrP_succ h, e]; exact setSelf (wrP_at h)
theorem rp_setS : ∀ {l : List Rp} {i : Nat} {r : Rp} (s : Int), l[i]? = some r → (((l.set i ⟨r.turn, s, r.left⟩).map rpRow).flatten) = ((l.map rpRow).flatten).set (i * 3 + 1) (.int .i64 s)
  | [], _, _, _, h => by simp at h
  | a :: l, 0, r, s, h => by
    have : a = r := by simpa using h
    subst this; rfl
  | a :: l, i + 1, r, s, h => by
    have ih := rp_setS (l := l) (i := i) s (by simpa using h)
    have e : (i + 1) * 3 + 1 = i * 3 + 1 + 3 := by omega
    rw [List.set_cons_succ, List.map_cons, List.flatten_cons, ih, e]
    rfl
theorem rp_setL : ∀ {l : List Rp} {i : Nat} {r : Rp} (s : Int), l[i]? = some r → (((l.set i ⟨r.turn, r.score, s⟩).map rpRow).flatten) = ((l.map rpRow).flatten).set (i * 3 + 2) (.int .i64 s)
  | [], _, _, _, h => by simp at h
  | a :: l, 0, r, s, h => by
    have : a = r := by simpa using h
    subst this; rfl
  | a :: l, i + 1, r, s, h => by
    have ih := rp_setL (l := l) (i := i) s (by simpa using h)
    have e : (i + 1) * 3 + 2 = i * 3 + 2 + 3 := by omega
    rw [List.set_cons_succ, List.map_cons, List.flatten_cons, ih, e]
    rfl
theorem rows_sl {W : World} {base m : Nat} {v : Value} {L : List Rp} (h : W.ownsRow base 83 3 v m ((L.map rpRow).flatten)) (hm : L.length = m) : SlN 3 (fun q => base ≤ q) W v (L.map rpRow) :=
  SlN.of_ownsN (by rw [List.length_map, hm]; exact h) (fun r hr => by obtain ⟨s, _, rfl⟩ := List.mem_map.1 hr; rfl)
theorem own_frozen {W : World} {base k n g c o : Nat} {e : TypeId} {xs : List Value} (h : W.ownsRow base e k (.slice (some ⟨g, 0, none⟩) n c) n xs) : W.frozen? ⟨g, o, none⟩ = false := by
  rcases h.2 with ⟨e1, _⟩ | ⟨g', cap, cur, e1, h1, h2, _⟩
  · cases e1
  · cases e1
    exact frozen_of_heap h2
theorem rp_cells {S : Nat → Prop} {W : World} {b m c f : Nat} {L : List Rp} {i : Nat} {rt rs rl : Int} (h : SlN 3 S W (.slice (some ⟨b, f, none⟩) m c) (L.map rpRow)) (hr : L[i]? = some ⟨rt, rs, rl⟩) :
    W.cell? ⟨b, f + i * 3, none⟩ = some (.int .i64 rt) ∧ W.cell? ⟨b, f + i * 3 + 1, none⟩ = some (.int .i64 rs) ∧ W.cell? ⟨b, f + i * 3 + 2, none⟩ = some (.int .i64 rl) := by
  obtain ⟨hl, e⟩ := List.getElem?_eq_some_iff.1 hr
  obtain ⟨b', f', hra, -, -, hc⟩ := h.cell (i := i) (by rw [List.length_map]; exact hl)
  cases hra
  have hrow : (L.map rpRow)[i]'(by rw [List.length_map]; exact hl) = [.int .i64 rt, .int .i64 rs, .int .i64 rl] := by rw [List.getElem_map, e]; rfl
  rw [hrow] at hc
  have p0 := hc 0 _ rfl
  rw [Nat.add_zero] at p0
  exact ⟨p0, hc 1 _ rfl, hc 2 _ rfl⟩
end
set_option maxRecDepth 100000 in
set_option maxHeartbeats 4000000 in
theorem wrong_any {S S' : Nat → Prop} (list : List Rp) (lies : List Int) (lv bv : Value) (w : World) (hl : SlN 3 S w lv (list.map rpRow)) (hb : Sl S' w bv (u8s lies)) (hby : Bytes lies) (hm : list.length ≤ 1000) :
    Calls Tryz.prog 37 #[lv, bv] w fun e w' => ∃ v, e = .returned (.tuple #[v, .int .i64 ((chgL list lies list.length).length : Int)]) ∧ Below w.heap.size w w' ∧ w'.ownsRow w.heap.size 83 3 v list.length (((wrongL list lies).map rpRow).flatten) := by
  obtain ⟨la, lc, rfl, h2, h3⟩ := hl.form
  obtain ⟨ba, bc, rfl, hb2, hb3⟩ := hb.form
  have hln : (list.map rpRow).length = list.length := List.length_map ..
  have hbn : (u8s lies).length = lies.length := List.length_map ..
  rw [hln] at h2 hl ⊢
  rw [hbn] at hb2 hb ⊢
  unfold maxLen at h3
  obtain ⟨m, hm2⟩ : ∃ n, list.length = n := ⟨_, rfl⟩
  obtain ⟨nb, hnb⟩ : ∃ n, lies.length = n := ⟨_, rfl⟩
  rw [hm2] at h2 hl hm ⊢
  rw [hnb] at hb2 hb ⊢
  obtain ⟨N, hN⟩ : ∃ N, w.heap.size = N := ⟨_, rfl⟩
  have HL := Lib.hid hl
  have HLI := Lib.hid hb
  have HBY := Lib.hid hby
  have HM := Lib.hid hm2
  have HNB := Lib.hid hnb
  have HNN := Lib.hid hN
  rw [hN]
  clear hl hb hby hm2 hnb hN hln hbn hb2 hb3
  go_enter Tryz.func37, Tryz.ntmps37
  go_wp2_with fail
  have hcall := told_own list (.slice la m lc) w HL.out (by rw [HM.out]; exact hm)
  rw [HM.out] at hcall
  refine hcall.mono ?_
  rintro e w1 ⟨ov, rfl, hb1, ho1⟩
  clear hcall
  obtain ⟨oa, oc, rfl⟩ := owns_form ho1
  rw [HNN.out] at hb1 ho1
  have HB1 := Lib.hid hb1
  have HO1 : Hid (w1.ownsRow N 83 3 (.slice oa m oc) m (((wrP list lies 0).map rpRow).flatten)) := Lib.hid (by rw [wrP_zero]; exact ho1)
  have HC0 : Hid (0 = (chgL list lies 0).length) := Lib.hid rfl
  clear hb1 ho1
  go_wp2_with fail
  go_loopw [7, 8] (fun mv iv wr => ∃ (i k : Nat), i ≤ m ∧ k ≤ i ∧ mv = .int .i64 (k : Int) ∧ iv = .int .i64 (i : Int) ∧ Hid (k = (chgL list lies i).length) ∧ Hid (wr.ownsRow N 83 3 (.slice oa m oc) m (((wrP list lies i).map rpRow).flatten)) ∧ Hid (Below N w wr)) (fun _ iv _ => m - (intOf iv).toNat)
  case atStart => exact ⟨0, 0, by omega, by omega, by go_num, by go_num, HC0, HO1, HB1⟩
  case round =>
    clear HC0 HO1 HB1
    obtain ⟨i, k, him, hki, rfl, rfl, HC, HO, HBr⟩ := hrel
    obtain ⟨wo, rfl⟩ : ∃ wo : World, wo = wr := ⟨_, rfl⟩
    by_cases hlt : i < m
    · have hil : i < list.length := by rw [HM.out]; exact hlt
      obtain ⟨g, gc, e⟩ := own_pos HO.out (by omega)
      cases e
      obtain ⟨⟨rt, rs, rl⟩, hr⟩ : ∃ r, list[i] = r := ⟨_, rfl⟩
      have hra : list[i]? = some ⟨rt, rs, rl⟩ := by rw [List.getElem?_eq_getElem hil, hr]
      have hbo : Below w.heap.size w wo := by rw [HNN.out]; exact HBr.out
      obtain ⟨lb, lf, hla, -, -, -⟩ := (HL.out.below hbo).cell (i := i) (by rw [List.length_map]; exact hil)
      cases hla
      obtain ⟨q0, q1, q2⟩ := rp_cells (HL.out.below hbo) hra
      obtain ⟨p0, p1, p2⟩ := rp_cells (rows_sl HO.out (by rw [wrP_len, HM.out])) (wrP_at (lies := lies) hra)
      rw [Nat.zero_add] at p0 p1 p2
      have f1 : wo.frozen? ⟨g, i * 3 + 1, none⟩ = false := own_frozen HO.out
      have f2 : wo.frozen? ⟨g, i * 3 + 2, none⟩ = false := own_frozen HO.out
      have HRA := Lib.hid hra
      have hsl := HLI.out.below hbo
      obtain ⟨B, hB⟩ : ∃ z, byteL lies i = z := ⟨_, rfl⟩
      have hBb : 0 ≤ B ∧ B < 256 := by rw [← hB]; exact byteL_bd HBY.out i
      have HB := Lib.hid hB
      have hii : (i : Int) < (m : Int) := by omega
      have hwi : IntKind.i64.wrap ((i : Int) + 1) = (i : Int) + 1 := wrap_small _ (by omega) (by omega)
      have hwk : IntKind.i64.wrap ((k : Int) + 1) = (k : Int) + 1 := wrap_small _ (by omega) (by omega)
      have wB : IntKind.i64.wrap B = B := wrap_small _ (by omega) (by omega)
      have hB3 : B.tmod 3 = B % 3 := Int.tmod_eq_emod_of_nonneg hBb.1
      have hB30 : B.tmod 30 = B % 30 := Int.tmod_eq_emod_of_nonneg hBb.1
      clear hil hr hra hB hbo
      go_wp2_with fail
      refine (byteOf_any lies (.slice ba nb bc) i wo hsl).mono ?_
      rintro e w' ⟨rfl, hw'⟩
      subst hw'
      rw [HB.out]
      clear hsl
      by_cases h3 : B % 3 = 0
      · have m3 : B.tmod 3 = 0 := by rw [hB3, h3]
        by_cases hnb : nb = 0
        · have db : ((nb : Int) == 0) = true := beq_iff_eq.2 (by omega)
          have HWR : Hid (wrongR lies i ⟨rt, rs, rl⟩ = ⟨rt, rs, rl⟩) := Lib.hid (by unfold wrongR; rw [if_pos (.inr (List.length_eq_zero_iff.1 (by rw [HNB.out]; exact hnb)))])
          clear hnb h3
          have HC2 : Hid (k = (chgL list lies (i + 1)).length) := Lib.hid (by rw [chg_same HRA.out HWR.out]; exact HC.out)
          have HO2 : Hid (wo.ownsRow N 83 3 (.slice (some ⟨g, 0, none⟩) m oc) m (((wrP list lies (i + 1)).map rpRow).flatten)) := Lib.hid (by rw [wrP_same HRA.out HWR.out]; exact HO.out)
          clear p0 p1 p2 q0 q1 q2 f1 f2 hB3 hB30 HO HC
          go_wp2_with fail
          go_roundw
          case rel => exact ⟨i + 1, k, by omega, by omega, by go_num, by go_num, HC2, HO2, HBr⟩
          case measure => simp [intOf]; omega
        · have db : ((nb : Int) == 0) = false := beq_eq_false_iff_ne.2 (by omega)
          have HNE : Hid (¬ (byteL lies i % 3 ≠ 0 ∨ lies = [])) := Lib.hid (by
            rintro (h | h)
            · rw [HB.out] at h; exact h h3
            · rw [← HNB.out, h] at hnb; exact hnb rfl)
          obtain ⟨nv, hnv⟩ : ∃ z, B % 30 = z := ⟨_, rfl⟩
          have m30 : B.tmod 30 = nv := by rw [hB30, hnv]
          have wN : IntKind.i64.wrap nv = nv := wrap_small _ (by omega) (by omega)
          have HNV : Hid (byteL lies i % 30 = nv) := Lib.hid (by rw [HB.out]; exact hnv)
          clear hnb h3 hnv hB3 hB30
          by_cases hs0 : 0 ≤ rs
          · have ds : decide (0 ≤ rs) = true := decide_eq_true hs0
            have HS0 := Lib.hid hs0
            clear hs0
            have HWR : Hid (wrongR lies i ⟨rt, rs, rl⟩ = ⟨rt, nv, rl⟩) := Lib.hid (by unfold wrongR; rw [if_neg HNE.out, if_pos HS0.out, HNV.out])
            go_upto_region 11 with fail
            obtain ⟨w2, hw2⟩ : ∃ y, wo.setCell ⟨g, i * 3 + 1, none⟩ (.int .i64 nv) = y := ⟨_, rfl⟩
            have hst := HO.out.stored (i * 3 + 1) (.int .i64 nv)
            have HO2 : Hid (w2.ownsRow N 83 3 (.slice (some ⟨g, 0, none⟩) m oc) m (((wrP list lies (i + 1)).map rpRow).flatten)) := Lib.hid (by
              rw [wrP_succ HRA.out, HWR.out, rp_setS nv (wrP_at HRA.out), ← hw2]
              exact hst.1)
            have hgN := (HO.out.lt g rfl).1
            have HB2 : Hid (Below N w w2) := Lib.hid (by rw [← hw2]; exact HBr.out.setCell (p := ⟨g, i * 3 + 1, none⟩) hgN _)
            have HZ2 : Hid (N ≤ w2.heap.size) := Lib.hid (by have := HB2.out.size; rw [HNN.out] at this; exact this)
            have HW2 := Lib.hid hw2
            clear hst hw2 hgN f1 f2 p0 p1 p2 q0 q1 q2
            rw [HW2.out]
            have hb2 : Below w.heap.size w w2 := by rw [HNN.out]; exact HB2.out
            obtain ⟨q0, q1, q2⟩ := rp_cells (HL.out.below hb2) HRA.out
            have hrn := wrP_next (lies := lies) HRA.out
            rw [HWR.out] at hrn
            obtain ⟨p0, p1, p2⟩ := rp_cells (rows_sl HO2.out (by rw [wrP_len, HM.out])) hrn
            rw [Nat.zero_add] at p0 p1 p2
            clear hrn hb2 HO HBr
            by_cases e1 : nv = rs
            · have HC2 : Hid (k = (chgL list lies (i + 1)).length) := Lib.hid (by rw [chg_same HRA.out (by rw [HWR.out, e1])]; exact HC.out)
              subst e1
              refine wp_region_seqW (.is (.slice (some ⟨g, 0, none⟩) m oc) :: .is (.int .i64 (i : Int)) :: .is (.pointer (some ⟨g, i * 3, none⟩)) :: .is (.agg #[.int .i64 rt, .int .i64 nv, .int .i64 rl]) :: .is (.slice (some ⟨lb, lf, none⟩) m lc) :: .is (.int .i64 (i : Int)) :: .is (.pointer (some ⟨lb, lf + i * 3, none⟩)) :: .is (.agg #[.int .i64 rt, .int .i64 nv, .int .i64 rl]) :: .is (.bool false) :: []) rfl mix (by kernel_rfl) (by kernel_rfl) ?_
              iterate 8
                refine seq_on (by rfl) (fun w4 hb4 _ => ?_) ?_
                · have p0' := bAt hb4 p0
                  have p1' := bAt hb4 p1
                  have p2' := bAt hb4 p2
                  have q0' := bAt hb4 q0
                  have q1' := bAt hb4 q1
                  have q2' := bAt hb4 q2
                  simp [opOK, go_sem, p0', p1', p2', q0', q1', q2', hii, Below.refl]
                  try exact rfl
                simp only [Act.put, List.setIfInBounds_toArray, List.set_cons_succ, List.set_cons_zero]
              refine seq_on (by rfl) (fun w4 hb4 _ => ?_) ?_
              · simp [opOK, go_sem, Below.refl]
                try exact rfl
              simp only [Act.put, List.setIfInBounds_toArray, List.set_cons_succ, List.set_cons_zero]
              refine seq_end fun w4 hb4 hH => ?_
              have HO4 := Lib.hid (ownsN_below HO2.out hb4)
              have HB4 : Hid (Below N w w4) := Lib.hid (HB2.out.trans (hb4.mono HZ2.out))
              clear hH hb4 p0 p1 p2 q0 q1 q2 HO2 HB2
              go_wp2_with fail
              go_roundw
              case rel => exact ⟨i + 1, k, by omega, by omega, by go_num, by go_num, HC2, HO4, HB4⟩
              case measure => simp [intOf]; omega
            · have HC2 : Hid (k + 1 = (chgL list lies (i + 1)).length) := Lib.hid (by
                rw [chg_diff HRA.out (by rw [HWR.out]; intro h; cases h; exact e1 rfl), ← HC.out])
              refine wp_region_seqW (.is (.slice (some ⟨g, 0, none⟩) m oc) :: .is (.int .i64 (i : Int)) :: .is (.pointer (some ⟨g, i * 3, none⟩)) :: .is (.agg #[.int .i64 rt, .int .i64 nv, .int .i64 rl]) :: .is (.slice (some ⟨lb, lf, none⟩) m lc) :: .is (.int .i64 (i : Int)) :: .is (.pointer (some ⟨lb, lf + i * 3, none⟩)) :: .is (.agg #[.int .i64 rt, .int .i64 rs, .int .i64 rl]) :: .is (.bool true) :: []) rfl mix (by kernel_rfl) (by kernel_rfl) ?_
              iterate 8
                refine seq_on (by rfl) (fun w4 hb4 _ => ?_) ?_
                · have p0' := bAt hb4 p0
                  have p1' := bAt hb4 p1
                  have p2' := bAt hb4 p2
                  have q0' := bAt hb4 q0
                  have q1' := bAt hb4 q1
                  have q2' := bAt hb4 q2
                  simp [opOK, go_sem, p0', p1', p2', q0', q1', q2', hii, Below.refl]
                  try exact rfl
                simp only [Act.put, List.setIfInBounds_toArray, List.set_cons_succ, List.set_cons_zero]
              refine seq_on (by rfl) (fun w4 hb4 _ => ?_) ?_
              · simp [opOK, go_sem, Below.refl, e1]
                try exact rfl
              simp only [Act.put, List.setIfInBounds_toArray, List.set_cons_succ, List.set_cons_zero]
              refine seq_end fun w4 hb4 hH => ?_
              clear e1
              have HO4 := Lib.hid (ownsN_below HO2.out hb4)
              have HB4 : Hid (Below N w w4) := Lib.hid (HB2.out.trans (hb4.mono HZ2.out))
              clear hH hb4 p0 p1 p2 q0 q1 q2 HO2 HB2
              go_wp2_with fail
              go_roundw
              case rel => exact ⟨i + 1, k + 1, by omega, by omega, by go_num, by go_num, HC2, HO4, HB4⟩
              case measure => simp [intOf]; omega
          · have ds : decide (0 ≤ rs) = false := decide_eq_false hs0
            have HS0 : Hid (rs < 0) := Lib.hid (by omega)
            clear hs0
            by_cases hl0 : 0 ≤ rl
            · have dl : decide (0 ≤ rl) = true := decide_eq_true hl0
              have HL0 := Lib.hid hl0
              clear hl0
              have HWR : Hid (wrongR lies i ⟨rt, rs, rl⟩ = ⟨rt, rs, nv⟩) := Lib.hid (by unfold wrongR; rw [if_neg HNE.out, if_neg (Int.not_le.2 HS0.out), if_pos HL0.out, HNV.out])
              go_upto_region 11 with fail
              obtain ⟨w2, hw2⟩ : ∃ y, wo.setCell ⟨g, i * 3 + 2, none⟩ (.int .i64 nv) = y := ⟨_, rfl⟩
              have hst := HO.out.stored (i * 3 + 2) (.int .i64 nv)
              have HO2 : Hid (w2.ownsRow N 83 3 (.slice (some ⟨g, 0, none⟩) m oc) m (((wrP list lies (i + 1)).map rpRow).flatten)) := Lib.hid (by
                rw [wrP_succ HRA.out, HWR.out, rp_setL nv (wrP_at HRA.out), ← hw2]
                exact hst.1)
              have hgN := (HO.out.lt g rfl).1
              have HB2 : Hid (Below N w w2) := Lib.hid (by rw [← hw2]; exact HBr.out.setCell (p := ⟨g, i * 3 + 2, none⟩) hgN _)
              have HZ2 : Hid (N ≤ w2.heap.size) := Lib.hid (by have := HB2.out.size; rw [HNN.out] at this; exact this)
              have HW2 := Lib.hid hw2
              clear hst hw2 hgN f1 f2 p0 p1 p2 q0 q1 q2
              rw [HW2.out]
              have hb2 : Below w.heap.size w w2 := by rw [HNN.out]; exact HB2.out
              obtain ⟨q0, q1, q2⟩ := rp_cells (HL.out.below hb2) HRA.out
              have hrn := wrP_next (lies := lies) HRA.out
              rw [HWR.out] at hrn
              obtain ⟨p0, p1, p2⟩ := rp_cells (rows_sl HO2.out (by rw [wrP_len, HM.out])) hrn
              rw [Nat.zero_add] at p0 p1 p2
              clear hrn hb2 HO HBr
              by_cases e1 : nv = rl
              · have HC2 : Hid (k = (chgL list lies (i + 1)).length) := Lib.hid (by rw [chg_same HRA.out (by rw [HWR.out, e1])]; exact HC.out)
                subst e1
                refine wp_region_seqW (.is (.slice (some ⟨g, 0, none⟩) m oc) :: .is (.int .i64 (i : Int)) :: .is (.pointer (some ⟨g, i * 3, none⟩)) :: .is (.agg #[.int .i64 rt, .int .i64 rs, .int .i64 nv]) :: .is (.slice (some ⟨lb, lf, none⟩) m lc) :: .is (.int .i64 (i : Int)) :: .is (.pointer (some ⟨lb, lf + i * 3, none⟩)) :: .is (.agg #[.int .i64 rt, .int .i64 rs, .int .i64 nv]) :: .is (.bool false) :: []) rfl mix (by kernel_rfl) (by kernel_rfl) ?_
                iterate 8
                  refine seq_on (by rfl) (fun w4 hb4 _ => ?_) ?_
                  · have p0' := bAt hb4 p0
                    have p1' := bAt hb4 p1
                    have p2' := bAt hb4 p2
                    have q0' := bAt hb4 q0
                    have q1' := bAt hb4 q1
                    have q2' := bAt hb4 q2
                    simp [opOK, go_sem, p0', p1', p2', q0', q1', q2', hii, Below.refl]
                    try exact rfl
                  simp only [Act.put, List.setIfInBounds_toArray, List.set_cons_succ, List.set_cons_zero]
                refine seq_on (by rfl) (fun w4 hb4 _ => ?_) ?_
                · simp [opOK, go_sem, Below.refl]
                  try exact rfl
                simp only [Act.put, List.setIfInBounds_toArray, List.set_cons_succ, List.set_cons_zero]
                refine seq_end fun w4 hb4 hH => ?_
                have HO4 := Lib.hid (ownsN_below HO2.out hb4)
                have HB4 : Hid (Below N w w4) := Lib.hid (HB2.out.trans (hb4.mono HZ2.out))
                clear hH hb4 p0 p1 p2 q0 q1 q2 HO2 HB2
                go_wp2_with fail
                go_roundw
                case rel => exact ⟨i + 1, k, by omega, by omega, by go_num, by go_num, HC2, HO4, HB4⟩
                case measure => simp [intOf]; omega
              · have HC2 : Hid (k + 1 = (chgL list lies (i + 1)).length) := Lib.hid (by
                  rw [chg_diff HRA.out (by rw [HWR.out]; intro h; cases h; exact e1 rfl), ← HC.out])
                refine wp_region_seqW (.is (.slice (some ⟨g, 0, none⟩) m oc) :: .is (.int .i64 (i : Int)) :: .is (.pointer (some ⟨g, i * 3, none⟩)) :: .is (.agg #[.int .i64 rt, .int .i64 rs, .int .i64 nv]) :: .is (.slice (some ⟨lb, lf, none⟩) m lc) :: .is (.int .i64 (i : Int)) :: .is (.pointer (some ⟨lb, lf + i * 3, none⟩)) :: .is (.agg #[.int .i64 rt, .int .i64 rs, .int .i64 rl]) :: .is (.bool true) :: []) rfl mix (by kernel_rfl) (by kernel_rfl) ?_
                iterate 8
                  refine seq_on (by rfl) (fun w4 hb4 _ => ?_) ?_
                  · have p0' := bAt hb4 p0
                    have p1' := bAt hb4 p1
                    have p2' := bAt hb4 p2
                    have q0' := bAt hb4 q0
                    have q1' := bAt hb4 q1
                    have q2' := bAt hb4 q2
                    simp [opOK, go_sem, p0', p1', p2', q0', q1', q2', hii, Below.refl]
                    try exact rfl
                  simp only [Act.put, List.setIfInBounds_toArray, List.set_cons_succ, List.set_cons_zero]
                refine seq_on (by rfl) (fun w4 hb4 _ => ?_) ?_
                · simp [opOK, go_sem, Below.refl, e1]
                  try exact rfl
                simp only [Act.put, List.setIfInBounds_toArray, List.set_cons_succ, List.set_cons_zero]
                refine seq_end fun w4 hb4 hH => ?_
                clear e1
                have HO4 := Lib.hid (ownsN_below HO2.out hb4)
                have HB4 : Hid (Below N w w4) := Lib.hid (HB2.out.trans (hb4.mono HZ2.out))
                clear hH hb4 p0 p1 p2 q0 q1 q2 HO2 HB2
                go_wp2_with fail
                go_roundw
                case rel => exact ⟨i + 1, k + 1, by omega, by omega, by go_num, by go_num, HC2, HO4, HB4⟩
                case measure => simp [intOf]; omega
            · have dl : decide (0 ≤ rl) = false := decide_eq_false hl0
              have HWR : Hid (wrongR lies i ⟨rt, rs, rl⟩ = ⟨rt, rs, rl⟩) := Lib.hid (by unfold wrongR; rw [if_neg HNE.out, if_neg (Int.not_le.2 HS0.out), if_neg hl0])
              clear hl0
              have HC2 : Hid (k = (chgL list lies (i + 1)).length) := Lib.hid (by rw [chg_same HRA.out HWR.out]; exact HC.out)
              have HO2 : Hid (wo.ownsRow N 83 3 (.slice (some ⟨g, 0, none⟩) m oc) m (((wrP list lies (i + 1)).map rpRow).flatten)) := Lib.hid (by rw [wrP_same HRA.out HWR.out]; exact HO.out)
              have HB2 := HBr
              have HZ2 : Hid (N ≤ wo.heap.size) := Lib.hid (by have := HB2.out.size; rw [HNN.out] at this; exact this)
              clear f1 f2 HO HC HBr
              go_upto_region 11 with fail
              refine wp_region_seqW (.is (.slice (some ⟨g, 0, none⟩) m oc) :: .is (.int .i64 (i : Int)) :: .is (.pointer (some ⟨g, i * 3, none⟩)) :: .is (.agg #[.int .i64 rt, .int .i64 rs, .int .i64 rl]) :: .is (.slice (some ⟨lb, lf, none⟩) m lc) :: .is (.int .i64 (i : Int)) :: .is (.pointer (some ⟨lb, lf + i * 3, none⟩)) :: .is (.agg #[.int .i64 rt, .int .i64 rs, .int .i64 rl]) :: .is (.bool false) :: []) rfl mix (by kernel_rfl) (by kernel_rfl) ?_
              iterate 8
                refine seq_on (by rfl) (fun w4 hb4 _ => ?_) ?_
                · have p0' := bAt hb4 p0
                  have p1' := bAt hb4 p1
                  have p2' := bAt hb4 p2
                  have q0' := bAt hb4 q0
                  have q1' := bAt hb4 q1
                  have q2' := bAt hb4 q2
                  simp [opOK, go_sem, p0', p1', p2', q0', q1', q2', hii, Below.refl]
                  try exact rfl
                simp only [Act.put, List.setIfInBounds_toArray, List.set_cons_succ, List.set_cons_zero]
              refine seq_on (by rfl) (fun w4 hb4 _ => ?_) ?_
              · simp [opOK, go_sem, Below.refl]
                try exact rfl
              simp only [Act.put, List.setIfInBounds_toArray, List.set_cons_succ, List.set_cons_zero]
              refine seq_end fun w4 hb4 hH => ?_
              have HO4 := Lib.hid (ownsN_below HO2.out hb4)
              have HB4 : Hid (Below N w w4) := Lib.hid (HB2.out.trans (hb4.mono HZ2.out))
              clear hH hb4 p0 p1 p2 q0 q1 q2 HO2 HB2
              go_wp2_with fail
              go_roundw
              case rel => exact ⟨i + 1, k, by omega, by omega, by go_num, by go_num, HC2, HO4, HB4⟩
              case measure => simp [intOf]; omega


      · have HWR : Hid (wrongR lies i ⟨rt, rs, rl⟩ = ⟨rt, rs, rl⟩) := Lib.hid (by unfold wrongR; rw [if_pos (.inl (by rw [HB.out]; exact h3))])
        have h12 : B.tmod 3 = 1 ∨ B.tmod 3 = 2 := by rw [hB3]; omega
        clear h3 hB3
        rcases h12 with m3 | m3
        · skip
          have HC2 : Hid (k = (chgL list lies (i + 1)).length) := Lib.hid (by rw [chg_same HRA.out HWR.out]; exact HC.out)
          have HO2 : Hid (wo.ownsRow N 83 3 (.slice (some ⟨g, 0, none⟩) m oc) m (((wrP list lies (i + 1)).map rpRow).flatten)) := Lib.hid (by rw [wrP_same HRA.out HWR.out]; exact HO.out)
          clear p0 p1 p2 q0 q1 q2 f1 f2 hB30 HO HC
          go_wp2_with fail
          go_roundw
          case rel => exact ⟨i + 1, k, by omega, by omega, by go_num, by go_num, HC2, HO2, HBr⟩
          case measure => simp [intOf]; omega
        · skip
          have HC2 : Hid (k = (chgL list lies (i + 1)).length) := Lib.hid (by rw [chg_same HRA.out HWR.out]; exact HC.out)
          have HO2 : Hid (wo.ownsRow N 83 3 (.slice (some ⟨g, 0, none⟩) m oc) m (((wrP list lies (i + 1)).map rpRow).flatten)) := Lib.hid (by rw [wrP_same HRA.out HWR.out]; exact HO.out)
          clear p0 p1 p2 q0 q1 q2 f1 f2 hB30 HO HC
          go_wp2_with fail
          go_roundw
          case rel => exact ⟨i + 1, k, by omega, by omega, by go_num, by go_num, HC2, HO2, HBr⟩
          case measure => simp [intOf]; omega
    · obtain rfl : i = m := by omega
      have hc := HC.out
      have HO9 : Hid (wo.ownsRow N 83 3 (.slice oa i oc) i (((wrongL list lies).map rpRow).flatten)) := Lib.hid (by
        have h := HO.out
        have e : wrP list lies i = wrongL list lies := by rw [← HM.out]; exact wrP_all
        rw [e] at h; exact h)
      have HC9 := HC
      clear hc HO HC
      go_wp2_with fail
      go_returns
      exact ⟨_, by rw [← HC9.out]; rfl, HBr.out, HO9.out⟩
end Go.Proofs.YtpfpjbglpibdoaaGreatDoor

/- Chapter 5: the reports that are left without some, by a closure of HeardRight: the walk. -/
namespace Go.Proofs.YtpfpjbglpibdoaaGreatDoor
open Go Go.RowKit Go.Oche Go.Proofs

section
variable {list : List Rp} {idx : List Nat} {i : Nat} {r : Rp}
def dropTo (list : List Rp) (idx : List Nat) (i : Nat) : List Rp := ((list.zipIdx.take i).filter fun p => decide (p.2 ∉ idx)).map (·.1)
end
end Go.Proofs.YtpfpjbglpibdoaaGreatDoor
