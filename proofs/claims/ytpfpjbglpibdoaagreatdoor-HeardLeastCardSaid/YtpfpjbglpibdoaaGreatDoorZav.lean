/- The texts QD, QE, CpyO, SC, Ins, in build order. -/
import Derived.Test.YtpfpjbglpibdoaaGreatDoorZau
import Derived.Deep.MidRow

/- Chapter 5: reports, in, holds. -/
namespace Go.Proofs.YtpfpjbglpibdoaaGreatDoor
open Go Go.RowKit Go.Oche Go.Proofs

theorem rpRow_one (r : Rp) : ∀ u ∈ rpRow r, u.oneCell' = true := fun u hu => by simp [rpRow] at hu; rcases hu with rfl | rfl | rfl <;> rfl
set_option maxRecDepth 100000 in
set_option maxHeartbeats 1000000 in
theorem reports_any {S S' S'' : Nat → Prop} (x : Thr) (hbs : Bytes x.said) (dv sv tv : Value) (out : List Sp) (most : Nat) (hm : out.length ≤ most) (hm8 : most ≤ 8) (w : World) (hd : Sl S w dv (u8s x.darts)) (hs : Sl S' w sv (u8s x.said)) (ht : SlN 3 S'' w tv (out.map visRw)) :
    Calls Tryz.prog 35 #[thrV x dv sv, tv, .int .i64 (most : Int)] w fun e w' => ∃ v, e = .returned v ∧ Below w.heap.size w w' ∧ w'.ownsRow w.heap.size 83 3 v (repsN x.said out out.length).length (((repsN x.said out out.length).map rpRow).flatten) := by
  obtain ⟨a, cap, rfl, -, -⟩ := hd.form
  obtain ⟨a', cap', rfl, h2, h3⟩ := hs.form
  obtain ⟨ta, tc, rfl, ht2, ht3⟩ := ht.form
  have hdl : (u8s x.darts).length = x.darts.length := List.length_map ..
  have hsl : (u8s x.said).length = x.said.length := List.length_map ..
  have htl : (out.map visRw).length = out.length := List.length_map ..
  rw [hdl]
  rw [hsl] at h2 hs ⊢
  rw [htl] at ht2 ht ⊢
  unfold maxLen at h3 ht3
  obtain ⟨dl, hdl2⟩ : ∃ n, x.darts.length = n := ⟨_, rfl⟩
  obtain ⟨sl, hsl2⟩ : ∃ n, x.said.length = n := ⟨_, rfl⟩
  obtain ⟨n, hn⟩ : ∃ n, out.length = n := ⟨_, rfl⟩
  rw [hdl2]
  rw [hsl2] at h2 hs ⊢
  rw [hn] at hm ht2 ht ⊢
  obtain ⟨N, hN⟩ : ∃ N, w.heap.size = N := ⟨_, rfl⟩
  obtain ⟨w1, hw1⟩ : ∃ y, w.alloc (.cells #[.int .u8 x.st, .int .u8 x.inn, .int .u8 x.out, .int .u8 x.pl, .int .u16 (x.which : Int), .slice a dl cap, .slice a' sl cap'] 76) = y := ⟨_, rfl⟩
  have hb1 : Below w.heap.size w w1 := by rw [← hw1]; exact aB _ _
  have k : w1.heap[N]? = some (.cells #[.int .u8 x.st, .int .u8 x.inn, .int .u8 x.out, .int .u8 x.pl, .int .u16 (x.which : Int), .slice a dl cap, .slice a' sl cap'] 76 (0, 0)) := by rw [← hw1, ← hN]; exact World.alloc_heap_new _ _
  have hz1 : w1.heap.size = N + 1 := by rw [← hw1]; simp; omega
  have x6 : w1.cell? ⟨N, 6, none⟩ = some (.slice a' sl cap') := by rw [cell_of_heap k]; rfl
  obtain ⟨w2, hw2⟩ : ∃ y, w1.alloc (.cells #[] 83) = y := ⟨_, rfl⟩
  have hb2 : Below w1.heap.size w1 w2 := by rw [← hw2]; exact aB _ _
  have k2 : w2.heap[N + 1]? = some (.cells #[] 83 (0, 0)) := by rw [← hw2, ← hz1]; exact World.alloc_heap_new _ _
  have HO2 : Hid (w2.ownsRow (N + 1) 83 3 (.slice (some ⟨N + 1, 0, none⟩) 0 0) (repsN x.said out 0).length (((repsN x.said out 0).map rpRow).flatten)) := Lib.hid (by
    have e : repsN x.said out 0 = [] := by unfold repsN; rw [List.take_zero]; rfl
    rw [e]; exact own_empty k2 (Nat.le_refl _))
  have HSD := Lib.hid (hs.below hb1)
  have HT := Lib.hid (ht.below hb1)
  have HB := Lib.hid hb1
  have HB2 : Hid (Below (N + 1) w1 w2) := Lib.hid (by rw [← hz1]; exact hb2)
  have HZ2 : Hid (N + 1 ≤ w2.heap.size) := Lib.hid (by rw [← hw2]; simp; omega)
  have HW := Lib.hid hw1
  have HW2 := Lib.hid hw2
  have HN := Lib.hid hN
  have HZ1 := Lib.hid hz1
  have HBS := Lib.hid hbs
  have HLN := Lib.hid hn
  unfold thrV
  clear hd hs ht hb1 hw1 hw2 hb2 hN hz1 k k2 hbs hn hdl hsl htl hdl2 hsl2
  go_enter Tryz.func35, Tryz.ntmps35
  go_upto_region 1 with fail
  rw [HW.out, HN.out]
  go_upto_region 3 with fail
  rw [HW2.out, HZ1.out]
  go_wp2_with fail
  go_loopw [7, 8] (fun ov iv wr => ∃ (i : Nat) (v : Value), v = ov ∧ i ≤ n ∧ iv = .int .i64 (i : Int) ∧ Hid (wr.ownsRow (N + 1) 83 3 v (repsN x.said out i).length (((repsN x.said out i).map rpRow).flatten)) ∧ Hid (N + 1 ≤ wr.heap.size) ∧ Hid (Below (N + 1) w1 wr)) (fun _ iv _ => n - (intOf iv).toNat)
  case atStart => exact ⟨0, _, rfl, by omega, by go_num, HO2, HZ2, HB2⟩
  case round =>
    clear HO2 HZ2 HB2
    obtain ⟨i, v, rfl, hi, rfl, HO, HZ, HBr⟩ := hrel
    obtain ⟨wo, rfl⟩ : ∃ wo : World, wo = wr := ⟨_, rfl⟩
    have hbo : Below w1.heap.size w1 wo := by rw [HZ1.out]; exact HBr.out
    have x6 := bAt hbo x6
    obtain ⟨oa, oc, hov⟩ := owns_form HO.out
    subst hov
    obtain ⟨m, hm2⟩ : ∃ m, (repsN x.said out i).length = m := ⟨_, rfl⟩
    have hmi : m ≤ i := by rw [← hm2]; exact repsN_len
    have HM := Lib.hid hm2
    rw [hm2] at HO ⊢
    clear hm2
    by_cases hlt : i < n
    · have d2 : decide ((m : Int) < (most : Int)) = true := decide_eq_true (by omega)
      have d2n : decide (m < most) = true := decide_eq_true (by omega)
      have hil : i < out.length := by rw [HLN.out]; exact hlt
      obtain ⟨sp, hsp⟩ : ∃ s, out[i] = s := ⟨_, rfl⟩
      have hsa : out[i]? = some sp := by rw [List.getElem?_eq_getElem hil, hsp]
      obtain ⟨tb, tf, hta, -, -, hc⟩ := (HT.out.below hbo).cell (i := i) (by rw [List.length_map]; exact hil)
      cases hta
      have hrow : (out.map visRw)[i]'(by rw [List.length_map]; exact hil) = visRw sp := by rw [List.getElem_map, hsp]
      rw [hrow] at hc
      have p0 := hc 0 (.int .i64 sp.score) rfl
      have p1 := hc 1 (.int .i64 sp.en.left) rfl
      rw [Nat.add_zero] at p0
      have HSO := Lib.hid (HSD.out.below hbo)
      have HSA := Lib.hid hsa
      obtain ⟨scv, hscv⟩ : ∃ z, sp.score = z := ⟨_, rfl⟩
      obtain ⟨lev, hlev⟩ : ∃ z, sp.en.left = z := ⟨_, rfl⟩
      rw [hscv] at p0
      rw [hlev] at p1
      have HSC := Lib.hid hscv
      have HLE := Lib.hid hlev
      have hli : (i : Int) < (n : Int) := by omega
      obtain ⟨z, hz⟩ : ∃ z, byteL x.said i = z := ⟨_, rfl⟩
      have hzb : 0 ≤ z ∧ z < 256 := by rw [← hz]; exact byteL_bd HBS.out i
      have HZZ := Lib.hid hz
      have hzm : z.tmod 4 = z % 4 := Int.tmod_eq_emod_of_nonneg hzb.1
      obtain ⟨R, hR⟩ : ∃ R, wo.heap.size = R := ⟨_, rfl⟩
      have hnt : tb < R := by rw [← hR]; exact World.block_lt_of_cell? wo _ p0
      have hwi : IntKind.i64.wrap ((i : Int) + 1) = (i : Int) + 1 := wrap_small _ (by omega) (by omega)
      have HR := Lib.hid hR
      have hbz := HZ.out
      clear hbo hsp hsa hc hrow hscv hlev hil hz hR
      go_upto_region 6 with fail
      obtain ⟨w3, hw3⟩ : ∃ y, wo.alloc (.cells #[.int .i64 (i : Int), .int .i64 (-1), .int .i64 (-1)] 83) = y := ⟨_, rfl⟩
      have hb3 : Below wo.heap.size wo w3 := by rw [← hw3]; exact aB _ _
      have hk3 : w3.heap[R]? = some (.cells #[.int .i64 (i : Int), .int .i64 (-1), .int .i64 (-1)] 83 (0, 0)) := by rw [← hw3, ← HR.out]; exact World.alloc_heap_new _ _
      rw [hw3, HR.out]
      have x6 := bAt hb3 x6
      have HW3 := Lib.hid hw3
      clear hw3 hbz
      go_wp2_with fail
      refine (byteOf_any x.said (.slice a' sl cap') i w3 (HSO.out.below hb3)).mono ?_
      rintro e w' ⟨rfl, hw'⟩
      subst hw'
      rw [HZZ.out]
      have p0 := bAt hb3 p0
      have p1 := bAt hb3 p1
      have HK3 := Lib.hid hk3
      have HO3 := Lib.hid (ownsN_below HO.out hb3)
      have HNE : Hid ((Value.slice oa m oc).ownBlock ≠ some R) := Lib.hid fun e => Nat.lt_irrefl R (Nat.lt_of_lt_of_eq (HO.out.lt R e).2 HR.out)
      have HB3 : Hid (Below (N + 1) w1 w3) := Lib.hid (HBr.out.trans (hb3.mono HZ.out))
      have HZ3 : Hid (N + 1 ≤ w3.heap.size) := Lib.hid (Nat.le_trans HZ.out hb3.size)
      have HRN : Hid (N + 1 ≤ R) := Lib.hid (by rw [← HR.out]; exact HZ.out)
      clear hb3 hk3 HO HZ HBr x6 HSO HW3
      have hk4 : z % 4 = 0 ∨ z % 4 = 1 ∨ z % 4 = 2 ∨ z % 4 = 3 := by omega
      rcases hk4 with h4 | h4 | h4 | h4
      · skip
        have m4 : z.tmod 4 = 0 := by rw [hzm, h4]
        have HIS : Hid (repIs x.said i = true) := Lib.hid (by unfold repIs; rw [HZZ.out, h4]; simp)
        have HREP : Hid (rpRow (repOf x.said i sp) = [.int .i64 (i : Int), .int .i64 scv, .int .i64 lev]) := Lib.hid (by unfold rpRow repOf; simp only; rw [HZZ.out, h4, HSC.out, HLE.out]; simp)
        clear h4 hzm hzb
        have r1 : w3.cell? ⟨R, 1, none⟩ = some (.int .i64 (-1)) := by rw [cell_of_heap HK3.out]; rfl
        have fr1 : w3.frozen? ⟨R, 1, none⟩ = false := frozen_of_heap HK3.out
        obtain ⟨w4, hw4⟩ : ∃ y, w3.setCell ⟨R, 1, none⟩ (.int .i64 scv) = y := ⟨_, rfl⟩
        have hg := grown_set w3 R 1 (.int .i64 scv)
        rw [hw4] at hg
        have HK4 : Hid (w4.heap[R]? = some (.cells #[.int .i64 (i : Int), .int .i64 scv, .int .i64 (-1)] 83 (0, 0))) := Lib.hid (by rw [← hw4]; exact heap_setCell_at HK3.out _)
        have HO4 := Lib.hid (HO3.out.kept hg (.inr HNE.out))
        have HB4 : Hid (Below (N + 1) w1 w4) := Lib.hid (by rw [← hw4]; exact HB3.out.setCell (p := ⟨R, 1, none⟩) HRN.out _)
        have HZ4 : Hid (N + 1 ≤ w4.heap.size) := Lib.hid (Nat.le_trans HZ3.out hg.size)
        have hq : ∀ (o : Nat) (u : Value), w3.cell? ⟨tb, o, none⟩ = some u → w4.cell? ⟨tb, o, none⟩ = some u := fun o u hu => (World.cell?_of_block (w := w3) (hg.block tb (World.block_lt_of_cell? w3 _ hu) (fun e => by have := Option.some.inj e; omega))).trans hu
        have HW4 := Lib.hid hw4
        clear hw4 hg
        go_upto_region 9 with fail
        rw [HW4.out]
        replace p0 := hq _ _ p0
        replace p1 := hq _ _ p1
        clear hq r1 fr1
        have r2 : w4.cell? ⟨R, 2, none⟩ = some (.int .i64 (-1)) := by rw [cell_of_heap HK4.out]; rfl
        have fr2 : w4.frozen? ⟨R, 2, none⟩ = false := frozen_of_heap HK4.out
        obtain ⟨w5, hw5⟩ : ∃ y, w4.setCell ⟨R, 2, none⟩ (.int .i64 lev) = y := ⟨_, rfl⟩
        have hg := grown_set w4 R 2 (.int .i64 lev)
        rw [hw5] at hg
        have HK5 : Hid (w5.heap[R]? = some (.cells #[.int .i64 (i : Int), .int .i64 scv, .int .i64 lev] 83 (0, 0))) := Lib.hid (by rw [← hw5]; exact heap_setCell_at HK4.out _)
        have HO5 := Lib.hid (HO4.out.kept hg (.inr HNE.out))
        have HB5 : Hid (Below (N + 1) w1 w5) := Lib.hid (by rw [← hw5]; exact HB4.out.setCell (p := ⟨R, 2, none⟩) HRN.out _)
        have HZ5 : Hid (N + 1 ≤ w5.heap.size) := Lib.hid (Nat.le_trans HZ4.out hg.size)
        have hq : ∀ (o : Nat) (u : Value), w4.cell? ⟨tb, o, none⟩ = some u → w5.cell? ⟨tb, o, none⟩ = some u := fun o u hu => (World.cell?_of_block (w := w4) (hg.block tb (World.block_lt_of_cell? w4 _ hu) (fun e => by have := Option.some.inj e; omega))).trans hu
        have HW5 := Lib.hid hw5
        clear hw5 hg
        go_upto_region 11 with fail
        rw [HW5.out]
        replace p0 := hq _ _ p0
        replace p1 := hq _ _ p1
        clear hq r2 fr2
        have r0 : w5.cell? ⟨R, 0, none⟩ = some (.int .i64 (i : Int)) := by rw [cell_of_heap HK5.out]; rfl
        have r1 : w5.cell? ⟨R, 1, none⟩ = some (.int .i64 scv) := by rw [cell_of_heap HK5.out]; rfl
        have r2 : w5.cell? ⟨R, 2, none⟩ = some (.int .i64 lev) := by rw [cell_of_heap HK5.out]; rfl
        have hm9 : m + 1 ≤ 100000 := by omega
        clear p0 p1
        go_wp2_with (at_builtin; refine wpList_appendN rfl (.tmp 65) (.tmp 67) 53 rfl (N + 1) 83 (.agg #[.int .i64 0, .int .i64 0, .int .i64 0]) 3 24 Tryz.underlying53 info_rp rfl (by decide) (.slice oa m oc) m (((repsN x.said out i).map rpRow).flatten) rfl (HO5.out.alloc _) w5.heap.size 0 1 1 (rpRow (repOf x.said i sp)) rfl (by rw [HREP.out]; rfl) (fun j u hj => by rw [cell_of_heap (World.alloc_heap_new _ _), Nat.zero_add]; rw [HREP.out] at hj; simpa using hj) (rpRow_one _) hm9 (by decide) (by have := HZ5.out; simp; omega) ?_)
        intro v8 w8 ho8 hg8 hat8
        have hb8 : Below w5.heap.size w5 (w5.alloc (.cells #[.int .i64 (i : Int), .int .i64 scv, .int .i64 lev] 83)) := aB _ _
        have HO8 : Hid (w8.ownsRow (N + 1) 83 3 v8 (repsN x.said out (i + 1)).length (((repsN x.said out (i + 1)).map rpRow).flatten)) := Lib.hid (by
          rw [repsN_succ HSA.out, if_pos HIS.out, List.length_append, List.map_append, List.flatten_append, HM.out]
          simpa using ho8)
        have HB8 : Hid (Below (N + 1) w1 w8) := Lib.hid ((HB5.out.trans (hb8.mono HZ5.out)).trans (below_grownBy hg8 (Nat.le_trans HZ5.out hb8.size) (fun q hq => (HO5.out.lt _ hq).1)))
        have HZ8 : Hid (N + 1 ≤ w8.heap.size) := Lib.hid (Nat.le_trans HZ5.out (Nat.le_trans hb8.size hg8.size))
        clear ho8 hg8 hat8 hb8 r0 r1 r2
        go_wp2_with fail
        go_roundw
        case rel => exact ⟨i + 1, _, rfl, by omega, by go_num, HO8, HZ8, HB8⟩
        case measure => simp [intOf]; omega
      · skip
        have m4 : z.tmod 4 = 1 := by rw [hzm, h4]
        have HIS : Hid (repIs x.said i = true) := Lib.hid (by unfold repIs; rw [HZZ.out, h4]; simp)
        have HREP : Hid (rpRow (repOf x.said i sp) = [.int .i64 (i : Int), .int .i64 scv, .int .i64 (-1)]) := Lib.hid (by unfold rpRow repOf; simp only; rw [HZZ.out, h4, HSC.out, HLE.out]; simp)
        clear h4 hzm hzb
        have r1 : w3.cell? ⟨R, 1, none⟩ = some (.int .i64 (-1)) := by rw [cell_of_heap HK3.out]; rfl
        have fr1 : w3.frozen? ⟨R, 1, none⟩ = false := frozen_of_heap HK3.out
        obtain ⟨w4, hw4⟩ : ∃ y, w3.setCell ⟨R, 1, none⟩ (.int .i64 scv) = y := ⟨_, rfl⟩
        have hg := grown_set w3 R 1 (.int .i64 scv)
        rw [hw4] at hg
        have HK4 : Hid (w4.heap[R]? = some (.cells #[.int .i64 (i : Int), .int .i64 scv, .int .i64 (-1)] 83 (0, 0))) := Lib.hid (by rw [← hw4]; exact heap_setCell_at HK3.out _)
        have HO4 := Lib.hid (HO3.out.kept hg (.inr HNE.out))
        have HB4 : Hid (Below (N + 1) w1 w4) := Lib.hid (by rw [← hw4]; exact HB3.out.setCell (p := ⟨R, 1, none⟩) HRN.out _)
        have HZ4 : Hid (N + 1 ≤ w4.heap.size) := Lib.hid (Nat.le_trans HZ3.out hg.size)
        have hq : ∀ (o : Nat) (u : Value), w3.cell? ⟨tb, o, none⟩ = some u → w4.cell? ⟨tb, o, none⟩ = some u := fun o u hu => (World.cell?_of_block (w := w3) (hg.block tb (World.block_lt_of_cell? w3 _ hu) (fun e => by have := Option.some.inj e; omega))).trans hu
        have HW4 := Lib.hid hw4
        clear hw4 hg
        go_upto_region 9 with fail
        rw [HW4.out]
        replace p0 := hq _ _ p0
        replace p1 := hq _ _ p1
        clear hq r1 fr1
        have r0 : w4.cell? ⟨R, 0, none⟩ = some (.int .i64 (i : Int)) := by rw [cell_of_heap HK4.out]; rfl
        have r1 : w4.cell? ⟨R, 1, none⟩ = some (.int .i64 scv) := by rw [cell_of_heap HK4.out]; rfl
        have r2 : w4.cell? ⟨R, 2, none⟩ = some (.int .i64 (-1)) := by rw [cell_of_heap HK4.out]; rfl
        have hm9 : m + 1 ≤ 100000 := by omega
        clear p0 p1
        go_wp2_with (at_builtin; refine wpList_appendN rfl (.tmp 65) (.tmp 67) 53 rfl (N + 1) 83 (.agg #[.int .i64 0, .int .i64 0, .int .i64 0]) 3 24 Tryz.underlying53 info_rp rfl (by decide) (.slice oa m oc) m (((repsN x.said out i).map rpRow).flatten) rfl (HO4.out.alloc _) w4.heap.size 0 1 1 (rpRow (repOf x.said i sp)) rfl (by rw [HREP.out]; rfl) (fun j u hj => by rw [cell_of_heap (World.alloc_heap_new _ _), Nat.zero_add]; rw [HREP.out] at hj; simpa using hj) (rpRow_one _) hm9 (by decide) (by have := HZ4.out; simp; omega) ?_)
        intro v8 w8 ho8 hg8 hat8
        have hb8 : Below w4.heap.size w4 (w4.alloc (.cells #[.int .i64 (i : Int), .int .i64 scv, .int .i64 (-1)] 83)) := aB _ _
        have HO8 : Hid (w8.ownsRow (N + 1) 83 3 v8 (repsN x.said out (i + 1)).length (((repsN x.said out (i + 1)).map rpRow).flatten)) := Lib.hid (by
          rw [repsN_succ HSA.out, if_pos HIS.out, List.length_append, List.map_append, List.flatten_append, HM.out]
          simpa using ho8)
        have HB8 : Hid (Below (N + 1) w1 w8) := Lib.hid ((HB4.out.trans (hb8.mono HZ4.out)).trans (below_grownBy hg8 (Nat.le_trans HZ4.out hb8.size) (fun q hq => (HO4.out.lt _ hq).1)))
        have HZ8 : Hid (N + 1 ≤ w8.heap.size) := Lib.hid (Nat.le_trans HZ4.out (Nat.le_trans hb8.size hg8.size))
        clear ho8 hg8 hat8 hb8 r0 r1 r2
        go_wp2_with fail
        go_roundw
        case rel => exact ⟨i + 1, _, rfl, by omega, by go_num, HO8, HZ8, HB8⟩
        case measure => simp [intOf]; omega
      · skip
        have m4 : z.tmod 4 = 2 := by rw [hzm, h4]
        have HIS : Hid (repIs x.said i = true) := Lib.hid (by unfold repIs; rw [HZZ.out, h4]; simp)
        have HREP : Hid (rpRow (repOf x.said i sp) = [.int .i64 (i : Int), .int .i64 (-1), .int .i64 lev]) := Lib.hid (by unfold rpRow repOf; simp only; rw [HZZ.out, h4, HSC.out, HLE.out]; simp)
        clear h4 hzm hzb
        have r2 : w3.cell? ⟨R, 2, none⟩ = some (.int .i64 (-1)) := by rw [cell_of_heap HK3.out]; rfl
        have fr2 : w3.frozen? ⟨R, 2, none⟩ = false := frozen_of_heap HK3.out
        obtain ⟨w4, hw4⟩ : ∃ y, w3.setCell ⟨R, 2, none⟩ (.int .i64 lev) = y := ⟨_, rfl⟩
        have hg := grown_set w3 R 2 (.int .i64 lev)
        rw [hw4] at hg
        have HK4 : Hid (w4.heap[R]? = some (.cells #[.int .i64 (i : Int), .int .i64 (-1), .int .i64 lev] 83 (0, 0))) := Lib.hid (by rw [← hw4]; exact heap_setCell_at HK3.out _)
        have HO4 := Lib.hid (HO3.out.kept hg (.inr HNE.out))
        have HB4 : Hid (Below (N + 1) w1 w4) := Lib.hid (by rw [← hw4]; exact HB3.out.setCell (p := ⟨R, 2, none⟩) HRN.out _)
        have HZ4 : Hid (N + 1 ≤ w4.heap.size) := Lib.hid (Nat.le_trans HZ3.out hg.size)
        have hq : ∀ (o : Nat) (u : Value), w3.cell? ⟨tb, o, none⟩ = some u → w4.cell? ⟨tb, o, none⟩ = some u := fun o u hu => (World.cell?_of_block (w := w3) (hg.block tb (World.block_lt_of_cell? w3 _ hu) (fun e => by have := Option.some.inj e; omega))).trans hu
        have HW4 := Lib.hid hw4
        clear hw4 hg
        go_upto_region 11 with fail
        rw [HW4.out]
        replace p0 := hq _ _ p0
        replace p1 := hq _ _ p1
        clear hq r2 fr2
        have r0 : w4.cell? ⟨R, 0, none⟩ = some (.int .i64 (i : Int)) := by rw [cell_of_heap HK4.out]; rfl
        have r1 : w4.cell? ⟨R, 1, none⟩ = some (.int .i64 (-1)) := by rw [cell_of_heap HK4.out]; rfl
        have r2 : w4.cell? ⟨R, 2, none⟩ = some (.int .i64 lev) := by rw [cell_of_heap HK4.out]; rfl
        have hm9 : m + 1 ≤ 100000 := by omega
        clear p0 p1
        go_wp2_with (at_builtin; refine wpList_appendN rfl (.tmp 65) (.tmp 67) 53 rfl (N + 1) 83 (.agg #[.int .i64 0, .int .i64 0, .int .i64 0]) 3 24 Tryz.underlying53 info_rp rfl (by decide) (.slice oa m oc) m (((repsN x.said out i).map rpRow).flatten) rfl (HO4.out.alloc _) w4.heap.size 0 1 1 (rpRow (repOf x.said i sp)) rfl (by rw [HREP.out]; rfl) (fun j u hj => by rw [cell_of_heap (World.alloc_heap_new _ _), Nat.zero_add]; rw [HREP.out] at hj; simpa using hj) (rpRow_one _) hm9 (by decide) (by have := HZ4.out; simp; omega) ?_)
        intro v8 w8 ho8 hg8 hat8
        have hb8 : Below w4.heap.size w4 (w4.alloc (.cells #[.int .i64 (i : Int), .int .i64 (-1), .int .i64 lev] 83)) := aB _ _
        have HO8 : Hid (w8.ownsRow (N + 1) 83 3 v8 (repsN x.said out (i + 1)).length (((repsN x.said out (i + 1)).map rpRow).flatten)) := Lib.hid (by
          rw [repsN_succ HSA.out, if_pos HIS.out, List.length_append, List.map_append, List.flatten_append, HM.out]
          simpa using ho8)
        have HB8 : Hid (Below (N + 1) w1 w8) := Lib.hid ((HB4.out.trans (hb8.mono HZ4.out)).trans (below_grownBy hg8 (Nat.le_trans HZ4.out hb8.size) (fun q hq => (HO4.out.lt _ hq).1)))
        have HZ8 : Hid (N + 1 ≤ w8.heap.size) := Lib.hid (Nat.le_trans HZ4.out (Nat.le_trans hb8.size hg8.size))
        clear ho8 hg8 hat8 hb8 r0 r1 r2
        go_wp2_with fail
        go_roundw
        case rel => exact ⟨i + 1, _, rfl, by omega, by go_num, HO8, HZ8, HB8⟩
        case measure => simp [intOf]; omega
      · by_cases hz250 : 250 ≤ z
        · have d5 : decide (250 ≤ z) = true := decide_eq_true hz250
          have m4 : z.tmod 4 = 3 := by rw [hzm, h4]
          have HIS : Hid (repIs x.said i = true) := Lib.hid (by unfold repIs; rw [HZZ.out, h4]; simp; omega)
          have HREP : Hid (rpRow (repOf x.said i sp) = [.int .i64 (i : Int), .int .i64 (-1), .int .i64 (-1)]) := Lib.hid (by unfold rpRow repOf; simp only; rw [HZZ.out, h4, HSC.out, HLE.out]; simp)
          clear h4 hzm hzb
          have r0 : w3.cell? ⟨R, 0, none⟩ = some (.int .i64 (i : Int)) := by rw [cell_of_heap HK3.out]; rfl
          have r1 : w3.cell? ⟨R, 1, none⟩ = some (.int .i64 (-1)) := by rw [cell_of_heap HK3.out]; rfl
          have r2 : w3.cell? ⟨R, 2, none⟩ = some (.int .i64 (-1)) := by rw [cell_of_heap HK3.out]; rfl
          have hm9 : m + 1 ≤ 100000 := by omega
          clear p0 p1
          go_wp2_with (at_builtin; refine wpList_appendN rfl (.tmp 65) (.tmp 67) 53 rfl (N + 1) 83 (.agg #[.int .i64 0, .int .i64 0, .int .i64 0]) 3 24 Tryz.underlying53 info_rp rfl (by decide) (.slice oa m oc) m (((repsN x.said out i).map rpRow).flatten) rfl (HO3.out.alloc _) w3.heap.size 0 1 1 (rpRow (repOf x.said i sp)) rfl (by rw [HREP.out]; rfl) (fun j u hj => by rw [cell_of_heap (World.alloc_heap_new _ _), Nat.zero_add]; rw [HREP.out] at hj; simpa using hj) (rpRow_one _) hm9 (by decide) (by have := HZ3.out; simp; omega) ?_)
          intro v8 w8 ho8 hg8 hat8
          have hb8 : Below w3.heap.size w3 (w3.alloc (.cells #[.int .i64 (i : Int), .int .i64 (-1), .int .i64 (-1)] 83)) := aB _ _
          have HO8 : Hid (w8.ownsRow (N + 1) 83 3 v8 (repsN x.said out (i + 1)).length (((repsN x.said out (i + 1)).map rpRow).flatten)) := Lib.hid (by
            rw [repsN_succ HSA.out, if_pos HIS.out, List.length_append, List.map_append, List.flatten_append, HM.out]
            simpa using ho8)
          have HB8 : Hid (Below (N + 1) w1 w8) := Lib.hid ((HB3.out.trans (hb8.mono HZ3.out)).trans (below_grownBy hg8 (Nat.le_trans HZ3.out hb8.size) (fun q hq => (HO3.out.lt _ hq).1)))
          have HZ8 : Hid (N + 1 ≤ w8.heap.size) := Lib.hid (Nat.le_trans HZ3.out (Nat.le_trans hb8.size hg8.size))
          clear ho8 hg8 hat8 hb8 r0 r1 r2
          go_wp2_with fail
          go_roundw
          case rel => exact ⟨i + 1, _, rfl, by omega, by go_num, HO8, HZ8, HB8⟩
          case measure => simp [intOf]; omega
        · have d5 : decide (250 ≤ z) = false := decide_eq_false hz250
          have m4 : z.tmod 4 = 3 := by rw [hzm, h4]
          have HIS : Hid (repIs x.said i = false) := Lib.hid (by unfold repIs; rw [HZZ.out, h4]; simp; omega)
          have HREP : Hid (rpRow (repOf x.said i sp) = [.int .i64 (i : Int), .int .i64 (-1), .int .i64 (-1)]) := Lib.hid (by unfold rpRow repOf; simp only; rw [HZZ.out, h4, HSC.out, HLE.out]; simp)
          clear h4 hzm hzb
          have HO8 : Hid (w3.ownsRow (N + 1) 83 3 (.slice oa m oc) (repsN x.said out (i + 1)).length (((repsN x.said out (i + 1)).map rpRow).flatten)) := Lib.hid (by
            rw [repsN_succ HSA.out, if_neg (by rw [HIS.out]; simp), List.append_nil, HM.out]
            exact HO3.out)
          go_wp2_with fail
          go_roundw
          case rel => exact ⟨i + 1, _, rfl, by omega, by go_num, HO8, HZ3, HB3⟩
          case measure => simp [intOf]; omega
    · obtain rfl : i = n := by omega
      go_wp2
      go_returns
      exact ⟨_, rfl, HB.out.trans (HBr.out.mono (by have := HN.out; omega)), own_mono (by rw [HM.out]; exact HO.out) (by have := HN.out; omega)⟩
end Go.Proofs.YtpfpjbglpibdoaaGreatDoor

/- Chapter 5: holds; what a thrown leg and its reports have. -/
namespace Go.Proofs.YtpfpjbglpibdoaaGreatDoor
open Go Go.RowKit Go.Oche Go.Proofs

def SpansAt (W : World) (g n : Nat) (f : Nat → Int × Int) : Prop := W.heap[g]? = some (.cells (spFlat ((List.range n).map f)).toArray 48 (0, 0))
theorem SpansAt.below {W W' : World} {g n : Nat} {f : Nat → Int × Int} (h : SpansAt W g n f) (hb : Below W.heap.size W W') : SpansAt W' g n f := (hb.block g (Array.getElem?_eq_some_iff.1 h).1).trans h
theorem SpansAt.cells {W : World} {g n : Nat} {f : Nat → Int × Int} (h : SpansAt W g n f) {i : Nat} (hi : i < n) : W.cell? ⟨g, i * 2, none⟩ = some (.int .i64 (f i).1) ∧ W.cell? ⟨g, i * 2 + 1, none⟩ = some (.int .i64 (f i).2) := by
  have h2 := spFlat_at (L := (List.range n).map f) (k := i) (by simpa using hi)
  rw [cell_of_heap h, cell_of_heap h]
  simpa using h2
def InSp (out : List Sp) (f1 f2 f3 : Nat → Int × Int) : Prop := ∀ (i : Nat) (sp : Sp), out[i]? = some sp → ((f1 i).1 ≤ sp.score ∧ sp.score ≤ (f1 i).2) ∧ ((f2 i).1 ≤ sp.en.left ∧ sp.en.left ≤ (f2 i).2) ∧ ((f3 i).1 ≤ (sp.darts : Int) ∧ (sp.darts : Int) ≤ (f3 i).2)
/-! ## What a thrown leg and its reports have -/
section
variable {l : Lg}
theorem trL_in (hP : 1 ≤ l.players) (hT : 0 ≤ l.turns) {list : List Rp} (h : HasTruth l (allS list)) {t : Nat} (ht : t < l.turns.toNat) {sp : Sp} (hm : sp ∈ keptL l (allS list) t) :
    ((trL (keptL l (allS list) t)).score.1 ≤ sp.score ∧ sp.score ≤ (trL (keptL l (allS list) t)).score.2) ∧ ((trL (keptL l (allS list) t)).left.1 ≤ sp.en.left ∧ sp.en.left ≤ (trL (keptL l (allS list) t)).left.2) ∧ ((trL (keptL l (allS list) t)).darts.1 ≤ (sp.darts : Int) ∧ (sp.darts : Int) ≤ (trL (keptL l (allS list) t)).darts.2) := by
  have hne := kept_ne hP hT h ht
  exact ⟨(spanL_is (xs := (keptL l (allS list) t).map Sp.score) (by simpa using hne)).2.2 _ (List.mem_map_of_mem hm), (spanL_is (xs := (keptL l (allS list) t).map fun s => s.en.left) (by simpa using hne)).2.2 _ (List.mem_map_of_mem (f := fun s : Sp => s.en.left) hm), (spanL_is (xs := (keptL l (allS list) t).map fun s => (s.darts : Int)) (by simpa using hne)).2.2 _ (List.mem_map_of_mem (f := fun s : Sp => (s.darts : Int)) hm)⟩
theorem truthE_zero (hc : checkL l = 0) {list : List Rp} (hlen : list.length ≤ 100) (hb : ∀ r ∈ list, badR l.turns r = false) (h : HasTruth l (allS list)) : truthE l list = 0 := by
  have h1 : checkR l list 100 = 0 := by
    unfold checkR
    rw [if_neg (by rw [hc]; simp), if_neg (by simp; omega), if_neg]
    rw [List.any_eq_true]
    rintro ⟨r, hr, hbr⟩
    rw [hb r hr] at hbr; cases hbr
  unfold truthE
  rw [if_neg (by rw [h1]; simp), if_pos]
  rw [List.all_eq_true]
  exact fun p hp => player_some.2 (h p (List.mem_range.1 hp))
theorem truthE_nine (hc : checkL l = 0) {list : List Rp} (hlen : list.length ≤ 100) (hb : ∀ r ∈ list, badR l.turns r = false) (h : ¬ HasTruth l (allS list)) : truthE l list = 9 := by
  have h1 : checkR l list 100 = 0 := by
    unfold checkR
    rw [if_neg (by rw [hc]; simp), if_neg (by simp; omega), if_neg]
    rw [List.any_eq_true]
    rintro ⟨r, hr, hbr⟩
    rw [hb r hr] at hbr; cases hbr
  unfold truthE
  rw [if_neg (by rw [h1]; simp), if_neg]
  rw [List.all_eq_true]
  exact fun hh => h fun p hp => player_some.1 (hh p (List.mem_range.2 hp))
end
def scF (l : Lg) (list : List Rp) (t : Nat) : Int × Int := (trL (keptL l (allS list) t)).score
def leF (l : Lg) (list : List Rp) (t : Nat) : Int × Int := (trL (keptL l (allS list) t)).left
def daF (l : Lg) (list : List Rp) (t : Nat) : Int × Int := (trL (keptL l (allS list) t)).darts
theorem truth_ok {S S' : Nat → Prop} (l : Lg) (bv lv : Value) (list : List Rp) (n : Nat) (hn : l.turns = (n : Int)) (w : World) (hs : Sl S w bv (ints l.beds)) (hbd : BedsIn l) (hl : SlN 3 S' w lv (list.map rpRow)) (hc : checkL l = 0) (hlen : list.length ≤ 100) (hb : ∀ r ∈ list, badR l.turns r = false) (h : HasTruth l (allS list)) :
    Calls Tryz.prog 25 #[legV l bv, lv] w fun e w' => ∃ g1 g2 g3, e = .returned (.tuple #[.slice (some ⟨g1, 0, none⟩) n n, .slice (some ⟨g2, 0, none⟩) n n, .slice (some ⟨g3, 0, none⟩) n n, .int .i64 0]) ∧ Below w.heap.size w w' ∧ SpansAt w' g1 n (scF l list) ∧ SpansAt w' g2 n (leF l list) ∧ SpansAt w' g3 n (daF l list) := by
  refine (truth_any l bv lv list w hs hbd hl).mono ?_
  rintro e w' ⟨v1, v2, v3, rfl, hb', -, hz⟩
  have h0 := truthE_zero hc hlen hb h
  obtain ⟨g1, g2, g3, rfl, rfl, rfl, -, -, -, k1, k2, k3⟩ := hz h0
  have e : l.turns.toNat = n := by rw [hn]; rfl
  rw [h0]
  rw [e] at k1 k2 k3 ⊢
  exact ⟨g1, g2, g3, rfl, hb', k1, k2, k3⟩
theorem truth_no {S S' : Nat → Prop} (l : Lg) (bv lv : Value) (list : List Rp) (w : World) (hs : Sl S w bv (ints l.beds)) (hbd : BedsIn l) (hl : SlN 3 S' w lv (list.map rpRow)) (hc : checkL l = 0) (hlen : list.length ≤ 100) (hb : ∀ r ∈ list, badR l.turns r = false) (h : ¬ HasTruth l (allS list)) :
    Calls Tryz.prog 25 #[legV l bv, lv] w fun e w' => e = .returned (.tuple #[.slice none 0 0, .slice none 0 0, .slice none 0 0, .int .i64 9]) ∧ Below w.heap.size w w' := by
  refine (truth_any l bv lv list w hs hbd hl).mono ?_
  rintro e w' ⟨v1, v2, v3, rfl, hb', hz, -⟩
  have h0 := truthE_nine hc hlen hb h
  obtain ⟨rfl, rfl, rfl⟩ := hz (by rw [h0]; decide)
  rw [h0]
  exact ⟨rfl, hb'⟩
section
variable (x : Thr) (most : Nat)
theorem legT_turns : (legT x most).turns = ((playX x most).out.length : Int) := rfl
theorem legT_bd : 1 ≤ (legT x most).players ∧ 0 ≤ (legT x most).turns ∧ 0 ≤ (legT x most).start ∧ (legT x most).start ≤ 21 := by
  have h := legB_bd x
  have h2 : (0 : Int) ≤ ((playX x most).out.length : Int) := by omega
  exact ⟨h.2.2.2.2.2.2.1, h2, by show 0 ≤ (legB x).start; omega, h.2.1⟩
theorem legT_in : BedsIn (legT x most) := fun b hb => by
  have := bedsOf_ok (show b ∈ bedsOf x.which from hb); omega
structure RepsOk (list : List Rp) : Prop where
  len : list.length ≤ 90
  bad : ∀ r ∈ list, badR (legT x most).turns r = false
theorem badR_no {T : Int} {r : Rp} (h : 0 ≤ r.turn ∧ r.turn ≤ T - 1) (hs : -1 ≤ r.score ∧ r.score ≤ 240) (hl : -1 ≤ r.left ∧ r.left ≤ 1001) : badR T r = false := by
  unfold badR isIn
  rw [decide_eq_true h.1, decide_eq_true h.2, decide_eq_true hs.1, decide_eq_true hs.2, decide_eq_true hl.1, decide_eq_true hl.2]; rfl
theorem out_bd {i : Nat} {sp : Sp} (h : (playX x most).out[i]? = some sp) : 0 ≤ sp.score ∧ sp.score ≤ 21 ∧ 0 ≤ sp.en.left ∧ sp.en.left ≤ 21 := by
  have ht := thrown_truth x most
  have hb := legT_bd x most
  have hl := kept_left hb.1 (legT_good x most) hb.2.2.1 ht.1 (ht.2 i sp h)
  unfold Sp.score; omega
theorem repsL_ok (hm : most ≤ 8) : RepsOk x most (repsL x most) := by
  refine ⟨Nat.le_trans (repsL_len x most) (by omega), fun r hr => ?_⟩
  obtain ⟨i, sp, hi, rfl⟩ := repsL_mem hr
  have hb := out_bd x most hi
  have hl := (List.getElem?_eq_some_iff.1 hi).1
  refine badR_no ⟨by show (0 : Int) ≤ (i : Int); omega, by show (i : Int) ≤ ((playX x most).out.length : Int) - 1; omega⟩ ?_ ?_
  · show -1 ≤ (if _ then sp.score else -1) ∧ (if _ then sp.score else -1) ≤ 240
    split <;> omega
  · show -1 ≤ (if _ then sp.en.left else -1) ∧ (if _ then sp.en.left else -1) ≤ 1001
    split <;> omega
theorem RepsOk.snoc {list : List Rp} (h : RepsOk x most list) (hl : list.length ≤ 89) {r : Rp} (hr : badR (legT x most).turns r = false) : RepsOk x most (list ++ [r]) :=
  ⟨by simp; omega, fun y hy => (List.mem_append.1 hy).elim (h.bad y) fun hy => by rw [List.mem_singleton] at hy; rw [hy]; exact hr⟩
theorem thrown_in {list : List Rp} (h : HasTruth (legT x most) (allS list)) (hk : ∀ (t : Nat) (sp : Sp), (playX x most).out[t]? = some sp → sp ∈ keptL (legT x most) (allS list) t) : InSp (playX x most).out (scF (legT x most) list) (leF (legT x most) list) (daF (legT x most) list) := fun i sp hi => by
  have hb := legT_bd x most
  have hl := (List.getElem?_eq_some_iff.1 hi).1
  exact trL_in hb.1 hb.2.1 h (by rw [legT_turns]; simpa using hl) (hk i sp hi)
end
end Go.Proofs.YtpfpjbglpibdoaaGreatDoor

/- append([]T{}, l...): a copy, as a row of one's own. -/
namespace Go.Oche
open Go Go.RowKit
section
variable {P : Program} {w : World}
theorem opOK_copyOwn {o : Oper} {a : Act} (s x : Operand) (t : TypeId) (ho : o.op = .call { callee := .builtin .append, args := #[s, x], argTypes := #[t, t] })
    (base : Nat) (e : TypeId) (z : Value) (size bytes : Nat) (ht : P.underlying t = some (.slice e)) (hi : (P.info? e).map (fun i => (i.zero, i.size, i.bytes)) = some (some z, size, bytes)) (hzs : z.cells.size = size) (hsz : 0 < size)
    (g : Nat) (hs : a.eval s = .slice (some ⟨g, 0, none⟩) 0 0) (hown : w.ownsRow base e size (.slice (some ⟨g, 0, none⟩) 0 0) 0 []) {S : Nat → Prop} (v : Value) (rows : List (List Value)) (hx : a.eval x = v) (hsl : SlN size S w v rows) (h1 : ∀ r ∈ rows, ∀ u ∈ r, u.oneCell' = true)
    (h63 : rows.length ≤ 100000) (hbytes : bytes ≤ 1000) (hbase : base ≤ w.heap.size) :
    opOK P o a w (fun v' w' => Below base w w' ∧ w'.ownsRow base e size v' rows.length rows.flatten) := by
  obtain ⟨i, hi', hz0, hz1, hz2⟩ := info_parts hi
  obtain ⟨al, cap, rfl, hc1, hc2, hcell⟩ := hsl
  by_cases h0 : rows = []
  · subst h0
    unfold opOK execOp
    simp only [ho, resolve, invoke, builtin, Sem.run_bind, Sem.run_pure, Result.andThen_ok, List.map_toArray, List.map_cons, List.map_nil, hs, hx, List.length_nil, run_append_empty t o.type e i z ht hi' hz0]
    exact ⟨⟨rfl, rfl, rfl, Nat.le_refl _, fun _ _ => rfl⟩, hown⟩
  · have hlen : 0 < rows.length := List.length_pos_iff.2 h0
    have hr : ∀ r ∈ rows, r.length = size := fun r hr => by
      obtain ⟨i, hi⟩ := List.getElem?_of_mem hr
      exact (hcell i r hi).1
    obtain ⟨_, b, off, rfl, _, _⟩ := hcell 0 rows[0] (List.getElem?_eq_getElem hlen)
    have hfl : rows.flatten.length = rows.length * size := flat_len hr
    refine opOK_mono (opOK_appendN_at s x t ho base e z size bytes ht hi hzs hsz _ 0 [] hs hown b off rows.length cap rows.flatten hx hfl (fun j u hj => ?_) (fun u hu => ?_) (by omega) hbytes hbase) ?_
    · have hjl : j < rows.length * size := by rw [← hfl]; exact (List.getElem?_eq_some_iff.1 hj).1
      have hi2 : j / size < rows.length := (Nat.div_lt_iff_lt_mul hsz).2 hjl
      have hr2 := hr rows[j / size] (List.getElem_mem hi2)
      have hm : j % size < size := Nat.mod_lt _ hsz
      obtain ⟨_, b', off', hal, _, hc⟩ := hcell (j / size) _ (List.getElem?_eq_getElem hi2)
      cases hal
      have h3 := SlN.of_owns.flat_at (n := 0) (c := 0) (rows := []) hr (List.getElem?_eq_getElem hi2) (List.getElem?_eq_getElem (by rw [hr2]; exact hm))
      have hj2 : j / size * size + j % size = j := by rw [Nat.mul_comm]; exact Nat.div_add_mod j size
      rw [hj2, hj] at h3
      have h4 := hc (j % size) _ (List.getElem?_eq_getElem (by rw [hr2]; exact hm))
      rw [Nat.add_assoc, hj2] at h4
      rw [h4, h3]
    · obtain ⟨r, hr3, hu⟩ := List.mem_flatten.1 hu
      exact h1 r hr3 u hu
    · rintro v' w' ⟨hown', hg, _⟩
      rw [Nat.zero_add, List.nil_append] at hown'
      refine ⟨below_grownBy hg hbase fun k hk => ?_, hown'⟩
      cases hk
      rcases hown.2 with ⟨h, _⟩ | ⟨g', c', cur, h, hb, _⟩
      · cases h
      · cases h; exact hb
theorem wpList_copyOwn {ops : Array Oper} {rest : List Oper} {Q : Exit → Act → World → Prop} {o : Oper} {a : Act} (hg : o.guard = none) (s x : Operand) (t : TypeId) (ho : o.op = .call { callee := .builtin .append, args := #[s, x], argTypes := #[t, t] })
    (e : TypeId) (z : Value) (size bytes : Nat) (ht : P.underlying t = some (.slice e)) (hi : (P.info? e).map (fun i => (i.zero, i.size, i.bytes)) = some (some z, size, bytes)) (hzs : z.cells.size = size) (hsz : 0 < size)
    (hs : a.eval s = .slice (some ⟨w.heap.size, 0, none⟩) 0 0) {S : Nat → Prop} (v : Value) (rows : List (List Value)) (hx : a.eval x = v) (hsl : SlN size S w v rows) (h1 : ∀ r ∈ rows, ∀ u ∈ r, u.oneCell' = true)
    (h63 : rows.length ≤ 100000) (hbytes : bytes ≤ 1000)
    (hK : ∀ v' w', Below w.heap.size w w' → w'.ownsRow w.heap.size e size v' rows.length rows.flatten → wpList P ops Q rest (a.put o.dst v') w') : wpList P ops Q (o :: rest) a (w.alloc (.cells #[] e)) :=
  wpList_opOK hg (opOK_copyOwn s x t ho w.heap.size e z size bytes ht hi hzs hsz w.heap.size hs (World.ownsRow_made w #[] 0 (Nat.le_refl _) (Nat.zero_le _) (by simp)) v rows hx (hsl.below (aB _ _)) h1 h63 hbytes (by simp)) fun v' w' ⟨h1, h2⟩ => hK v' w' ((aB w _).trans h1) h2
end
end Go.Oche

/- Chapter 5: lists of numbers compared. -/
namespace Go.Proofs.YtpfpjbglpibdoaaGreatDoor
open Go.RowKit Go.Oche Go.Proofs

theorem isNaNi_any (a : Int) (w : World) : Calls Tryz.prog 137 #[.int .i64 a] w fun e w' => e = .returned (.bool false) ∧ w = w' := by
  go_enter Tryz.func137, Tryz.ntmps137
  go_wp2
  go_ret
  exact ⟨ret_bool (by simp), rfl⟩
theorem compareI_any (a b : Int) (w : World) : Calls Tryz.prog 115 #[.int .i64 a, .int .i64 b] w fun e w' => e = .returned (.int .i64 (cmp3 a b)) ∧ w = w' := by
  obtain ⟨c, hc⟩ : ∃ c, cmp3 a b = c := ⟨_, rfl⟩
  unfold cmp3 at hc
  have hc' := hc
  have H := Lib.hid hc
  rw [show cmp3 a b = c from hc']
  clear hc hc'
  go_enter Tryz.func115, Tryz.ntmps115
  go_wp2_with (go_at_call 137; refine (isNaNi_any _ _).mono ?_; rintro e w' ⟨rfl, rfl⟩)
  all_goals
    go_ret
    refine ⟨ret_int ?_, rfl⟩
    rw [← H.out]
    repeat' (first | omega | split)
def cmpL : List Int → List Int → Int
  | [], [] => 0
  | [], _ :: _ => -1
  | _ :: _, [] => 1
  | a :: as', b :: bs => if cmp3 a b = 0 then cmpL as' bs else cmp3 a b
theorem cmpL_step {xs ys : List Int} {i : Nat} (h : i < xs.length) (h' : i < ys.length) : cmpL (xs.drop i) (ys.drop i) = if cmp3 xs[i] ys[i] = 0 then cmpL (xs.drop (i + 1)) (ys.drop (i + 1)) else cmp3 xs[i] ys[i] := by
  rw [List.drop_eq_getElem_cons h, List.drop_eq_getElem_cons h', cmpL]
theorem cmpL_end {xs ys : List Int} {i : Nat} (h : ¬ i < xs.length) : cmpL (xs.drop i) (ys.drop i) = if i < ys.length then -1 else 0 := by
  rw [List.drop_eq_nil_of_le (by omega)]
  by_cases c : i < ys.length
  · rw [if_pos c, List.drop_eq_getElem_cons c]; rfl
  · rw [if_neg c, List.drop_eq_nil_of_le (by omega)]; rfl
theorem cmpL_more {xs ys : List Int} {i : Nat} (h : i < xs.length) (h' : ¬ i < ys.length) : cmpL (xs.drop i) (ys.drop i) = 1 := by
  have e : ys.drop i = [] := List.drop_eq_nil_of_le (by omega)
  rw [List.drop_eq_getElem_cons h, e]; rfl
set_option maxRecDepth 100000 in
set_option maxHeartbeats 1000000 in
theorem compareL_any {S S' : Nat → Prop} (xs ys : List Int) (u v : Value) (w : World) (hx : Sl S w u (ints xs)) (hy : Sl S' w v (ints ys)) :
    Calls Tryz.prog 101 #[u, v] w fun e w' => e = .returned (.int .i64 (cmpL xs ys)) ∧ w = w' := by
  obtain ⟨a, cap, rfl, h2, h3⟩ := hx.form
  obtain ⟨a', cap', rfl, h2', h3'⟩ := hy.form
  simp only [ints_length] at *
  unfold maxLen at h3 h3'
  obtain ⟨res, hres⟩ : ∃ r, cmpL xs ys = r := ⟨_, rfl⟩
  rw [hres]
  have HR := Lib.hid hres
  have HX := Lib.hid hx
  have HY := Lib.hid hy
  obtain ⟨n, hn⟩ : ∃ n, xs.length = n := ⟨_, rfl⟩
  obtain ⟨m, hm⟩ : ∃ n, ys.length = n := ⟨_, rfl⟩
  have HN := Lib.hid hn
  have HM := Lib.hid hm
  rw [hn] at h2 HX ⊢
  rw [hm] at h2' HY ⊢
  clear hres hx hy hn hm
  go_enter Tryz.func101, Tryz.ntmps101
  go_wp2
  go_loopw [11] (fun iv wr => ∃ i : Nat, i ≤ n ∧ iv = .int .i64 i ∧ Hid (cmpL (xs.drop i) (ys.drop i) = res) ∧ Hid (w = wr)) (fun iv _ => n - (intOf iv).toNat)
  case atStart => exact ⟨0, by omega, by go_num, HR, Lib.hid rfl⟩
  case round =>
    obtain ⟨i, hi, rfl, HI, HW⟩ := hrel
    have hw := HW.out
    subst hw
    clear HR
    by_cases hlt : i < n
    · obtain ⟨x, hxx⟩ : ∃ x, xs[i]'(by rw [HN.out]; exact hlt) = x := ⟨_, rfl⟩
      obtain ⟨b, off, rfl, -, hc⟩ := Sl.at_ HX.out (intsAt (by rw [HN.out]; exact hlt))
      rw [hxx] at hc
      have HXX := Lib.hid hxx
      clear hxx
      by_cases hlt2 : i < m
      · obtain ⟨y, hyy⟩ : ∃ y, ys[i]'(by rw [HM.out]; exact hlt2) = y := ⟨_, rfl⟩
        obtain ⟨b', off', rfl, -, hc'⟩ := Sl.at_ HY.out (intsAt (by rw [HM.out]; exact hlt2))
        rw [hyy] at hc'
        have d1 : decide (m ≤ i) = false := decide_eq_false (by omega)
        have d1i : decide ((m : Int) ≤ (i : Int)) = false := decide_eq_false (by omega)
        obtain ⟨c, hcc⟩ : ∃ c, cmp3 x y = c := ⟨_, rfl⟩
        have HI2 : Hid (res = if c = 0 then cmpL (xs.drop (i + 1)) (ys.drop (i + 1)) else c) := Lib.hid (by
          rw [← HI.out, cmpL_step (by rw [HN.out]; exact hlt) (by rw [HM.out]; exact hlt2), HXX.out, hyy, hcc])
        clear hyy HI
        have hcall := compareI_any x y w
        rw [hcc] at hcall
        clear hcc
        go_wp2_with fail
        refine hcall.mono ?_
        rintro e w1 ⟨rfl, rfl⟩
        obtain ⟨z, hz⟩ : ∃ z, (c != 0) = z := ⟨_, rfl⟩
        have HZ := Lib.hid hz
        cases z
        · have hc0 : c = 0 := by simpa using HZ.out
          have HI3 : Hid (cmpL (xs.drop (i + 1)) (ys.drop (i + 1)) = res) := Lib.hid (by rw [HI2.out, if_pos hc0])
          have hwi : IntKind.i64.wrap ((i : Int) + 1) = (i : Int) + 1 := wrap_small _ (by omega) (by omega)
          clear hc0 HI2
          go_wp2
          go_roundw
          case rel => exact ⟨i + 1, by omega, by go_num, HI3, Lib.hid (by trivial)⟩
          case measure => simp [intOf]; omega
        · have hc0 : ¬ c = 0 := by simpa using HZ.out
          have hr : res = c := by rw [HI2.out, if_neg hc0]
          clear HI2 hc0
          subst hr
          go_wp2
          go_returns
          exact ⟨rfl, rfl⟩
      · have hr : res = 1 := by rw [← HI.out]; exact cmpL_more (by rw [HN.out]; exact hlt) (by rw [HM.out]; exact hlt2)
        have d1 : decide (m ≤ i) = true := decide_eq_true (by omega)
        have d1i : decide ((m : Int) ≤ (i : Int)) = true := decide_eq_true (by omega)
        clear HI
        subst hr
        go_wp2
        go_returns
        exact ⟨rfl, rfl⟩
    · obtain rfl : i = n := by omega
      have hr : res = if i < m then -1 else 0 := by rw [← HI.out, cmpL_end (by rw [HN.out]; omega), HM.out]
      by_cases hlt2 : i < m
      · rw [if_pos hlt2] at hr
        have d1 : decide (i < m) = true := decide_eq_true (by omega)
        have d1i : decide ((i : Int) < (m : Int)) = true := decide_eq_true (by omega)
        clear HI
        subst hr
        go_wp2
        go_returns
        exact ⟨rfl, rfl⟩
      · rw [if_neg hlt2] at hr
        have d1 : decide (i < m) = false := decide_eq_false (by omega)
        have d1i : decide ((i : Int) < (m : Int)) = false := decide_eq_false (by omega)
        clear HI
        subst hr
        go_wp2
        go_returns
        exact ⟨rfl, rfl⟩
end Go.Proofs.YtpfpjbglpibdoaaGreatDoor

/- Insertion sort of distinct things, in plain Lean: r is greater first; of equals the lesser number first. -/
namespace Go.Oche
open Go Go.RowKit

def befo (r : Int → Int) (x y : Int) : Prop := r y < r x ∨ (r x = r y ∧ x < y)
def at0 (l : List Int) (i : Nat) : Int := l.getD i 0
theorem at0_eq {l : List Int} {i : Nat} (h : i < l.length) : at0 l i = l[i] := by rw [at0, List.getD_eq_getElem?_getD, List.getElem?_eq_getElem h]; rfl
structure SegOk (r : Int → Int) (xs : List Int) (a b i : Nat) (ys : List Int) : Prop where
  len : ys.length = xs.length
  out : ∀ q, q < a ∨ i ≤ q → at0 ys q = at0 xs q
  ord : ∀ p q, a ≤ p → p < q → q < i → befo r (at0 ys p) (at0 ys q)
  low : ∀ p q, a ≤ p → p < i → i ≤ q → q < b → at0 ys p < at0 xs q
  perm : ys.Perm xs
structure SlideOk (r : Int → Int) (ys : List Int) (a i j : Nat) (zs : List Int) : Prop where
  len : zs.length = ys.length
  at_ : ∀ q, q < ys.length → at0 zs q = if q < j then at0 ys q else if q = j then at0 ys i else if q ≤ i then at0 ys (q - 1) else at0 ys q
  gt : ∀ q, j ≤ q → q < i → r (at0 ys q) < r (at0 ys i)
  perm : zs.Perm ys
  rng : a ≤ j ∧ j ≤ i
theorem SegOk.start {r : Int → Int} {xs : List Int} {a b : Nat} (_hb : b ≤ xs.length) (h : ∀ p q, a ≤ p → p < q → q < b → at0 xs p < at0 xs q) : SegOk r xs a b (a + 1) xs :=
  ⟨rfl, fun _ _ => rfl, fun p q h1 h2 h3 => by omega, fun p q h1 h2 h3 h4 => h p q h1 (by omega) h4, List.Perm.refl _⟩
theorem SlideOk.start {r : Int → Int} {ys : List Int} {a i : Nat} (ha : a ≤ i) : SlideOk r ys a i i ys := by
  refine ⟨rfl, fun q hq => ?_, fun q h1 h2 => by omega, List.Perm.refl _, ha, Nat.le_refl _⟩
  by_cases h1 : q < i
  · rw [if_pos h1]
  · rw [if_neg h1]
    by_cases h2 : q = i
    · rw [if_pos h2, h2]
    · rw [if_neg h2, if_neg (by omega)]
theorem at0_set {l : List Int} {i : Nat} (h : i < l.length) (x : Int) (q : Nat) : at0 (l.set i x) q = if q = i then x else at0 l q := by
  unfold at0
  by_cases e : q = i
  · subst e; rw [if_pos rfl, List.getD_eq_getElem?_getD, List.getElem?_set_self h]; rfl
  · rw [if_neg e, List.getD_eq_getElem?_getD, List.getElem?_set_ne (fun h => e h.symm), ← List.getD_eq_getElem?_getD]
theorem SlideOk.step {r : Int → Int} {ys zs : List Int} {a i j : Nat} (h : SlideOk r ys a i j zs) (hj : a < j) (hi : i < ys.length) (hlt : r (at0 zs (j - 1)) < r (at0 zs j)) :
    SlideOk r ys a i (j - 1) ((zs.set j (at0 zs (j - 1))).set (j - 1) (at0 zs j)) := by
  obtain ⟨hl, hat, hgt, hp, hr1, hr2⟩ := h
  have e1 : at0 zs (j - 1) = at0 ys (j - 1) := by rw [hat _ (by omega), if_pos (by omega)]
  have e2 : at0 zs j = at0 ys i := by rw [hat _ (by omega), if_neg (by omega), if_pos rfl]
  refine ⟨by simp [hl], fun q hq => ?_, fun q h1 h2 => ?_, ?_, by omega, by omega⟩
  · rw [at0_set (by simp; omega), at0_set (by omega), e1, e2]
    by_cases h1 : q = j - 1
    · rw [if_pos h1, if_neg (by omega), if_pos h1]
    · rw [if_neg h1]
      by_cases h2 : q = j
      · rw [if_pos h2, if_neg (by omega), if_neg (by omega), if_pos (by omega), h2]
      · rw [if_neg h2, hat q hq]
        by_cases h3 : q < j
        · rw [if_pos h3, if_pos (by omega)]
        · rw [if_neg h3, if_neg h2, if_neg (show ¬ q < j - 1 by omega), if_neg h1]
  · by_cases e : q = j - 1
    · subst e; rw [e1, e2] at hlt; exact hlt
    · exact hgt q (by omega) h2
  · refine List.Perm.trans ?_ hp
    have hz1 : j < zs.length := by omega
    have hz2 : j - 1 < zs.length := by omega
    have := List.set_set_perm hz1 hz2
    rw [← at0_eq hz1, ← at0_eq hz2] at this
    exact this
theorem SegOk.next {r : Int → Int} {xs ys zs : List Int} {a b i j : Nat} (h : SegOk r xs a b i ys) (s : SlideOk r ys a i j zs) (hi : i < b) (hb : b ≤ xs.length) (ha : a ≤ i) (hx : ∀ p q, a ≤ p → p < q → q < b → at0 xs p < at0 xs q)
    (hend : j = a ∨ ¬ r (at0 zs (j - 1)) < r (at0 zs j)) : SegOk r xs a b (i + 1) zs := by
  obtain ⟨hl, hout, hord, hlow, hperm⟩ := h
  obtain ⟨sl, sat, sgt, sp, sr1, sr2⟩ := s
  have xi : at0 ys i = at0 xs i := hout i (.inr (Nat.le_refl _))
  have lo : ∀ p, a ≤ p → p < i → at0 ys p < at0 ys i := fun p h1 h2 => by rw [xi]; exact hlow p i h1 h2 (Nat.le_refl _) hi
  have hend' : j = a ∨ r (at0 ys i) ≤ r (at0 ys (j - 1)) := by
    rcases hend with h | h
    · exact .inl h
    · by_cases hja : j = a
      · exact .inl hja
      · right
        rw [sat _ (by omega), if_pos (by omega), sat _ (by omega), if_neg (by omega), if_pos rfl] at h
        omega
  refine ⟨by omega, fun q hq => ?_, fun p q h1 h2 h3 => ?_, fun p q h1 h2 h3 h4 => ?_, sp.trans hperm⟩
  · by_cases hql : q < ys.length
    · rw [sat q hql]
      rcases hq with hq | hq
      · rw [if_pos (by omega)]; exact hout q (.inl hq)
      · rw [if_neg (by omega), if_neg (by omega), if_neg (by omega)]; exact hout q (.inr (by omega))
    · have e1 : at0 zs q = 0 := by rw [at0, List.getD_eq_getElem?_getD, List.getElem?_eq_none (by omega)]; rfl
      have e2 : at0 xs q = 0 := by rw [at0, List.getD_eq_getElem?_getD, List.getElem?_eq_none (by omega)]; rfl
      rw [e1, e2]
  · rw [sat p (by omega), sat q (by omega)]
    by_cases p1 : p < j
    · rw [if_pos p1]
      by_cases q1 : q < j
      · rw [if_pos q1]; exact hord p q h1 h2 (by omega)
      · rw [if_neg q1]
        by_cases q2 : q = j
        · rw [if_pos q2]
          have l1 := lo p h1 (by omega)
          rcases hend' with e | e
          · omega
          · by_cases e3 : p = j - 1
            · subst e3; unfold befo; omega
            · have := hord p (j - 1) h1 (by omega) (by omega)
              have l2 := lo (j - 1) (by omega) (by omega)
              unfold befo at this ⊢
              omega
        · rw [if_neg q2, if_pos (by omega)]; exact hord p (q - 1) h1 (by omega) (by omega)
    · rw [if_neg p1, if_neg (show ¬ q < j by omega), if_neg (show ¬ q = j by omega), if_pos (show q ≤ i by omega)]
      by_cases p2 : p = j
      · rw [if_pos p2]; exact .inl (sgt (q - 1) (by omega) (by omega))
      · rw [if_neg p2, if_pos (by omega)]; exact hord (p - 1) (q - 1) (by omega) (by omega) (by omega)
  · rw [sat p (by omega)]
    by_cases p1 : p < j
    · rw [if_pos p1]; exact hlow p q h1 (by omega) (by omega) h4
    · rw [if_neg p1]
      by_cases p2 : p = j
      · rw [if_pos p2, xi]; exact hx i q ha (by omega) h4
      · rw [if_neg p2, if_pos (by omega)]; exact hlow (p - 1) q (by omega) (by omega) (by omega) h4
end Go.Oche
