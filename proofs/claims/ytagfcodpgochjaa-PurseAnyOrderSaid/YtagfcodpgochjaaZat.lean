/- The texts TM, Cpy3, JIns, SeqW, BBlk, in build order. -/
import Derived.Test.YtagfcodpgochjaaZas
import Derived.Deep.CutBlock
import Derived.ArgAppend

/- Chapter 12: the moves of a till. -/
namespace Go.Proofs.Ytagfcodpgochjaa
open Go.RowKit Go.Oche Go.Proofs

abbrev Q4 := Int × Int × Int × Int
def movOf (n : Nat) (i : Nat) (x : Q4) : Mv := (40 * (x.1 % 1000) + i, x.2.1 % n, (x.2.1 % n + 1 + x.2.2.1 % ((n : Int) - 1)) % n, 1 + x.2.2.2)
def movK (MV : List Q4) (n k : Nat) : List Mv := (List.range k).map fun i => movOf n i (MV.getD i (0, 0, 0, 0))
@[simp] theorem movK_length (MV : List Q4) (n k : Nat) : (movK MV n k).length = k := by simp [movK]
theorem movK_succ (MV : List Q4) (n k : Nat) : movK MV n (k + 1) = movK MV n k ++ [movOf n k (MV.getD k (0, 0, 0, 0))] := by simp [movK, List.range_succ]
def U16x4 (x : Q4) : Prop := (0 ≤ x.1 ∧ x.1 ≤ 65535) ∧ (0 ≤ x.2.1 ∧ x.2.1 ≤ 65535) ∧ (0 ≤ x.2.2.1 ∧ x.2.2.1 ≤ 65535) ∧ 0 ≤ x.2.2.2 ∧ x.2.2.2 ≤ 65535
theorem flat_snoc {α : Type} (f : α → List Value) (l : List α) (x : α) : ((l ++ [x]).map f).flatten = (l.map f).flatten ++ f x := by simp
set_option maxRecDepth 100000 in
set_option maxHeartbeats 8000000 in
theorem moves_any {S : Nat → Prop} (MV : List Q4) (vo vc vm : Value) (n : Nat) (w : World) (hs : SlN 4 S w vm (MV.map (row4 .u16))) (hM : ∀ x ∈ MV, U16x4 x) (hn : 2 ≤ n ∧ n ≤ 10) :
    Calls Try.prog 24 #[.agg #[vo, vc, vm], .int .i64 n] w fun e w' => ∃ r, e = .returned r ∧ Below w.heap.size w w' ∧ SlN 4 (fun k => w.heap.size ≤ k) w' r ((movK MV n (min MV.length 30)).map mvRow) := by
  obtain ⟨a, cap, rfl, h2, h3⟩ := hs.form
  simp only [List.length_map] at *
  unfold maxLen at h3
  have HS := Lib.hid hs
  have HM := Lib.hid hM
  clear hs hM
  obtain ⟨N, hN⟩ : ∃ N, w.heap.size = N := ⟨_, rfl⟩
  obtain ⟨K, hK⟩ : ∃ K, min MV.length 30 = K := ⟨_, rfl⟩
  have hK1 : K ≤ MV.length ∧ K ≤ 30 ∧ (K < 30 → MV.length ≤ K) := by rw [← hK]; omega
  have HKK := Lib.hid hK
  have HK1 := Lib.hid hK1
  obtain ⟨w0, hw0⟩ : ∃ w0, (w.alloc (.cells #[vo, vc, .slice a MV.length cap] 53)).alloc (.cells #[] 44) = w0 := ⟨_, rfl⟩
  have hb0 : Below w.heap.size w w0 := by rw [← hw0]; exact (aB _ _).trans ((aB _ _).mono (by simp))
  have f0 : w0.heap[N]? = some (.cells #[vo, vc, .slice a MV.length cap] 53 (0, 0)) := by
    rw [← hw0, ← hN, Below.heap_alloc _ _ _ (by simp)]; exact World.alloc_heap_new _ _
  have o0 : w0.ownsRow (N + 1) 44 4 (.slice (some ⟨N + 1, 0, none⟩) 0 0) 0 [] := by
    rw [← hw0, ← hN]
    have := World.ownsRow_made (e := 44) (size := 4) (base := w.heap.size + 1) (w.alloc (.cells #[vo, vc, .slice a MV.length cap] 53)) #[] 0 (by simp) (Nat.zero_le _) rfl
    rwa [World.size_alloc] at this
  have HZ0 : Hid (w0.heap.size = N + 2) := Lib.hid (by rw [← hw0, ← hN]; simp)
  have HB0 : Hid (Below N w w0) := Lib.hid (by rw [← hN]; exact hb0)
  have HF0 := Lib.hid f0
  have HO0 := Lib.hid o0
  have HW0 := Lib.hid hw0
  have HN := Lib.hid hN
  have hn1 : (1 : Int) ≤ (n : Int) - 1 := by omega
  have hn10 : n ≤ 10 := hn.2
  have hn2 : 2 ≤ n := hn.1
  clear hb0 f0 o0 hw0 hN hK hK1 hn
  go_enter Try.func24, Try.ntmps24
  go_wp2_with fail
  rw [HW0.out, HN.out]
  go_loopw [5, 6] (fun lv iv wr => ∃ (i : Nat) (u : Value), u = lv ∧ iv = .int .i64 (i : Int) ∧ i ≤ K ∧ Hid (wr.ownsRow (N + 1) 44 4 u i ((movK MV n i).map mvRow).flatten) ∧ Hid (Below N w wr) ∧ Hid (N + 2 ≤ wr.heap.size) ∧ Hid (wr.heap[N]? = some (.cells #[vo, vc, .slice a MV.length cap] 53 (0, 0)))) (fun _ iv _ => K - (intOf iv).toNat)
  case atStart => exact ⟨0, _, rfl, rfl, Nat.zero_le _, HO0, HB0, Lib.hid (by rw [HZ0.out]; exact Nat.le_refl _), HF0⟩
  case round =>
    obtain ⟨i, u, hu, rfl, hi, HO, HBr, HSr, HFr⟩ := hrel
    subst hu
    obtain ⟨wo, rfl⟩ : ∃ wo : World, wo = wr := ⟨_, rfl⟩
    clear HO0 HB0 HF0 HZ0 HW0
    have x2 : wo.cell? ⟨N, 2, none⟩ = some (.slice a MV.length cap) := by rw [cell_of_heap HFr.out]; rfl
    by_cases hlt : i < K
    · as_aux_lemma =>
      have hil : i < MV.length := by have := HK1.out; omega
      have hi30 : i < 30 := by have := HK1.out; omega
      have d1 : decide ((i : Int) < (MV.length : Int)) = true := decide_eq_true (by omega)
      have d1n : decide (i < MV.length) = true := decide_eq_true hil
      have d2 : decide ((i : Int) < 30) = true := decide_eq_true (by omega)
      have d2n : decide (i < 30) = true := decide_eq_true hi30
      obtain ⟨x, hx⟩ : ∃ x, MV[i] = x := ⟨_, rfl⟩
      obtain ⟨y0, y1, y2, y3⟩ := x
      have hbd := HM.out MV[i] (List.getElem_mem hil)
      rw [hx] at hbd
      unfold U16x4 at hbd
      simp only at hbd
      obtain ⟨b0, off, hal, _, _, hc⟩ := (HS.out.below (by rw [HN.out]; exact HBr.out : Below w.heap.size w wo)).cell (i := i) (by simpa using hil)
      simp only [List.getElem_map, hx, row4] at hc
      have q0 := hc 0 _ rfl
      have q1 := hc 1 _ rfl
      have q2 := hc 2 _ rfl
      have q3 := hc 3 _ rfl
      simp only [Nat.add_zero] at q0
      cases hal
      obtain ⟨p0, hp0⟩ : ∃ p : Nat, y0 % 1000 = p := ⟨(y0 % 1000).toNat, by omega⟩
      obtain ⟨p1, hp1⟩ : ∃ p : Nat, y1 % (n : Int) = p := ⟨(y1 % (n : Int)).toNat, by have := Int.emod_nonneg y1 (show (n : Int) ≠ 0 by omega); omega⟩
      obtain ⟨p2, hp2⟩ : ∃ p : Nat, y2 % ((n : Int) - 1) = p := ⟨(y2 % ((n : Int) - 1)).toNat, by have := Int.emod_nonneg y2 (show (n : Int) - 1 ≠ 0 by omega); omega⟩
      have b0' : p0 < 1000 := by omega
      have b1' : p1 < n := by have := Int.emod_lt_of_pos y1 (show (0 : Int) < n by omega); omega
      have b2' : p2 < n := by have := Int.emod_lt_of_pos y2 (show (0 : Int) < (n : Int) - 1 by omega); omega
      obtain ⟨p3, hp3⟩ : ∃ p : Nat, ((p1 : Int) + 1 + (p2 : Int)) % (n : Int) = p := ⟨(((p1 : Int) + 1 + (p2 : Int)) % (n : Int)).toNat, by have := Int.emod_nonneg ((p1 : Int) + 1 + (p2 : Int)) (show (n : Int) ≠ 0 by omega); omega⟩
      have b3' : p3 < n := by have := Int.emod_lt_of_pos ((p1 : Int) + 1 + (p2 : Int)) (show (0 : Int) < n by omega); omega
      have HMV : Hid (movOf n i (MV.getD i (0, 0, 0, 0)) = (40 * (p0 : Int) + (i : Int), (p1 : Int), (p3 : Int), 1 + y3)) := Lib.hid (by
        rw [List.getD_eq_getElem?_getD, List.getElem?_eq_getElem hil, Option.getD_some, hx, movOf]
        simp only [hp0, hp1, hp2, hp3])
      have m0 : y0.tmod 1000 = (p0 : Int) := by rw [Int.tmod_eq_emod_of_nonneg (by omega)]; exact hp0
      have m1 : y1.tmod (n : Int) = (p1 : Int) := by rw [Int.tmod_eq_emod_of_nonneg (by omega)]; exact hp1
      have m2 : y2.tmod ((n : Int) - 1) = (p2 : Int) := by rw [Int.tmod_eq_emod_of_nonneg (by omega)]; exact hp2
      have m3 : ((p1 : Int) + 1 + (p2 : Int)).tmod (n : Int) = (p3 : Int) := by rw [Int.tmod_eq_emod_of_nonneg (by omega)]; exact hp3
      have W0 : IntKind.i64.wrap y0 = y0 := wrap_small _ (by omega) (by omega)
      have W1 : IntKind.i64.wrap y1 = y1 := wrap_small _ (by omega) (by omega)
      have W2 : IntKind.i64.wrap y2 = y2 := wrap_small _ (by omega) (by omega)
      have W3 : IntKind.i64.wrap y3 = y3 := wrap_small _ (by omega) (by omega)
      have V0 : IntKind.i64.wrap (p0 : Int) = (p0 : Int) := wrap_small _ (by omega) (by omega)
      have V1 : IntKind.i64.wrap (p1 : Int) = (p1 : Int) := wrap_small _ (by omega) (by omega)
      have V2 : IntKind.i64.wrap (p2 : Int) = (p2 : Int) := wrap_small _ (by omega) (by omega)
      have V3 : IntKind.i64.wrap (p3 : Int) = (p3 : Int) := wrap_small _ (by omega) (by omega)
      have X0 : IntKind.i64.wrap (40 * (p0 : Int)) = 40 * (p0 : Int) := wrap_small _ (by omega) (by omega)
      have X1 : IntKind.i64.wrap (40 * (p0 : Int) + (i : Int)) = 40 * (p0 : Int) + (i : Int) := wrap_small _ (by omega) (by omega)
      have X2 : IntKind.i64.wrap (1 + y3) = 1 + y3 := wrap_small _ (by omega) (by omega)
      have X3 : IntKind.i64.wrap ((p1 : Int) + 1) = (p1 : Int) + 1 := wrap_small _ (by omega) (by omega)
      have X4 : IntKind.i64.wrap ((n : Int) - 1) = (n : Int) - 1 := wrap_small _ (by omega) (by omega)
      have X5 : IntKind.i64.wrap ((p1 : Int) + 1 + (p2 : Int)) = (p1 : Int) + 1 + (p2 : Int) := wrap_small _ (by omega) (by omega)
      have nz : ¬ (n : Int) = 0 := by omega
      have nzn : ¬ n = 0 := by omega
      have nz1 : ¬ (n : Int) - 1 = 0 := by omega
      obtain ⟨Z, hZ⟩ : ∃ Z, wo.heap.size = Z := ⟨_, rfl⟩
      obtain ⟨wa, hwa⟩ : ∃ wa, wo.alloc (.cells #[.int .u16 y0, .int .u16 y1, .int .u16 y2, .int .u16 y3] 99) = wa := ⟨_, rfl⟩
      have hba : Below wo.heap.size wo wa := by rw [← hwa]; exact aB _ _
      have hpa : wa.heap[Z]? = some (.cells #[.int .u16 y0, .int .u16 y1, .int .u16 y2, .int .u16 y3] 99 (0, 0)) := by rw [← hwa, ← hZ]; exact World.alloc_heap_new _ _
      have HBA := Lib.hid hba
      have HPA := Lib.hid hpa
      have HWA := Lib.hid hwa
      clear hc hx hbd hp0 hp1 hp2 hp3 hba hpa hwa
      go_wp2_with fail
      rw [HWA.out]
      have u0 : wa.cell? ⟨Z, 0, none⟩ = some (.int .u16 y0) := by rw [cell_of_heap HPA.out]; rfl
      have u1' : wa.cell? ⟨Z, 1, none⟩ = some (.int .u16 y1) := by rw [cell_of_heap HPA.out]; rfl
      have u3 : wa.cell? ⟨Z, 3, none⟩ = some (.int .u16 y3) := by rw [cell_of_heap HPA.out]; rfl
      refine wp_region_seq 18 (.is ?_ :: .is ?_ :: .is ?_ :: .is ?_ :: .is ?_ :: .is ?_ :: .is ?_ :: .is ?_ :: .is ?_ :: .is ?_ :: .is ?_ :: .is ?_ :: .is ?_ :: .is ?_ :: .is ?_ :: .is ?_ :: .is (.agg #[.int .i64 (40 * (p0 : Int) + (i : Int)), .int .i64 p1, .int .i64 0, .int .i64 (1 + y3)]) :: kBox wa.heap.size 44 #[.int .i64 0, .int .i64 0, .int .i64 0, .int .i64 0] :: []) rfl mix (by kernel_rfl) (by kernel_rfl) ?_
      rotate_left 16
      simp only [List.take_succ_cons, List.take_zero]
      iterate 17
        refine seq_is rfl (fun w1 hb1 _ => ?_) ?_
        · have c0 := bAt hb1 u0
          have c1 := bAt hb1 u1'
          have c3 := bAt hb1 u3
          simp [opOK, go_sem, c0, c1, c3, W0, W1, W3, X0, X1, X2, m0, m1, nzn, Below.refl]
          try exact rfl
        simp only [Act.put, List.setIfInBounds_toArray, List.set_cons_succ, List.set_cons_zero]
      refine seq_new ⟨_, 0, rfl⟩ (by rfl) (fun u1 hb1 _ => ?_) ?_
      · exact opOK_alloc (by kernel_rfl) hb1.size
      rintro v8 ⟨b, rfl⟩
      simp only [Act.put, List.setIfInBounds_toArray, List.set_cons_succ, List.set_cons_zero]
      refine seq_end fun w6 hb6 hH => ?_
      have hbx : (kBox wa.heap.size 44 #[.int .i64 0, .int .i64 0, .int .i64 0, .int .i64 0]).p (.pointer (some ⟨b, 0, none⟩)) w6 := by
        have := hH 17 (by omega)
        simpa only [addH, if_true] using this
      obtain ⟨b', eb, hb6k, hp6⟩ := hbx
      cases eb
      simp only [List.drop_succ_cons, List.drop_zero]
      refine wpList_opOK rfl (opOK_store_row (R := fun _ w' => w' = w6.setRow b #[.int .i64 (40 * (p0 : Int) + (i : Int)), .int .i64 p1, .int .i64 0, .int .i64 (1 + y3)]) 44 (.tmp 8) (.tmp 42) rfl b #[.int .i64 (40 * (p0 : Int) + (i : Int)), .int .i64 p1, .int .i64 0, .int .i64 (1 + y3)] rfl rfl 44 _ hp6 (by kernel_rfl) rfl (by simp [Value.oneCell']) rfl) ?_
      rintro _ _ rfl
      have hby : Below wa.heap.size wa (w6.setRow b #[.int .i64 (40 * (p0 : Int) + (i : Int)), .int .i64 p1, .int .i64 0, .int .i64 (1 + y3)]) := below_setRow hb6 hb6k _
      have hpy := setRow_heap w6 b _ #[.int .i64 (40 * (p0 : Int) + (i : Int)), .int .i64 p1, .int .i64 0, .int .i64 (1 + y3)] _ _ hp6
      obtain ⟨wy, hwy⟩ : ∃ wy, w6.setRow b #[.int .i64 (40 * (p0 : Int) + (i : Int)), .int .i64 p1, .int .i64 0, .int .i64 (1 + y3)] = wy := ⟨_, rfl⟩
      rw [hwy] at hby hpy ⊢
      have s1 : wy.cell? ⟨b, 1, none⟩ = some (.int .i64 p1) := by rw [cell_of_heap hpy]; rfl
      have s2 : wy.cell? ⟨Z, 2, none⟩ = some (.int .u16 y2) := bAt hby (by rw [cell_of_heap HPA.out]; rfl)
      have HBY := Lib.hid hby
      have HPY := Lib.hid hpy
      have HBK := Lib.hid hb6k
      clear hb6 hH hp6 hby hpy hwy hb6k u0 u1' u3 q0 q1 q2 q3 m0 m1 W0 W1 W3 V0 V1 X0 X1 X2
      go_wp2_with fail
      refine wp_region_seq 13 (.is ?_ :: .is ?_ :: .is ?_ :: .is ?_ :: .is ?_ :: .is ?_ :: .is ?_ :: .is ?_ :: .is ?_ :: .is ?_ :: .is ?_ :: .is ?_ :: .is ?_ :: []) rfl mix (by kernel_rfl) (by kernel_rfl) ?_
      rotate_left 13
      simp only [List.take_succ_cons, List.take_zero]
      iterate 13
        refine seq_is rfl (fun w1 hb1 _ => ?_) ?_
        · have c1 := bAt hb1 s1
          have c2 := bAt hb1 s2
          simp [opOK, go_sem, c1, c2, W2, X3, X4, X5, m2, m3, nzn, nz1, Below.refl]
          try exact rfl
        simp only [Act.put, List.setIfInBounds_toArray, List.set_cons_succ, List.set_cons_zero]
      refine seq_end fun w7 hb7 _ => ?_
      simp only [List.drop_succ_cons, List.drop_zero]
      have hp7 := (hb7.block b (Array.getElem?_eq_some_iff.1 HPY.out).1).trans HPY.out
      have t2 : w7.cell? ⟨b, 2, none⟩ = some (.int .i64 0) := by rw [cell_of_heap hp7]; rfl
      have tf2 : w7.frozen? ⟨b, 2, none⟩ = false := frozen_of_heap hp7
      have HB7 := Lib.hid hb7
      have HP7 := Lib.hid hp7
      clear hb7 s1 s2 m2 m3 W2 V2 V3 X3 X4 X5
      obtain ⟨w8, hw8⟩ : ∃ w8, w7.setCell ⟨b, 2, none⟩ (.int .i64 p3) = w8 := ⟨_, rfl⟩
      have hp8 : w8.heap[b]? = some (.cells #[.int .i64 (40 * (p0 : Int) + (i : Int)), .int .i64 p1, .int .i64 p3, .int .i64 (1 + y3)] 44 (0, 0)) := by
        rw [← hw8, heap_setCell_at (o := 2) HP7.out]; rfl
      have r0 : w8.cell? ⟨b, 0, none⟩ = some (.int .i64 (40 * (p0 : Int) + (i : Int))) := by rw [cell_of_heap hp8]; rfl
      have r1 : w8.cell? ⟨b, 1, none⟩ = some (.int .i64 p1) := by rw [cell_of_heap hp8]; rfl
      have r2 : w8.cell? ⟨b, 2, none⟩ = some (.int .i64 p3) := by rw [cell_of_heap hp8]; rfl
      have r3 : w8.cell? ⟨b, 3, none⟩ = some (.int .i64 (1 + y3)) := by rw [cell_of_heap hp8]; rfl
      have hb8 : Below wo.heap.size wo w8 := by
        rw [← hw8]
        exact (bThen (bThen HBA.out HBY.out) HB7.out).setCell (by show wo.heap.size ≤ b; have := HBK.out; have := HBA.out.size; omega) _
      have HW8 := Lib.hid hw8
      have HP8 := Lib.hid hp8
      have HB8 := Lib.hid hb8
      clear hw8 hp8 hb8
      obtain ⟨Y, hY⟩ : ∃ Y, w8.heap.size = Y := ⟨_, rfl⟩
      obtain ⟨w9, hw9⟩ : ∃ w9, w8.alloc (.cells #[.int .i64 (40 * (p0 : Int) + (i : Int)), .int .i64 p1, .int .i64 p3, .int .i64 (1 + y3)] 44) = w9 := ⟨_, rfl⟩
      have hb9 : Below wo.heap.size wo w9 := bThen HB8.out (by rw [← hw9]; exact aB _ _)
      have hp9 : w9.heap[Y]? = some (.cells #[.int .i64 (40 * (p0 : Int) + (i : Int)), .int .i64 p1, .int .i64 p3, .int .i64 (1 + y3)] 44 (0, 0)) := by rw [← hw9, ← hY]; exact World.alloc_heap_new _ _
      have HW9 := Lib.hid hw9
      have HP9 := Lib.hid hp9
      have HB9 := Lib.hid hb9
      have HO9 := Lib.hid (ownsN_below HO.out hb9)
      have HN9 : Hid (N + 1 ≤ w9.heap.size) := Lib.hid (by have := HSr.out; have := hb9.size; omega)
      clear hw9 hp9 hb9
      refine wpList_opOK rfl (show opOK Try.prog _ _ w7 (fun _ w' => w' = w8) by simp [opOK, go_sem, t2, tf2]; exact HW8.out) ?_
      rintro _ _ rfl
      clear t2 tf2
      go_wp2_with (at_builtin; rw [HW9.out]; refine wpList_appendN rfl (.tmp 56) (.tmp 58) 40 rfl (N + 1) 44 (.agg #[.int .i64 0, .int .i64 0, .int .i64 0, .int .i64 0]) 4 32 Try.underlying40 info44 rfl (by decide) u i _ rfl HO9.out Y 0 1 1 (mvRow (40 * (p0 : Int) + (i : Int), (p1 : Int), (p3 : Int), 1 + y3)) rfl rfl (fun j u hj => by rw [cell_of_heap HP9.out, Nat.zero_add]; simpa [mvRow] using hj) (fun u hu => by simp [mvRow] at hu; rcases hu with rfl | rfl | rfl | rfl <;> rfl) (by omega) (by decide) HN9.out ?_)
      intro v' we hown hgr hat
      have HOe : Hid (we.ownsRow (N + 1) 44 4 v' (i + 1) ((movK MV n (i + 1)).map mvRow).flatten) := Lib.hid (by rw [movK_succ, HMV.out, flat_snoc]; simpa using hown)
      have HBe : Hid (Below (N + 1) wo we) := Lib.hid ((HB9.out.mono (by have := HSr.out; omega)).trans (below_grownBy hgr HN9.out fun g hg => (HO9.out.lt g hg).1))
      have HBf : Hid (Below N w we) := Lib.hid (HBr.out.trans (HBe.out.mono (by omega)))
      have HFe := Lib.hid ((HBe.out.block N (by omega)).trans HFr.out)
      have HSe : Hid (N + 2 ≤ we.heap.size) := Lib.hid (by have := HSr.out; have := HBe.out.size; omega)
      have hwi : IntKind.i64.wrap ((i : Int) + 1) = (i : Int) + 1 := wrap_small _ (by omega) (by omega)
      clear hown hgr hat r0 r1 r2 r3 x2 hY hZ
      go_wp2
      go_roundw
      case rel => exact ⟨i + 1, _, rfl, by go_num, by omega, HOe, HBf, HSe, HFe⟩
      case measure => simp [intOf]; omega
    · obtain rfl : i = K := by omega
      have hex : (decide ((i : Int) < (MV.length : Int)) = false ∧ decide (i < MV.length) = false) ∨ (decide ((i : Int) < (MV.length : Int)) = true ∧ decide (i < MV.length) = true ∧ decide ((i : Int) < 30) = false ∧ decide (i < 30) = false) := by
        have := HK1.out
        by_cases h : i < MV.length
        · exact .inr ⟨decide_eq_true (by omega), decide_eq_true h, decide_eq_false (by omega), decide_eq_false (by omega)⟩
        · exact .inl ⟨decide_eq_false (by omega), decide_eq_false h⟩
      have hi30 : i ≤ 30 := HK1.out.2.1
      have HP : Hid (Below w.heap.size w wo ∧ SlN 4 (fun k => w.heap.size ≤ k) wo u ((movK MV n (min MV.length 30)).map mvRow)) := Lib.hid (by
        rw [HKK.out, HN.out]
        refine ⟨HBr.out, (SlN.of_ownsN (rows := (movK MV n i).map mvRow) (by simpa using HO.out) (fun r hr => ?_)).mono fun k hk => by omega⟩
        obtain ⟨t, _, rfl⟩ := List.mem_map.1 hr
        rfl)
      rcases hex with ⟨d1, d2⟩ | ⟨d1, d2, d3, d4⟩
      all_goals
        go_wp2
        go_ret
        exact ⟨_, rfl, HP.out⟩
end Go.Proofs.Ytagfcodpgochjaa

/- append([]T{}, l...) once more, at a step of a region that draws its order: nothing that there was is changed. -/
namespace Go.Oche
open Go Go.RowKit
theorem opOK_copyB {P : Program} {w : World} {o : Oper} {a : Act} (s x : Operand) (t : TypeId) (ho : o.op = .call { callee := .builtin .append, args := #[s, x], argTypes := #[t, t] })
    (e : TypeId) (z : Value) (size bytes : Nat) (ht : P.underlying t = some (.slice e)) (hi : (P.info? e).map (fun i => (i.zero, i.size, i.bytes)) = some (some z, size, bytes)) (hzs : z.cells.size = size) (hsz : 0 < size)
    (q : Nat) (hs : a.eval s = .slice (some ⟨q, 0, none⟩) 0 0) {S : Nat → Prop} (v : Value) (rows : List (List Value)) (hx : a.eval x = v) (hsl : SlN size S w v rows) (_h1 : ∀ r ∈ rows, ∀ u ∈ r, u.oneCell' = true)
    (h63 : rows.length ≤ 100000) (hbytes : bytes ≤ 1000) :
    opOK P o a w (fun v' w' => Below w.heap.size w w' ∧ SlN size (fun _ => True) w' v' rows) := by
  obtain ⟨i, hi', hz0, hz1, hz2⟩ := info_parts hi
  obtain ⟨al, cap, rfl, hc1, hc2, hcell⟩ := hsl
  by_cases h0 : rows = []
  · subst h0
    unfold opOK execOp
    simp only [ho, resolve, invoke, builtin, Sem.run_bind, Sem.run_pure, Result.andThen_ok, List.map_toArray, List.map_cons, List.map_nil, hs, hx, List.length_nil, run_append_empty t o.type e i z ht hi' hz0]
    exact ⟨⟨rfl, rfl, rfl, Nat.le_refl _, fun _ _ => rfl⟩, _, _, rfl, Nat.le_refl _, Nat.zero_le _, fun i r hr => by simp at hr⟩
  · have hlen : 0 < rows.length := List.length_pos_iff.2 h0
    have hr : ∀ r ∈ rows, r.length = size := fun r hr => by
      obtain ⟨i, hi⟩ := List.getElem?_of_mem hr
      exact (hcell i r hi).1
    obtain ⟨_, b, off, rfl, _, _⟩ := hcell 0 rows[0] (List.getElem?_eq_getElem hlen)
    have hfl : rows.flatten.length = rows.length * size := flat_len hr
    have hmul : rows.length * bytes ≤ 100000 * 1000 := Nat.mul_le_mul h63 hbytes
    have hnews : ∀ j u, rows.flatten[j]? = some u → w.cell? ((⟨b, off, none⟩ : Addr).add j) = some u := fun j u hj => by
      rw [addr_at]
      have hjl : j < rows.length * size := by rw [← hfl]; exact (List.getElem?_eq_some_iff.1 hj).1
      have hi2 : j / size < rows.length := (Nat.div_lt_iff_lt_mul hsz).2 hjl
      have hr2 := hr rows[j / size] (List.getElem_mem hi2)
      have hm : j % size < size := Nat.mod_lt _ hsz
      obtain ⟨_, b', off', hal, _, hc⟩ := hcell (j / size) _ (List.getElem?_eq_getElem hi2)
      cases hal
      have h3 := SlN.of_owns.flat_at (n := 0) (c := 0) (rows := []) hr (List.getElem?_eq_getElem hi2) (List.getElem?_eq_getElem (by rw [hr2]; exact hm))
      have hj2 : j / size * size + j % size = j := by rw [Nat.mul_comm]; exact Nat.div_add_mod j size
      rw [hj2, hj] at h3
      have h4 := hc (j % size) _ (List.getElem?_eq_getElem (by rw [hr2]; exact hm))
      rw [Nat.add_assoc, hj2] at h4
      rw [h4, h3]
    obtain ⟨v', W', hrun, hown, hg⟩ := run_append_arg_grows (P := P) w t o.type e i z size bytes ht hi' hz0 hz1 hz2 hzs hsz ⟨q, 0, none⟩ 0 0 [] (by simp) (fun j u hj => by simp at hj) ⟨b, off, none⟩ rows.length cap rows.flatten hfl hnews (by omega) (by unfold maxLen; omega) (by rw [Nat.zero_add]; exact Nat.le_trans hmul (by decide))
    unfold opOK execOp
    simp only [ho, resolve, invoke, builtin, Sem.run_bind, Sem.run_pure, Result.andThen_ok, List.map_toArray, List.map_cons, List.map_nil, hs, hx, hrun]
    refine ⟨below_grownBy hg (Nat.le_refl _) (fun k hk => by cases hk), ?_⟩
    rw [Nat.zero_add, List.nil_append] at hown
    exact (SlN.of_ownsN hown hr).mono fun _ _ => trivial
end Go.Oche

/- A region that draws its order, with append(append(append([]T{}, xs...), x), ys...): an element inserted in a copy. -/
namespace Go.Oche
open Go Go.RowKit
/-- Operation i0 makes the empty slice, il the literal; ia, ib, ic append. -/
structure JIns (w0 : World) (i0 ia il ib ic : Nat) (e : TypeId) (k na nc : Nat) (us : List Value) (xa xc : List Value) (L : Nat → Bool) (vs : Nat → Value) (W : World) : Prop where
  b : Below w0.heap.size w0 W
  nil : L i0 = true → L ia = false → W.ownsRow w0.heap.size e k (vs i0) 0 []
  blk : L i0 = true → ∃ q, vs i0 = .slice (some ⟨q, 0, none⟩) 0 0 ∧ w0.heap.size ≤ q ∧ q < W.heap.size
  lit : L il = true → ∃ q, vs il = .slice (some ⟨q, 0, none⟩) 1 1 ∧ w0.heap.size ≤ q ∧ (L ib = false → q < W.heap.size ∧ (∀ j u, us[j]? = some u → W.cell? ⟨q, j, none⟩ = some u) ∧ (L i0 = true → (vs i0).ownBlock ≠ some q) ∧ (L ia = true → (vs ia).ownBlock ≠ some q))
  ra : L ia = true → L ib = false → W.ownsRow w0.heap.size e k (vs ia) na xa
  rb : L ib = true → L ic = false → W.ownsRow w0.heap.size e k (vs ib) (na + 1) (xa ++ us)
  rc : L ic = true → W.ownsRow w0.heap.size e k (vs ic) (na + 1 + nc) (xa ++ us ++ xc)
  ab : L ib = true → L ia = true ∧ L il = true
  a0 : L ia = true → L i0 = true
  bc : L ic = true → L ib = true
section
variable {w0 W W' : World} {i0 ia il ib ic : Nat} {e : TypeId} {k na nc : Nat} {us xa xc : List Value} {L : Nat → Bool} {vs vs' : Nat → Value}
theorem JIns.congr (hc : ∀ j, L j = true → vs j = vs' j) (h : JIns w0 i0 ia il ib ic e k na nc us xa xc L vs W) : JIns w0 i0 ia il ib ic e k na nc us xa xc L vs' W :=
  ⟨h.b, fun hl => hc _ hl ▸ h.nil hl, fun hl => hc _ hl ▸ h.blk hl, fun hl => by
    obtain ⟨q, h1, h2, h3⟩ := h.lit hl
    exact ⟨q, by rw [← hc _ hl]; exact h1, h2, fun hb => ⟨(h3 hb).1, (h3 hb).2.1, fun h0 => by rw [← hc _ h0]; exact (h3 hb).2.2.1 h0, fun ha => by rw [← hc _ ha]; exact (h3 hb).2.2.2 ha⟩⟩,
    fun hl => hc _ hl ▸ h.ra hl, fun hl => hc _ hl ▸ h.rb hl, fun hl => hc _ hl ▸ h.rc hl, h.ab, h.a0, h.bc⟩
theorem JIns.start : JIns w0 i0 ia il ib ic e k na nc us xa xc (fun _ => false) vs w0.drew :=
  ⟨⟨rfl, rfl, rfl, Nat.le_refl _, fun _ _ => rfl⟩, fun h => (by cases h), fun h => (by cases h), fun h => (by cases h), fun h => (by cases h), fun h => (by cases h), fun h => (by cases h), fun h => (by cases h), fun h => (by cases h), fun h => (by cases h)⟩
theorem setT {i j : Nat} (h : L j = true) : setB L i j = true := by unfold setB; split; rfl; exact h
theorem JIns.read (h : JIns w0 i0 ia il ib ic e k na nc us xa xc L vs W) {i : Nat} {v : Value} (h0 : i0 ≠ i) (h1 : ia ≠ i) (h2 : il ≠ i) (h3 : ib ≠ i) (h4 : ic ≠ i) : JIns w0 i0 ia il ib ic e k na nc us xa xc (setB L i) (updV vs i v) W := by
  refine ⟨h.b, ?_, ?_, ?_, ?_, ?_, ?_, ?_, ?_, ?_⟩ <;> simp only [setB_ne h0, setB_ne h1, setB_ne h2, setB_ne h3, setB_ne h4, updV_ne h0, updV_ne h1, updV_ne h2, updV_ne h3, updV_ne h4]
  · exact h.nil
  · exact h.blk
  · exact h.lit
  · exact h.ra
  · exact h.rb
  · exact h.rc
  · exact h.ab
  · exact h.a0
  · exact h.bc
/-- The empty slice. -/
theorem JIns.mk0 (h : JIns w0 i0 ia il ib ic e k na nc us xa xc L vs W) (hL : L i0 = false) (h1 : ia ≠ i0) (h2 : il ≠ i0) (h3 : ib ≠ i0) (h4 : ic ≠ i0) :
    JIns w0 i0 ia il ib ic e k na nc us xa xc (setB L i0) (updV vs i0 (.slice (some ⟨W.heap.size, 0, none⟩) 0 0)) (W.alloc (.cells #[] e)) := by
  have hLa : L ia = false := by
    cases hq : L ia with
    | false => rfl
    | true => rw [h.a0 hq] at hL; cases hL
  have hLb : L ib = false := by
    cases hq : L ib with
    | false => rfl
    | true => rw [(h.ab hq).1] at hLa; cases hLa
  have hLc : L ic = false := by
    cases hq : L ic with
    | false => rfl
    | true => rw [h.bc hq] at hLb; cases hLb
  have ho : (W.alloc (.cells #[] e)).ownsRow w0.heap.size e k (.slice (some ⟨W.heap.size, 0, none⟩) 0 0) 0 [] := by
    have := World.ownsRow_made (e := e) (size := k) (base := w0.heap.size) W #[] 0 h.b.size (Nat.zero_le _) (by simp)
    exact this
  refine ⟨h.b.trans ((aB W _).mono h.b.size), fun _ _ => by rw [updV_eq]; exact ho, fun _ => ⟨W.heap.size, updV_eq, h.b.size, by simp⟩, fun hl => ?_, ?_, ?_, ?_, ?_, fun _ => setB_eq, ?_⟩
  · rw [setB_ne h2] at hl
    obtain ⟨q, q1, q2, q3⟩ := h.lit hl
    refine ⟨q, by rw [updV_ne h2]; exact q1, q2, fun _ => ?_⟩
    obtain ⟨c1, c2, c3, c4⟩ := q3 hLb
    refine ⟨by simp; omega, fun j u hj => bAt (aB _ _) (c2 j u hj), fun _ => by rw [updV_eq]; simp [Value.ownBlock]; omega, fun ha => ?_⟩
    rw [setB_ne h1, hLa] at ha; cases ha
  · rw [setB_ne h1, hLa]; exact fun hl => by cases hl
  · rw [setB_ne h3, hLb]; exact fun hl => by cases hl
  · rw [setB_ne h4, hLc]; exact fun hl => by cases hl
  · rw [setB_ne h3, hLb]; exact fun hl => by cases hl
  · rw [setB_ne h4, hLc]; exact fun hl => by cases hl
/-- The literal. -/
theorem JIns.mkL (h : JIns w0 i0 ia il ib ic e k na nc us xa xc L vs W) (hL : L il = false) {cs : Array Value} {t : TypeId} (hcs : ∀ (j : Nat) (u : Value), us[j]? = some u → cs[j]? = some u) (h0 : i0 ≠ il) (h1 : ia ≠ il) (h3 : ib ≠ il) (h4 : ic ≠ il) :
    JIns w0 i0 ia il ib ic e k na nc us xa xc (setB L il) (updV vs il (.slice (some ⟨W.heap.size, 0, none⟩) 1 1)) (W.alloc (.cells cs t)) := by
  have hLb : L ib = false := by
    cases hq : L ib with
    | false => rfl
    | true => rw [(h.ab hq).2] at hL; cases hL
  have hLc : L ic = false := by
    cases hq : L ic with
    | false => rfl
    | true => rw [h.bc hq] at hLb; cases hLb
  refine ⟨h.b.trans ((aB W _).mono h.b.size), ?_, ?_, fun _ => ?_, ?_, ?_, ?_, ?_, ?_, ?_⟩
  · rw [setB_ne h0, setB_ne h1, updV_ne h0]; exact fun a b => ownsN_below (h.nil a b) (aB _ _)
  · rw [setB_ne h0, updV_ne h0]; exact fun a => let ⟨q, q1, q2, q3⟩ := h.blk a; ⟨q, q1, q2, by simp; omega⟩
  · refine ⟨W.heap.size, updV_eq, h.b.size, fun _ => ⟨by simp, fun j u hj => ?_, ?_, ?_⟩⟩
    · rw [cell_of_heap (World.alloc_heap_new _ _)]; exact hcs j u hj
    · rw [setB_ne h0, updV_ne h0]
      intro a
      obtain ⟨q, q1, q2, q3⟩ := h.blk a
      rw [q1]; simp [Value.ownBlock]; omega
    · rw [setB_ne h1, updV_ne h1]
      intro a e'
      have := ((h.ra a hLb).lt _ e').2; omega
  · rw [setB_ne h1, setB_ne h3, updV_ne h1]; exact fun a b => ownsN_below (h.ra a b) (aB _ _)
  · rw [setB_ne h3, hLb]; exact fun hl => by cases hl
  · rw [setB_ne h4, hLc]; exact fun hl => by cases hl
  · rw [setB_ne h3, hLb]; exact fun hl => by cases hl
  · rw [setB_ne h0, setB_ne h1]; exact h.a0
  · rw [setB_ne h4, hLc]; exact fun hl => by cases hl
/-- The first append. -/
theorem JIns.apA (h : JIns w0 i0 ia il ib ic e k na nc us xa xc L vs W) (hL : L ia = false) (hd : L i0 = true) (hg : W.grownBy W' (vs i0).ownBlock) {v : Value} (ho : W'.ownsRow w0.heap.size e k v na xa)
    (hat : v.ownBlock = (vs i0).ownBlock ∨ v.ownBlock = some W.heap.size) (h0 : i0 ≠ ia) (h2 : il ≠ ia) (h3 : ib ≠ ia) (h4 : ic ≠ ia) : JIns w0 i0 ia il ib ic e k na nc us xa xc (setB L ia) (updV vs ia v) W' := by
  have hLb : L ib = false := by
    cases hq : L ib with
    | false => rfl
    | true => rw [(h.ab hq).1] at hL; cases hL
  have hLc : L ic = false := by
    cases hq : L ic with
    | false => rfl
    | true => rw [h.bc hq] at hLb; cases hLb
  obtain ⟨q0, e0, l0, s0⟩ := h.blk hd
  have hb0 : (vs i0).ownBlock = some q0 := by rw [e0]; rfl
  have hbW : Below w0.heap.size W W' := below_grownBy hg h.b.size fun g hg' => by rw [hb0] at hg'; cases hg'; exact l0
  refine ⟨h.b.trans hbW, fun _ hl => (by rw [setB_eq] at hl; cases hl), ?_, fun hl => ?_, fun _ _ => by rw [updV_eq]; exact ho, ?_, ?_, ?_, ?_, ?_⟩
  · rw [setB_ne h0, updV_ne h0]; exact fun a => let ⟨q, q1, q2, q3⟩ := h.blk a; ⟨q, q1, q2, Nat.lt_of_lt_of_le q3 hg.size⟩
  · rw [setB_ne h2] at hl
    obtain ⟨q, q1, q2, q3⟩ := h.lit hl
    obtain ⟨c1, c2, c3, c4⟩ := q3 hLb
    refine ⟨q, by rw [updV_ne h2]; exact q1, q2, fun _ => ⟨Nat.lt_of_lt_of_le c1 hg.size, fun j u hj => ?_, fun _ => ?_, fun _ => ?_⟩⟩
    · exact (World.cell?_of_block (w := W) (hg.block q c1 (fun e' => c3 hd e'.symm))).trans (c2 j u hj)
    · rw [updV_ne h0]; exact c3 hd
    · rw [updV_eq]
      rcases hat with hat | hat
      · rw [hat]; exact c3 hd
      · rw [hat]; simp; omega
  · rw [setB_ne h3, hLb]; exact fun hl => by cases hl
  · rw [setB_ne h4, hLc]; exact fun hl => by cases hl
  · rw [setB_ne h3, hLb]; exact fun hl => by cases hl
  · exact fun _ => setT hd
  · rw [setB_ne h4, hLc]; exact fun hl => by cases hl
/-- The second one. -/
theorem JIns.apB (h : JIns w0 i0 ia il ib ic e k na nc us xa xc L vs W) (hL : L ib = false) (hda : L ia = true) (hdl : L il = true) (hg : W.grownBy W' (vs ia).ownBlock) {v : Value} (ho : W'.ownsRow w0.heap.size e k v (na + 1) (xa ++ us))
    (h0 : i0 ≠ ib) (h1 : ia ≠ ib) (h2 : il ≠ ib) (h4 : ic ≠ ib) : JIns w0 i0 ia il ib ic e k na nc us xa xc (setB L ib) (updV vs ib v) W' := by
  have hLc : L ic = false := by
    cases hq : L ic with
    | false => rfl
    | true => rw [h.bc hq] at hL; cases hL
  have hra := h.ra hda hL
  have hbW : Below w0.heap.size W W' := below_grownBy hg h.b.size fun g hg' => (hra.lt g hg').1
  refine ⟨h.b.trans hbW, ?_, ?_, fun hl => ?_, fun _ hl => (by rw [setB_eq] at hl; cases hl), fun _ _ => by rw [updV_eq]; exact ho, ?_, fun _ => ⟨setT hda, setT hdl⟩, ?_, ?_⟩
  · rw [setB_ne h0, setB_ne h1, hda]; exact fun _ hl => by cases hl
  · rw [setB_ne h0, updV_ne h0]; exact fun a => let ⟨q, q1, q2, q3⟩ := h.blk a; ⟨q, q1, q2, Nat.lt_of_lt_of_le q3 hg.size⟩
  · rw [setB_ne h2] at hl
    obtain ⟨q, q1, q2, _⟩ := h.lit hl
    exact ⟨q, by rw [updV_ne h2]; exact q1, q2, fun hl' => by rw [setB_eq] at hl'; cases hl'⟩
  · rw [setB_ne h4, hLc]; exact fun hl => by cases hl
  · rw [setB_ne h0, setB_ne h1]; exact h.a0
  · rw [setB_ne h4, hLc]; exact fun hl => by cases hl
/-- The third one. -/
theorem JIns.apC (h : JIns w0 i0 ia il ib ic e k na nc us xa xc L vs W) (hL : L ic = false) (hdb : L ib = true) (hg : W.grownBy W' (vs ib).ownBlock) {v : Value} (ho : W'.ownsRow w0.heap.size e k v (na + 1 + nc) (xa ++ us ++ xc))
    (h0 : i0 ≠ ic) (h1 : ia ≠ ic) (h2 : il ≠ ic) (h3 : ib ≠ ic) : JIns w0 i0 ia il ib ic e k na nc us xa xc (setB L ic) (updV vs ic v) W' := by
  have hrb := h.rb hdb hL
  have hda := (h.ab hdb).1
  have hbW : Below w0.heap.size W W' := below_grownBy hg h.b.size fun g hg' => (hrb.lt g hg').1
  refine ⟨h.b.trans hbW, ?_, ?_, fun hl => ?_, ?_, fun _ hl => (by rw [setB_eq] at hl; cases hl), fun _ => by rw [updV_eq]; exact ho, ?_, ?_, fun _ => setT hdb⟩
  · rw [setB_ne h0, setB_ne h1, hda]; exact fun _ hl => by cases hl
  · rw [setB_ne h0, updV_ne h0]; exact fun a => let ⟨q, q1, q2, q3⟩ := h.blk a; ⟨q, q1, q2, Nat.lt_of_lt_of_le q3 hg.size⟩
  · rw [setB_ne h2] at hl
    obtain ⟨q, q1, q2, _⟩ := h.lit hl
    refine ⟨q, by rw [updV_ne h2]; exact q1, q2, fun hl' => ?_⟩
    rw [setB_ne h3, hdb] at hl'; cases hl'
  · rw [setB_ne h1, setB_ne h3, hdb]; exact fun _ hl => by cases hl
  · rw [setB_ne h3, setB_ne h1, setB_ne h2]; exact h.ab
  · rw [setB_ne h0, setB_ne h1]; exact h.a0
end
end Go.Oche

/- A region that draws its order, walked in the text's order (Seq), all of it. -/
namespace Go.Oche
open Go Go.RowKit
theorem wp_region_seqW {P : Program} {id : Nat} {l : List Oper} {a : Act} {w : World} {Q : Exit → Act → World → Prop} (ks : List Kn) (hlk : ks.length = l.length) (hmix : P.follows .mixedOrders = true) (hB : freeB l.toArray l.length a.tmps.size = true) (hR : readsB l.toArray l.length = true)
    (h : SeqAll P l.toArray w ks (fun a H => ∀ w', Below w.heap.size w w' → (∀ j, j < l.length → H j w') → wpList P l.toArray Q [] a w') ks l a (fun _ _ => True) 0) : (Code.region id l.toArray true).wp P Q a w :=
  wp_region_seq l.length ks hlk hmix hB hR (by rw [List.take_length, List.drop_length]; exact h)
end Go.Oche

/- A block of truth values of one's own. -/
namespace Go.Oche
open Go Go.RowKit
def BoolBlk (W : World) (R : Nat) (t : TypeId) (n : Nat) (f : Nat → Bool) : Prop :=
  ∃ A : Array Value, W.heap[R]? = some (.cells A t (0, 0)) ∧ A.size = n ∧ ∀ j, j < n → A[j]? = some (.bool (f j))
section
variable {W W' : World} {R : Nat} {t : TypeId} {n : Nat} {f g : Nat → Bool}
theorem BoolBlk.cell (h : BoolBlk W R t n f) {j : Nat} (hj : j < n) : W.cell? ⟨R, j, none⟩ = some (.bool (f j)) := by
  obtain ⟨A, h1, h2, h3⟩ := h
  rw [cell_of_heap h1]; exact h3 j hj
theorem BoolBlk.frozen (h : BoolBlk W R t n f) (j : Nat) : W.frozen? ⟨R, j, none⟩ = false := by
  obtain ⟨A, h1, _⟩ := h; exact frozen_of_heap h1
theorem BoolBlk.set (h : BoolBlk W R t n f) (i : Nat) (v : Bool) : BoolBlk (W.setCell ⟨R, i, none⟩ (.bool v)) R t n (fun j => if j = i then v else f j) := by
  obtain ⟨A, h1, h2, h3⟩ := h
  refine ⟨_, heap_setCell_at h1 _, by simp [h2], fun j hj => ?_⟩
  rw [Array.getElem?_setIfInBounds]
  by_cases e : i = j
  · subst e; simp [h2, hj]
  · have e' : ¬ j = i := fun h => e h.symm
    simp only [if_neg e, if_neg e']; exact h3 j hj
theorem BoolBlk.keep (h : BoolBlk W R t n f) (hk : W'.heap[R]? = W.heap[R]?) : BoolBlk W' R t n f := by
  obtain ⟨A, h1, h2⟩ := h; exact ⟨A, hk.trans h1, h2⟩
theorem BoolBlk.lt (h : BoolBlk W R t n f) : R < W.heap.size := by
  obtain ⟨A, h1, _⟩ := h; exact (Array.getElem?_eq_some_iff.1 h1).1
theorem BoolBlk.below (h : BoolBlk W R t n f) (hb : Below W.heap.size W W') : BoolBlk W' R t n f := h.keep (hb.block R h.lt)
theorem BoolBlk.congr (h : BoolBlk W R t n f) (e : ∀ j, j < n → f j = g j) : BoolBlk W R t n g := by
  obtain ⟨A, h1, h2, h3⟩ := h; exact ⟨A, h1, h2, fun j hj => by rw [h3 j hj, e j hj]⟩
theorem BoolBlk.made (W : World) (t : TypeId) (n : Nat) : BoolBlk (W.alloc (.cells (madeCells #[.bool false] n) t)) W.heap.size t n (fun _ => false) :=
  ⟨_, World.alloc_heap_new _ _, size_madeCells _ _, fun j hj => by
    rw [← Array.getElem?_toList, toList_madeCells_one]; simp [hj]⟩
/-- Blocks of two types are two. -/
theorem IntBlk.ne_bool {Q : Nat} {t' : TypeId} {h : Nat → Int} {m : Nat} (hi : IntBlk W R t m h) (hb : BoolBlk W Q t' n f) (ht : t ≠ t') : R ≠ Q := fun e => by
  obtain ⟨A, h1, _⟩ := hi
  obtain ⟨A', h2, _⟩ := hb
  rw [e, h2] at h1
  simp only [Option.some.injEq, Obj.cells.injEq] at h1
  exact ht h1.2.1.symm
end
end Go.Oche
