/- The texts WO, in build order. -/
import Derived.Test.YtagfcodpgochjaaZaq
import Derived.Lib.MinMax
import Derived.Deep.CutBlock
import Derived.Deep.QuietTactic
import Derived.BigQuiet

/- Chapter 12: PurseOffences. -/
namespace Go.Proofs.Ytagfcodpgochjaa
open Go.RowKit Go.Oche Go.Proofs

def w16x3 (t : Int × Int × Int) : List Value := [.int .u16 t.1, .int .u16 t.2.1, .int .u16 t.2.2]
def w8x2 (x : Int × Int) : List Value := [.int .u8 x.1, .int .u8 x.2]
def tarC (t : Int × Int × Int) : Int × Int × Int := (t.1, t.2.1, t.1 + t.2.2)
def tarL (TS : List (Int × Int × Int)) (k : Nat) : List (Int × Int × Int) := (List.range k).map fun i => tarC (TS.getD i (0, 0, 0))
def tarM (TS : List (Int × Int × Int)) : Nat := max 1 (min TS.length 5)
def offC (m : Nat) (x : Int × Int) : Int × Int := (x.1 % 6, x.2 % (m : Int))
def U16 (n : Int) : Prop := 0 ≤ n ∧ n ≤ 65535
def U8 (n : Int) : Prop := 0 ≤ n ∧ n ≤ 255
@[simp] theorem tarL_length (TS : List (Int × Int × Int)) (k : Nat) : (tarL TS k).length = k := by simp [tarL]
theorem tarL_succ (TS : List (Int × Int × Int)) (k : Nat) : tarL TS (k + 1) = tarL TS k ++ [tarC (TS.getD k (0, 0, 0))] := by simp [tarL, List.range_succ]
theorem rows_snoc {α : Type} (f : α → List Value) (l : List α) (x : α) : ((l ++ [x]).map f).flatten = (l.map f).flatten ++ f x := by simp
theorem tarL_ok {TS : List (Int × Int × Int)} (h : ∀ t ∈ TS, U16 t.1 ∧ U16 t.2.1 ∧ U16 t.2.2) (k : Nat) : ∀ t ∈ tarL TS k, TarOk t := by
  intro t ht
  obtain ⟨i, _, rfl⟩ := List.mem_map.1 ht
  rw [List.getD_eq_getElem?_getD]
  cases hg : TS[i]? with
  | none => exact TarOk.zero
  | some s =>
    have := h s (List.mem_of_getElem? hg)
    unfold U16 at this
    simp only [Option.getD_some, tarC, TarOk]
    omega
theorem acc0 {f : Int × Int → Int} {g : Int × Int → Int × Int} {LS : List (Int × Int)} : ∀ j, j < 6 → (0 : Int) = (accT f ((LS.take 0).map g)).getD j 0 := by
  intro j hj
  have : j = 0 ∨ j = 1 ∨ j = 2 ∨ j = 3 ∨ j = 4 ∨ j = 5 := by omega
  rcases this with rfl | rfl | rfl | rfl | rfl | rfl <;> rfl
set_option maxRecDepth 100000 in
set_option maxHeartbeats 60000000 in
theorem purseOffences_any {S S' : Nat → Prop} (TS : List (Int × Int × Int)) (LS : List (Int × Int)) (mp mk : Int) (v vl : Value) (w : World) (hs : SlN 3 S w v (TS.map w16x3)) (hl : SlN 2 S' w vl (LS.map w8x2))
    (hT : ∀ t ∈ TS, U16 t.1 ∧ U16 t.2.1 ∧ U16 t.2.2) (hL : ∀ x ∈ LS, U8 x.1 ∧ U8 x.2) (hmp : U8 mp) (hmk : U8 mk) :
    Calls Try.prog 11 #[v, vl, .agg #[.int .u8 mp, .int .u8 mk]] w fun e w' => e = .returned (.bool true) ∧ Below w.heap.size w w' := by
  obtain ⟨a, cap, rfl, h2, h3⟩ := hs.form
  obtain ⟨al, capl, rfl, h2l, h3l⟩ := hl.form
  simp only [List.length_map] at *
  unfold maxLen at h3 h3l
  have HS := Lib.hid hs
  have HL := Lib.hid hl
  have HT := Lib.hid hT
  have HLB := Lib.hid hL
  clear hs hl hT hL
  obtain ⟨N, hN⟩ : ∃ N, w.heap.size = N := ⟨_, rfl⟩
  obtain ⟨w0, hw0⟩ : ∃ w0, ((w.alloc (.cells #[.int .u8 mp, .int .u8 mk] 71)).alloc (.cells #[] 73)).alloc (.cells #[] 76) = w0 := ⟨_, rfl⟩
  have hb0 : Below w.heap.size w w0 := by rw [← hw0]; exact (aB _ _).trans (((aB _ _).mono (by simp)).trans ((aB _ _).mono (by simp <;> omega)))
  have f0 : w0.heap[N]? = some (.cells #[.int .u8 mp, .int .u8 mk] 71 (0, 0)) := by
    rw [← hw0, ← hN]; exact (Below.heap_alloc _ _ _ (by simp <;> omega)).trans ((Below.heap_alloc _ _ _ (by simp <;> omega)).trans (World.alloc_heap_new _ _))
  have c0 : w0.cell? ⟨N, 0, none⟩ = some (.int .u8 mp) := by rw [cell_of_heap f0]; rfl
  have c1 : w0.cell? ⟨N, 1, none⟩ = some (.int .u8 mk) := by rw [cell_of_heap f0]; rfl
  have ht0 : w0.ownsRow (N + 1) 73 3 (.slice (some ⟨N + 1, 0, none⟩) 0 0) 0 [] := by
    rw [← hw0, ← hN]
    have := World.ownsRow_made (e := 73) (size := 3) (base := w.heap.size + 1) (w.alloc (.cells #[.int .u8 mp, .int .u8 mk] 71)) #[] 0 (by simp) (Nat.zero_le _) rfl
    rw [World.size_alloc] at this
    exact this.alloc _
  have ho0 : w0.ownsRow (N + 1) 76 2 (.slice (some ⟨N + 2, 0, none⟩) 0 0) 0 [] := by
    rw [← hw0, ← hN]
    have := World.ownsRow_made (e := 76) (size := 2) (base := w.heap.size + 1) ((w.alloc (.cells #[.int .u8 mp, .int .u8 mk] 71)).alloc (.cells #[] 73)) #[] 0 (by simp <;> omega) (Nat.zero_le _) rfl
    rwa [World.size_alloc, World.size_alloc] at this
  have HNW : Hid (w0.heap.size = N + 3) := Lib.hid (by rw [← hw0, ← hN]; simp)
  obtain ⟨M, hM⟩ : ∃ M, tarM TS = M := ⟨_, rfl⟩
  have hM1 : 1 ≤ M ∧ M ≤ 5 ∧ (1 < M → M ≤ TS.length) ∧ (M < 5 → TS.length ≤ M) := by rw [← hM]; unfold tarM; omega
  have HB0 := Lib.hid hb0
  have HC0 := Lib.hid c0
  have HC1 := Lib.hid c1
  have HT0 := Lib.hid ht0
  have HO0 := Lib.hid ho0
  have HW0 := Lib.hid hw0
  have HM1 := Lib.hid hM1
  clear hb0 f0 c0 c1 ht0 ho0 hw0 hM hM1
  go_enter Try.func11, Try.ntmps11
  go_upto_block 0 with fail
  rw [HW0.out]
  go_cut [7, 9, 10] from 25 to 315 (fun tv _ _ wc => ∃ (au : Option Addr) (cu : Nat), tv = .slice au M cu ∧ Hid (wc.ownsRow (N + 1) 73 3 (.slice au M cu) M ((tarL TS M).map tarRow).flatten) ∧
    Hid (wc.ownsRow (N + 1) 76 2 (.slice (some ⟨N + 2, 0, none⟩) 0 0) 0 []) ∧ Below (N + 1) w0 wc)
  case first =>
   go_wp2_with fail
   go_loopw [7, 9] (fun tv iv wr => ∃ (i : Nat) (u : Value), u = tv ∧ iv = .int .i64 i ∧ i ≤ M ∧ Hid (wr.ownsRow (N + 1) 73 3 u i ((tarL TS i).map tarRow).flatten) ∧
     Hid (wr.ownsRow (N + 1) 76 2 (.slice (some ⟨N + 2, 0, none⟩) 0 0) 0 []) ∧ Below (N + 1) w0 wr) (fun _ iv _ => M - (intOf iv).toNat)
   case atStart => exact ⟨0, _, rfl, rfl, Nat.zero_le _, HT0, HO0, Below.refl _ _⟩
   case round =>
     obtain ⟨i, u, hu, rfl, hi, HTo, HOo, hb⟩ := hrel
     subst hu
     obtain ⟨wo, rfl⟩ : ∃ wo : World, wo = wr := ⟨_, rfl⟩
     have HBO := Lib.hid hb
     clear hb HT0 HO0
     by_cases hlt : i < M
     · as_aux_lemma =>
       obtain ⟨P, hP⟩ : ∃ P, wo.heap.size = P := ⟨_, rfl⟩
       have hNP : N + 3 ≤ P := by rw [← hP, ← HNW.out]; exact HBO.out.size
       obtain ⟨wz, hwz⟩ : ∃ wz, wo.alloc (.cells #[.int .i64 0, .int .i64 0, .int .i64 0] 73) = wz := ⟨_, rfl⟩
       have hbz : Below wo.heap.size wo wz := by rw [← hwz]; exact aB _ _
       have hpz : wz.heap[P]? = some (.cells #[.int .i64 0, .int .i64 0, .int .i64 0] 73 (0, 0)) := by rw [← hwz, ← hP]; exact World.alloc_heap_new _ _
       have HWZ := Lib.hid hwz
       have HBZ := Lib.hid hbz
       have HPZ := Lib.hid hpz
       have HNP := Lib.hid hNP
       have hex : (i < TS.length ∧ (i = 0 ∨ (¬ i = 0 ∧ i < 5))) ∨ (¬ i < TS.length ∧ i = 0) := by have := HM1.out; omega
       obtain ⟨X, hX⟩ : ∃ X, tarC (TS.getD i (0, 0, 0)) = X := ⟨_, rfl⟩
       have HX := Lib.hid hX
       clear hwz hbz hpz hNP hX
       rcases hex with ⟨hil, hz⟩ | ⟨hil, hz⟩
       case' inl =>
         have d1 : decide ((i : Int) < (TS.length : Int)) = true := decide_eq_true (by omega)
         have d1n : decide (i < TS.length) = true := decide_eq_true hil
         have hz' : (((i : Int) == 0) = true ∧ (i == 0) = true) ∨ (((i : Int) == 0) = false ∧ (i == 0) = false ∧ decide ((i : Int) < (5 : Int)) = true ∧ decide (i < 5) = true) := by
           rcases hz with h | ⟨h1, h2⟩
           · exact .inl ⟨beq_iff_eq.2 (by omega), beq_iff_eq.2 h⟩
           · exact .inr ⟨beq_eq_false_iff_ne.2 (by omega), beq_eq_false_iff_ne.2 h1, decide_eq_true (by omega), decide_eq_true h2⟩
         obtain ⟨t0, ht0⟩ : ∃ t0, TS[i] = t0 := ⟨_, rfl⟩
         obtain ⟨p, q, r⟩ := t0
         have hbd := HT.out TS[i] (List.getElem_mem hil)
         rw [ht0] at hbd
         unfold U16 at hbd
         simp only at hbd
         have hXe : X = (p, q, p + r) := by
           rw [← HX.out, List.getD_eq_getElem?_getD, List.getElem?_eq_getElem hil, Option.getD_some, ht0]; rfl
         obtain ⟨b, off, hal, _, _, hc⟩ := (HS.out.below (HB0.out.trans ((HBO.out.trans (HBZ.out.mono (by have := HNP.out; omega))).mono (by omega)))).cell (i := i) (by simpa using hil)
         simp only [List.getElem_map, ht0, w16x3] at hc
         have x0 := hc 0 _ rfl
         have x1 := hc 1 _ rfl
         have x2 := hc 2 _ rfl
         simp only [Nat.add_zero] at x0
         cases hal
         have hw0 : IntKind.i64.wrap p = p := wrap_small _ (by omega) (by omega)
         have hw1 : IntKind.i64.wrap q = q := wrap_small _ (by omega) (by omega)
         have hw2 : IntKind.i64.wrap r = r := wrap_small _ (by omega) (by omega)
         have hw3 : IntKind.i64.wrap (p + r) = p + r := wrap_small _ (by omega) (by omega)
         have HXE := Lib.hid hXe
         clear hz hc ht0 hXe hbd
         rcases hz' with ⟨e1, e2⟩ | ⟨e1, e2, e3, e4⟩
         all_goals
           go_wp2_with fail
           rw [HWZ.out]
           refine wp_region_seq 26 (.is ?_ :: .is ?_ :: .is ?_ :: .is ?_ :: .is ?_ :: .is ?_ :: .is ?_ :: .is ?_ :: .is ?_ :: .is ?_ :: .is ?_ :: .is ?_ :: .is ?_ :: .is ?_ :: .is ?_ :: .is ?_ :: .is ?_ :: .is ?_ :: .is ?_ :: .is ?_ :: .is ?_ :: .is ?_ :: .is ?_ :: .is ?_ :: .is ?_ :: .is (.agg #[.int .i64 p, .int .i64 q, .int .i64 (p + r)]) :: []) rfl mix (by kernel_rfl) (by kernel_rfl) ?_
           rotate_left 25
           simp only [List.take_succ_cons, List.take_zero]
           iterate 26
             refine seq_is rfl (fun u1 hb1 _ => ?_) ?_
             · have x0' := bAt hb1 x0
               have x1' := bAt hb1 x1
               have x2' := bAt hb1 x2
               simp [opOK, go_sem, x0', x1', x2', hil, hw0, hw1, hw2, hw3, Below.refl]
               try exact rfl
             simp only [Act.put, List.setIfInBounds_toArray, List.set_cons_succ, List.set_cons_zero]
           refine seq_end fun w6 hb6 _ => ?_
           simp only [List.drop_succ_cons, List.drop_zero]
           have hp6 : w6.heap[P]? = some (.cells #[.int .i64 0, .int .i64 0, .int .i64 0] 73 (0, 0)) := (hb6.block P (Array.getElem?_eq_some_iff.1 HPZ.out).1).trans HPZ.out
           refine wpList_opOK rfl (opOK_store_row (R := fun _ w' => w' = w6.setRow P #[.int .i64 p, .int .i64 q, .int .i64 (p + r)]) 73 (.tmp 10) (.tmp 71) rfl P #[.int .i64 p, .int .i64 q, .int .i64 (p + r)] rfl rfl 73 _ hp6 (by kernel_rfl) rfl (by simp [Value.oneCell']) rfl) ?_
           rintro _ _ rfl
           have hby : Below wo.heap.size wo (w6.setRow P #[.int .i64 p, .int .i64 q, .int .i64 (p + r)]) := below_setRow (bThen HBZ.out hb6) (by omega) _
           have hpy := setRow_heap w6 P _ #[.int .i64 p, .int .i64 q, .int .i64 (p + r)] _ _ hp6
           obtain ⟨wy, hwy⟩ : ∃ wy, w6.setRow P #[.int .i64 p, .int .i64 q, .int .i64 (p + r)] = wy := ⟨_, rfl⟩
           rw [hwy] at hby hpy ⊢
           have HBY := Lib.hid hby
           have HPY : Hid (wy.heap[P]? = some (.cells #[.int .i64 X.1, .int .i64 X.2.1, .int .i64 X.2.2] 73 (0, 0))) := Lib.hid (by rw [HXE.out]; exact hpy)
           clear hb6 hp6 hby hpy hwy hw0 hw1 hw2 hw3 x0 x1 x2 e1 e2 d1 d1n
           obtain ⟨Z, hZ⟩ : ∃ Z, wy.heap.size = Z := ⟨_, rfl⟩
           obtain ⟨wa, hwa⟩ : ∃ wa, wy.alloc (.cells #[.int .i64 p, .int .i64 q, .int .i64 (p + r)] 73) = wa := ⟨_, rfl⟩
           have HBA : Hid (Below wo.heap.size wo wa) := Lib.hid (bThen HBY.out (by rw [← hwa]; exact aB _ _))
           have HPA : Hid (wa.heap[Z]? = some (.cells #[.int .i64 X.1, .int .i64 X.2.1, .int .i64 X.2.2] 73 (0, 0))) := Lib.hid (by rw [← hwa, ← hZ, HXE.out]; exact World.alloc_heap_new _ _)
           have y0 : wy.cell? ⟨P, 0, none⟩ = some (.int .i64 p) := by rw [cell_of_heap HPY.out, HXE.out]; rfl
           have y1 : wy.cell? ⟨P, 1, none⟩ = some (.int .i64 q) := by rw [cell_of_heap HPY.out, HXE.out]; rfl
           have y2 : wy.cell? ⟨P, 2, none⟩ = some (.int .i64 (p + r)) := by rw [cell_of_heap HPY.out, HXE.out]; rfl
           have HWA := Lib.hid hwa
           clear hwa
           have HTA : Hid (wa.ownsRow (N + 1) 73 3 u i ((tarL TS i).map tarRow).flatten) := Lib.hid (ownsN_below HTo.out HBA.out)
           have HOA : Hid (wa.ownsRow (N + 1) 76 2 (.slice (some ⟨N + 1 + 1, 0, none⟩) 0 0) 0 []) := Lib.hid (ownsN_below HOo.out HBA.out)
           have HNA : Hid (N + 1 ≤ wa.heap.size) := Lib.hid (by have := HNP.out; have := HBA.out.size; omega)
           go_wp2_with (at_builtin; rw [HWA.out]; refine wpList_appendN rfl (.tmp 72) (.tmp 74) 36 rfl (N + 1) 73 (.agg #[.int .i64 0, .int .i64 0, .int .i64 0]) 3 24 Try.underlying36 info73 rfl (by decide) u i _ rfl HTA.out Z 0 1 1 (tarRow X) rfl rfl (fun j u hj => by rw [cell_of_heap HPA.out, Nat.zero_add]; simpa [tarRow] using hj) (fun u hu => by simp [tarRow] at hu; rcases hu with rfl | rfl | rfl <;> rfl) (by have := HM1.out; omega) (by decide) HNA.out ?_)
           intro v' we hown hgr hat
       case' inr =>
         have d1 : decide ((i : Int) < (TS.length : Int)) = false := decide_eq_false (by omega)
         have d1n : decide (i < TS.length) = false := decide_eq_false hil
         have e1 : ((i : Int) == 0) = true := beq_iff_eq.2 (by omega)
         have e2 : (i == 0) = true := beq_iff_eq.2 hz
         have hXe : X = (0, 0, 0) := by
           rw [← HX.out, List.getD_eq_getElem?_getD, List.getElem?_eq_none (by omega)]; rfl
         have HXE := Lib.hid hXe
         clear hXe hz
         have hZ : wz.heap.size = P + 1 := by rw [← HWZ.out, ← hP]; simp
         obtain ⟨wa, hwa⟩ : ∃ wa, wz.alloc (.cells #[.int .i64 0, .int .i64 0, .int .i64 0] 73) = wa := ⟨_, rfl⟩
         have HBA : Hid (Below wo.heap.size wo wa) := Lib.hid (bThen HBZ.out (by rw [← hwa]; exact aB _ _))
         have HPA : Hid (wa.heap[P + 1]? = some (.cells #[.int .i64 X.1, .int .i64 X.2.1, .int .i64 X.2.2] 73 (0, 0))) := Lib.hid (by rw [← hwa, ← hZ, HXE.out]; exact World.alloc_heap_new _ _)
         have y0 : wz.cell? ⟨P, 0, none⟩ = some (.int .i64 0) := by rw [cell_of_heap HPZ.out]; rfl
         have y1 : wz.cell? ⟨P, 1, none⟩ = some (.int .i64 0) := by rw [cell_of_heap HPZ.out]; rfl
         have y2 : wz.cell? ⟨P, 2, none⟩ = some (.int .i64 0) := by rw [cell_of_heap HPZ.out]; rfl
         have HWA := Lib.hid hwa
         clear hwa
         have HTA : Hid (wa.ownsRow (N + 1) 73 3 u i ((tarL TS i).map tarRow).flatten) := Lib.hid (ownsN_below HTo.out HBA.out)
         have HOA : Hid (wa.ownsRow (N + 1) 76 2 (.slice (some ⟨N + 1 + 1, 0, none⟩) 0 0) 0 []) := Lib.hid (ownsN_below HOo.out HBA.out)
         have HNA : Hid (N + 1 ≤ wa.heap.size) := Lib.hid (by have := HNP.out; have := HBA.out.size; omega)
         go_wp2_with (at_builtin; rw [HWZ.out, HWA.out]; refine wpList_appendN rfl (.tmp 72) (.tmp 74) 36 rfl (N + 1) 73 (.agg #[.int .i64 0, .int .i64 0, .int .i64 0]) 3 24 Try.underlying36 info73 rfl (by decide) u i _ rfl HTA.out (P + 1) 0 1 1 (tarRow X) rfl rfl (fun j u hj => by rw [cell_of_heap HPA.out, Nat.zero_add]; simpa [tarRow] using hj) (fun u hu => by simp [tarRow] at hu; rcases hu with rfl | rfl | rfl <;> rfl) (by have := HM1.out; omega) (by decide) HNA.out ?_)
         intro v' we hown hgr hat
       all_goals
         have HT2 : Hid (we.ownsRow (N + 1) 73 3 v' (i + 1) ((tarL TS (i + 1)).map tarRow).flatten) := Lib.hid (by rw [tarL_succ, HX.out, rows_snoc]; exact hown)
         have HO2 := Lib.hid (HOA.out.kept hgr (ownsN_ne HOA.out HTA.out (by decide)))
         have HB2 : Hid (Below (N + 1) w0 we) := Lib.hid ((HBO.out.trans (HBA.out.mono (by have := HNP.out; omega))).trans (below_grownBy hgr HNA.out fun q hq => (HTA.out.lt q hq).1))
         have hwi : IntKind.i64.wrap ((i : Int) + 1) = (i : Int) + 1 := wrap_small _ (by have := HM1.out; omega) (by have := HM1.out; omega)
         clear hown hgr hat
         go_wp2
         go_roundw
         case rel => exact ⟨i + 1, _, rfl, by go_num, by omega, HT2, HO2, HB2.out⟩
         case measure => simp [intOf]; omega
     · obtain rfl : i = M := by omega
       have hex : decide ((i : Int) < (TS.length : Int)) = false ∧ decide (i < TS.length) = false ∨ decide ((i : Int) < (TS.length : Int)) = true ∧ decide (i < TS.length) = true ∧ decide ((i : Int) < (5 : Int)) = false ∧ decide (i < 5) = false := by
         have := HM1.out
         by_cases h : i < TS.length
         · exact .inr ⟨decide_eq_true (by omega), decide_eq_true h, decide_eq_false (by omega), decide_eq_false (by omega)⟩
         · exact .inl ⟨decide_eq_false (by omega), decide_eq_false h⟩
       have e1 : ((i : Int) == 0) = false := beq_eq_false_iff_ne.2 (by have := HM1.out; omega)
       have e2 : (i == 0) = false := beq_eq_false_iff_ne.2 (by have := HM1.out; omega)
       obtain ⟨au, cu, rfl⟩ := owns_form HTo.out
       rcases hex with ⟨d1, d2⟩ | ⟨d1, d2, d3, d4⟩
       all_goals
         go_wp2_with fail
         go_meet
         case rel => exact ⟨au, cu, rfl, HTo, HOo, HBO.out⟩
  case rest =>
    as_aux_lemma =>
    obtain ⟨au, cu, rfl, HTo, HOo, hbo⟩ := hcut
    obtain ⟨wo, rfl⟩ : ∃ wo, wo = wc := ⟨_, rfl⟩
    have HBO := Lib.hid hbo
    clear hbo HT0 HO0
    have hmk : ∀ W : World, (Instr.makeSlice 22 (.int .i64 6) (.int .i64 6)).run Try.prog W = .ok (.slice (some ⟨W.heap.size, 0, none⟩) 6 6) (W.alloc (.cells (madeCells #[.int .i64 0] 6) 3)) := fun W => make_ints 6 (by decide) W
    go_wp2_with fail
    go_cut [11, 12] from 25 to 315 (fun rv qv wc => ∃ R Q : Nat, rv = .slice (some ⟨R, 0, none⟩) 6 6 ∧ qv = .slice (some ⟨Q, 0, none⟩) 6 6 ∧ Hid (IntBlk wc R 3 6 (fun _ => 0)) ∧ Hid (IntBlk wc Q 3 6 (fun _ => 0)) ∧ Hid (R ≠ Q ∧ N + 3 ≤ R ∧ N + 3 ≤ Q) ∧ Below wo.heap.size wo wc)
    case first =>
      go_region
      all_goals
        obtain ⟨wq, hwq⟩ : ∃ wq, ((wo.alloc (.cells (madeCells #[.int .i64 0] 6) 3)).alloc (.cells (madeCells #[.int .i64 0] 6) 3)).drew = wq := ⟨_, rfl⟩
        have hbq : Below wo.heap.size wo wq := by rw [← hwq]; exact bThen (bThen (aB _ _) (aB _ _)) (bDrew _ 1)
        have hI0 : IntBlk wq wo.heap.size 3 6 (fun _ => 0) := by rw [← hwq]; exact (IntBlk.made wo 3 6).below (bThen (aB _ _) (bDrew _ 1))
        have hI1 : IntBlk wq (wo.heap.size + 1) 3 6 (fun _ => 0) := by
          have := IntBlk.made (wo.alloc (.cells (madeCells #[.int .i64 0] 6) 3)) 3 6
          rw [World.size_alloc] at this
          rw [← hwq]; exact this
        have hRQ : N + 3 ≤ wo.heap.size := by have := HNW.out; have := HBO.out.size; omega
        rw [hwq]
        go_wp2_with fail
        go_meet
        case rel =>
          first
            | exact ⟨_, _, rfl, rfl, Lib.hid hI0, Lib.hid hI1, Lib.hid ⟨by omega, by omega, by omega⟩, hbq⟩
            | exact ⟨_, _, rfl, rfl, Lib.hid hI1, Lib.hid hI0, Lib.hid ⟨by omega, by omega, by omega⟩, hbq⟩
    case rest =>
      as_aux_lemma =>
      obtain ⟨R, Q, rfl, rfl, HI0, HI1, HRQ, hbq⟩ := hcut
      obtain ⟨wq, rfl⟩ : ∃ wq, wq = wc := ⟨_, rfl⟩
      obtain ⟨i, hi⟩ : ∃ i, i = M := ⟨_, rfl⟩
      subst hi
      have HM2 : Hid (1 ≤ i ∧ i ≤ 5) := Lib.hid ⟨HM1.out.1, HM1.out.2.1⟩
      have HTQ := Lib.hid (ownsN_below HTo.out hbq)
      have HOQ := Lib.hid (ownsN_below HOo.out hbq)
      have HBQ : Hid (Below (N + 1) w0 wq) := Lib.hid (HBO.out.trans (hbq.mono (by have := HNW.out; have := HBO.out.size; omega)))
      clear hbq hmk HM1 HTo HOo HBO
      obtain ⟨K, hK⟩ : ∃ K, min LS.length 60 = K := ⟨_, rfl⟩
      have hK1 : K ≤ LS.length ∧ K ≤ 60 ∧ (K < 60 → LS.length ≤ K) := by rw [← hK]; omega
      have HK1 := Lib.hid hK1
      clear hK hK1
      obtain ⟨ts, hts⟩ : ∃ ts, tarL TS i = ts := ⟨_, rfl⟩
      have htok : ∀ t ∈ ts, TarOk t := by rw [← hts]; exact tarL_ok HT.out i
      have htl : ts.length = i := by rw [← hts]; simp
      rw [hts] at HTQ
      have HTOK := Lib.hid htok
      have HTL := Lib.hid htl
      clear hts htok htl
      go_upto_block 2 with fail
      go_cut [8, 13, 14] from 25 to 315 (fun ov _ _ wr => Hid (wr.ownsRow (N + 1) 73 3 (.slice au i cu) i (ts.map tarRow).flatten) ∧
        Hid (wr.ownsRow (N + 1) 76 2 ov K (((LS.take K).map (offC i)).map offRow).flatten) ∧
        Hid (IntBlk wr R 3 6 (fun j => (accT (fstT ts) ((LS.take K).map (offC i))).getD j 0)) ∧ Hid (IntBlk wr Q 3 6 (fun j => (accT (mostT ts) ((LS.take K).map (offC i))).getD j 0)) ∧ Hid (Below (N + 1) w0 wr))
      case' first =>
       go_wp2_with fail
       go_loopw [8, 13] (fun ov kv wr => ∃ (k : Nat) (u2 : Value), u2 = ov ∧ kv = .int .i64 k ∧ k ≤ K ∧ Hid (wr.ownsRow (N + 1) 73 3 (.slice au i cu) i (ts.map tarRow).flatten) ∧
        Hid (wr.ownsRow (N + 1) 76 2 u2 k (((LS.take k).map (offC i)).map offRow).flatten) ∧
        Hid (IntBlk wr R 3 6 (fun j => (accT (fstT ts) ((LS.take k).map (offC i))).getD j 0)) ∧ Hid (IntBlk wr Q 3 6 (fun j => (accT (mostT ts) ((LS.take k).map (offC i))).getD j 0)) ∧ Below (N + 1) w0 wr) (fun _ kv _ => K - (intOf kv).toNat)
      case atStart => exact ⟨0, _, rfl, rfl, Nat.zero_le _, HTQ, HOQ, Lib.hid (HI0.out.congr acc0), Lib.hid (HI1.out.congr acc0), HBQ.out⟩
      case round =>
        clear HTQ HOQ HI0 HI1 HBQ
        obtain ⟨k, u2, hu2, rfl, hk, HTo, HOo, HIo, HJo, hb⟩ := hrel
        subst hu2
        obtain ⟨wk, rfl⟩ : ∃ wk : World, wk = wr := ⟨_, rfl⟩
        have HBK := Lib.hid hb
        have HBW : Hid (Below w.heap.size w wk) := Lib.hid (HB0.out.trans (hb.mono (by omega)))
        clear hb
        by_cases hlt : k < K
        · as_aux_lemma =>
          have hkl : k < LS.length := by have := HK1.out; omega
          have hk6 : k < 60 := by have := HK1.out; omega
          have d1 : decide ((k : Int) < (LS.length : Int)) = true := decide_eq_true (by omega)
          have d1n : decide (k < LS.length) = true := decide_eq_true hkl
          have d2 : decide ((k : Int) < (60 : Int)) = true := decide_eq_true (by omega)
          have d2n : decide (k < 60) = true := decide_eq_true hk6
          obtain ⟨x, hx⟩ : ∃ x, LS[k] = x := ⟨_, rfl⟩
          obtain ⟨x1, x2⟩ := x
          have hbd := HLB.out LS[k] (List.getElem_mem hkl)
          rw [hx] at hbd
          unfold U8 at hbd
          simp only at hbd
          obtain ⟨b, off, hal, _, _, hc⟩ := (HL.out.below HBW.out).cell (i := k) (by simpa using hkl)
          simp only [List.getElem_map, hx, w8x2] at hc
          have y0 := hc 0 _ rfl
          have y1 := hc 1 _ rfl
          simp only [Nat.add_zero] at y0
          cases hal
          have hi0 : ¬ (i : Int) = 0 := by have := HM2.out; omega
          have hi0n : ¬ i = 0 := by have := HM2.out; omega
          obtain ⟨p, hp⟩ : ∃ p : Nat, x1 % 6 = p := ⟨(x1 % 6).toNat, by omega⟩
          obtain ⟨q, hq⟩ : ∃ q : Nat, x2 % (i : Int) = q := ⟨(x2 % (i : Int)).toNat, by have := Int.emod_nonneg x2 hi0; omega⟩
          have hp6 : p < 6 := by omega
          have hqi : q < i := by have := Int.emod_lt_of_pos x2 (show (0 : Int) < i by omega); omega
          have hm1 : x1.tmod 6 = (p : Int) := by rw [Int.tmod_eq_emod_of_nonneg hbd.1.1]; exact hp
          have hm2 : x2.tmod (i : Int) = (q : Int) := by rw [Int.tmod_eq_emod_of_nonneg hbd.2.1]; exact hq
          have hwx1 : IntKind.i64.wrap x1 = x1 := wrap_small _ (by omega) (by omega)
          have hwx2 : IntKind.i64.wrap x2 = x2 := wrap_small _ (by omega) (by omega)
          have hXo : offC i LS[k] = ((p : Int), (q : Int)) := by rw [hx, offC]; simp only; rw [hp, hq]
          have HXO := Lib.hid hXo
          have hwp : IntKind.i64.wrap (p : Int) = (p : Int) := wrap_small _ (by omega) (by omega)
          have hwq : IntKind.i64.wrap (q : Int) = (q : Int) := wrap_small _ (by omega) (by have := HM2.out; omega)
          clear hc hx hbd hp hq hXo
          go_wp2_with fail
          refine wp_region_seq 18 (.is ?_ :: .is ?_ :: .is ?_ :: .is ?_ :: .is ?_ :: .is ?_ :: .is ?_ :: .is ?_ :: .is ?_ :: .is ?_ :: .is ?_ :: .is ?_ :: .is ?_ :: .is ?_ :: .is ?_ :: .is ?_ :: .is (.agg #[.int .i64 p, .int .i64 q]) :: kBox wk.heap.size 76 #[.int .i64 0, .int .i64 0] :: []) rfl mix (by kernel_rfl) (by kernel_rfl) ?_
          rotate_left 16
          simp only [List.take_succ_cons, List.take_zero]
          iterate 17
            refine seq_is rfl (fun u1 hb1 _ => ?_) ?_
            · have y0' := bAt hb1 y0
              have y1' := bAt hb1 y1
              simp [opOK, go_sem, y0', y1', hkl, hwx1, hwx2, hm1, hm2, hi0n, Below.refl]
              try exact rfl
            simp only [Act.put, List.setIfInBounds_toArray, List.set_cons_succ, List.set_cons_zero]
          refine seq_new ⟨_, 0, rfl⟩ (by rfl) (fun u1 hb1 _ => ?_) ?_
          · exact opOK_alloc (by kernel_rfl) hb1.size
          rintro v14 ⟨b, rfl⟩
          simp only [Act.put, List.setIfInBounds_toArray, List.set_cons_succ, List.set_cons_zero]
          refine seq_end fun w6 hb6 hH => ?_
          have hbx : (kBox wk.heap.size 76 #[.int .i64 0, .int .i64 0]).p (.pointer (some ⟨b, 0, none⟩)) w6 := by
            have := hH 17 (by omega)
            simpa only [addH, if_true] using this
          obtain ⟨b', eb, hb6k, hp6⟩ := hbx
          cases eb
          simp only [List.drop_succ_cons, List.drop_zero]
          refine wpList_opOK rfl (opOK_store_row (R := fun _ w' => w' = w6.setRow b #[.int .i64 p, .int .i64 q]) 76 (.tmp 14) (.tmp 104) rfl b #[.int .i64 p, .int .i64 q] rfl rfl 76 _ hp6 (by kernel_rfl) rfl (by simp [Value.oneCell']) rfl) ?_
          rintro _ _ rfl
          have hby : Below wk.heap.size wk (w6.setRow b #[.int .i64 p, .int .i64 q]) := below_setRow hb6 hb6k _
          have hpy := setRow_heap w6 b _ #[.int .i64 p, .int .i64 q] _ _ hp6
          obtain ⟨wy, hwy⟩ : ∃ wy, w6.setRow b #[.int .i64 p, .int .i64 q] = wy := ⟨_, rfl⟩
          rw [hwy] at hby hpy ⊢
          obtain ⟨Z, hZ⟩ : ∃ Z, wy.heap.size = Z := ⟨_, rfl⟩
          obtain ⟨wa, hwa⟩ : ∃ wa, wy.alloc (.cells #[.int .i64 p, .int .i64 q] 76) = wa := ⟨_, rfl⟩
          have hba : Below wk.heap.size wk wa := bThen hby (by rw [← hwa]; exact aB _ _)
          have hpa : wa.heap[Z]? = some (.cells #[.int .i64 p, .int .i64 q] 76 (0, 0)) := by rw [← hwa, ← hZ]; exact World.alloc_heap_new _ _
          have hpb : wa.heap[b]? = some (.cells #[.int .i64 p, .int .i64 q] 76 (0, 0)) := by
            rw [← hwa, Below.heap_alloc _ _ _ (Array.getElem?_eq_some_iff.1 hpy).1]; exact hpy
          have z0 : wy.cell? ⟨b, 0, none⟩ = some (.int .i64 p) := by rw [cell_of_heap hpy]; rfl
          have z1 : wy.cell? ⟨b, 1, none⟩ = some (.int .i64 q) := by rw [cell_of_heap hpy]; rfl
          have HBA := Lib.hid hba
          have HPA := Lib.hid hpa
          have HPB := Lib.hid hpb
          have HWA := Lib.hid hwa
          have HBK6 := Lib.hid hb6k
          have HTA : Hid (wa.ownsRow (N + 1) 73 3 (.slice au i cu) i (ts.map tarRow).flatten) := Lib.hid (ownsN_below HTo.out HBA.out)
          have HOA := Lib.hid (ownsN_below HOo.out HBA.out)
          have HIA := Lib.hid (HIo.out.below HBA.out)
          have HJA := Lib.hid (HJo.out.below HBA.out)
          have HNA : Hid (N + 1 ≤ wa.heap.size) := Lib.hid (by have := HNW.out; have := HBK.out.size; have := HBA.out.size; omega)
          clear hb6 hH hp6 hby hpy hwy hba hpa hpb hwa hb6k y0 y1 hwx1 hwx2 hm1 hm2 hi0 hi0n d1 d1n d2 d2n hwp hwq
          go_wp2_with (at_builtin; rw [HWA.out]; refine wpList_appendN rfl (.tmp 105) (.tmp 107) 37 rfl (N + 1) 76 (.agg #[.int .i64 0, .int .i64 0]) 2 16 Try.underlying37 info74 rfl (by decide) u2 k _ rfl HOA.out Z 0 1 1 (offRow ((p : Int), (q : Int))) rfl rfl (fun j u hj => by rw [cell_of_heap HPA.out, Nat.zero_add]; simpa [offRow] using hj) (fun u hu => by simp [offRow] at hu; rcases hu with rfl | rfl <;> rfl) (by omega) (by decide) HNA.out ?_)
          intro v' we hown hgr hat
          have HO2 : Hid (we.ownsRow (N + 1) 76 2 v' (k + 1) (((LS.take (k + 1)).map (offC i)).map offRow).flatten) := Lib.hid (by
            rw [List.take_succ_eq_append_getElem hkl, List.map_append, List.map_cons, List.map_nil, HXO.out, rows_snoc]; simpa [List.map_take] using hown)
          have HT2 := Lib.hid (HTA.out.kept hgr (ownsN_ne HTA.out HOA.out (by decide)))
          have hlt2 : ∀ g, u2.ownBlock = some g → N + 1 ≤ g := fun g hg => (HOA.out.lt g hg).1
          have neR : u2.ownBlock = none ∨ u2.ownBlock ≠ some R := by obtain ⟨A, hA, _⟩ := HIA.out; exact ownsN_ne_blk HOA.out hA (by decide)
          have neQ : u2.ownBlock = none ∨ u2.ownBlock ≠ some Q := by obtain ⟨A, hA, _⟩ := HJA.out; exact ownsN_ne_blk HOA.out hA (by decide)
          have neb : u2.ownBlock ≠ some b := fun e => by
            have := (HOo.out.lt b e).2; have := HBK6.out; omega
          have HI2 : Hid (IntBlk we R 3 6 (fun j => (accT (fstT ts) ((LS.take k).map (offC i))).getD j 0)) := Lib.hid (HIA.out.keep (hgr.block R HIA.out.lt (neR.elim (fun e => by rw [e]; simp) Ne.symm)))
          have HJ2 : Hid (IntBlk we Q 3 6 (fun j => (accT (mostT ts) ((LS.take k).map (offC i))).getD j 0)) := Lib.hid (HJA.out.keep (hgr.block Q HJA.out.lt (neQ.elim (fun e => by rw [e]; simp) Ne.symm)))
          have HPB2 : Hid (we.heap[b]? = some (.cells #[.int .i64 p, .int .i64 q] 76 (0, 0))) := Lib.hid ((hgr.block b (Array.getElem?_eq_some_iff.1 HPB.out).1 (Ne.symm neb)).trans HPB.out)
          have HBE : Hid (Below (N + 1) w0 we) := Lib.hid ((HBK.out.trans (HBA.out.mono (by have := HNW.out; have := HBK.out.size; omega))).trans (below_grownBy hgr HNA.out hlt2))
          have v0 : we.cell? ⟨b, 0, none⟩ = some (.int .i64 p) := by rw [cell_of_heap HPB2.out]; rfl
          have v1 : we.cell? ⟨b, 1, none⟩ = some (.int .i64 q) := by rw [cell_of_heap HPB2.out]; rfl
          have r0 := HI2.out.cell (j := p) hp6
          have r1 := HI2.out.frozen p
          have s0 := HJ2.out.cell (j := p) hp6
          have s1 := HJ2.out.frozen p
          obtain ⟨t0, ht0⟩ : ∃ t0, ts[q]'(by rw [HTL.out]; exact hqi) = t0 := ⟨_, rfl⟩
          obtain ⟨f, mo, ms⟩ := t0
          obtain ⟨bt, off', hal, _, _, hct⟩ := (SlN.of_ownsN (rows := ts.map tarRow) (by simpa [HTL.out] using HT2.out) (fun r hr => by obtain ⟨t, _, rfl⟩ := List.mem_map.1 hr; rfl)).cell (i := q) (by simp [HTL.out, hqi])
          simp only [List.getElem_map, ht0, tarRow] at hct
          have t0c := hct 0 _ rfl
          have t2c := hct 2 _ rfl
          simp only [Nat.add_zero] at t0c
          cases hal
          have hfok := TarOk.at HTOK.out q
          rw [List.getD_eq_getElem?_getD, List.getElem?_eq_getElem (by rw [HTL.out]; exact hqi), Option.getD_some, ht0] at hfok
          unfold TarOk at hfok
          simp only at hfok
          obtain ⟨A0, hA0⟩ : ∃ x, (accT (fstT ts) ((LS.take k).map (offC i))).getD p 0 = x := ⟨_, rfl⟩
          obtain ⟨A1, hA1⟩ : ∃ x, (accT (mostT ts) ((LS.take k).map (offC i))).getD p 0 = x := ⟨_, rfl⟩
          have bA0 : 0 ≤ A0 ∧ A0 ≤ 131070 * 60 := by
            rw [← hA0]
            have := accT_bd (f := fstT ts) (B := 131070) (by decide) hp6 (l := (LS.take k).map (offC i)) (fun x _ => by have := TarOk.at HTOK.out x.2.toNat; unfold TarOk at this; unfold fstT; omega)
            simp only [List.length_map, List.length_take] at this
            omega
          have bA1 : 0 ≤ A1 ∧ A1 ≤ 131070 * 60 := by
            rw [← hA1]
            have := accT_bd (f := mostT ts) (B := 131070) (by decide) hp6 (l := (LS.take k).map (offC i)) (fun x _ => by have := TarOk.at HTOK.out x.2.toNat; unfold TarOk at this; unfold mostT; omega)
            simp only [List.length_map, List.length_take] at this
            omega
          rw [hA0] at r0
          rw [hA1] at s0
          have hw0 : IntKind.i64.wrap (A0 + f) = A0 + f := wrap_small _ (by omega) (by omega)
          have hw1 : IntKind.i64.wrap (A1 + ms) = A1 + ms := wrap_small _ (by omega) (by omega)
          have HE1 : Hid (fstT ts ((p : Int), (q : Int)) = f) := Lib.hid (by unfold fstT; rw [Int.toNat_natCast, List.getD_eq_getElem?_getD, List.getElem?_eq_getElem (by rw [HTL.out]; exact hqi), Option.getD_some, ht0])
          have HE2 : Hid (mostT ts ((p : Int), (q : Int)) = ms) := Lib.hid (by unfold mostT; rw [Int.toNat_natCast, List.getD_eq_getElem?_getD, List.getElem?_eq_getElem (by rw [HTL.out]; exact hqi), Option.getD_some, ht0])
          have HA0 := Lib.hid hA0
          have HA1 := Lib.hid hA1
          have hp6i : (p : Int) < 6 := by omega
          have hqii : (q : Int) < (i : Int) := by omega
          have hp0 : (0 : Int) ≤ (p : Int) := by omega
          have hq0 : (0 : Int) ≤ (q : Int) := by omega
          have hRQ : R ≠ Q := HRQ.out.1
          clear hown hgr hat hlt2 neR neQ neb hct ht0 hfok bA0 bA1 hA0 hA1 hZ z0 z1
          go_wp2_with fail
          have bR : b ≠ R := fun e => by
            obtain ⟨A, hA, _⟩ := HI2.out
            have := HPB2.out
            rw [e, hA] at this; cases this
          have bT : bt ≠ R := fun e => by
            obtain ⟨A, hA, _⟩ := HI2.out
            rcases ownsN_ne_blk HT2.out hA (by decide) with h | h
            · simp [Value.ownBlock] at h
            · exact h (by simp [Value.ownBlock, e])
          refine wp_region_seqC 32 (?_ :: ?_ :: ?_ :: ?_ :: ?_ :: ?_ :: ?_ :: ?_ :: ?_ :: ?_ :: ?_ :: ?_ :: ?_ :: ?_ :: ?_ :: ?_ :: ?_ :: ?_ :: ?_ :: ?_ :: ?_ :: ?_ :: ?_ :: ?_ :: ?_ :: ?_ :: ?_ :: ?_ :: ?_ :: ?_ :: ?_ :: undef :: []) (JCell we.drew 31 [10] ⟨R, p, none⟩ (.int .i64 (A0 + f))) rfl mix (by kernel_rfl) (by kernel_rfl) JCell.start ?_
          rotate_left 31
          simp only [List.take_succ_cons, List.take_zero]
          iterate 10
            refine sc_rd rfl (fun _ _ _ h => h.read (by decide)) (fun u1 L1 hL1 hJ1 => ?_) ?_
            · have v0' := hJ1.cell v0 bR
              simp [opOK, go_sem, v0', hp6i]
              try exact rfl
            simp only [Act.put, List.setIfInBounds_toArray, List.set_cons_succ, List.set_cons_zero]
          refine sc_rd rfl (fun _ _ _ h => h.read (by decide)) (fun u1 L1 hL1 hJ1 => ?_) ?_
          · have r0' := r0
            rw [hJ1.look (by decide : 10 ∈ [10]) hL1]
            simp [opOK, go_sem, r0']
            try exact rfl
          simp only [Act.put, List.setIfInBounds_toArray, List.set_cons_succ, List.set_cons_zero]
          iterate 20
            refine sc_rd rfl (fun _ _ _ h => h.read (by decide)) (fun u1 L1 hL1 hJ1 => ?_) ?_
            · have v0' := hJ1.cell v0 bR
              have v1' := hJ1.cell v1 bR
              have s0' := hJ1.cell s0 (Ne.symm hRQ)
              have t0' := hJ1.cell t0c bT
              have t2' := hJ1.cell t2c bT
              simp [opOK, go_sem, v0', v1', s0', t0', t2', hp6i, hqi, hw0, hw1]
              try exact rfl
            simp only [Act.put, List.setIfInBounds_toArray, List.set_cons_succ, List.set_cons_zero]
          refine sc_is rfl (fun u1 L1 hL1 hJ1 hd => ?_) ?_
          · have r0' := r0
            have r1' := r1
            have h10 : L1 10 = true := hd ⟨10, .phase⟩ (by simp) rfl
            rw [hJ1.before hL1]
            simp [opOK, go_sem, r0', r1']
            exact JCell.store (by simpa using h10)
          simp only [Act.put]
          refine sc_end fun w7 hJ7 => ?_
          have h7 := hJ7.done (by decide)
          simp only [List.drop_succ_cons, List.drop_zero]
          have hb7 : w7.heap[Q]? = we.heap[Q]? := by rw [h7]; exact Below.heap_setCell _ _ _ _ (Ne.symm hRQ)
          have hId : IntBlk we.drew R 3 6 (fun j => (accT (fstT ts) ((LS.take k).map (offC i))).getD j 0) := HI2.out.keep rfl
          have hI7 := hId.set p (A0 + f)
          rw [← h7] at hI7
          have hJ7' := HJ2.out.keep hb7
          have HBE7 : Hid (Below (N + 1) w0 w7) := Lib.hid (by
            rw [h7]; exact (HBE.out.trans ((bDrew we 1).mono (by have := HNW.out; have := HBE.out.size; omega))).setCell (by show N + 1 ≤ R; have := HRQ.out; omega) _)
          have HT7 : Hid (w7.ownsRow (N + 1) 73 3 (.slice (some ⟨bt, off', none⟩) i cu) i (ts.map tarRow).flatten) := Lib.hid (ownsN_kept HT2.out fun g hg => by
            have : g ≠ R := fun e => by subst e; exact bT (by simpa [Value.ownBlock] using hg)
            rw [h7]; exact Below.heap_setCell _ _ _ _ this)
          have nvR : v'.ownBlock ≠ some R := by
            obtain ⟨A, hA, _⟩ := HI2.out
            rcases ownsN_ne_blk HO2.out hA (by decide) with h | h
            · rw [h]; simp
            · exact h
          have nvQ : v'.ownBlock ≠ some Q := by
            obtain ⟨A, hA, _⟩ := HJ2.out
            rcases ownsN_ne_blk HO2.out hA (by decide) with h | h
            · rw [h]; simp
            · exact h
          have HO7 : Hid (w7.ownsRow (N + 1) 76 2 v' (k + 1) (((LS.take (k + 1)).map (offC i)).map offRow).flatten) := Lib.hid (ownsN_kept HO2.out fun g hg => by
            have : g ≠ R := fun e => by subst e; exact nvR hg
            rw [h7]; exact Below.heap_setCell _ _ _ _ this)
          have s0' := hJ7'.cell (j := p) hp6
          have s1' := hJ7'.frozen p
          rw [HA1.out] at s0'
          have HI7 := Lib.hid hI7
          have HJ7 := Lib.hid hJ7'
          clear hId hI7 hJ7' h7 hb7 hJ7 r0 r1 s0 s1 v0 v1 t0c t2c hw0
          go_wp2_with fail
          have HTL' : Hid (((LS.take (k + 1)).map (offC i)) = ((LS.take k).map (offC i)) ++ [((p : Int), (q : Int))]) := Lib.hid (by rw [List.take_succ_eq_append_getElem hkl, List.map_append, List.map_cons, List.map_nil, HXO.out])
          have hget : ∀ (g : Int × Int → Int) (A F : Int), (accT g ((LS.take k).map (offC i))).getD p 0 = A → g ((p : Int), (q : Int)) = F → ∀ j, j < 6 → (if j = p then A + F else (accT g ((LS.take k).map (offC i))).getD j 0) = (accT g ((LS.take (k + 1)).map (offC i))).getD j 0 := fun g A F hA hF j hj => by
            rw [HTL'.out, accT_snoc, getD_addAt _ _ _ _ (by simpa using hj), hF]
            simp only [Int.toNat_natCast]
            by_cases e : j = p
            · subst e; rw [if_pos rfl, if_pos rfl, hA]
            · rw [if_neg e, if_neg (Ne.symm e)]; omega
          have HI8 := HI7.out.congr (hget _ _ _ HA0.out HE1.out)
          have HJ8 := (HJ7.out.set p (A1 + ms)).congr (hget _ _ _ HA1.out HE2.out)
          obtain ⟨w8, hw8⟩ : ∃ w8, w7.setCell ⟨Q, p, none⟩ (.int .i64 (A1 + ms)) = w8 := ⟨_, rfl⟩
          rw [hw8] at HJ8 ⊢
          have k8 : ∀ g, g ≠ Q → w8.heap[g]? = w7.heap[g]? := fun g hg => by rw [← hw8]; exact Below.heap_setCell _ _ _ _ hg
          have HIf : Hid (IntBlk w8 R 3 6 (fun j => (accT (fstT ts) ((LS.take (k + 1)).map (offC i))).getD j 0)) := Lib.hid (HI8.keep (k8 R hRQ))
          have HJf := Lib.hid HJ8
          have HTf := Lib.hid (ownsN_kept HT7.out fun g hg => k8 g fun e => by
            subst e
            obtain ⟨A, hA, _⟩ := HJ7.out
            rcases ownsN_ne_blk HT7.out hA (by decide) with h | h
            · rw [h] at hg; cases hg
            · exact h hg)
          have HOf := Lib.hid (ownsN_kept HO7.out fun g hg => k8 g fun e => by subst e; exact nvQ hg)
          have HBf : Hid (Below (N + 1) w0 w8) := Lib.hid (by rw [← hw8]; exact HBE7.out.setCell (by show N + 1 ≤ Q; have := HRQ.out; omega) _)
          have hwk : IntKind.i64.wrap ((k : Int) + 1) = (k : Int) + 1 := wrap_small _ (by omega) (by omega)
          clear HI8 HJ8 hw8 k8 hget s0' s1' hw1
          go_wp2
          go_roundw
          case rel => exact ⟨k + 1, _, rfl, by go_num, by omega, HTf, HOf, HIf, HJf, HBf.out⟩
          case measure => simp [intOf]; omega
        · obtain rfl : k = K := by omega
          have hex : decide ((k : Int) < (LS.length : Int)) = false ∧ decide (k < LS.length) = false ∨ decide ((k : Int) < (LS.length : Int)) = true ∧ decide (k < LS.length) = true ∧ decide ((k : Int) < (60 : Int)) = false ∧ decide (k < 60) = false := by
            have := HK1.out
            by_cases h : k < LS.length
            · exact .inr ⟨decide_eq_true (by omega), decide_eq_true h, decide_eq_false (by omega), decide_eq_false (by omega)⟩
            · exact .inl ⟨decide_eq_false (by omega), decide_eq_false h⟩
          rcases hex with ⟨d1, d2⟩ | ⟨d1, d2, d3, d4⟩
          all_goals
            go_wp2_with fail
            go_meet
            case rel => exact ⟨HTo, HOo, HIo, HJo, HBK⟩
      case' rest =>
      as_aux_lemma =>
      obtain ⟨HTo, HOo, HIo, HJo, HBK⟩ := hcut
      obtain ⟨wk, rfl⟩ : ∃ wk, wk = wc := ⟨_, rfl⟩
      clear HTQ HOQ HI0 HI1 HBQ
      obtain ⟨L, hL⟩ : ∃ L, (LS.take K).map (offC i) = L := ⟨_, rfl⟩
      have hLl : L.length = K := by rw [← hL]; simp; have := HK1.out; omega
      have hLb : ∀ x ∈ L, (0 ≤ x.1 ∧ x.1 ≤ 5) ∧ 0 ≤ x.2 ∧ x.2 < (ts.length : Int) := by
        intro x hx
        rw [← hL] at hx
        obtain ⟨y, hy, rfl⟩ := List.mem_map.1 hx
        have hyb := HLB.out y (List.mem_of_mem_take hy)
        unfold U8 at hyb
        have h1 := Int.emod_nonneg y.2 (show (i : Int) ≠ 0 by have := HM2.out; omega)
        have h2 := Int.emod_lt_of_pos y.2 (show (0 : Int) < i by have := HM2.out; omega)
        simp only [offC]
        rw [HTL.out]
        omega
      rw [hL] at HOo HIo HJo
      have hK60 : K ≤ 60 := HK1.out.2.1
      have HLL := Lib.hid hLl
      have HLO := Lib.hid hLb
      clear hL hLl hLb HK1
      obtain ⟨ao, co, rfl⟩ := owns_form HOo.out
      obtain ⟨B, hB⟩ : ∃ B, wk.heap.size = B := ⟨_, rfl⟩
      have HOs : Hid (SlN 2 (fun q => N + 1 ≤ q) wk (.slice ao K co) (L.map offRow)) := Lib.hid (SlN.of_ownsN (rows := L.map offRow) (by simpa [HLL.out] using HOo.out) (fun r hr => by obtain ⟨t, _, rfl⟩ := List.mem_map.1 hr; rfl))
      have HTs : Hid (SlN 3 (fun q => N + 1 ≤ q) wk (.slice au i cu) (ts.map tarRow)) := Lib.hid (SlN.of_ownsN (rows := ts.map tarRow) (by simpa [HTL.out] using HTo.out) (fun r hr => by obtain ⟨t, _, rfl⟩ := List.mem_map.1 hr; rfl))
      have HZ : Hid (wk.heap.size = B) := Lib.hid hB
      have hb1 : Below wk.heap.size wk (wk.alloc (.cells #[] 76)) := aB _ _
      obtain ⟨w1, hw1⟩ : ∃ w1, wk.alloc (.cells #[] 76) = w1 := ⟨_, rfl⟩
      have ho1 : w1.ownsRow B 76 2 (.slice (some ⟨B, 0, none⟩) 0 0) 0 [] := by
        rw [← hw1, ← hB]
        exact World.ownsRow_made (e := 76) (size := 2) (base := wk.heap.size) wk #[] 0 (Nat.le_refl _) (Nat.zero_le _) rfl
      have hs1 : B + 1 ≤ w1.heap.size := by rw [← hw1, ← hB]; simp
      rw [hw1] at hb1
      have HB1 : Hid (Below B wk w1) := Lib.hid (by rw [← hB]; exact hb1)
      have HO1 := Lib.hid ho1
      have HS1 := Lib.hid hs1
      have HW1 := Lib.hid hw1
      clear hb1 hw1 ho1 hs1 HTo HOo
      go_wp2_with fail
      rw [HW1.out]
      go_loopw [15, 16] (fun bv kv wr => ∃ (j : Nat) (u2 : Value), u2 = bv ∧ j ≤ K ∧ kv = .int .i64 ((j : Int) - 1) ∧ Hid (wr.ownsRow B 76 2 u2 (K - j) ((L.reverse.take (K - j)).map offRow).flatten) ∧ Hid (Below B wk wr) ∧ Hid (B + 1 ≤ wr.heap.size)) (fun _ kv _ => (intOf kv + 1).toNat)
      case atStart => exact ⟨K, _, rfl, Nat.le_refl _, rfl, by rw [Nat.sub_self]; exact HO1, HB1, HS1⟩
      case round =>
        obtain ⟨j, u2, hu2, hj, rfl, HR, HBr, HSr⟩ := hrel
        subst hu2
        obtain ⟨wr0, rfl⟩ : ∃ wr0 : World, wr0 = wr := ⟨_, rfl⟩
        clear HB1 HO1 HS1 HW1
        rcases j with _ | q
        · obtain ⟨ee, hee⟩ : ∃ ee : Int, ((0 : Nat) : Int) - 1 = ee := ⟨_, rfl⟩
          have e2 : ee = -1 := by rw [← hee]; rfl
          rw [hee, e2]
          clear hee e2
          as_aux_lemma =>
          obtain ⟨Lr, hLr⟩ : ∃ l, L.reverse = l := ⟨_, rfl⟩
          have HLR := Lib.hid hLr
          have HLRl : Hid (Lr.length = K) := Lib.hid (by rw [← hLr, List.length_reverse, HLL.out])
          have HLRb : Hid (∀ x ∈ Lr, (0 ≤ x.1 ∧ x.1 ≤ 5) ∧ 0 ≤ x.2 ∧ x.2 < (ts.length : Int)) := Lib.hid (fun x hx => HLO.out x (List.mem_reverse.1 (hLr ▸ hx)))
          have HBack : Hid (wr0.ownsRow B 76 2 u2 K (Lr.map offRow).flatten) := Lib.hid (by
            have := HR.out
            rwa [Nat.sub_zero, List.take_of_length_le (by rw [List.length_reverse, HLL.out]; exact Nat.le_refl _), hLr] at this)
          clear hLr
          have HBS : Hid (SlN 2 (fun q => B ≤ q) wr0 u2 (Lr.map offRow)) := Lib.hid (SlN.of_ownsN (rows := Lr.map offRow) (by simpa [HLRl.out] using HBack.out) (fun r hr => by obtain ⟨t, _, rfl⟩ := List.mem_map.1 hr; rfl))
          have HBr' : Hid (Below wk.heap.size wk wr0) := Lib.hid (by rw [HZ.out]; exact HBr.out)
          have HTr := Lib.hid (HTs.out.below HBr'.out)
          have HOr := Lib.hid (HOs.out.below HBr'.out)
          have HIr := Lib.hid (HIo.out.below HBr'.out)
          have HJr := Lib.hid (HJo.out.below HBr'.out)
          have htl5 : ts.length ≤ 5 ∧ 1 ≤ ts.length := by rw [HTL.out]; have := HM2.out; omega
          have HT5 := Lib.hid htl5
          clear HR HOs htl5
          obtain ⟨ab, cb, rfl⟩ := owns_form HBack.out
          go_wp2_with (at_builtin; refine wpList_copy rfl (.tmp 157) (.tmp 158) 36 rfl 73 (.agg #[.int .i64 0, .int .i64 0, .int .i64 0]) 3 24 Try.underlying36 info73 rfl (by decide) rfl _ (ts.map tarRow) rfl HTr.out (tar_one ts) (by have := HT5.out; simp; omega) (by decide) ?_)
          intro v1 w1 hb1 hs1
          have HB1 := Lib.hid hb1
          have HC1' := Lib.hid hs1
          have HO1 := Lib.hid (HOr.out.below hb1)
          clear hb1 hs1
          go_wp2_with (at_builtin; refine wpList_copy rfl (.tmp 160) (.tmp 161) 37 rfl 76 (.agg #[.int .i64 0, .int .i64 0]) 2 16 Try.underlying37 info74 rfl (by decide) rfl _ (L.map offRow) rfl HO1.out (off_one L) (by have := HLL.out; simp; omega) (by decide) ?_)
          intro v2 w2 hb2 hs2
          have HB2 := Lib.hid (bThen HB1.out hb2)
          have HC2 := Lib.hid (HC1'.out.below hb2)
          have HD2 := Lib.hid hs2
          clear hb2 hs2 HC1' HO1
          go_wp2_with fail
          refine (fines_any 6 ts L _ _ w2 HC2.out HD2.out).mono ?_
          rintro e w3 ⟨r3, rfl, hb3, hs3⟩
          have hE3 : finesErr 6 ts L = 0 := fines_err HTOK.out (by have := HT5.out; omega) HLO.out (by have := HLL.out; omega)
          have HR3 : Hid (Sl (fun k => wr0.heap.size ≤ k) w3 r3 (ints (finesTo 6 ts L L.length))) := Lib.hid (by
            have := hs3.mono (S' := fun k => wr0.heap.size ≤ k) fun k hk => by have := HB2.out.size; omega
            unfold finesRes at this
            rw [if_pos hE3] at this
            exact this)
          rw [hE3]
          have HB3 := Lib.hid (bThen HB2.out hb3)
          clear hb3 hs3 HC2 HD2 hE3
          have HT3 := Lib.hid (HTr.out.below HB3.out)
          have HK3 := Lib.hid (HBS.out.below HB3.out)
          go_wp2_with (at_builtin; refine wpList_copy rfl (.tmp 167) (.tmp 168) 36 rfl 73 (.agg #[.int .i64 0, .int .i64 0, .int .i64 0]) 3 24 Try.underlying36 info73 rfl (by decide) rfl _ (ts.map tarRow) rfl HT3.out (tar_one ts) (by have := HT5.out; simp; omega) (by decide) ?_)
          intro v4 w4 hb4 hs4
          have HB4 := Lib.hid hb4
          have HC4 := Lib.hid hs4
          have HK4 := Lib.hid (HK3.out.below hb4)
          clear hb4 hs4
          go_wp2_with (at_builtin; refine wpList_copy rfl (.tmp 170) (.tmp 171) 37 rfl 76 (.agg #[.int .i64 0, .int .i64 0]) 2 16 Try.underlying37 info74 rfl (by decide) rfl _ (Lr.map offRow) rfl HK4.out (off_one Lr) (by have := HLRl.out; simp; omega) (by decide) ?_)
          intro v5 w5 hb5 hs5
          have HB5 := Lib.hid (bThen HB4.out hb5)
          have HC5 := Lib.hid (HC4.out.below hb5)
          have HD5 := Lib.hid hs5
          clear hb5 hs5 HC4 HK4 HB4
          go_wp2_with fail
          refine (fines_any 6 ts Lr _ _ w5 HC5.out HD5.out).mono ?_
          rintro e w6 ⟨r6, rfl, hb6, hs6⟩
          have hE6 : finesErr 6 ts Lr = 0 := fines_err HTOK.out (by have := HT5.out; omega) HLRb.out (by have := HLRl.out; omega)
          have HR6 : Hid (Sl (fun k => wr0.heap.size ≤ k) w6 r6 (ints (finesTo 6 ts Lr Lr.length))) := Lib.hid (by
            have := hs6.mono (S' := fun k => wr0.heap.size ≤ k) fun k hk => by have := HB5.out.size; have := HB3.out.size; omega
            unfold finesRes at this
            rw [if_pos hE6] at this
            exact this)
          rw [hE6]
          have HB6 := Lib.hid (bThen HB5.out hb6)
          have HR36 := Lib.hid (HR3.out.below HB6.out)
          have HBw6 : Hid (Below wr0.heap.size wr0 w6) := Lib.hid (bThen HB3.out HB6.out)
          have HBN6 : Hid (Below (N + 1) w0 w6) := Lib.hid ((HBK.out.trans (HBr'.out.mono (by have := HNW.out; have := HBK.out.size; omega))).trans (HBw6.out.mono (by have := HNW.out; have := HBK.out.size; have := HBr'.out.size; omega)))
          clear hb6 hs6 HC5 HD5 hE6 HB5 HB3 HR3 HB2 HB1 HT3 HK3
          -- the last offence
          as_aux_lemma =>
          have x0 : w6.cell? ⟨N, 0, none⟩ = some (.int .u8 mp) := (HBN6.out.cell (p := ⟨N, 0, none⟩) (by simp)).trans HC0.out
          have x1 : w6.cell? ⟨N, 1, none⟩ = some (.int .u8 mk) := (HBN6.out.cell (p := ⟨N, 1, none⟩) (by simp)).trans HC1.out
          unfold U8 at hmp hmk
          have hi0 : ¬ (i : Int) = 0 := by have := HM2.out; omega
          have hi0n : ¬ i = 0 := by have := HM2.out; omega
          obtain ⟨p, hp⟩ : ∃ p : Nat, mp % 6 = p := ⟨(mp % 6).toNat, by omega⟩
          obtain ⟨q, hq⟩ : ∃ q : Nat, mk % (i : Int) = q := ⟨(mk % (i : Int)).toNat, by have := Int.emod_nonneg mk hi0; omega⟩
          have hp6 : p < 6 := by omega
          have hqi : q < i := by have := Int.emod_lt_of_pos mk (show (0 : Int) < i by omega); omega
          have hm1 : mp.tmod 6 = (p : Int) := by rw [Int.tmod_eq_emod_of_nonneg hmp.1]; exact hp
          have hm2 : mk.tmod (i : Int) = (q : Int) := by rw [Int.tmod_eq_emod_of_nonneg hmk.1]; exact hq
          have hwx1 : IntKind.i64.wrap mp = mp := wrap_small _ (by omega) (by omega)
          have hwx2 : IntKind.i64.wrap mk = mk := wrap_small _ (by omega) (by omega)
          have hwp : IntKind.i64.wrap (p : Int) = (p : Int) := wrap_small _ (by omega) (by omega)
          have hwq : IntKind.i64.wrap (q : Int) = (q : Int) := wrap_small _ (by omega) (by have := HM2.out; omega)
          clear hp hq
          go_wp2_with fail
          refine wp_region_seq 12 (.is ?_ :: .is ?_ :: .is ?_ :: .is ?_ :: .is ?_ :: .is ?_ :: .is ?_ :: .is ?_ :: .is ?_ :: .is ?_ :: .is (.agg #[.int .i64 p, .int .i64 q]) :: kBox w6.heap.size 76 #[.int .i64 0, .int .i64 0] :: []) rfl mix (by kernel_rfl) (by kernel_rfl) ?_
          rotate_left 10
          simp only [List.take_succ_cons, List.take_zero]
          iterate 11
            refine seq_is rfl (fun u1 hb1 _ => ?_) ?_
            · have x0' := bAt hb1 x0
              have x1' := bAt hb1 x1
              simp [opOK, go_sem, x0', x1', hwx1, hwx2, hm1, hm2, hi0n, Below.refl]
              try exact rfl
            simp only [Act.put, List.setIfInBounds_toArray, List.set_cons_succ, List.set_cons_zero]
          refine seq_new ⟨_, 0, rfl⟩ (by rfl) (fun u1 hb1 _ => ?_) ?_
          · exact opOK_alloc (by kernel_rfl) hb1.size
          rintro v21 ⟨b, rfl⟩
          simp only [Act.put, List.setIfInBounds_toArray, List.set_cons_succ, List.set_cons_zero]
          refine seq_end fun w7 hb7 hH => ?_
          have hbx : (kBox w6.heap.size 76 #[.int .i64 0, .int .i64 0]).p (.pointer (some ⟨b, 0, none⟩)) w7 := by
            have := hH 11 (by omega)
            simpa only [addH, if_true] using this
          obtain ⟨b', eb, hb7k, hp7⟩ := hbx
          cases eb
          simp only [List.drop_succ_cons, List.drop_zero]
          refine wpList_opOK rfl (opOK_store_row (R := fun _ w' => w' = w7.setRow b #[.int .i64 p, .int .i64 q]) 76 (.tmp 21) (.tmp 186) rfl b #[.int .i64 p, .int .i64 q] rfl rfl 76 _ hp7 (by kernel_rfl) rfl (by simp [Value.oneCell']) rfl) ?_
          rintro _ _ rfl
          have hby : Below w6.heap.size w6 (w7.setRow b #[.int .i64 p, .int .i64 q]) := below_setRow hb7 hb7k _
          have hpy := setRow_heap w7 b _ #[.int .i64 p, .int .i64 q] _ _ hp7
          obtain ⟨wy, hwy⟩ : ∃ wy, w7.setRow b #[.int .i64 p, .int .i64 q] = wy := ⟨_, rfl⟩
          rw [hwy] at hby hpy ⊢
          obtain ⟨Z, hZ⟩ : ∃ Z, wy.heap.size = Z := ⟨_, rfl⟩
          obtain ⟨wa, hwa⟩ : ∃ wa, wy.alloc (.cells #[.int .i64 p, .int .i64 q] 76) = wa := ⟨_, rfl⟩
          have hba : Below w6.heap.size w6 wa := bThen hby (by rw [← hwa]; exact aB _ _)
          have hpa : wa.heap[Z]? = some (.cells #[.int .i64 p, .int .i64 q] 76 (0, 0)) := by rw [← hwa, ← hZ]; exact World.alloc_heap_new _ _
          have hpb : wa.heap[b]? = some (.cells #[.int .i64 p, .int .i64 q] 76 (0, 0)) := by
            rw [← hwa, Below.heap_alloc _ _ _ (Array.getElem?_eq_some_iff.1 hpy).1]; exact hpy
          have z0 : wy.cell? ⟨b, 0, none⟩ = some (.int .i64 p) := by rw [cell_of_heap hpy]; rfl
          have z1 : wy.cell? ⟨b, 1, none⟩ = some (.int .i64 q) := by rw [cell_of_heap hpy]; rfl
          have HBA := Lib.hid hba
          have HPA := Lib.hid hpa
          have HPB := Lib.hid hpb
          have HWA := Lib.hid hwa
          have HBK7 := Lib.hid hb7k
          have HOA := Lib.hid (ownsN_below HBack.out (bThen HBw6.out hba))
          have HNA : Hid (B ≤ wa.heap.size) := Lib.hid (by have := HSr.out; have := HBw6.out.size; have := hba.size; omega)
          have hgt : ∀ g, (Value.slice ab K cb).ownBlock = some g → B ≤ g ∧ g < wr0.heap.size := fun g hg => HBack.out.lt g hg
          have HGT := Lib.hid hgt
          clear hb7 hH hp7 hby hpy hwy hba hpa hpb hwa hb7k x0 x1 hwx1 hwx2 hm1 hm2 hi0 hi0n hwp hwq hgt
          go_wp2_with (at_builtin; rw [HWA.out]; refine wpList_appendN rfl (.tmp 189) (.tmp 191) 37 rfl B 76 (.agg #[.int .i64 0, .int .i64 0]) 2 16 Try.underlying37 info74 rfl (by decide) _ K _ rfl HOA.out Z 0 1 1 (offRow ((p : Int), (q : Int))) rfl rfl (fun j u hj => by rw [cell_of_heap HPA.out, Nat.zero_add]; simpa [offRow] using hj) (fun u hu => by simp [offRow] at hu; rcases hu with rfl | rfl <;> rfl) (by omega) (by decide) HNA.out ?_)
          intro v8 w8 hown hgr hat
          as_aux_lemma =>
          have keep8 : ∀ b o, wr0.heap.size ≤ b → (wa.cell? ⟨b, o, none⟩).isSome → w8.cell? ⟨b, o, none⟩ = wa.cell? ⟨b, o, none⟩ := fun b o hb hs => by
            obtain ⟨x, hx⟩ := Option.isSome_iff_exists.1 hs
            exact World.cell?_of_block (w := wa) (hgr.block b (World.block_lt_of_cell? wa _ hx) (fun e => by have := (HGT.out b e.symm).2; omega))
          have HR38 := Lib.hid ((HR36.out.below HBA.out).cells fun b o hb hs => keep8 b o hb hs)
          have HR68 := Lib.hid ((HR6.out.below HBA.out).cells fun b o hb hs => keep8 b o hb hs)
          have HPB8 : Hid (w8.heap[b]? = some (.cells #[.int .i64 p, .int .i64 q] 76 (0, 0))) := Lib.hid ((hgr.block b (Array.getElem?_eq_some_iff.1 HPB.out).1 (fun e => by
            have := (HGT.out b e.symm).2; have := HBK7.out; have := HBw6.out.size; omega)).trans HPB.out)
          have HB8 : Hid (Below wk.heap.size wk w8) := Lib.hid (by
            rw [HZ.out]
            exact ((HBr.out.trans (HBw6.out.mono (by have := HSr.out; omega))).trans (HBA.out.mono (by have := HSr.out; have := HBw6.out.size; omega))).trans (below_grownBy hgr HNA.out fun g hg => (HGT.out g hg).1))
          have HS8 : Hid (SlN 2 (fun q => B ≤ q) w8 v8 ((Lr ++ [((p : Int), (q : Int))]).map offRow)) := Lib.hid (SlN.of_ownsN (rows := (Lr ++ [((p : Int), (q : Int))]).map offRow) (by
            rw [rows_snoc]; simpa [HLRl.out] using hown) (fun r hr => by obtain ⟨t, _, rfl⟩ := List.mem_map.1 hr; rfl))
          have HT8 := Lib.hid (HTs.out.below HB8.out)
          have HI8 := Lib.hid (HIo.out.below HB8.out)
          have HJ8 := Lib.hid (HJo.out.below HB8.out)
          clear hown hgr hat keep8 z0 z1 hZ
          go_wp2_with fail
          refine (fines_any 6 ts (Lr ++ [((p : Int), (q : Int))]) _ _ w8 HT8.out HS8.out).mono ?_
          rintro e w9 ⟨r9, rfl, hb9, hs9⟩
          have hE9 : finesErr 6 ts (Lr ++ [((p : Int), (q : Int))]) = 0 := fines_err HTOK.out (by have := HT5.out; omega) (fun x hx => by
            rcases List.mem_append.1 hx with h | h
            · exact HLRb.out x h
            · simp only [List.mem_singleton] at h; subst h; have := HTL.out; simp only; omega) (by rw [List.length_append]; have := HLRl.out; simp; omega)
          have HR9 : Hid (Sl (fun k => w8.heap.size ≤ k) w9 r9 (ints (finesTo 6 ts (Lr ++ [((p : Int), (q : Int))]) (Lr ++ [((p : Int), (q : Int))]).length))) := Lib.hid (by
            have := hs9
            unfold finesRes at this
            rw [if_pos hE9] at this
            exact this)
          rw [hE9]
          have HB9 := Lib.hid (bThen HB8.out hb9)
          have HR39 := Lib.hid (HR38.out.below hb9)
          have HR69 := Lib.hid (HR68.out.below hb9)
          have HI9 := Lib.hid (HI8.out.below hb9)
          have HJ9 := Lib.hid (HJ8.out.below hb9)
          have HTsl := Lib.hid (HT8.out.below hb9)
          have HPB9 := Lib.hid ((hb9.block b (Array.getElem?_eq_some_iff.1 HPB8.out).1).trans HPB8.out)
          have HBE : Hid (Below w.heap.size w w9) := Lib.hid (HB0.out.trans (((HBK.out.trans (HB9.out.mono (by have := HNW.out; have := HBK.out.size; omega)))).mono (by omega)))
          clear hb9 hs9 hE9 HR38 HR68 HI8 HJ8 HT8 HPB8 HB8 HS8
          obtain ⟨a3, c3, e3, _, _⟩ := HR39.out.form
          rw [ints_length, finesTo_length] at e3
          obtain ⟨a6, c6, e6, _, _⟩ := HR69.out.form
          rw [ints_length, finesTo_length] at e6
          obtain ⟨a9, c9, e9, _, _⟩ := HR9.out.form
          rw [ints_length, finesTo_length] at e9
          subst e3 e6 e9
          as_aux_lemma =>
          go_wp2_with fail
          go_loopw [24] (fun pv wr => ∃ s : Nat, s ≤ 6 ∧ pv = .int .i64 s ∧ Hid (Below w9.heap.size w9 wr)) (fun pv _ => 6 - (intOf pv).toNat)
          case atStart => exact ⟨0, by omega, rfl, Lib.hid (Below.refl _ _)⟩
          case round =>
            obtain ⟨s, hs, rfl, HBQ9⟩ := hrel
            obtain ⟨wr9, rfl⟩ : ∃ wr9 : World, wr9 = wr := ⟨_, rfl⟩
            by_cases hs6 : s < 6
            · have hlaw := fines_law HTOK.out L ((p : Int), (q : Int)) hs6
              simp only at hlaw
              rw [HLR.out, Int.toNat_natCast] at hlaw
              obtain ⟨A, hA⟩ : ∃ A, (finesTo 6 ts L L.length).getD s 0 = A := ⟨_, rfl⟩
              obtain ⟨A3, hA3⟩ : ∃ A, (finesTo 6 ts (Lr ++ [((p : Int), (q : Int))]) (Lr ++ [((p : Int), (q : Int))]).length).getD s 0 = A := ⟨_, rfl⟩
              rw [hA, hA3] at hlaw
              obtain ⟨l1, l2, l3, l4, l5⟩ := hlaw
              obtain ⟨b1, o1, rfl, _, c1⟩ := (HR39.out.below HBQ9.out).cell (k := s) (by simpa using hs6)
              obtain ⟨b2, o2, rfl, _, c2⟩ := (HR69.out.below HBQ9.out).cell (k := s) (by simpa using hs6)
              obtain ⟨b3, o3, rfl, _, c3⟩ := (HR9.out.below HBQ9.out).cell (k := s) (by simpa using hs6)
              rw [← getD_at (by simpa using hs6), hA] at c1
              rw [← getD_at (by simpa using hs6), l1] at c2
              rw [← getD_at (by simpa using hs6), hA3] at c3
              have c4 := (HI9.out.below HBQ9.out).cell (j := s) hs6
              have c5 := (HJ9.out.below HBQ9.out).cell (j := s) hs6
              obtain ⟨Ls, hLs⟩ : ∃ A, (accT (fstT ts) L).getD s 0 = A := ⟨_, rfl⟩
              obtain ⟨Ms, hMs⟩ : ∃ A, (accT (mostT ts) L).getD s 0 = A := ⟨_, rfl⟩
              have bL : 0 ≤ Ls := by
                rw [← hLs]
                exact (accT_bd (f := fstT ts) (B := 131070) (by decide) hs6 (l := L) (fun x _ => by have := TarOk.at HTOK.out x.2.toNat; unfold TarOk at this; unfold fstT; omega)).1
              have bM : Ms ≤ 131070 * 60 := by
                rw [← hMs]
                have := accT_bd (f := mostT ts) (B := 131070) (by decide) hs6 (l := L) (fun x _ => by have := TarOk.at HTOK.out x.2.toNat; unfold TarOk at this; unfold mostT; omega)
                have := HLL.out
                omega
              rw [hLs] at c4 l2
              rw [hMs] at c5 l3
              obtain ⟨tt, htt⟩ : ∃ tt, ts[q]'(by rw [HTL.out]; exact hqi) = tt := ⟨_, rfl⟩
              obtain ⟨f, mo, ms⟩ := tt
              obtain ⟨bt, ot, hal, _, _, hct⟩ := (HTsl.out.below HBQ9.out).cell (i := q) (by simp [HTL.out, hqi])
              simp only [List.getElem_map, htt, tarRow] at hct
              have t0c := hct 0 _ rfl
              have t2c := hct 2 _ rfl
              simp only [Nat.add_zero] at t0c
              cases hal
              have hfok := TarOk.at HTOK.out q
              have hgq : ts.getD q (0, 0, 0) = (f, mo, ms) := by rw [List.getD_eq_getElem?_getD, List.getElem?_eq_getElem (by rw [HTL.out]; exact hqi), Option.getD_some, htt]
              rw [hgq] at hfok
              unfold TarOk at hfok
              simp only at hfok
              have e1 : fstT ts ((p : Int), (q : Int)) = f := by unfold fstT; rw [Int.toNat_natCast, hgq]
              have e2 : mostT ts ((p : Int), (q : Int)) = ms := by unfold mostT; rw [Int.toNat_natCast, hgq]
              rw [e1, e2] at l5
              have z0 : wr9.cell? ⟨b, 0, none⟩ = some (.int .i64 p) := bAt HBQ9.out (by rw [cell_of_heap HPB9.out]; rfl)
              have z1 : wr9.cell? ⟨b, 1, none⟩ = some (.int .i64 q) := bAt HBQ9.out (by rw [cell_of_heap HPB9.out]; rfl)
              have d2 : decide (A < Ls) = false := decide_eq_false (by omega)
              have d3 : decide (Ms < A) = false := decide_eq_false (by omega)
              have hw0 : IntKind.i64.wrap (A + f) = A + f := wrap_small _ (by omega) (by omega)
              have hw1 : IntKind.i64.wrap (A + ms) = A + ms := wrap_small _ (by omega) (by omega)
              have hqii : (q : Int) < (i : Int) := by omega
              have hs6i : (s : Int) < 6 := by omega
              by_cases hps : p = s
              · as_aux_lemma =>
                obtain ⟨l6, l7⟩ := l5 hps
                subst hps
                have d4 : decide (A3 < A + f) = false := decide_eq_false (by omega)
                have d5 : decide (A + ms < A3) = false := decide_eq_false (by omega)
                clear l1 l2 l3 l4 l5 l6 l7 hA hA3 hLs hMs bL bM htt hct hfok hgq e1 e2
                go_wp2_with fail
                refine wp_region_seqW (.is ?_ :: .is ?_ :: .is ?_ :: .is ?_ :: .is ?_ :: .is ?_ :: .is ?_ :: .is ?_ :: .is ?_ :: .is ?_ :: .is ?_ :: .is ?_ :: .is ?_ :: .is ?_ :: .is ?_ :: .is ?_ :: .is ?_ :: .is ?_ :: .is ?_ :: .is ?_ :: .is ?_ :: .is ?_ :: .is ?_ :: .is ?_ :: .is ?_ :: .is ?_ :: .is ?_ :: .is ?_ :: .is ?_ :: .is ?_ :: .is ?_ :: .is ?_ :: .is ?_ :: .is ?_ :: .is ?_ :: .is ?_ :: .is ?_ :: .is undef :: .is undef :: .is undef :: .is undef :: .is undef :: .is undef :: .is undef :: .is undef :: .is undef :: .is ?_ :: .is ?_ :: .is ?_ :: .is ?_ :: .is ?_ :: .is ?_ :: .is ?_ :: .is ?_ :: .is ?_ :: .is ?_ :: .is ?_ :: .is ?_ :: .is ?_ :: .is ?_ :: .is ?_ :: .is ?_ :: .is ?_ :: .is ?_ :: .is ?_ :: .is ?_ :: .is ?_ :: .is ?_ :: .is ?_ :: .is ?_ :: .is ?_ :: .is ?_ :: .is ?_ :: .is ?_ :: .is ?_ :: .is ?_ :: .is ?_ :: .is ?_ :: .is ?_ :: .is ?_ :: .is ?_ :: .is ?_ :: .is ?_ :: .is ?_ :: .is ?_ :: .is ?_ :: .is ?_ :: .is ?_ :: .is ?_ :: .is ?_ :: []) rfl mix (by kernel_rfl) (by kernel_rfl) ?_
                rotate_left 81
                iterate 37
                  first
                    | refine seq_is rfl (fun u1 hb1 _ => ?_) ?_
                    | refine seq_on (by rfl) (fun u1 hb1 _ => ?_) ?_
                  · have c1' := bAt hb1 c1
                    have c2' := bAt hb1 c2
                    have c3' := bAt hb1 c3
                    have c4' := bAt hb1 c4
                    have c5' := bAt hb1 c5
                    have z0' := bAt hb1 z0
                    have z1' := bAt hb1 z1
                    have t0c' := bAt hb1 t0c
                    have t2c' := bAt hb1 t2c
                    simp [opOK, go_sem, c1', c2', c4', c5', z0', d2, d3, hs6i, Below.refl]
                    try exact rfl
                  simp only [Act.put, List.setIfInBounds_toArray, List.set_cons_succ, List.set_cons_zero]
                iterate 9
                  refine seq_off (by rfl) ?_
                  simp only [Act.put, List.setIfInBounds_toArray, List.set_cons_succ, List.set_cons_zero]
                iterate 44
                  first
                    | refine seq_is rfl (fun u1 hb1 _ => ?_) ?_
                    | refine seq_on (by rfl) (fun u1 hb1 _ => ?_) ?_
                  · have c1' := bAt hb1 c1
                    have c2' := bAt hb1 c2
                    have c3' := bAt hb1 c3
                    have c4' := bAt hb1 c4
                    have c5' := bAt hb1 c5
                    have z0' := bAt hb1 z0
                    have z1' := bAt hb1 z1
                    have t0c' := bAt hb1 t0c
                    have t2c' := bAt hb1 t2c
                    simp [opOK, go_sem, c1', c3', z0', z1', t0c', t2c', d4, d5, hw0, hw1, hqi, hs6i, Below.refl]
                    try exact rfl
                  simp only [Act.put, List.setIfInBounds_toArray, List.set_cons_succ, List.set_cons_zero]
                refine seq_end fun w7 hb7 _ => ?_
                go_wp2
                go_roundw
                case rel => exact ⟨p + 1, by omega, by go_num, Lib.hid (bThen HBQ9.out hb7)⟩
                case measure => simp [intOf]; omega
              · as_aux_lemma =>
                have l6 := l4 hps
                subst l6
                have n1 : ((s : Int) != (p : Int)) = true := by simp; omega
                have n2 : (s != p) = true := by simp; omega
                have n3 : ((s : Int) == (p : Int)) = false := by simp; omega
                have n4 : (s == p) = false := by simp; omega
                clear l1 l2 l3 l4 l5 hA hA3 hLs hMs bL bM htt hct hfok hgq e1 e2
                go_wp2_with fail
                refine wp_region_seqW (.is ?_ :: .is ?_ :: .is ?_ :: .is ?_ :: .is ?_ :: .is ?_ :: .is ?_ :: .is ?_ :: .is ?_ :: .is ?_ :: .is ?_ :: .is ?_ :: .is ?_ :: .is ?_ :: .is ?_ :: .is ?_ :: .is ?_ :: .is ?_ :: .is ?_ :: .is ?_ :: .is ?_ :: .is ?_ :: .is ?_ :: .is ?_ :: .is ?_ :: .is ?_ :: .is ?_ :: .is ?_ :: .is ?_ :: .is ?_ :: .is ?_ :: .is ?_ :: .is ?_ :: .is ?_ :: .is ?_ :: .is ?_ :: .is ?_ :: .is ?_ :: .is ?_ :: .is ?_ :: .is ?_ :: .is ?_ :: .is ?_ :: .is ?_ :: .is ?_ :: .is ?_ :: .is ?_ :: .is ?_ :: .is ?_ :: .is ?_ :: .is ?_ :: .is ?_ :: .is ?_ :: .is ?_ :: .is undef :: .is undef :: .is undef :: .is undef :: .is undef :: .is undef :: .is undef :: .is undef :: .is undef :: .is undef :: .is undef :: .is undef :: .is undef :: .is undef :: .is undef :: .is undef :: .is undef :: .is undef :: .is undef :: .is undef :: .is undef :: .is undef :: .is undef :: .is undef :: .is undef :: .is undef :: .is undef :: .is undef :: .is undef :: .is undef :: .is undef :: .is undef :: .is undef :: .is undef :: .is ?_ :: .is ?_ :: []) rfl mix (by kernel_rfl) (by kernel_rfl) ?_
                rotate_left 56
                iterate 54
                  first
                    | refine seq_is rfl (fun u1 hb1 _ => ?_) ?_
                    | refine seq_on (by rfl) (fun u1 hb1 _ => ?_) ?_
                  · have c1' := bAt hb1 c1
                    have c2' := bAt hb1 c2
                    have c3' := bAt hb1 c3
                    have c4' := bAt hb1 c4
                    have c5' := bAt hb1 c5
                    have z0' := bAt hb1 z0
                    have z1' := bAt hb1 z1
                    have t0c' := bAt hb1 t0c
                    have t2c' := bAt hb1 t2c
                    simp [opOK, go_sem, c1', c2', c3', c4', c5', z0', d2, d3, n1, n3, hs6i, Below.refl]
                    try exact rfl
                  simp only [Act.put, List.setIfInBounds_toArray, List.set_cons_succ, List.set_cons_zero]
                iterate 34
                  refine seq_off (by rfl) ?_
                  simp only [Act.put, List.setIfInBounds_toArray, List.set_cons_succ, List.set_cons_zero]
                iterate 2
                  first
                    | refine seq_is rfl (fun u1 hb1 _ => ?_) ?_
                    | refine seq_on (by rfl) (fun u1 hb1 _ => ?_) ?_
                  · have c1' := bAt hb1 c1
                    have c2' := bAt hb1 c2
                    have c3' := bAt hb1 c3
                    have c4' := bAt hb1 c4
                    have c5' := bAt hb1 c5
                    have z0' := bAt hb1 z0
                    have z1' := bAt hb1 z1
                    have t0c' := bAt hb1 t0c
                    have t2c' := bAt hb1 t2c
                    simp [opOK, go_sem, Below.refl]
                    try exact rfl
                  simp only [Act.put, List.setIfInBounds_toArray, List.set_cons_succ, List.set_cons_zero]
                refine seq_end fun w7 hb7 _ => ?_
                go_wp2
                go_roundw
                case rel => exact ⟨s + 1, by omega, by go_num, Lib.hid (bThen HBQ9.out hb7)⟩
                case measure => simp [intOf]; omega
            · obtain rfl : s = 6 := by omega
              go_wp2_with fail
              refine (known_any wr9).mono ?_
              rintro e w10 ⟨rfl, hb10⟩
              have HBT := Lib.hid (bThen (bThen HBE.out HBQ9.out) hb10)
              clear hb10
              go_wp2
              go_ret
              exact ⟨rfl, HBT.out⟩
        · as_aux_lemma =>
          have hqK : q < K := by omega
          have hqL : q < L.length := by rw [HLL.out]; exact hqK
          obtain ⟨x, hx⟩ : ∃ x, L[q] = x := ⟨_, rfl⟩
          obtain ⟨bo, oo, hal, _, _, hco⟩ := (HOs.out.below (by rw [HZ.out]; exact HBr.out : Below wk.heap.size wk wr0)).cell (i := q) (by simpa using hqL)
          simp only [List.getElem_map, hx, offRow] at hco
          have y0 := hco 0 _ rfl
          have y1 := hco 1 _ rfl
          simp only [Nat.add_zero] at y0
          cases hal
          obtain ⟨Z, hZ⟩ : ∃ Z, wr0.heap.size = Z := ⟨_, rfl⟩
          obtain ⟨wa, hwa⟩ : ∃ wa, wr0.alloc (.cells #[.int .i64 x.1, .int .i64 x.2] 76) = wa := ⟨_, rfl⟩
          have hba : Below wr0.heap.size wr0 wa := by rw [← hwa]; exact aB _ _
          have hpa : wa.heap[Z]? = some (.cells #[.int .i64 x.1, .int .i64 x.2] 76 (0, 0)) := by rw [← hwa, ← hZ]; exact World.alloc_heap_new _ _
          have HX : Hid (L[q] = x) := Lib.hid hx
          have HBA := Lib.hid hba
          have HPA := Lib.hid hpa
          have HWA := Lib.hid hwa
          have HRA := Lib.hid (ownsN_below HR.out hba)
          have HNA : Hid (B ≤ wa.heap.size) := Lib.hid (by have := HSr.out; have := hba.size; omega)
          have hmK : K - (q + 1) + 1 = K - q := by omega
          have HMK := Lib.hid hmK
          have hm60 : K - (q + 1) + 1 ≤ 100000 := by omega
          have HTK : Hid (L.reverse.take (K - q) = L.reverse.take (K - (q + 1)) ++ [x]) := Lib.hid (by
            rw [← hmK, List.take_succ_eq_append_getElem (by rw [List.length_reverse, HLL.out]; omega), List.getElem_reverse]
            congr 2
            rw [← hx]
            congr 1
            rw [HLL.out]; omega)
          clear hx hco hwa hba hpa hmK
          have e : ((q + 1 : Nat) : Int) - 1 = (q : Int) := by omega
          rw [e]
          clear e
          go_wp2_with (at_builtin; rw [HWA.out]; refine wpList_appendN rfl (.tmp 149) (.tmp 154) 37 rfl B 76 (.agg #[.int .i64 0, .int .i64 0]) 2 16 Try.underlying37 info74 rfl (by decide) u2 (K - (q + 1)) _ rfl HRA.out Z 0 1 1 (offRow x) rfl rfl (fun j u hj => by rw [cell_of_heap HPA.out, Nat.zero_add]; simpa [offRow] using hj) (fun u hu => by simp [offRow] at hu; rcases hu with rfl | rfl <;> rfl) hm60 (by decide) HNA.out ?_)
          intro v' we hown hgr hat
          have HRf : Hid (we.ownsRow B 76 2 v' (K - q) ((L.reverse.take (K - q)).map offRow).flatten) := Lib.hid (by
            rw [HTK.out, rows_snoc, ← HMK.out]; simpa [List.map_take] using hown)
          have HBf : Hid (Below B wk we) := Lib.hid ((HBr.out.trans (HBA.out.mono (by have := HSr.out; omega))).trans (below_grownBy hgr HNA.out fun g hg => (HRA.out.lt g hg).1))
          have HSf : Hid (B + 1 ≤ we.heap.size) := Lib.hid (by have := HSr.out; have := HBA.out.size; have := hgr.size; omega)
          have hwq : IntKind.i64.wrap ((q : Int) - 1) = (q : Int) - 1 := wrap_small _ (by omega) (by omega)
          clear hown hgr hat hm60 hZ y0 y1
          go_wp2
          go_roundw
          case rel => exact ⟨q, _, rfl, by omega, rfl, HRf, HBf, HSf⟩
          case measure => simp [intOf] <;> omega
end Go.Proofs.Ytagfcodpgochjaa
