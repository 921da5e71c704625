/- The texts QS, in build order. -/
import Derived.Test.YtpfpjbglpibdoaaGreatDoorZbc
import Derived.Deep.DeepCutAuto
import Derived.Deep.CutRange
import Derived.Deep.CutBlock

/- Chapter 5: HeardSums, the walk. -/
namespace Go.Proofs.YtpfpjbglpibdoaaGreatDoor
open Go Go.RowKit Go.Oche Go.Proofs

set_option maxRecDepth 100000 in
set_option maxHeartbeats 40000000 in
theorem heardSums_any {S S' : Nat → Prop} (x : Thr) (hx : ThrOk x) (dv sv : Value) (w : World) (hd : Sl S w dv (u8s x.darts)) (hs : Sl S' w sv (u8s x.said)) (at5 : Int) (hat : 0 ≤ at5 ∧ at5 < 256) (hT : Tab5 w) :
    Calls Tryz.prog 11 #[thrV x dv sv, .int .u8 at5] w fun e w' => e = .returned (.bool true) ∧ Below w.heap.size w w' := by
  obtain ⟨a, cap, rfl, -, -⟩ := hd.form
  obtain ⟨a', cap', rfl, -, -⟩ := hs.form
  have hdl : (u8s x.darts).length = x.darts.length := List.length_map ..
  have hsl : (u8s x.said).length = x.said.length := List.length_map ..
  rw [hdl] at hd ⊢
  rw [hsl] at hs ⊢
  obtain ⟨dl, hdl2⟩ : ∃ n, x.darts.length = n := ⟨_, rfl⟩
  obtain ⟨sl, hsl2⟩ : ∃ n, x.said.length = n := ⟨_, rfl⟩
  rw [hdl2] at hd ⊢
  rw [hsl2] at hs ⊢
  obtain ⟨N, hN⟩ : ∃ N, w.heap.size = N := ⟨_, rfl⟩
  obtain ⟨w1, hw1⟩ : ∃ y, w.alloc (.cells #[.int .u8 x.st, .int .u8 x.inn, .int .u8 x.out, .int .u8 x.pl, .int .u16 (x.which : Int), .slice a dl cap, .slice a' sl cap'] 76) = y := ⟨_, rfl⟩
  have hb1 : Below w.heap.size w w1 := by rw [← hw1]; exact aB _ _
  have k : w1.heap[N]? = some (.cells #[.int .u8 x.st, .int .u8 x.inn, .int .u8 x.out, .int .u8 x.pl, .int .u16 (x.which : Int), .slice a dl cap, .slice a' sl cap'] 76 (0, 0)) := by rw [← hw1, ← hN]; exact World.alloc_heap_new _ _
  have x0 : w1.cell? ⟨N, 0, none⟩ = some (.int .u8 x.st) := by rw [cell_of_heap k]; rfl
  have x1 : w1.cell? ⟨N, 1, none⟩ = some (.int .u8 x.inn) := by rw [cell_of_heap k]; rfl
  have x2 : w1.cell? ⟨N, 2, none⟩ = some (.int .u8 x.out) := by rw [cell_of_heap k]; rfl
  have x3 : w1.cell? ⟨N, 3, none⟩ = some (.int .u8 x.pl) := by rw [cell_of_heap k]; rfl
  have x4 : w1.cell? ⟨N, 4, none⟩ = some (.int .u16 (x.which : Int)) := by rw [cell_of_heap k]; rfl
  have x5 : w1.cell? ⟨N, 5, none⟩ = some (.slice a dl cap) := by rw [cell_of_heap k]; rfl
  have x6 : w1.cell? ⟨N, 6, none⟩ = some (.slice a' sl cap') := by rw [cell_of_heap k]; rfl
  have HD := Lib.hid (hd.below hb1)
  have HS := Lib.hid (hs.below hb1)
  have HB := Lib.hid hb1
  have HT := Lib.hid (hT.below hb1)
  have HW := Lib.hid hw1
  have HN := Lib.hid hN
  have HX := Lib.hid hx
  have HAT := Lib.hid hat
  unfold thrV
  clear hd hs hb1 hw1 hN k hx hT hat hdl hsl hdl2 hsl2
  obtain ⟨l, hl⟩ : ∃ l, legT x 5 = l := ⟨_, rfl⟩
  obtain ⟨F, hF⟩ : ∃ F, playX x 5 = F := ⟨_, rfl⟩
  obtain ⟨n, hn⟩ : ∃ n, F.out.length = n := ⟨_, rfl⟩
  obtain ⟨nb, hnb⟩ : ∃ n, (bedsOf x.which).length = n := ⟨_, rfl⟩
  have hbd := legT_bd x 5
  rw [hl] at hbd
  have HBD := Lib.hid hbd
  have HTN : Hid (l.turns = (n : Int)) := Lib.hid (by rw [← hl, legT_turns, hF, hn])
  have HBE : Hid (l.beds = bedsOf x.which) := Lib.hid (by rw [← hl]; rfl)
  have HCK : Hid (checkL l = 0) := Lib.hid (by rw [← hl]; exact legT_check x (by omega))
  have HBI : Hid (BedsIn l) := Lib.hid (by rw [← hl]; exact legT_in x 5)
  have HGB : Hid (GoodBeds l) := Lib.hid (by rw [← hl]; exact legT_good x 5)
  have HOK5 : Hid (Ok5 (legB x) F) := Lib.hid (by rw [← hF]; exact playX_ok x 5)
  have HLB : Hid (l = leg5 (legB x) F) := Lib.hid (by rw [← hl, ← hF]; rfl)
  have HCM : Hid (checkL (moreL l) = 0) := Lib.hid (by rw [← hl]; exact moreL_check (by omega))
  have hn5 : n ≤ 5 := by rw [← hn, ← hF]; exact playX_len x 5
  have HNN := Lib.hid hn
  have HNB := Lib.hid hnb
  have HN6 : Hid (nb ≤ 6) := Lib.hid (by rw [← hnb]; exact bedsOf_len _)
  clear hbd
  go_enter Tryz.func11, Tryz.ntmps11
  go_upto_region 1 with fail
  rw [HW.out, HN.out]
  go_wp2_with fail
  have hcall := play_any x HX.out (.slice a dl cap) (.slice a' sl cap') 5 (by omega) w1 HD.out HS.out
  unfold thrV at hcall
  rw [hl, hF, hn, hnb] at hcall
  refine hcall.mono ?_
  rintro e w2 ⟨bv, ov, rfl, hb2, hob, hoo⟩
  clear hcall hl hF hn hnb
  obtain ⟨ba, bc, rfl⟩ := owns_form hob
  obtain ⟨oa, oc, rfl⟩ := owns_form hoo
  have HB2 := Lib.hid (bThen HB.out hb2)
  have HBS2 : Hid (Sl (fun q => w1.heap.size ≤ q) w2 (.slice ba nb bc) (ints l.beds)) := Lib.hid (by rw [HBE.out]; exact Sl.of_owns hob)
  have HO2 : Hid (SlN 3 (fun q => w1.heap.size ≤ q) w2 (.slice oa n oc) (F.out.map visRw)) := Lib.hid (SlN.of_ownsN (by rw [List.length_map, HNN.out]; exact hoo) (fun r hr => by obtain ⟨sp, _, rfl⟩ := List.mem_map.1 hr; rfl))
  have HT2 := Lib.hid (HT.out.below hb2)
  have HSS2 := Lib.hid (HS.out.below hb2)
  have HDD2 := Lib.hid (HD.out.below hb2)
  have x0 := bAt hb2 x0
  have x1 := bAt hb2 x1
  have x2 := bAt hb2 x2
  have x3 := bAt hb2 x3
  have x4 := bAt hb2 x4
  have x5 := bAt hb2 x5
  have x6 := bAt hb2 x6
  obtain ⟨K, hK⟩ : ∃ K, w2.heap.size = K := ⟨_, rfl⟩
  obtain ⟨w3, hw3⟩ : ∃ y, w2.alloc (.cells #[.int .i64 l.start, .int .i64 l.gin, .int .i64 l.gout, .slice ba nb bc, .int .i64 l.players, .int .i64 l.turns, .bool l.won] 27) = y := ⟨_, rfl⟩
  have hb3 : Below w2.heap.size w2 w3 := by rw [← hw3]; exact aB _ _
  have k3 : w3.heap[K]? = some (.cells #[.int .i64 l.start, .int .i64 l.gin, .int .i64 l.gout, .slice ba nb bc, .int .i64 l.players, .int .i64 l.turns, .bool l.won] 27 (0, 0)) := by rw [← hw3, ← hK]; exact World.alloc_heap_new _ _
  have HK := Lib.hid hK
  have HW3 := Lib.hid hw3
  have HB3 := Lib.hid (bThen HB2.out hb3)
  have HBS3 := Lib.hid (HBS2.out.below hb3)
  have HO3 := Lib.hid (HO2.out.below hb3)
  have HT3 := Lib.hid (HT2.out.below hb3)
  have HSS3 := Lib.hid (HSS2.out.below hb3)
  have HDD3 := Lib.hid (HDD2.out.below hb3)
  have hb3' := hb3
  clear hb2 hob hoo hw3 hK hb3
  unfold legV legA
  go_upto_region 2 with fail
  rw [HW3.out, HK.out]
  have x0 := bAt hb3' x0
  have x1 := bAt hb3' x1
  have x2 := bAt hb3' x2
  have x3 := bAt hb3' x3
  have x4 := bAt hb3' x4
  have x5 := bAt hb3' x5
  have x6 := bAt hb3' x6
  have c0 : w3.cell? ⟨K, 0, none⟩ = some (.int .i64 l.start) := by rw [cell_of_heap k3]; rfl
  have c1 : w3.cell? ⟨K, 1, none⟩ = some (.int .i64 l.gin) := by rw [cell_of_heap k3]; rfl
  have c2 : w3.cell? ⟨K, 2, none⟩ = some (.int .i64 l.gout) := by rw [cell_of_heap k3]; rfl
  have c3 : w3.cell? ⟨K, 3, none⟩ = some (.slice ba nb bc) := by rw [cell_of_heap k3]; rfl
  have c4 : w3.cell? ⟨K, 4, none⟩ = some (.int .i64 l.players) := by rw [cell_of_heap k3]; rfl
  have c5 : w3.cell? ⟨K, 5, none⟩ = some (.int .i64 l.turns) := by rw [cell_of_heap k3]; rfl
  have c6 : w3.cell? ⟨K, 6, none⟩ = some (.bool l.won) := by rw [cell_of_heap k3]; rfl
  clear k3 hb3' x0 x1 x2 x3 x4 x5 x6 HDD3 HSS3 HDD2 HSS2
  obtain ⟨gb, hgb⟩ : ∃ b, (l.gin == 0) = b := ⟨_, rfl⟩
  have HGB5 : Hid (gb = (l.gin == 0)) := Lib.hid hgb.symm
  obtain ⟨D, hD⟩ : ∃ D, w3.heap.size = D := ⟨_, rfl⟩
  obtain ⟨w4, hw4⟩ : ∃ y, w3.alloc (.cells #[.int .i64 l.start, .bool gb] 29) = y := ⟨_, rfl⟩
  have hb4 : Below w3.heap.size w3 w4 := by rw [← hw4]; exact aB _ _
  have k4 : w4.heap[D]? = some (.cells #[.int .i64 l.start, .bool gb] 29 (0, 0)) := by rw [← hw4, ← hD]; exact World.alloc_heap_new _ _
  have HD := Lib.hid hD
  have HW4 := Lib.hid hw4
  have HK4 := Lib.hid k4
  have HB4 : Hid (Below w3.heap.size w3 w4) := Lib.hid hb4
  have HKD : Hid (K < D) := Lib.hid (by rw [← hD]; exact World.block_lt_of_cell? w3 _ c0)
  clear hb4 hw4 k4 hD
  obtain ⟨P, hP⟩ : ∃ P, l.players.toNat = P := ⟨_, rfl⟩
  obtain ⟨lb, hlb⟩ : ∃ y, legB x = y := ⟨_, rfl⟩
  rw [hlb] at HLB HOK5
  have HPP : Hid (l.players = (P : Int) ∧ 1 ≤ P ∧ P ≤ 3 ∧ lb.players.toNat = P ∧ 1 ≤ lb.players ∧ 2 ≤ lb.start ∧ lb.start ≤ 21) := Lib.hid (by
    have h := legB_bd x
    rw [hlb] at h
    have e : l.players = lb.players := by rw [HLB.out]; rfl
    rw [e] at hP ⊢
    omega)
  have HGL : Hid (GoodBeds lb) := Lib.hid (by have h := HGB.out; rw [HLB.out] at h; exact h)
  have HS0 : Hid (StAt lb F 0 ⟨l.start, gb⟩) := Lib.hid (by
    have h := StAt.start (l := lb) (x := F) HPP.out.2.2.2.2.2.1
    rw [HGB5.out, HLB.out]; exact h)
  obtain ⟨A, hA⟩ : ∃ A : Nat, at5.tmod 5 = (A : Int) := ⟨(at5.tmod 5).toNat, by have := Int.tmod_nonneg 5 (a := at5) HAT.out.1; omega⟩
  have wat : wrap64 at5 = at5 := by have := HAT.out; unfold wrap64; omega
  clear hP hlb
  go_upto_block 0 with fail
  rw [HW4.out, HD.out]
  clear hgb
  go_cut [8] from 36 to 76 (fun _ wx => ∃ (s : Std) (k : Nat), Hid (StAt lb F k s) ∧ Hid (wx.heap[D]? = some (.cells #[.int .i64 s.left, .bool s.inn] 29 (0, 0))) ∧ Hid (Below w3.heap.size w3 wx))
  case first =>
    have c4' : w3.cell? ⟨K, 4, none⟩ = some (.int .i64 (P : Int)) := by rw [← HPP.out.1]; exact c4
    clear c0 c1 c2 c3 c4 c5 c6
    go_wp2_with fail
    go_loopw [8] (fun iv wr => ∃ (k i : Nat) (s : Std), iv = .int .i64 (i : Int) ∧ Hid (i = k * P) ∧ i ≤ 10 ∧ Hid ((∃ k', StAt lb F k' s) ∧ (i < n → k ≤ A → StAt lb F k s)) ∧ Hid (wr.heap[D]? = some (.cells #[.int .i64 s.left, .bool s.inn] 29 (0, 0))) ∧ Hid (Below w3.heap.size w3 wr)) (fun iv _ => 20 - (intOf iv).toNat)
    case atStart => exact ⟨0, 0, ⟨l.start, gb⟩, by go_num, Lib.hid (by omega), by omega, Lib.hid ⟨⟨0, HS0.out⟩, fun _ _ => HS0.out⟩, HK4, HB4⟩
    case round =>
      clear HK4 HB4
      obtain ⟨k, i, ⟨sl, si⟩, rfl, HI, hi10, HST, HKD4, HBr⟩ := hrel
      obtain ⟨wo, rfl⟩ : ∃ wo : World, wo = wr := ⟨_, rfl⟩
      simp only at HKD4
      have c4' := bAt HBr.out c4'
      by_cases hlt : i < n
      · have hil : i < F.out.length := by rw [HNN.out]; exact hlt
        obtain ⟨sp, hsp⟩ : ∃ s, F.out[i] = s := ⟨_, rfl⟩
        have hsa : F.out[i]? = some sp := by rw [List.getElem?_eq_getElem hil, hsp]
        obtain ⟨ob, ofx, hoa, hob3, -, hc⟩ := ((HO3.out.lt (by decide)).below HBr.out).cell (i := i) (by rw [List.length_map]; exact hil)
        cases hoa
        have hrow : (F.out.map visRw)[i]'(by rw [List.length_map]; exact hil) = visRw sp := by rw [List.getElem_map, hsp]
        rw [hrow] at hc
        have p0 := hc 0 (.int .i64 sp.score) rfl
        have p1 := hc 1 (.int .i64 sp.en.left) rfl
        rw [Nat.add_zero] at p0
        obtain ⟨sc, hsc⟩ : ∃ z, sp.score = z := ⟨_, rfl⟩
        obtain ⟨le, hle⟩ : ∃ z, sp.en.left = z := ⟨_, rfl⟩
        rw [hsc] at p0
        rw [hle] at p1
        have HSC := Lib.hid hsc
        have HLE := Lib.hid hle
        have HSA := Lib.hid hsa
        have hli : (i : Int) < (n : Int) := by omega
        have tq : (i : Int).tdiv (P : Int) = (k : Int) := by
          have h1 : (P : Int) ≠ 0 := by have := HPP.out; omega
          have h2 : (i : Int) = (k : Int) * (P : Int) := by rw [HI.out, Int.natCast_mul]
          rw [h2, Int.mul_tdiv_cancel _ h1]
        have dz1 : ¬ (P : Int) = 0 := by have := HPP.out; omega
        have dz2 : ¬ P = 0 := by have := HPP.out; omega
        have wk : wrap64 (k : Int) = (k : Int) := by
          have h1 : k ≤ i := by rw [HI.out]; exact Nat.le_mul_of_pos_right _ (by have := HPP.out; omega)
          unfold wrap64; omega
        have hwi : IntKind.i64.wrap ((i : Int) + (P : Int)) = ((i + P : Nat) : Int) := by rw [wrap_small _ (by have := HPP.out; omega) (by have := HPP.out; omega)]; omega
        have HI2 : Hid (i + P = (k + 1) * P) := Lib.hid (by rw [HI.out, Nat.succ_mul])
        have HNX : Hid (i + P ≤ 10 ∧ 1 ≤ P) := Lib.hid (by have := HPP.out; omega)
        have hneD : ob ≠ D := by have := hob3.2; rw [HD.out] at this; omega
        clear hob3 hil hsp hsa hc hrow hsc hle
        by_cases hkA : k ≤ A
        · have dk : decide ((k : Int) ≤ (A : Int)) = true := decide_eq_true (by omega)
          have dkn : decide (k ≤ A) = true := decide_eq_true hkA
          by_cases hl0 : 0 < le
          · have dl : decide (0 < le) = true := decide_eq_true hl0
            go_upto_region 7 with fail
            cases si
            · skip
              obtain ⟨b, hb⟩ : ∃ b, decide (0 < sc) = b := ⟨_, rfl⟩
              obtain ⟨A7, hA7⟩ : ∃ A7 : (Nat → Bool) → Array Value, A7 = fun L => #[(if L 16 = true then (.int .i64 le) else (.int .i64 sl)), (if L 18 = true then (.bool b) else (.bool false))] := ⟨_, rfl⟩
              refine wp_region_seqC 19 [.slice (some ⟨ob, ofx, none⟩) n oc, .int .i64 (i : Int), .pointer (some ⟨ob, ofx + i * 3, none⟩), .pointer (some ⟨ob, ofx + i * 3 + 1, none⟩), .int .i64 le, .pointer (some ⟨D, 1, none⟩), .bool false, .bool false, .slice (some ⟨ob, ofx, none⟩) n oc, .int .i64 (i : Int), .pointer (some ⟨ob, ofx + i * 3, none⟩), .pointer (some ⟨ob, ofx + i * 3, none⟩), .int .i64 sc, .bool b, .bool b, .pointer (some ⟨D, 0, none⟩), undef, .pointer (some ⟨D, 1, none⟩), undef] (fun L W => JArr wo.drew D 29 A7 L W ∧ (L 18 = true → L 6 = true)) rfl mix (by kernel_rfl) (by kernel_rfl) ⟨JArr.start (by rw [hA7]; exact HKD4.out), fun h => by cases h⟩ ?_
              simp only [List.take_succ_cons, List.take_zero]
              iterate 6
                refine sc_on (by rfl) (fun _ L hL h => ⟨h.1.read (by rw [hA7]; rfl), fun e => by rw [setB_ne (by decide)] at e ⊢; exact h.2 e⟩) (fun w3' L hL hJ => ?_) ?_
                · have q0 := hJ.1.cell p0 hneD
                  have q1 := hJ.1.cell p1 hneD
                  simp [opOK, go_sem, q1, hli]
                  try exact rfl
                simp only [Act.put, List.setIfInBounds_toArray, List.set_cons_succ, List.set_cons_zero]
              refine sc_on (by rfl) (fun _ L hL h => ⟨h.1.read (by rw [hA7]; rfl), fun _ => by simp [setB]⟩) (fun w3' L hL hJ => ?_) ?_
              · have h18 : L 18 = false := by
                  cases e : L 18 with
                  | false => rfl
                  | true => rw [hJ.2 e] at hL; cases hL
                have hc := hJ.1.own (o := 1) (x := .bool false) (by rw [hA7]; simp [h18])
                simp [opOK, go_sem, hc]
              simp only [Act.put, List.setIfInBounds_toArray, List.set_cons_succ, List.set_cons_zero]
              iterate 1
                refine sc_on (by rfl) (fun _ L hL h => ⟨h.1.read (by rw [hA7]; rfl), fun e => by rw [setB_ne (by decide)] at e ⊢; exact h.2 e⟩) (fun w3' L hL hJ => ?_) ?_
                · have q0 := hJ.1.cell p0 hneD
                  have q1 := hJ.1.cell p1 hneD
                  simp [opOK, go_sem]
                  try exact rfl
                simp only [Act.put, List.setIfInBounds_toArray, List.set_cons_succ, List.set_cons_zero]
              iterate 6
                refine sc_on (by rfl) (fun _ L hL h => ⟨h.1.read (by rw [hA7]; rfl), fun e => by rw [setB_ne (by decide)] at e ⊢; exact h.2 e⟩) (fun w3' L hL hJ => ?_) ?_
                · have q0 := hJ.1.cell p0 hneD
                  have q1 := hJ.1.cell p1 hneD
                  simp [opOK, go_sem, q0, hli, hb]
                  try exact rfl
                simp only [Act.put, List.setIfInBounds_toArray, List.set_cons_succ, List.set_cons_zero]
              iterate 2
                refine sc_on (by rfl) (fun _ L hL h => ⟨h.1.read (by rw [hA7]; rfl), fun e => by rw [setB_ne (by decide)] at e ⊢; exact h.2 e⟩) (fun w3' L hL hJ => ?_) ?_
                · have q0 := hJ.1.cell p0 hneD
                  have q1 := hJ.1.cell p1 hneD
                  simp [opOK, go_sem]
                  try exact rfl
                simp only [Act.put, List.setIfInBounds_toArray, List.set_cons_succ, List.set_cons_zero]
              refine sc_is rfl (fun w3' L hL hJ hd => ?_) ?_
              · skip
                have hf := hJ.1.free 0
                have hc := hJ.1.own (o := 0) (x := _) (by rw [hA7]; rfl)
                simp [opOK, go_sem, hf, hc]
                exact ⟨hJ.1.store (i := 16) (o := 0) (v := .int .i64 le) (by rw [hA7]; simp [setB]), fun e => by rw [setB_ne (by decide)] at e ⊢; exact hJ.2 e⟩
              simp only [Act.put]
              iterate 1
                refine sc_on (by rfl) (fun _ L hL h => ⟨h.1.read (by rw [hA7]; rfl), fun e => by rw [setB_ne (by decide)] at e ⊢; exact h.2 e⟩) (fun w3' L hL hJ => ?_) ?_
                · have q0 := hJ.1.cell p0 hneD
                  have q1 := hJ.1.cell p1 hneD
                  simp [opOK, go_sem]
                  try exact rfl
                simp only [Act.put, List.setIfInBounds_toArray, List.set_cons_succ, List.set_cons_zero]
              refine sc_is rfl (fun w3' L hL hJ hd => ?_) ?_
              · have hd6 : L 6 = true := hd ⟨6, .phase⟩ (by simp) rfl
                skip
                have hf := hJ.1.free 1
                have hc := hJ.1.own (o := 1) (x := _) (by rw [hA7]; rfl)
                simp [opOK, go_sem, hf, hc]
                exact ⟨hJ.1.store (i := 18) (o := 1) (v := .bool b) (by rw [hA7]; simp [setB]), fun _ => by rw [setB_ne (by decide)]; exact hd6⟩
              simp only [Act.put]
              refine sc_end fun w5 hJ => ?_
              simp only [List.drop_succ_cons, List.drop_zero]
              have hd5 : w5.heap[D]? = some (.cells #[.int .i64 le, .bool b] 29 (0, 0)) := by have := hJ.1.at_; rw [hA7] at this; exact this
              have HKD5 := Lib.hid hd5
              have HB5 : Hid (Below w3.heap.size w3 w5) := Lib.hid (HBr.out.trans ⟨hJ.1.os, hJ.1.tape, hJ.1.output, Nat.le_of_eq hJ.1.size.symm, fun q hq => hJ.1.same q (by rw [HD.out] at hq; omega)⟩)
              have HS9 : Hid ((∃ k', StAt lb F k' ⟨le, b⟩) ∧ (i + P < n → k + 1 ≤ A → StAt lb F (k + 1) ⟨le, b⟩)) := Lib.hid (by
                have hs := (HST.out.2 hlt hkA).next HGL.out HPP.out.2.2.2.2.1 (by have := HPP.out; omega) HOK5.out (sp := sp) (by rw [HPP.out.2.2.2.1, ← HI.out]; exact HSA.out) (by rw [HLE.out]; exact hl0)
                rw [HLE.out, HSC.out] at hs
                have e : (false || decide (0 < sc)) = b := by rw [hb]; rfl
                have hs2 : StAt lb F (k + 1) ⟨le, b⟩ := by rw [← e]; exact hs
                exact ⟨⟨_, hs2⟩, fun _ _ => hs2⟩)
              have c4' : w5.cell? ⟨K, 4, none⟩ = some (.int .i64 (P : Int)) := hJ.1.cell c4' (by have := HKD.out; omega)
              clear hJ hd5 hA7 p0 p1 hb hkA hl0 dl dk dkn
              go_wp2_with fail
              go_roundw
              case rel => exact ⟨k + 1, i + P, ⟨le, b⟩, by go_num, HI2, by have := HNX.out; omega, HS9, HKD5, HB5⟩
              case measure => have := HNX.out; simp [intOf]; omega
            · skip
              obtain ⟨A7, hA7⟩ : ∃ A7 : (Nat → Bool) → Array Value, A7 = fun L => #[(if L 16 = true then (.int .i64 le) else (.int .i64 sl)), (if L 18 = true then (.bool true) else (.bool true))] := ⟨_, rfl⟩
              refine wp_region_seqC 19 [.slice (some ⟨ob, ofx, none⟩) n oc, .int .i64 (i : Int), .pointer (some ⟨ob, ofx + i * 3, none⟩), .pointer (some ⟨ob, ofx + i * 3 + 1, none⟩), .int .i64 le, .pointer (some ⟨D, 1, none⟩), .bool true, .bool true, undef, undef, undef, undef, undef, undef, .bool true, .pointer (some ⟨D, 0, none⟩), undef, .pointer (some ⟨D, 1, none⟩), undef] (fun L W => JArr wo.drew D 29 A7 L W ∧ (L 18 = true → L 6 = true)) rfl mix (by kernel_rfl) (by kernel_rfl) ⟨JArr.start (by rw [hA7]; exact HKD4.out), fun h => by cases h⟩ ?_
              simp only [List.take_succ_cons, List.take_zero]
              iterate 6
                refine sc_on (by rfl) (fun _ L hL h => ⟨h.1.read (by rw [hA7]; rfl), fun e => by rw [setB_ne (by decide)] at e ⊢; exact h.2 e⟩) (fun w3' L hL hJ => ?_) ?_
                · have q0 := hJ.1.cell p0 hneD
                  have q1 := hJ.1.cell p1 hneD
                  simp [opOK, go_sem, q1, hli]
                  try exact rfl
                simp only [Act.put, List.setIfInBounds_toArray, List.set_cons_succ, List.set_cons_zero]
              refine sc_on (by rfl) (fun _ L hL h => ⟨h.1.read (by rw [hA7]; rfl), fun _ => by simp [setB]⟩) (fun w3' L hL hJ => ?_) ?_
              · have h18 : L 18 = false := by
                  cases e : L 18 with
                  | false => rfl
                  | true => rw [hJ.2 e] at hL; cases hL
                have hc := hJ.1.own (o := 1) (x := .bool true) (by rw [hA7]; simp [h18])
                simp [opOK, go_sem, hc]
              simp only [Act.put, List.setIfInBounds_toArray, List.set_cons_succ, List.set_cons_zero]
              iterate 1
                refine sc_on (by rfl) (fun _ L hL h => ⟨h.1.read (by rw [hA7]; rfl), fun e => by rw [setB_ne (by decide)] at e ⊢; exact h.2 e⟩) (fun w3' L hL hJ => ?_) ?_
                · have q0 := hJ.1.cell p0 hneD
                  have q1 := hJ.1.cell p1 hneD
                  simp [opOK, go_sem]
                  try exact rfl
                simp only [Act.put, List.setIfInBounds_toArray, List.set_cons_succ, List.set_cons_zero]
              iterate 6
                refine sc_off (by rfl) (fun _ L hL h => ⟨h.1.read (by rw [hA7]; rfl), fun e => by rw [setB_ne (by decide)] at e ⊢; exact h.2 e⟩) ?_
                simp only [Act.put, List.setIfInBounds_toArray, List.set_cons_succ, List.set_cons_zero]
              iterate 2
                refine sc_on (by rfl) (fun _ L hL h => ⟨h.1.read (by rw [hA7]; rfl), fun e => by rw [setB_ne (by decide)] at e ⊢; exact h.2 e⟩) (fun w3' L hL hJ => ?_) ?_
                · have q0 := hJ.1.cell p0 hneD
                  have q1 := hJ.1.cell p1 hneD
                  simp [opOK, go_sem]
                  try exact rfl
                simp only [Act.put, List.setIfInBounds_toArray, List.set_cons_succ, List.set_cons_zero]
              refine sc_is rfl (fun w3' L hL hJ hd => ?_) ?_
              · skip
                have hf := hJ.1.free 0
                have hc := hJ.1.own (o := 0) (x := _) (by rw [hA7]; rfl)
                simp [opOK, go_sem, hf, hc]
                exact ⟨hJ.1.store (i := 16) (o := 0) (v := .int .i64 le) (by rw [hA7]; simp [setB]), fun e => by rw [setB_ne (by decide)] at e ⊢; exact hJ.2 e⟩
              simp only [Act.put]
              iterate 1
                refine sc_on (by rfl) (fun _ L hL h => ⟨h.1.read (by rw [hA7]; rfl), fun e => by rw [setB_ne (by decide)] at e ⊢; exact h.2 e⟩) (fun w3' L hL hJ => ?_) ?_
                · have q0 := hJ.1.cell p0 hneD
                  have q1 := hJ.1.cell p1 hneD
                  simp [opOK, go_sem]
                  try exact rfl
                simp only [Act.put, List.setIfInBounds_toArray, List.set_cons_succ, List.set_cons_zero]
              refine sc_is rfl (fun w3' L hL hJ hd => ?_) ?_
              · have hd6 : L 6 = true := hd ⟨6, .phase⟩ (by simp) rfl
                skip
                have hf := hJ.1.free 1
                have hc := hJ.1.own (o := 1) (x := _) (by rw [hA7]; rfl)
                simp [opOK, go_sem, hf, hc]
                exact ⟨hJ.1.store (i := 18) (o := 1) (v := .bool true) (by rw [hA7]; simp [setB]), fun _ => by rw [setB_ne (by decide)]; exact hd6⟩
              simp only [Act.put]
              refine sc_end fun w5 hJ => ?_
              simp only [List.drop_succ_cons, List.drop_zero]
              have hd5 : w5.heap[D]? = some (.cells #[.int .i64 le, .bool true] 29 (0, 0)) := by have := hJ.1.at_; rw [hA7] at this; exact this
              have HKD5 := Lib.hid hd5
              have HB5 : Hid (Below w3.heap.size w3 w5) := Lib.hid (HBr.out.trans ⟨hJ.1.os, hJ.1.tape, hJ.1.output, Nat.le_of_eq hJ.1.size.symm, fun q hq => hJ.1.same q (by rw [HD.out] at hq; omega)⟩)
              have HS9 : Hid ((∃ k', StAt lb F k' ⟨le, true⟩) ∧ (i + P < n → k + 1 ≤ A → StAt lb F (k + 1) ⟨le, true⟩)) := Lib.hid (by
                have hs := (HST.out.2 hlt hkA).next HGL.out HPP.out.2.2.2.2.1 (by have := HPP.out; omega) HOK5.out (sp := sp) (by rw [HPP.out.2.2.2.1, ← HI.out]; exact HSA.out) (by rw [HLE.out]; exact hl0)
                rw [HLE.out, HSC.out] at hs
                have e : (true || decide (0 < sc)) = true := by rfl
                have hs2 : StAt lb F (k + 1) ⟨le, true⟩ := by rw [← e]; exact hs
                exact ⟨⟨_, hs2⟩, fun _ _ => hs2⟩)
              have c4' : w5.cell? ⟨K, 4, none⟩ = some (.int .i64 (P : Int)) := hJ.1.cell c4' (by have := HKD.out; omega)
              clear hJ hd5 hA7 p0 p1 hkA hl0 dl dk dkn
              go_wp2_with fail
              go_roundw
              case rel => exact ⟨k + 1, i + P, ⟨le, true⟩, by go_num, HI2, by have := HNX.out; omega, HS9, HKD5, HB5⟩
              case measure => have := HNX.out; simp [intOf]; omega
          · have dl : decide (0 < le) = false := decide_eq_false hl0
            have HS9 : Hid ((∃ k', StAt lb F k' ⟨sl, si⟩) ∧ (i + P < n → k + 1 ≤ A → StAt lb F (k + 1) ⟨sl, si⟩)) := Lib.hid ⟨HST.out.1, fun h _ => by
              have hs := HST.out.2 hlt hkA
              have h2 := hs.last HPP.out.2.2.2.2.1 HOK5.out (sp := sp) (by rw [HPP.out.2.2.2.1, ← HI.out]; exact HSA.out) (by rw [HLE.out]; exact hl0)
              rw [HPP.out.2.2.2.1, ← HI.out, HNN.out] at h2
              have := HNX.out
              omega⟩
            clear hkA hl0
            go_wp2_with fail
            go_roundw
            case rel => exact ⟨k + 1, i + P, ⟨sl, si⟩, by go_num, HI2, by have := HNX.out; omega, HS9, HKD4, HBr⟩
            case measure => have := HNX.out; simp [intOf]; omega
        · have dk : decide ((k : Int) ≤ (A : Int)) = false := decide_eq_false (by omega)
          have dkn : decide (k ≤ A) = false := decide_eq_false hkA
          have HS9 : Hid ((∃ k', StAt lb F k' ⟨sl, si⟩) ∧ (i + P < n → k + 1 ≤ A → StAt lb F (k + 1) ⟨sl, si⟩)) := Lib.hid ⟨HST.out.1, fun _ h => absurd h (by omega)⟩
          clear hkA
          go_wp2_with fail
          go_roundw
          case rel => exact ⟨k + 1, i + P, ⟨sl, si⟩, by go_num, HI2, by have := HNX.out; omega, HS9, HKD4, HBr⟩
          case measure => have := HNX.out; simp [intOf]; omega
      · obtain ⟨k', hk'⟩ := HST.out.1
        have HK9 := Lib.hid hk'
        clear hk'
        go_wp2
        go_meet
        case rel => exact ⟨⟨sl, si⟩, k', HK9, HKD4, HBr⟩
  case rest =>
  obtain ⟨⟨sl, si⟩, k, HST, HKD5, HB5⟩ := hcut
  obtain ⟨w5, rfl⟩ : ∃ y : World, y = wc := ⟨_, rfl⟩
  clear HK4 HB4
  simp only at HKD5
  have hb5 := HB5.out
  have HB5 := Lib.hid (bThen HB3.out hb5)
  have HBS5 := Lib.hid (HBS3.out.below hb5)
  have HO5 := Lib.hid (HO3.out.below hb5)
  have HT5 := Lib.hid (HT3.out.below hb5)
  clear HB3 HBS3 HO3 HT3
  have c0 := bAt hb5 c0
  have c1 := bAt hb5 c1
  have c2 := bAt hb5 c2
  have c3 := bAt hb5 c3
  have c4 := bAt hb5 c4
  have c5 := bAt hb5 c5
  have c6 := bAt hb5 c6
  have d0 : w5.cell? ⟨D, 0, none⟩ = some (.int .i64 sl) := by rw [cell_of_heap HKD5.out]; rfl
  have d1 : w5.cell? ⟨D, 1, none⟩ = some (.bool si) := by rw [cell_of_heap HKD5.out]; rfl
  have HOS : Hid (okStand l ⟨sl, si⟩ = true) := Lib.hid (by rw [HLB.out]; exact HST.out.ok)
  have HL0 : Hid (0 ≤ sl ∧ sl ≤ 21) := Lib.hid (by
    have h1 := HST.out.lo
    have h2 := HST.out.hi
    have h3 := HPP.out
    unfold low5 at h1
    simp only at h1 h2
    split at h1 <;> omega)
  obtain ⟨XS, hXS⟩ : ∃ y, scOf l ⟨sl, si⟩ = y := ⟨_, rfl⟩
  obtain ⟨wv, hwv⟩ : ∃ y, winsL l ⟨sl, si⟩ = y := ⟨_, rfl⟩
  obtain ⟨nx, hnx⟩ : ∃ y, XS.length = y := ⟨_, rfl⟩
  have HISC : Hid (IsScores l ⟨sl, si⟩ XS) := Lib.hid (by rw [← hXS]; exact scOf_scores HGB.out ⟨HL0.out.1, by have := HL0.out.2; show sl ≤ 1001; omega⟩)
  have HXLE : Hid (∀ z ∈ XS, 0 ≤ z ∧ z ≤ sl) := Lib.hid (by rw [← hXS]; exact fun z hz => ⟨scOf_nn z hz, scOf_le HGB.out ⟨HL0.out.1, by have := HL0.out.2; show sl ≤ 1001; omega⟩ z hz⟩)
  have HXS := Lib.hid hXS
  have HWN := Lib.hid hwv
  have HNX := Lib.hid hnx
  have HB5 := HB5
  clear hb5 hXS hwv hnx hA wat
  go_upto_region 8 with fail
  refine wp_region_seqW (.is (.agg #[.int .i64 l.start, .int .i64 l.gin, .int .i64 l.gout, .slice ba nb bc, .int .i64 l.players, .int .i64 l.turns, .bool l.won]) :: kOwnL l nb :: .is (.agg #[.int .i64 sl, .bool si]) :: kVis XS wv :: kVis XS wv :: kInts XS :: .is (.bool wv) :: .is (.int .i64 0) :: kInts XS :: .is (.bool wv) :: .is (.int .i64 0) :: []) rfl mix (by kernel_rfl) (by kernel_rfl) ?_
  refine seq_on (by rfl) (fun w6 hb6 _ => ?_) ?_
  · have q0 := bAt hb6 c0
    have q1 := bAt hb6 c1
    have q2 := bAt hb6 c2
    have q3 := bAt hb6 c3
    have q4 := bAt hb6 c4
    have q5 := bAt hb6 c5
    have q6 := bAt hb6 c6
    simp [opOK, go_sem, q0, q1, q2, q3, q4, q5, q6, Below.refl]
    try exact rfl
  simp only [Act.put, List.setIfInBounds_toArray, List.set_cons_succ, List.set_cons_zero]
  refine seq_new ⟨_, none, 0, rfl⟩ (by rfl) (fun w6 hb6 hH => ?_) ?_
  · refine opOK_call (f := 14) (args := #[.agg #[.int .i64 l.start, .int .i64 l.gin, .int .i64 l.gout, .slice ba nb bc, .int .i64 l.players, .int .i64 l.turns, .bool l.won]]) (by simp [go_sem]) ?_
    refine (own_any l (.slice ba nb bc) w6 (HBS5.out.below hb6) (by rw [HBE.out, HNB.out]; have := HN6.out; omega)).mono ?_
    rintro e w' ⟨bv', rfl, hb', hs'⟩
    obtain ⟨xa, y, rfl, -, -⟩ := hs'.form
    rw [ints_length, HBE.out, HNB.out] at hs' ⊢
    rw [← HBE.out] at hs'
    exact ⟨_, rfl, hb', ⟨xa, y, rfl⟩, xa, y, rfl, hs'.mono fun _ _ => trivial⟩
  rintro _ ⟨xo, yo, rfl⟩
  simp only [Act.put, List.setIfInBounds_toArray, List.set_cons_succ, List.set_cons_zero]
  refine seq_on (by rfl) (fun w6 hb6 _ => ?_) ?_
  · have q0 := bAt hb6 d0
    have q1 := bAt hb6 d1
    simp [opOK, go_sem, q0, q1, Below.refl]
    try exact rfl
  simp only [Act.put, List.setIfInBounds_toArray, List.set_cons_succ, List.set_cons_zero]
  refine seq_new ⟨_, none, 0, rfl⟩ (by rfl) (fun w6 hb6 hH => ?_) ?_
  · obtain ⟨xa, y, e1, hs'⟩ := hH ⟨1, .data⟩ (by simp) rfl
    cases e1
    refine opOK_call (f := 16) (args := #[legV l (.slice xo nb yo), .agg #[.int .i64 sl, .bool si]]) (by simp [go_sem]) ?_
    refine (visits_ok l (.slice xo nb yo) ⟨sl, si⟩ w6 hs' HBI.out HCK.out HOS.out HGB.out ⟨HL0.out.1, by have := HL0.out.2; show sl ≤ 1001; omega⟩).mono ?_
    rintro e w' ⟨a3, c3', rfl, hb', hs3, -⟩
    rw [HXS.out] at hs3 ⊢
    rw [HWN.out]
    exact ⟨_, rfl, hb', ⟨a3, c3', rfl⟩, a3, c3', rfl, hs3⟩
  rintro _ ⟨va, vc, rfl⟩
  simp only [Act.put, List.setIfInBounds_toArray, List.set_cons_succ, List.set_cons_zero]
  refine seq_new ⟨_, none, 0, rfl⟩ (by rfl) (fun w6 hb6 hH => ?_) ?_
  · have h3 := hH ⟨3, .data⟩ (by simp) rfl
    exact opOK_val (v := .tuple #[.slice va XS.length vc, .bool wv, .int .i64 0]) (w' := w6) (by simp [go_sem, execOp]) ⟨Below.refl _ _, ⟨va, vc, rfl⟩, h3⟩
  rintro _ ⟨ta, tc, rfl⟩
  simp only [Act.put, List.setIfInBounds_toArray, List.set_cons_succ, List.set_cons_zero]
  refine seq_new ⟨_, none, 0, rfl⟩ (by rfl) (fun w6 hb6 hH => ?_) ?_
  · obtain ⟨xa, y, e1, hs'⟩ := hH ⟨4, .data⟩ (by simp) rfl
    cases e1
    exact opOK_val (v := .slice ta XS.length tc) (w' := w6) (by simp [go_sem, execOp]) ⟨Below.refl _ _, ⟨ta, tc, rfl⟩, ta, tc, rfl, hs'⟩
  rintro _ ⟨ea, ec, rfl⟩
  simp only [Act.put, List.setIfInBounds_toArray, List.set_cons_succ, List.set_cons_zero]
  iterate 2
    refine seq_on (by rfl) (fun w6 hb6 _ => ?_) ?_
    · simp [opOK, go_sem, Below.refl]
      try exact rfl
    simp only [Act.put, List.setIfInBounds_toArray, List.set_cons_succ, List.set_cons_zero]
  refine seq_new ⟨_, none, 0, rfl⟩ (by rfl) (fun w6 hb6 hH => ?_) ?_
  · have h5 := hH ⟨5, .data⟩ (by simp) rfl
    exact opOK_val (v := .slice ea XS.length ec) (w' := w6) (by simp [go_sem, execOp]) ⟨Below.refl _ _, ⟨ea, ec, rfl⟩, h5⟩
  rintro _ ⟨sa, sc, rfl⟩
  simp only [Act.put, List.setIfInBounds_toArray, List.set_cons_succ, List.set_cons_zero]
  iterate 2
    refine seq_on (by rfl) (fun w6 hb6 _ => ?_) ?_
    · simp [opOK, go_sem, Below.refl]
      try exact rfl
    simp only [Act.put, List.setIfInBounds_toArray, List.set_cons_succ, List.set_cons_zero]
  refine seq_end fun w6 hb6 hH => ?_
  obtain ⟨xa, y, e1, hsx⟩ := hH 8 (by decide)
  cases e1
  rw [HNX.out] at hsx ⊢
  have HXL : Hid (Sl (fun _ => True) w6 (.slice sa nx sc) (ints XS)) := Lib.hid hsx
  have HB6 := Lib.hid (bThen HB5.out hb6)
  have HBS6 := Lib.hid (HBS5.out.below hb6)
  have HO6 := Lib.hid (HO5.out.below hb6)
  have HT6 := Lib.hid (HT5.out.below hb6)
  clear HB5 HBS5 HO5 HT5
  have c0 := bAt hb6 c0
  have c1 := bAt hb6 c1
  have c2 := bAt hb6 c2
  have c3 := bAt hb6 c3
  have c4 := bAt hb6 c4
  have c5 := bAt hb6 c5
  have c6 := bAt hb6 c6
  have d0 := bAt hb6 d0
  have d1 := bAt hb6 d1
  clear hb6 hH hsx HKD5
  have hnl : l.beds.length = nb := by rw [HBE.out, HNB.out]
  have HNL := Lib.hid hnl
  obtain ⟨M, hM⟩ : ∃ M, w6.heap.size = M := ⟨_, rfl⟩
  have HM6 := Lib.hid hM
  have HMW : Hid (w.heap.size ≤ M) := Lib.hid (by rw [← hM]; exact HB6.out.size)
  clear hnl hM
  go_wp2_with fail
  have hcall := own_row l (.slice ba nb bc) w6 HBS6.out (by rw [HNL.out]; have := HN6.out; omega)
  rw [HNL.out] at hcall
  unfold legV legA at hcall
  refine hcall.mono ?_
  rintro e w7 ⟨bv7, rfl, hb7, ho7⟩
  clear hcall
  obtain ⟨ma, mc, rfl⟩ := owns_form ho7
  rw [HM6.out] at ho7
  obtain ⟨R, hR⟩ : ∃ R, w7.heap.size = R := ⟨_, rfl⟩
  obtain ⟨w8, hw8⟩ : ∃ y, w7.alloc (.cells #[.int .i64 l.start, .int .i64 l.gin, .int .i64 l.gout, .slice ma nb mc, .int .i64 l.players, .int .i64 l.turns, .bool l.won] 27) = y := ⟨_, rfl⟩
  have hb8 : Below w7.heap.size w7 w8 := by rw [← hw8]; exact aB _ _
  have k8 : w8.heap[R]? = some (.cells #[.int .i64 l.start, .int .i64 l.gin, .int .i64 l.gout, .slice ma nb mc, .int .i64 l.players, .int .i64 l.turns, .bool l.won] 27 (0, 0)) := by rw [← hw8, ← hR]; exact World.alloc_heap_new _ _
  have HB68 : Hid (Below M w6 w8) := Lib.hid (by rw [← HM6.out]; exact bThen hb7 hb8)
  have HSZ8 : Hid (w8.heap.size = R + 1) := Lib.hid (by rw [← hw8, ← hR]; simp)
  have HR := Lib.hid hR
  have HW8 := Lib.hid hw8
  have HK8 := Lib.hid k8
  have HMR : Hid (M ≤ R) := Lib.hid (by rw [← hR, ← HM6.out]; exact hb7.size)
  have HOM8 := Lib.hid (ownsN_below ho7 hb8)
  clear hb7 ho7 hR hw8 k8 hb8
  go_upto_region 12 with fail
  rw [HW8.out, HR.out]
  have e3 : w8.cell? ⟨R, 3, none⟩ = some (.slice ma nb mc) := by rw [cell_of_heap HK8.out]; rfl
  have hsz8 : R < w8.heap.size := by rw [HSZ8.out]; omega
  go_wp2_with (at_builtin; refine wpList_append1 rfl (.tmp 90) (.tmp 91) 25 rfl M 95 (.int .i64 0) 8 Tryz.underlying25 info_bd5 rfl (.slice ma nb mc) nb _ rfl (HOM8.out.alloc _) w8.heap.size 0 1 (.int .i64 420) rfl (cell_new _ _ _) rfl (by have := HN6.out; omega) (by decide) (by have := HSZ8.out; have := HMR.out; simp; omega) ?_)
  intro g9 c9 w9 ho9 hg9 hat9
  clear e3 hsz8 hat9
  have hb9 : Below w8.heap.size w8 (w8.alloc (.cells #[.int .i64 420] 95)) := aB _ _
  have hkA : (w8.alloc (.cells #[.int .i64 420] 95)).heap[R]? = some (.cells #[.int .i64 l.start, .int .i64 l.gin, .int .i64 l.gout, .slice ma nb mc, .int .i64 l.players, .int .i64 l.turns, .bool l.won] 27 (0, 0)) := (hb9.block R (by have := HSZ8.out; omega)).trans HK8.out
  have hoA : (w8.alloc (.cells #[.int .i64 420] 95)).ownsRow M 95 1 (.slice ma nb mc) nb (ints l.beds) := HOM8.out.alloc _
  have hk9 := blk_kept hg9 hkA (ownsN_ne_blk hoA hkA (by decide))
  have hgr : g9 ≠ R := by
    have h := ownsN_ne_blk ho9 hk9 (by decide)
    simpa [Value.ownBlock] using h
  have HB9 : Hid (Below M w8 w9) := Lib.hid ((hb9.mono (by have := HSZ8.out; have := HMR.out; omega)).trans (below_grownBy hg9 (by have := HSZ8.out; have := HMR.out; simp; omega) (fun q hq => (hoA.lt _ hq).1)))
  have e3 : w9.cell? ⟨R, 3, none⟩ = some (.slice ma nb mc) := by rw [cell_of_heap hk9]; rfl
  have f3 : w9.frozen? ⟨R, 3, none⟩ = false := frozen_of_heap hk9
  obtain ⟨w10, hw10⟩ : ∃ y, w9.setCell ⟨R, 3, none⟩ (.slice (some ⟨g9, 0, none⟩) (nb + 1) c9) = y := ⟨_, rfl⟩
  have hk10 : w10.heap[R]? = some (.cells #[.int .i64 l.start, .int .i64 l.gin, .int .i64 l.gout, .slice (some ⟨g9, 0, none⟩) (nb + 1) c9, .int .i64 l.players, .int .i64 l.turns, .bool l.won] 27 (0, 0)) := by rw [← hw10]; exact heap_setCell_at hk9 _
  have hsm : Sl (fun _ => True) w10 (.slice (some ⟨g9, 0, none⟩) (nb + 1) c9) (ints (moreL l).beds) := by
    have h := ownsN_kept (W' := w10) ho9 fun q hq => by
      rw [← hw10, Below.heap_setCell _ _ _ _ (show q ≠ R by rintro rfl; exact hgr (by simpa [Value.ownBlock] using hq))]
    have e : ints l.beds ++ [.int .i64 420] = ints (moreL l).beds := by rw [show (moreL l).beds = l.beds ++ [420] from rfl, ints_append]; rfl
    rw [e] at h
    exact (Sl.of_owns h).mono fun _ _ => trivial
  have hb10 : Below w6.heap.size w6 w10 := by
    rw [HM6.out, ← hw10]
    exact (HB68.out.trans HB9.out).setCell (p := ⟨R, 3, none⟩) HMR.out _
  have HSM := Lib.hid hsm
  have HW10 := Lib.hid hw10
  have HKR := Lib.hid hk10
  have HB10 := Lib.hid (bThen HB6.out hb10)
  have HBS10 := Lib.hid (HBS6.out.below hb10)
  have HT10 := Lib.hid (HT6.out.below hb10)
  clear HB6 HBS6 HT6
  have c0 := bAt hb10 c0
  have c1 := bAt hb10 c1
  have c2 := bAt hb10 c2
  have c3 := bAt hb10 c3
  have c4 := bAt hb10 c4
  have c5 := bAt hb10 c5
  have c6 := bAt hb10 c6
  have d0 := bAt hb10 d0
  have d1 := bAt hb10 d1
  have HXL := Lib.hid (HXL.out.below hb10)
  clear hb9 hkA hoA hk9 hgr ho9 hg9 hw10 hk10 hsm hb10 HB68 HB9 HK8 HOM8 HSZ8 HMW
  go_upto_region 13 with fail
  rw [HW10.out]
  clear e3 f3
  have m0 : w10.cell? ⟨R, 0, none⟩ = some (.int .i64 l.start) := by rw [cell_of_heap HKR.out]; rfl
  have m1 : w10.cell? ⟨R, 1, none⟩ = some (.int .i64 l.gin) := by rw [cell_of_heap HKR.out]; rfl
  have m2 : w10.cell? ⟨R, 2, none⟩ = some (.int .i64 l.gout) := by rw [cell_of_heap HKR.out]; rfl
  have m3 : w10.cell? ⟨R, 3, none⟩ = some (.slice (some ⟨g9, 0, none⟩) (nb + 1) c9) := by rw [cell_of_heap HKR.out]; rfl
  have m4 : w10.cell? ⟨R, 4, none⟩ = some (.int .i64 l.players) := by rw [cell_of_heap HKR.out]; rfl
  have m5 : w10.cell? ⟨R, 5, none⟩ = some (.int .i64 l.turns) := by rw [cell_of_heap HKR.out]; rfl
  have m6 : w10.cell? ⟨R, 6, none⟩ = some (.bool l.won) := by rw [cell_of_heap HKR.out]; rfl
  have hb0 : belowN XS (0 : Int) = 0 := belowN_zero fun z hz => (HXLE.out z hz).1
  have HB0 := Lib.hid hb0
  have HBE0 : Hid (Below w10.heap.size w10 w10) := Lib.hid (Below.refl _ _)
  clear hb0
  go_wp2_with fail
  go_loopw [12, 14] (fun kv nv wr => ∃ (k n : Nat), n ≤ 241 ∧ kv = .int .i64 (k : Int) ∧ nv = .int .i64 (n : Int) ∧ Hid (k = belowN XS (n : Int)) ∧ Hid (Below w10.heap.size w10 wr)) (fun _ nv _ => 300 - (intOf nv).toNat)
  case atStart => exact ⟨0, 0, by omega, by go_num, by go_num, Lib.hid HB0.out.symm, HBE0⟩
  case round =>
    clear HB0 HBE0
    obtain ⟨k, n, hn, rfl, rfl, HKN, HBr⟩ := hrel
    obtain ⟨wo, rfl⟩ : ∃ wo : World, wo = wr := ⟨_, rfl⟩
    by_cases hlt : n < 241
    · have t1 : decide ((n : Int) ≤ 240) = true := decide_eq_true (by omega)
      have t2 : decide (n ≤ 240) = true := decide_eq_true (by omega)
      have HLT : Hid (n < 241) := Lib.hid hlt
      have c0 := bAt HBr.out c0
      have c1 := bAt HBr.out c1
      have c2 := bAt HBr.out c2
      have c3 := bAt HBr.out c3
      have c4 := bAt HBr.out c4
      have c5 := bAt HBr.out c5
      have c6 := bAt HBr.out c6
      have m0 := bAt HBr.out m0
      have m1 := bAt HBr.out m1
      have m2 := bAt HBr.out m2
      have m3 := bAt HBr.out m3
      have m4 := bAt HBr.out m4
      have m5 := bAt HBr.out m5
      have m6 := bAt HBr.out m6
      have d0 := bAt HBr.out d0
      have d1 := bAt HBr.out d1
      have HBSo := Lib.hid (HBS10.out.below HBr.out)
      have HSMo := Lib.hid (HSM.out.below HBr.out)
      have HXLo := Lib.hid (HXL.out.below HBr.out)
      obtain ⟨en, hen⟩ : ∃ z : Int, ((waysR l ⟨sl, si⟩ (n : Int)).ways : Int) = z := ⟨_, rfl⟩
      obtain ⟨el, hel⟩ : ∃ z : Int, ((waysR l ⟨sl, si⟩ (n : Int)).lo : Int) = z := ⟨_, rfl⟩
      obtain ⟨eh, heh⟩ : ∃ z : Int, ((waysR l ⟨sl, si⟩ (n : Int)).hi : Int) = z := ⟨_, rfl⟩
      obtain ⟨we, hwe⟩ : ∃ z : Int, waysE l ⟨sl, si⟩ (n : Int) = z := ⟨_, rfl⟩
      obtain ⟨en2, hen2⟩ : ∃ z : Int, ((waysR (moreL l) ⟨sl, si⟩ (n : Int)).ways : Int) = z := ⟨_, rfl⟩
      obtain ⟨el2, hel2⟩ : ∃ z : Int, ((waysR (moreL l) ⟨sl, si⟩ (n : Int)).lo : Int) = z := ⟨_, rfl⟩
      obtain ⟨eh2, heh2⟩ : ∃ z : Int, ((waysR (moreL l) ⟨sl, si⟩ (n : Int)).hi : Int) = z := ⟨_, rfl⟩
      obtain ⟨we2, hwe2⟩ : ∃ z : Int, waysE (moreL l) ⟨sl, si⟩ (n : Int) = z := ⟨_, rfl⟩
      have hs : (((n : Int) ∈ XS ∨ wv = true ∧ (n : Int) = sl) ∧ we = 0 ∧ 1 ≤ en ∧ 1 ≤ el ∧ eh ≤ 3 ∧ el ≤ eh ∧ we2 = 0 ∧ en ≤ en2) ∨ (¬ ((n : Int) ∈ XS ∨ wv = true ∧ (n : Int) = sl) ∧ we = 7 ∧ en = 0) := by
        rcases sums_at HCK.out HOS.out HCM.out HISC.out (n := (n : Int)) (by omega) (by omega) with ⟨h1, h2, ⟨h3, h4, h5, h6⟩, h7, h8⟩ | ⟨h1, h2, h3⟩
        · left
          rw [HWN.out] at h1
          exact ⟨h1, hwe.symm.trans h2, by omega, by omega, by omega, by omega, hwe2.symm.trans h7, by omega⟩
        · right
          rw [HWN.out] at h1
          exact ⟨h1, hwe.symm.trans h2, by rw [← hen, h3]; rfl⟩
      have HS := Lib.hid hs
      have HEN := Lib.hid hen
      have HEL := Lib.hid hel
      have HEH := Lib.hid heh
      have HWE := Lib.hid hwe
      have HEN2 := Lib.hid hen2
      have HEL2 := Lib.hid hel2
      have HEH2 := Lib.hid heh2
      have HWE2 := Lib.hid hwe2
      clear hs hen hel heh hwe hen2 hel2 heh2 hwe2 hlt
      go_upto_region 16 with fail
      have hown : ∀ W, Below wo.heap.size wo W → Calls Tryz.prog 14 #[.agg #[.int .i64 l.start, .int .i64 l.gin, .int .i64 l.gout, .slice ba nb bc, .int .i64 l.players, .int .i64 l.turns, .bool l.won]] W fun e w' => ∃ bv', e = .returned (legV l bv') ∧ Below W.heap.size W w' ∧ Sl (fun q => W.heap.size ≤ q) w' bv' (ints l.beds) := fun W hW =>
        own_any l (.slice ba nb bc) W (HBSo.out.below hW) (by rw [HNL.out]; have := HN6.out; omega)
      have hways : ∀ W (x : Option Addr) (y : Nat) (S' : Nat → Prop), Sl S' W (.slice x nb y) (ints l.beds) → Calls Tryz.prog 22 #[.agg #[.int .i64 l.start, .int .i64 l.gin, .int .i64 l.gout, .slice x nb y, .int .i64 l.players, .int .i64 l.turns, .bool l.won], .agg #[.int .i64 sl, .bool si], .int .i64 (n : Int)] W fun e w' => e = .returned (.tuple #[.int .i64 en, .agg #[.int .i64 el, .int .i64 eh], .int .i64 we]) ∧ Below W.heap.size W w' := fun W x y S' hs => by
        have h := ways_any l (.slice x nb y) ⟨sl, si⟩ (n : Int) W hs HBI.out
        rw [HEN.out, HEL.out, HEH.out, HWE.out] at h
        exact h
      refine wp_region_seqV 13 ((fun v => v = .agg #[.int .i64 l.start, .int .i64 l.gin, .int .i64 l.gout, .slice ba nb bc, .int .i64 l.players, .int .i64 l.turns, .bool l.won]) :: (fun v => ∃ p : Option Addr × Nat, v = .agg #[.int .i64 l.start, .int .i64 l.gin, .int .i64 l.gout, .slice p.1 nb p.2, .int .i64 l.players, .int .i64 l.turns, .bool l.won]) :: (fun v => v = .agg #[.int .i64 sl, .bool si]) :: (fun v => v = .int .i64 (n : Int)) :: (fun v => v = .tuple #[.int .i64 en, .agg #[.int .i64 el, .int .i64 eh], .int .i64 we]) :: (fun v => v = .tuple #[.int .i64 en, .agg #[.int .i64 el, .int .i64 eh], .int .i64 we]) :: (fun v => v = .int .i64 en) :: (fun v => v = .agg #[.int .i64 el, .int .i64 eh]) :: (fun v => v = .int .i64 we) :: (fun v => ∃ g, v = .pointer (some ⟨g, 0, none⟩)) :: (fun v => v = .int .i64 en) :: (fun v => v = undef) :: (fun v => v = .int .i64 we) :: []) (JW l nb #[.int .i64 el, .int .i64 eh] wo) rfl mix (by kernel_rfl) (by kernel_rfl) (fun _ _ _ _ hc h => h.congr hc) (fun vs => JW.start vs) ?_
      simp only [List.take_succ_cons, List.take_zero]
      refine sv_new ⟨_, rfl⟩ rfl (fun W L vs hvs hL hj hd => ?_) ?_
      · simp only [List.length_nil] at hL ⊢
        have q0 := bAt hj.below c0
        have q1 := bAt hj.below c1
        have q2 := bAt hj.below c2
        have q3 := bAt hj.below c3
        have q4 := bAt hj.below c4
        have q5 := bAt hj.below c5
        have q6 := bAt hj.below c6
        exact opOK_val (v := .agg #[.int .i64 l.start, .int .i64 l.gin, .int .i64 l.gout, .slice ba nb bc, .int .i64 l.players, .int .i64 l.turns, .bool l.won]) (w' := W) (by simp [go_sem, execOp, q0, q1, q2, q3, q4, q5, q6]) ⟨rfl, hj.oth (by decide) (by decide) (by decide)⟩
      rintro _ rfl
      simp only [Act.put, List.setIfInBounds_toArray, List.set_cons_succ, List.set_cons_zero]
      refine sv_new ⟨_, (none, 0), rfl⟩ rfl (fun W L vs hvs hL hj hd => ?_) ?_
      · simp only [List.length_append, List.length_cons, List.length_nil, Nat.zero_add] at hL ⊢
        refine opOK_call (f := 14) (args := #[.agg #[.int .i64 l.start, .int .i64 l.gin, .int .i64 l.gout, .slice ba nb bc, .int .i64 l.players, .int .i64 l.turns, .bool l.won]]) (by simp [go_sem]) ?_
        refine (hown W hj.below).mono ?_
        rintro e w' ⟨bv', rfl, hb3, hs3⟩
        obtain ⟨x, y, rfl, -, -⟩ := hs3.form
        rw [ints_length, HNL.out] at hs3 ⊢
        exact ⟨_, rfl, ⟨(x, y), rfl⟩, hj.own1 hb3 hs3⟩
      rintro _ ⟨⟨x, y⟩, rfl⟩
      simp only [Act.put, List.setIfInBounds_toArray, List.set_cons_succ, List.set_cons_zero]
      refine sv_new ⟨_, rfl⟩ rfl (fun W L vs hvs hL hj hd => ?_) ?_
      · simp only [List.length_append, List.length_cons, List.length_nil, Nat.zero_add, Nat.reduceAdd] at hL ⊢
        have q0 := bAt hj.below d0
        have q1 := bAt hj.below d1
        exact opOK_val (v := .agg #[.int .i64 sl, .bool si]) (w' := W) (by simp [go_sem, execOp, q0, q1]) ⟨rfl, hj.oth (by decide) (by decide) (by decide)⟩
      rintro _ rfl
      simp only [Act.put, List.setIfInBounds_toArray, List.set_cons_succ, List.set_cons_zero]
      refine sv_new ⟨_, rfl⟩ rfl (fun W L vs hvs hL hj hd => ?_) ?_
      · simp only [List.length_append, List.length_cons, List.length_nil, Nat.zero_add, Nat.reduceAdd] at hL ⊢
        exact opOK_val (v := .int .i64 (n : Int)) (w' := W) (by simp [go_sem, execOp]) ⟨rfl, hj.oth (by decide) (by decide) (by decide)⟩
      rintro _ rfl
      simp only [Act.put, List.setIfInBounds_toArray, List.set_cons_succ, List.set_cons_zero]
      refine sv_new ⟨_, rfl⟩ rfl (fun W L vs hvs hL hj hd => ?_) ?_
      · simp only [List.length_append, List.length_cons, List.length_nil, Nat.zero_add, Nat.reduceAdd] at hL ⊢
        have e1 := hvs 1 (.agg #[.int .i64 l.start, .int .i64 l.gin, .int .i64 l.gout, .slice x nb y, .int .i64 l.players, .int .i64 l.turns, .bool l.won]) (by simp)
        obtain ⟨x', y', e2, hs4⟩ := hj.own (hd ⟨1, .data⟩ (by simp) rfl)
        rw [e1] at e2
        cases e2
        refine opOK_call (f := 22) (args := #[.agg #[.int .i64 l.start, .int .i64 l.gin, .int .i64 l.gout, .slice x nb y, .int .i64 l.players, .int .i64 l.turns, .bool l.won], .agg #[.int .i64 sl, .bool si], .int .i64 (n : Int)]) (by simp [go_sem]) ?_
        refine (hways W x y _ hs4).mono ?_
        rintro e w' ⟨rfl, hb3⟩
        exact ⟨_, rfl, rfl, (hj.grow hb3).oth (by decide) (by decide) (by decide)⟩
      rintro _ rfl
      simp only [Act.put, List.setIfInBounds_toArray, List.set_cons_succ, List.set_cons_zero]
      refine sv_new ⟨_, rfl⟩ rfl (fun W L vs hvs hL hj hd => ?_) ?_
      · simp only [List.length_append, List.length_cons, List.length_nil, Nat.zero_add, Nat.reduceAdd] at hL ⊢
        exact opOK_val (v := .tuple #[.int .i64 en, .agg #[.int .i64 el, .int .i64 eh], .int .i64 we]) (w' := W) (by simp [go_sem, execOp]) ⟨rfl, hj.oth (by decide) (by decide) (by decide)⟩
      rintro _ rfl
      simp only [Act.put, List.setIfInBounds_toArray, List.set_cons_succ, List.set_cons_zero]
      refine sv_new ⟨_, rfl⟩ rfl (fun W L vs hvs hL hj hd => ?_) ?_
      · simp only [List.length_append, List.length_cons, List.length_nil, Nat.zero_add, Nat.reduceAdd] at hL ⊢
        exact opOK_val (v := .int .i64 en) (w' := W) (by simp [go_sem, execOp]) ⟨rfl, hj.oth (by decide) (by decide) (by decide)⟩
      rintro _ rfl
      simp only [Act.put, List.setIfInBounds_toArray, List.set_cons_succ, List.set_cons_zero]
      refine sv_new ⟨_, rfl⟩ rfl (fun W L vs hvs hL hj hd => ?_) ?_
      · simp only [List.length_append, List.length_cons, List.length_nil, Nat.zero_add, Nat.reduceAdd] at hL ⊢
        exact opOK_val (v := .agg #[.int .i64 el, .int .i64 eh]) (w' := W) (by simp [go_sem, execOp]) ⟨rfl, hj.oth (by decide) (by decide) (by decide)⟩
      rintro _ rfl
      simp only [Act.put, List.setIfInBounds_toArray, List.set_cons_succ, List.set_cons_zero]
      refine sv_new ⟨_, rfl⟩ rfl (fun W L vs hvs hL hj hd => ?_) ?_
      · simp only [List.length_append, List.length_cons, List.length_nil, Nat.zero_add, Nat.reduceAdd] at hL ⊢
        exact opOK_val (v := .int .i64 we) (w' := W) (by simp [go_sem, execOp]) ⟨rfl, hj.oth (by decide) (by decide) (by decide)⟩
      rintro _ rfl
      simp only [Act.put, List.setIfInBounds_toArray, List.set_cons_succ, List.set_cons_zero]
      refine sv_new ⟨_, 0, rfl⟩ rfl (fun W L vs hvs hL hj hd => ?_) ?_
      · simp only [List.length_append, List.length_cons, List.length_nil, Nat.zero_add, Nat.reduceAdd] at hL ⊢
        exact opOK_val (v := .pointer (some ⟨W.heap.size, 0, none⟩)) (w' := W.alloc (.cells #[.int .i64 0, .int .i64 0] 48)) (by simp [go_sem, execOp]) ⟨⟨_, rfl⟩, hj.new9 hL rfl⟩
      rintro _ ⟨R9, rfl⟩
      simp only [Act.put, List.setIfInBounds_toArray, List.set_cons_succ, List.set_cons_zero]
      refine sv_new ⟨_, rfl⟩ rfl (fun W L vs hvs hL hj hd => ?_) ?_
      · simp only [List.length_append, List.length_cons, List.length_nil, Nat.zero_add, Nat.reduceAdd] at hL ⊢
        exact opOK_val (v := .int .i64 en) (w' := W) (by simp [go_sem, execOp]) ⟨rfl, hj.oth (by decide) (by decide) (by decide)⟩
      rintro _ rfl
      simp only [Act.put, List.setIfInBounds_toArray, List.set_cons_succ, List.set_cons_zero]
      refine sv_new ⟨_, rfl⟩ rfl (fun W L vs hvs hL hj hd => ?_) ?_
      · simp only [List.length_append, List.length_cons, List.length_nil, Nat.zero_add, Nat.reduceAdd] at hL ⊢
        have e1 := hvs 9 (.pointer (some ⟨R9, 0, none⟩)) (by simp)
        have h9 := hd ⟨9, .data⟩ (by simp) rfl
        obtain ⟨R', B, e2, hR, hB, hk, -⟩ := hj.box h9
        rw [e1] at e2
        cases e2
        exact opOK_store_row 48 (.tmp 16) (.tmp 105) rfl R9 #[.int .i64 el, .int .i64 eh] (by simp [Act.eval]) (by simp [Act.eval]) 48 B hk (by kernel_rfl) hB (by simp [Value.oneCell']) ⟨rfl, hj.store11 rfl h9 e1 _⟩
      rintro _ rfl
      simp only [Act.put]
      refine sv_new ⟨_, rfl⟩ rfl (fun W L vs hvs hL hj hd => ?_) ?_
      · simp only [List.length_append, List.length_cons, List.length_nil, Nat.zero_add, Nat.reduceAdd] at hL ⊢
        exact opOK_val (v := .int .i64 we) (w' := W) (by simp [go_sem, execOp]) ⟨rfl, hj.oth (by decide) (by decide) (by decide)⟩
      rintro _ rfl
      simp only [Act.put, List.setIfInBounds_toArray, List.set_cons_succ, List.set_cons_zero]
      refine sv_end fun vs w11 hvs hj => ?_
      simp only [List.drop_succ_cons, List.drop_zero]
      have e1 := hvs 9 (.pointer (some ⟨R9, 0, none⟩)) (by simp)
      obtain ⟨R', B, e2, hR, -, hk, hBA⟩ := hj.box (by decide)
      rw [e1] at e2
      cases e2
      rw [hBA (by decide)] at hk
      have g0 : w11.cell? ⟨R9, 0, none⟩ = some (.int .i64 el) := by rw [cell_of_heap hk]; rfl
      have g1 : w11.cell? ⟨R9, 1, none⟩ = some (.int .i64 eh) := by rw [cell_of_heap hk]; rfl
      have HB11 : Hid (Below w10.heap.size w10 w11) := Lib.hid (bThen HBr.out hj.below)
      have HSM11 := Lib.hid (HSMo.out.below hj.below)
      have HXL11 := Lib.hid (HXLo.out.below hj.below)
      have m0 := bAt hj.below m0
      have m1 := bAt hj.below m1
      have m2 := bAt hj.below m2
      have m3 := bAt hj.below m3
      have m4 := bAt hj.below m4
      have m5 := bAt hj.below m5
      have m6 := bAt hj.below m6
      have d0 := bAt hj.below d0
      have d1 := bAt hj.below d1
      have hways2 : Calls Tryz.prog 22 #[.agg #[.int .i64 l.start, .int .i64 l.gin, .int .i64 l.gout, .slice (some ⟨g9, 0, none⟩) (nb + 1) c9, .int .i64 l.players, .int .i64 l.turns, .bool l.won], .agg #[.int .i64 sl, .bool si], .int .i64 (n : Int)] w11 fun e w' => e = .returned (.tuple #[.int .i64 en2, .agg #[.int .i64 el2, .int .i64 eh2], .int .i64 we2]) ∧ Below w11.heap.size w11 w' := by
        have h := ways_any (moreL l) (.slice (some ⟨g9, 0, none⟩) (nb + 1) c9) ⟨sl, si⟩ (n : Int) w11 HSM11.out (moreL_in HBI.out)
        rw [HEN2.out, HEL2.out, HEH2.out, HWE2.out] at h
        exact h
      have HW2 := Lib.hid hways2
      clear e1 hvs hj hR hk hBA hown hways hways2 HBSo HSMo HXLo HBr HSM11 c0 c1 c2 c3 c4 c5 c6
      have hwi : IntKind.i64.wrap ((n : Int) + 1) = (n : Int) + 1 := wrap_small _ (by have := HLT.out; omega) (by have := HLT.out; omega)
      have hbat := belowN_at HISC.out.1 (n : Int)
      have hcs : (n : Int) + 1 = ((n + 1 : Nat) : Int) := by omega
      rw [hcs, ← HKN.out] at hbat
      have hkx : k ≤ nx := by rw [HKN.out, ← HNX.out]; exact List.length_filter_le _ _
      have HBAT := Lib.hid hbat
      have HKX : Hid (k ≤ nx) := Lib.hid hkx
      clear hbat hcs hkx
      rcases HS.out with ⟨hc, h0, h1, h2, h3, h4, h5, h6⟩ | ⟨hc, h0, h1⟩
      · skip
        obtain rfl : we = 0 := h0
        obtain rfl : we2 = 0 := h5
        have z1 : decide (en < 1) = false := decide_eq_false (by omega)
        have z2 : decide (el < 1) = false := decide_eq_false (by omega)
        have z3 : decide (3 < eh) = false := decide_eq_false (by omega)
        have z4 : decide (eh < el) = false := decide_eq_false (by omega)
        have z5 : decide (0 < en) = true := decide_eq_true (by omega)
        have z6 : decide (en2 < en) = false := decide_eq_false (by omega)
        clear h1 h2 h3 h4 h6
        by_cases hin : (n : Int) ∈ XS
        · have HKE : Hid (k + 1 = belowN XS ((n + 1 : Nat) : Int)) := Lib.hid ((HBAT.out.1 hin).2.symm)
          have hat := (HBAT.out.1 hin).1
          have hk : k < nx := by rw [← HNX.out]; exact (List.getElem?_eq_some_iff.1 hat).1
          have k1 : decide (k < nx) = true := decide_eq_true hk
          have k2 : decide ((k : Int) < (nx : Int)) = true := decide_eq_true (by omega)
          have hki : (k : Int) < (nx : Int) := by omega
          have HK300 : Hid (nx ≤ 1002) := Lib.hid (by rw [← HNX.out, ← HXS.out]; exact scOf_len l ⟨sl, si⟩)
          have hwk : IntKind.i64.wrap ((k : Int) + 1) = (k : Int) + 1 := wrap_small _ (by omega) (by have := HK300.out; omega)
          obtain ⟨xb, xf, rfl, -, hc4⟩ := Sl.at_ HXL11.out (show (ints XS)[k]? = some (.int .i64 (n : Int)) by simp [ints, hat])
          clear hat hin hk hc
          go_wp2_with fail
          refine HW2.out.mono ?_
          rintro e w12 ⟨rfl, hb12⟩
          obtain ⟨w13, hw13⟩ : ∃ y, w12.alloc (.cells #[.int .i64 el2, .int .i64 eh2] 48) = y := ⟨_, rfl⟩
          have HB13 : Hid (Below w10.heap.size w10 w13) := Lib.hid (by rw [← hw13]; exact bThen (bThen HB11.out hb12) (aB _ _))
          have HW13 := Lib.hid hw13
          clear hb12 hw13
          go_upto_region 24 with fail
          rw [HW13.out]
          go_wp2_with fail
          go_roundw
          case rel => exact ⟨k + 1, n + 1, by have := HLT.out; omega, by go_num, by go_num, HKE, HB13⟩
          case measure => have := HLT.out; simp [intOf]; omega
        · obtain ⟨hwt, hns⟩ : wv = true ∧ (n : Int) = sl := hc.resolve_left hin
          subst hwt
          have hsn : ((n : Int) == sl) = true := beq_iff_eq.2 hns
          clear hc hns
          have HKE : Hid (k = belowN XS ((n + 1 : Nat) : Int)) := Lib.hid ((HBAT.out.2 hin).2.symm)
          by_cases hk : k < nx
          · have k1 : decide (k < nx) = true := decide_eq_true hk
            have k2 : decide ((k : Int) < (nx : Int)) = true := decide_eq_true (by omega)
            have hkl : k < XS.length := by rw [HNX.out]; exact hk
            obtain ⟨z, hz⟩ : ∃ z, XS[k] = z := ⟨_, rfl⟩
            have hza : XS[k]? = some z := by rw [List.getElem?_eq_getElem hkl, hz]
            have hzn : (z == (n : Int)) = false := beq_eq_false_iff_ne.2 fun e => (HBAT.out.2 hin).1 (by rw [hza, e])
            obtain ⟨xb, xf, rfl, -, hc⟩ := Sl.at_ HXL11.out (show (ints XS)[k]? = some (.int .i64 z) by simp [ints, hza])
            have hki : (k : Int) < (nx : Int) := by omega
            clear hkl hz hza hin
            go_wp2_with fail
            refine HW2.out.mono ?_
            rintro e w12 ⟨rfl, hb12⟩
            obtain ⟨w13, hw13⟩ : ∃ y, w12.alloc (.cells #[.int .i64 el2, .int .i64 eh2] 48) = y := ⟨_, rfl⟩
            have HB13 : Hid (Below w10.heap.size w10 w13) := Lib.hid (by rw [← hw13]; exact bThen (bThen HB11.out hb12) (aB _ _))
            have HW13 := Lib.hid hw13
            clear hb12 hw13
            go_upto_region 24 with fail
            rw [HW13.out]
            go_wp2_with fail
            go_roundw
            case rel => exact ⟨k, n + 1, by have := HLT.out; omega, by go_num, by go_num, HKE, HB13⟩
            case measure => have := HLT.out; simp [intOf]; omega
          · have k1 : decide (k < nx) = false := decide_eq_false hk
            have k2 : decide ((k : Int) < (nx : Int)) = false := decide_eq_false (by omega)
            clear hin hk
            go_wp2_with fail
            refine HW2.out.mono ?_
            rintro e w12 ⟨rfl, hb12⟩
            obtain ⟨w13, hw13⟩ : ∃ y, w12.alloc (.cells #[.int .i64 el2, .int .i64 eh2] 48) = y := ⟨_, rfl⟩
            have HB13 : Hid (Below w10.heap.size w10 w13) := Lib.hid (by rw [← hw13]; exact bThen (bThen HB11.out hb12) (aB _ _))
            have HW13 := Lib.hid hw13
            clear hb12 hw13
            go_upto_region 24 with fail
            rw [HW13.out]
            go_wp2_with fail
            go_roundw
            case rel => exact ⟨k, n + 1, by have := HLT.out; omega, by go_num, by go_num, HKE, HB13⟩
            case measure => have := HLT.out; simp [intOf]; omega
      · obtain rfl : we = 7 := h0
        obtain rfl : en = 0 := h1
        have hin : ¬ (n : Int) ∈ XS := fun h => hc (.inl h)
        by_cases hw9 : wv = true
        · subst hw9
          have hsn : ((n : Int) == sl) = false := beq_eq_false_iff_ne.2 fun e => hc (.inr ⟨rfl, e⟩)
          clear hc
          have HKE : Hid (k = belowN XS ((n + 1 : Nat) : Int)) := Lib.hid ((HBAT.out.2 hin).2.symm)
          by_cases hk : k < nx
          · have k1 : decide (k < nx) = true := decide_eq_true hk
            have k2 : decide ((k : Int) < (nx : Int)) = true := decide_eq_true (by omega)
            have hkl : k < XS.length := by rw [HNX.out]; exact hk
            obtain ⟨z, hz⟩ : ∃ z, XS[k] = z := ⟨_, rfl⟩
            have hza : XS[k]? = some z := by rw [List.getElem?_eq_getElem hkl, hz]
            have hzn : (z == (n : Int)) = false := beq_eq_false_iff_ne.2 fun e => (HBAT.out.2 hin).1 (by rw [hza, e])
            obtain ⟨xb, xf, rfl, -, hc⟩ := Sl.at_ HXL11.out (show (ints XS)[k]? = some (.int .i64 z) by simp [ints, hza])
            have hki : (k : Int) < (nx : Int) := by omega
            clear hkl hz hza hin
            go_wp2_with fail
            refine HW2.out.mono ?_
            rintro e w12 ⟨rfl, hb12⟩
            obtain ⟨w13, hw13⟩ : ∃ y, w12.alloc (.cells #[.int .i64 el2, .int .i64 eh2] 48) = y := ⟨_, rfl⟩
            have HB13 : Hid (Below w10.heap.size w10 w13) := Lib.hid (by rw [← hw13]; exact bThen (bThen HB11.out hb12) (aB _ _))
            have HW13 := Lib.hid hw13
            clear hb12 hw13
            go_upto_region 24 with fail
            rw [HW13.out]
            go_wp2_with fail
            go_roundw
            case rel => exact ⟨k, n + 1, by have := HLT.out; omega, by go_num, by go_num, HKE, HB13⟩
            case measure => have := HLT.out; simp [intOf]; omega
          · have k1 : decide (k < nx) = false := decide_eq_false hk
            have k2 : decide ((k : Int) < (nx : Int)) = false := decide_eq_false (by omega)
            clear hin hk
            go_wp2_with fail
            refine HW2.out.mono ?_
            rintro e w12 ⟨rfl, hb12⟩
            obtain ⟨w13, hw13⟩ : ∃ y, w12.alloc (.cells #[.int .i64 el2, .int .i64 eh2] 48) = y := ⟨_, rfl⟩
            have HB13 : Hid (Below w10.heap.size w10 w13) := Lib.hid (by rw [← hw13]; exact bThen (bThen HB11.out hb12) (aB _ _))
            have HW13 := Lib.hid hw13
            clear hb12 hw13
            go_upto_region 24 with fail
            rw [HW13.out]
            go_wp2_with fail
            go_roundw
            case rel => exact ⟨k, n + 1, by have := HLT.out; omega, by go_num, by go_num, HKE, HB13⟩
            case measure => have := HLT.out; simp [intOf]; omega
        · obtain rfl : wv = false := by simpa using hw9
          clear hc hw9
          have HKE : Hid (k = belowN XS ((n + 1 : Nat) : Int)) := Lib.hid ((HBAT.out.2 hin).2.symm)
          by_cases hk : k < nx
          · have k1 : decide (k < nx) = true := decide_eq_true hk
            have k2 : decide ((k : Int) < (nx : Int)) = true := decide_eq_true (by omega)
            have hkl : k < XS.length := by rw [HNX.out]; exact hk
            obtain ⟨z, hz⟩ : ∃ z, XS[k] = z := ⟨_, rfl⟩
            have hza : XS[k]? = some z := by rw [List.getElem?_eq_getElem hkl, hz]
            have hzn : (z == (n : Int)) = false := beq_eq_false_iff_ne.2 fun e => (HBAT.out.2 hin).1 (by rw [hza, e])
            obtain ⟨xb, xf, rfl, -, hc⟩ := Sl.at_ HXL11.out (show (ints XS)[k]? = some (.int .i64 z) by simp [ints, hza])
            have hki : (k : Int) < (nx : Int) := by omega
            clear hkl hz hza hin
            go_wp2_with fail
            refine HW2.out.mono ?_
            rintro e w12 ⟨rfl, hb12⟩
            obtain ⟨w13, hw13⟩ : ∃ y, w12.alloc (.cells #[.int .i64 el2, .int .i64 eh2] 48) = y := ⟨_, rfl⟩
            have HB13 : Hid (Below w10.heap.size w10 w13) := Lib.hid (by rw [← hw13]; exact bThen (bThen HB11.out hb12) (aB _ _))
            have HW13 := Lib.hid hw13
            clear hb12 hw13
            go_upto_region 24 with fail
            rw [HW13.out]
            go_wp2_with fail
            go_roundw
            case rel => exact ⟨k, n + 1, by have := HLT.out; omega, by go_num, by go_num, HKE, HB13⟩
            case measure => have := HLT.out; simp [intOf]; omega
          · have k1 : decide (k < nx) = false := decide_eq_false hk
            have k2 : decide ((k : Int) < (nx : Int)) = false := decide_eq_false (by omega)
            clear hin hk
            go_wp2_with fail
            refine HW2.out.mono ?_
            rintro e w12 ⟨rfl, hb12⟩
            obtain ⟨w13, hw13⟩ : ∃ y, w12.alloc (.cells #[.int .i64 el2, .int .i64 eh2] 48) = y := ⟨_, rfl⟩
            have HB13 : Hid (Below w10.heap.size w10 w13) := Lib.hid (by rw [← hw13]; exact bThen (bThen HB11.out hb12) (aB _ _))
            have HW13 := Lib.hid hw13
            clear hb12 hw13
            go_upto_region 24 with fail
            rw [HW13.out]
            go_wp2_with fail
            go_roundw
            case rel => exact ⟨k, n + 1, by have := HLT.out; omega, by go_num, by go_num, HKE, HB13⟩
            case measure => have := HLT.out; simp [intOf]; omega
    · have t1 : decide ((n : Int) ≤ 240) = false := decide_eq_false (by omega)
      have t2 : decide (n ≤ 240) = false := decide_eq_false (by omega)
      obtain rfl : k = nx := by
        rw [HKN.out, ← HNX.out]
        exact belowN_all fun z hz => by have := (HXLE.out z hz).2; have := HL0.out.2; omega
      have HTr := Lib.hid (HT10.out.below HBr.out)
      have HB9 := Lib.hid (bThen HB10.out HBr.out)
      clear hlt
      go_wp2_with fail
      refine (known_any wo HTr.out).mono ?_
      rintro e wz ⟨rfl, hbz⟩
      have HBZ := Lib.hid (bThen HB9.out hbz)
      clear hbz
      go_wp2
      go_returns
      exact ⟨rfl, HBZ.out⟩
end Go.Proofs.YtpfpjbglpibdoaaGreatDoor
