/- The texts QU, in build order. -/
import Derived.Test.YtpfpjbglpibdoaaGreatDoorZba
import Derived.Deep.DeepCutAuto
import Derived.Deep.CutRange
import Derived.Deep.CutBlock

/- Chapter 5: HeardLeast, the walk. -/
namespace Go.Proofs.YtpfpjbglpibdoaaGreatDoor
open Go Go.RowKit Go.Oche Go.Proofs

set_option maxRecDepth 100000 in
set_option maxHeartbeats 40000000 in
theorem heardLeast_any {S S' S'' : Nat → Prop} (x : Thr) (hx : ThrOk x) (dv sv : Value) (w : World) (hd : Sl S w dv (u8s x.darts)) (hs : Sl S' w sv (u8s x.said)) (lies : List Int) (zv : Value) (hz : Sl S'' w zv (u8s lies)) (hly : Bytes lies) (so : Nat) (hso : so < 256) (hT : Tab5 w) :
    Calls Tryz.prog 9 #[thrV x dv sv, zv, .int .u8 (so : Int)] w fun e w' => e = .returned (.bool true) ∧ Below w.heap.size w w' := by
  obtain ⟨a, cap, rfl, -, -⟩ := hd.form
  obtain ⟨a', cap', rfl, -, -⟩ := hs.form
  obtain ⟨za, zc, rfl, -, -⟩ := hz.form
  have hzl : (u8s lies).length = lies.length := List.length_map ..
  rw [hzl] at hz ⊢
  obtain ⟨zn, hzn⟩ : ∃ n, lies.length = n := ⟨_, rfl⟩
  rw [hzn] at hz ⊢
  have hdl : (u8s x.darts).length = x.darts.length := List.length_map ..
  have hsl : (u8s x.said).length = x.said.length := List.length_map ..
  rw [hdl] at hd ⊢
  rw [hsl] at hs ⊢
  obtain ⟨dl, hdl2⟩ : ∃ n, x.darts.length = n := ⟨_, rfl⟩
  obtain ⟨sl, hsl2⟩ : ∃ n, x.said.length = n := ⟨_, rfl⟩
  rw [hdl2] at hd ⊢
  rw [hsl2] at hs ⊢
  obtain ⟨N, hN⟩ : ∃ N, w.heap.size = N := ⟨_, rfl⟩
  obtain ⟨w1, hw1⟩ : ∃ y, w.alloc (.cells #[.int .u8 x.st, .int .u8 x.inn, .int .u8 x.out, .int .u8 x.pl, .int .u16 (x.which : Int), .slice a dl cap, .slice a' sl cap'] 76) = y := ⟨_, rfl⟩
  have hb1 : Below w.heap.size w w1 := by rw [← hw1]; exact aB _ _
  have k : w1.heap[N]? = some (.cells #[.int .u8 x.st, .int .u8 x.inn, .int .u8 x.out, .int .u8 x.pl, .int .u16 (x.which : Int), .slice a dl cap, .slice a' sl cap'] 76 (0, 0)) := by rw [← hw1, ← hN]; exact World.alloc_heap_new _ _
  have x0 : w1.cell? ⟨N, 0, none⟩ = some (.int .u8 x.st) := by rw [cell_of_heap k]; rfl
  have x1 : w1.cell? ⟨N, 1, none⟩ = some (.int .u8 x.inn) := by rw [cell_of_heap k]; rfl
  have x2 : w1.cell? ⟨N, 2, none⟩ = some (.int .u8 x.out) := by rw [cell_of_heap k]; rfl
  have x3 : w1.cell? ⟨N, 3, none⟩ = some (.int .u8 x.pl) := by rw [cell_of_heap k]; rfl
  have x4 : w1.cell? ⟨N, 4, none⟩ = some (.int .u16 (x.which : Int)) := by rw [cell_of_heap k]; rfl
  have x5 : w1.cell? ⟨N, 5, none⟩ = some (.slice a dl cap) := by rw [cell_of_heap k]; rfl
  have x6 : w1.cell? ⟨N, 6, none⟩ = some (.slice a' sl cap') := by rw [cell_of_heap k]; rfl
  have HD := Lib.hid (hd.below hb1)
  have HS := Lib.hid (hs.below hb1)
  have HB := Lib.hid hb1
  have HT := Lib.hid (hT.below hb1)
  have HW := Lib.hid hw1
  have HN := Lib.hid hN
  have HX := Lib.hid hx
  have HSO := Lib.hid hso
  have HLY := Lib.hid hly
  have HZ0 := Lib.hid (hz.below hb1)
  unfold thrV
  clear hd hs hb1 hw1 hN k hx hT hz hzl hzn hly hso hdl hsl hdl2 hsl2
  obtain ⟨l, hl⟩ : ∃ l, legT x 4 = l := ⟨_, rfl⟩
  obtain ⟨F, hF⟩ : ∃ F, playX x 4 = F := ⟨_, rfl⟩
  obtain ⟨list, hli⟩ : ∃ y, repsL x 4 = y := ⟨_, rfl⟩
  obtain ⟨n, hn⟩ : ∃ n, F.out.length = n := ⟨_, rfl⟩
  obtain ⟨nb, hnb⟩ : ∃ n, (bedsOf x.which).length = n := ⟨_, rfl⟩
  obtain ⟨m, hm⟩ : ∃ n, list.length = n := ⟨_, rfl⟩
  have hrl : repsN x.said F.out F.out.length = list := by rw [← hli, ← hF]; rfl
  have hbd := legT_bd x 4
  rw [hl] at hbd
  have HBD := Lib.hid hbd
  have HTN : Hid (l.turns = (n : Int)) := Lib.hid (by rw [← hl, legT_turns, hF, hn])
  have HBE : Hid (l.beds = bedsOf x.which) := Lib.hid (by rw [← hl]; rfl)
  have HCK : Hid (checkL l = 0) := Lib.hid (by rw [← hl]; exact legT_check x (by omega))
  have HBI : Hid (BedsIn l) := Lib.hid (by rw [← hl]; exact legT_in x 4)
  have HGB : Hid (GoodBeds l) := Lib.hid (by rw [← hl]; exact legT_good x 4)
  have htt := thrown_truth x 4
  rw [hl, hF, hli] at htt
  have HTR : Hid (HasTruth l (allS list)) := Lib.hid htt.1
  have hin := thrown_in x 4 (list := list) (by rw [hl]; exact htt.1) (by rw [hl, hF]; exact htt.2)
  rw [hl, hF] at hin
  have HIN := Lib.hid hin
  have hro := repsL_ok x 4 (by omega)
  rw [hli] at hro
  have HLB : Hid (∀ r ∈ list, badR l.turns r = false) := Lib.hid (by have h := hro.bad; rw [hl] at h; exact h)
  have hm5 : m ≤ 4 := by rw [← hm, ← hli]; exact repsL_len x 4
  have hn5 : n ≤ 4 := by rw [← hn, ← hF]; exact playX_len x 4
  have HM := Lib.hid hm
  have HNN := Lib.hid hn
  have HNB := Lib.hid hnb
  have HRL := Lib.hid hrl
  have HN6 : Hid (nb ≤ 6) := Lib.hid (by rw [← hnb]; exact bedsOf_len _)
  clear hbd htt hin hro hli hrl
  go_enter Tryz.func9, Tryz.ntmps9
  go_upto_region 1 with fail
  rw [HW.out, HN.out]
  go_wp2_with fail
  have hcall := play_any x HX.out (.slice a dl cap) (.slice a' sl cap') 4 (by omega) w1 HD.out HS.out
  unfold thrV at hcall
  rw [hl, hF, hn, hnb] at hcall
  refine hcall.mono ?_
  rintro e w2 ⟨bv, ov, rfl, hb2, hob, hoo⟩
  clear hcall hl hF hn hnb hm
  obtain ⟨ba, bc, rfl⟩ := owns_form hob
  obtain ⟨oa, oc, rfl⟩ := owns_form hoo
  have HB2 := Lib.hid (bThen HB.out hb2)
  have HBS2 : Hid (Sl (fun q => w1.heap.size ≤ q) w2 (.slice ba nb bc) (ints l.beds)) := Lib.hid (by rw [HBE.out]; exact Sl.of_owns hob)
  have HO2 : Hid (SlN 3 (fun q => w1.heap.size ≤ q) w2 (.slice oa n oc) (F.out.map visRw)) := Lib.hid (SlN.of_ownsN (by rw [List.length_map, HNN.out]; exact hoo) (fun r hr => by obtain ⟨sp, _, rfl⟩ := List.mem_map.1 hr; rfl))
  have HT2 := Lib.hid (HT.out.below hb2)
  have HSS2 := Lib.hid (HS.out.below hb2)
  have HDD2 := Lib.hid (HD.out.below hb2)
  have HZ2 := Lib.hid (HZ0.out.below hb2)
  have x0 := bAt hb2 x0
  have x1 := bAt hb2 x1
  have x2 := bAt hb2 x2
  have x3 := bAt hb2 x3
  have x4 := bAt hb2 x4
  have x5 := bAt hb2 x5
  have x6 := bAt hb2 x6
  obtain ⟨K, hK⟩ : ∃ K, w2.heap.size = K := ⟨_, rfl⟩
  obtain ⟨w3, hw3⟩ : ∃ y, w2.alloc (.cells #[.int .i64 l.start, .int .i64 l.gin, .int .i64 l.gout, .slice ba nb bc, .int .i64 l.players, .int .i64 l.turns, .bool l.won] 27) = y := ⟨_, rfl⟩
  have hb3 : Below w2.heap.size w2 w3 := by rw [← hw3]; exact aB _ _
  have k3 : w3.heap[K]? = some (.cells #[.int .i64 l.start, .int .i64 l.gin, .int .i64 l.gout, .slice ba nb bc, .int .i64 l.players, .int .i64 l.turns, .bool l.won] 27 (0, 0)) := by rw [← hw3, ← hK]; exact World.alloc_heap_new _ _
  have HK := Lib.hid hK
  have HW3 := Lib.hid hw3
  have HB3 := Lib.hid (bThen HB2.out hb3)
  have HBS3 := Lib.hid (HBS2.out.below hb3)
  have HO3 := Lib.hid (HO2.out.below hb3)
  have HT3 := Lib.hid (HT2.out.below hb3)
  have HSS3 := Lib.hid (HSS2.out.below hb3)
  have HDD3 := Lib.hid (HDD2.out.below hb3)
  have HZ3 := Lib.hid (HZ2.out.below hb3)
  have hb3' := hb3
  clear hb2 hob hoo hw3 hK hb3
  unfold legV legA
  go_upto_region 2 with fail
  rw [HW3.out, HK.out]
  have x0 := bAt hb3' x0
  have x1 := bAt hb3' x1
  have x2 := bAt hb3' x2
  have x3 := bAt hb3' x3
  have x4 := bAt hb3' x4
  have x5 := bAt hb3' x5
  have x6 := bAt hb3' x6
  have c0 : w3.cell? ⟨K, 0, none⟩ = some (.int .i64 l.start) := by rw [cell_of_heap k3]; rfl
  have c1 : w3.cell? ⟨K, 1, none⟩ = some (.int .i64 l.gin) := by rw [cell_of_heap k3]; rfl
  have c2 : w3.cell? ⟨K, 2, none⟩ = some (.int .i64 l.gout) := by rw [cell_of_heap k3]; rfl
  have c3 : w3.cell? ⟨K, 3, none⟩ = some (.slice ba nb bc) := by rw [cell_of_heap k3]; rfl
  have c4 : w3.cell? ⟨K, 4, none⟩ = some (.int .i64 l.players) := by rw [cell_of_heap k3]; rfl
  have c5 : w3.cell? ⟨K, 5, none⟩ = some (.int .i64 l.turns) := by rw [cell_of_heap k3]; rfl
  have c6 : w3.cell? ⟨K, 6, none⟩ = some (.bool l.won) := by rw [cell_of_heap k3]; rfl
  clear k3 hb3'
  go_wp2_with fail
  have hcall := reports_any x HX.out.said (.slice a dl cap) (.slice a' sl cap') (.slice oa n oc) F.out 4 (by rw [HNN.out]; exact hn5) (by omega) w3 HDD3.out HSS3.out HO3.out
  unfold thrV at hcall
  rw [HRL.out, HM.out] at hcall
  refine hcall.mono ?_
  rintro e w4 ⟨rv, rfl, hb4, hrr⟩
  clear hcall
  obtain ⟨ra, rc, rfl⟩ := owns_form hrr
  have HR4 : Hid (SlN 3 (fun q => w3.heap.size ≤ q) w4 (.slice ra m rc) (list.map rpRow)) := Lib.hid (SlN.of_ownsN (by rw [List.length_map, HM.out]; exact hrr) (fun r hr => by obtain ⟨y, _, rfl⟩ := List.mem_map.1 hr; rfl))
  have HB4 := Lib.hid (bThen HB3.out hb4)
  have HBS4 := Lib.hid (HBS3.out.below hb4)
  have HO4 := Lib.hid (HO3.out.below hb4)
  have HT4 := Lib.hid (HT3.out.below hb4)
  have HZ4 := Lib.hid (HZ3.out.below hb4)
  clear HB3 HBS3 HO3 HT3 HZ3
  have c0 := bAt hb4 c0
  have c1 := bAt hb4 c1
  have c2 := bAt hb4 c2
  have c3 := bAt hb4 c3
  have c4 := bAt hb4 c4
  have c5 := bAt hb4 c5
  have c6 := bAt hb4 c6
  clear hb4 hrr HZ0 HZ2 x0 x1 x2 x3 x4 x5 x6 HSS2 HDD2 HSS3 HDD3
  obtain ⟨LW, hLW⟩ : ∃ y, wrongL list lies = y := ⟨_, rfl⟩
  obtain ⟨many, hmany⟩ : ∃ y, (chgL list lies list.length).length = y := ⟨_, rfl⟩
  have HLW := Lib.hid hLW
  have HMANY := Lib.hid hmany
  have HLWM : Hid (LW.length = m) := Lib.hid (by rw [← hLW, wrongL_len, HM.out])
  have HLWB : Hid (∀ r ∈ LW, badR l.turns r = false) := Lib.hid (by rw [← hLW]; exact badR_wrongL HLB.out)
  have HNT : Hid (HasTruth l fun _ => []) := Lib.hid (none_truth HTR.out)
  clear hLW hmany
  go_wp2_with fail
  have hcall := wrong_any list lies (.slice ra m rc) (.slice za zn zc) w4 HR4.out HZ4.out HLY.out (by rw [HM.out]; omega)
  rw [HMANY.out, HM.out, HLW.out] at hcall
  refine hcall.mono ?_
  rintro e w5 ⟨wv, rfl, hb5, ho5⟩
  clear hcall
  obtain ⟨wa, wc, rfl⟩ := owns_form ho5
  have HV5 : Hid (SlN 3 (fun _ => True) w5 (.slice wa m wc) (LW.map rpRow)) := Lib.hid ((rows_sl ho5 HLWM.out).mono fun _ _ => trivial)
  have HB5 := Lib.hid (bThen HB4.out hb5)
  have HBS5 := Lib.hid (HBS4.out.below hb5)
  have HO5 := Lib.hid (HO4.out.below hb5)
  have HT5 := Lib.hid (HT4.out.below hb5)
  clear HB4 HBS4 HO4 HT4
  have c0 := bAt hb5 c0
  have c1 := bAt hb5 c1
  have c2 := bAt hb5 c2
  have c3 := bAt hb5 c3
  have c4 := bAt hb5 c4
  have c5 := bAt hb5 c5
  have c6 := bAt hb5 c6
  clear hb5 ho5 HR4 HZ4
  have hnl : l.beds.length = nb := by rw [HBE.out, HNB.out]
  have HNL := Lib.hid hnl
  clear hnl HO5
  have HE0 : Hid (dropE l LW = 0) := Lib.hid (dropE_zero HCK.out (by rw [HLWM.out]; omega) HLWB.out HNT.out)
  have HE1 : Hid (blameE l LW = 0) := Lib.hid (blameE_zero HCK.out (by rw [HLWM.out]; omega) HLWB.out)
  go_wp2_with fail
  have hcall := own_any l (.slice ba nb bc) w5 HBS5.out (by rw [HNL.out]; have := HN6.out; omega)
  unfold legV legA at hcall
  refine hcall.mono ?_
  rintro e w6 ⟨bv6, rfl, hb6, hs6⟩
  clear hcall
  obtain ⟨p6o, p6c, rfl, -, -⟩ := hs6.form
  rw [ints_length, HNL.out] at hs6 ⊢
  have HB6 := Lib.hid (bThen HB5.out hb6)
  have HBS6 := Lib.hid (HBS5.out.below hb6)
  have HT6 := Lib.hid (HT5.out.below hb6)
  have HV6 := Lib.hid (HV5.out.below hb6)
  clear HB5 HBS5 HT5 HV5
  have c0 := bAt hb6 c0
  have c1 := bAt hb6 c1
  have c2 := bAt hb6 c2
  have c3 := bAt hb6 c3
  have c4 := bAt hb6 c4
  have c5 := bAt hb6 c5
  have c6 := bAt hb6 c6
  have HOW6 := Lib.hid hs6
  clear hb6 hs6
  go_wp2_with fail
  refine (told_any LW (.slice wa m wc) w6 HV6.out (by rw [HLWM.out]; omega)).mono ?_
  rintro e w7 ⟨v7, rfl, hb7, hs7⟩
  obtain ⟨q7o, q7c, rfl, -, -⟩ := hs7.form
  rw [List.length_map, HLWM.out] at hs7 ⊢
  have HB7 := Lib.hid (bThen HB6.out hb7)
  have HBS7 := Lib.hid (HBS6.out.below hb7)
  have HT7 := Lib.hid (HT6.out.below hb7)
  have HV7 := Lib.hid (HV6.out.below hb7)
  have HOW7 := Lib.hid (HOW6.out.below hb7)
  clear HB6 HBS6 HT6 HV6 HOW6
  have c0 := bAt hb7 c0
  have c1 := bAt hb7 c1
  have c2 := bAt hb7 c2
  have c3 := bAt hb7 c3
  have c4 := bAt hb7 c4
  have c5 := bAt hb7 c5
  have c6 := bAt hb7 c6
  have HTL7 := Lib.hid hs7
  clear hb7 hs7
  go_wp2_with fail
  have hcall := blamesIs l (.slice p6o nb p6c) (.slice q7o m q7c) LW w7 HOW7.out HBI.out HTL7.out (by rw [HLWM.out]; omega) HT7.out HE1.out
  unfold legV legA at hcall
  refine hcall.mono ?_
  rintro e w8 ⟨v8, rfl, hb8, BL, hP8, hs8⟩
  clear hcall
  obtain ⟨BLa, BLc, rfl, hf1, hf2⟩ := hs8.form
  rw [List.length_map] at hs8 hf1 ⊢
  obtain ⟨BLn, hn8⟩ : ∃ n, BL.length = n := ⟨_, rfl⟩
  rw [hn8] at hs8 hf1 ⊢
  have HBLM : Hid (BLn ≤ 2 ^ 63 - 1) := Lib.hid (Nat.le_trans hf1 hf2)
  have HBLN := Lib.hid hn8
  have HBLP := Lib.hid hP8
  have HB8 := Lib.hid (bThen HB7.out hb8)
  have HBS8 := Lib.hid (HBS7.out.below hb8)
  have HT8 := Lib.hid (HT7.out.below hb8)
  have HV8 := Lib.hid (HV7.out.below hb8)
  clear HB7 HBS7 HT7 HV7 HOW7 HTL7
  have c0 := bAt hb8 c0
  have c1 := bAt hb8 c1
  have c2 := bAt hb8 c2
  have c3 := bAt hb8 c3
  have c4 := bAt hb8 c4
  have c5 := bAt hb8 c5
  have c6 := bAt hb8 c6
  have HBL8 := Lib.hid hs8
  clear hb8 hs8 hf1 hf2 hn8 hP8
  go_wp2_with fail
  have hcall := own_any l (.slice ba nb bc) w8 HBS8.out (by rw [HNL.out]; have := HN6.out; omega)
  unfold legV legA at hcall
  refine hcall.mono ?_
  rintro e w9 ⟨bv9, rfl, hb9, hs9⟩
  clear hcall
  obtain ⟨p9o, p9c, rfl, -, -⟩ := hs9.form
  rw [ints_length, HNL.out] at hs9 ⊢
  have HB9 := Lib.hid (bThen HB8.out hb9)
  have HBS9 := Lib.hid (HBS8.out.below hb9)
  have HT9 := Lib.hid (HT8.out.below hb9)
  have HV9 := Lib.hid (HV8.out.below hb9)
  have HBL9 := Lib.hid (HBL8.out.below hb9)
  clear HB8 HBS8 HT8 HV8 HBL8
  have c0 := bAt hb9 c0
  have c1 := bAt hb9 c1
  have c2 := bAt hb9 c2
  have c3 := bAt hb9 c3
  have c4 := bAt hb9 c4
  have c5 := bAt hb9 c5
  have c6 := bAt hb9 c6
  have HOW9 := Lib.hid hs9
  clear hb9 hs9
  go_wp2_with fail
  refine (told_any LW (.slice wa m wc) w9 HV9.out (by rw [HLWM.out]; omega)).mono ?_
  rintro e w10 ⟨v10, rfl, hb10, hs10⟩
  obtain ⟨q10o, q10c, rfl, -, -⟩ := hs10.form
  rw [List.length_map, HLWM.out] at hs10 ⊢
  have HB10 := Lib.hid (bThen HB9.out hb10)
  have HBS10 := Lib.hid (HBS9.out.below hb10)
  have HT10 := Lib.hid (HT9.out.below hb10)
  have HV10 := Lib.hid (HV9.out.below hb10)
  have HBL10 := Lib.hid (HBL9.out.below hb10)
  have HOW10 := Lib.hid (HOW9.out.below hb10)
  clear HB9 HBS9 HT9 HV9 HBL9 HOW9
  have c0 := bAt hb10 c0
  have c1 := bAt hb10 c1
  have c2 := bAt hb10 c2
  have c3 := bAt hb10 c3
  have c4 := bAt hb10 c4
  have c5 := bAt hb10 c5
  have c6 := bAt hb10 c6
  have HTL10 := Lib.hid hs10
  clear hb10 hs10
  go_wp2_with fail
  have hcall := dropsIs l (.slice p9o nb p9c) (.slice q10o m q10c) LW w10 HOW10.out HBI.out HTL10.out (by rw [HLWM.out]; omega) HT10.out HE0.out
  unfold legV legA at hcall
  refine hcall.mono ?_
  rintro e w11 ⟨v11, rfl, hb11, DR, hP11, hs11⟩
  clear hcall
  obtain ⟨DRa, DRc, rfl, hf1, hf2⟩ := hs11.form
  rw [List.length_map] at hs11 hf1 ⊢
  obtain ⟨DRn, hn11⟩ : ∃ n, DR.length = n := ⟨_, rfl⟩
  rw [hn11] at hs11 hf1 ⊢
  have HDRM : Hid (DRn ≤ 2 ^ 63 - 1) := Lib.hid (Nat.le_trans hf1 hf2)
  have HDRN := Lib.hid hn11
  have HDRP := Lib.hid hP11
  have HB11 := Lib.hid (bThen HB10.out hb11)
  have HBS11 := Lib.hid (HBS10.out.below hb11)
  have HT11 := Lib.hid (HT10.out.below hb11)
  have HV11 := Lib.hid (HV10.out.below hb11)
  have HBL11 := Lib.hid (HBL10.out.below hb11)
  clear HB10 HBS10 HT10 HV10 HBL10 HOW10 HTL10
  have c0 := bAt hb11 c0
  have c1 := bAt hb11 c1
  have c2 := bAt hb11 c2
  have c3 := bAt hb11 c3
  have c4 := bAt hb11 c4
  have c5 := bAt hb11 c5
  have c6 := bAt hb11 c6
  have HDR11 := Lib.hid hs11
  clear hb11 hs11 hf1 hf2 hn11 hP11
  go_wp2_with fail
  have hcall := own_any l (.slice ba nb bc) w11 HBS11.out (by rw [HNL.out]; have := HN6.out; omega)
  unfold legV legA at hcall
  refine hcall.mono ?_
  rintro e w12 ⟨bv12, rfl, hb12, hs12⟩
  clear hcall
  obtain ⟨p12o, p12c, rfl, -, -⟩ := hs12.form
  rw [ints_length, HNL.out] at hs12 ⊢
  have HB12 := Lib.hid (bThen HB11.out hb12)
  have HBS12 := Lib.hid (HBS11.out.below hb12)
  have HT12 := Lib.hid (HT11.out.below hb12)
  have HV12 := Lib.hid (HV11.out.below hb12)
  have HBL12 := Lib.hid (HBL11.out.below hb12)
  have HDR12 := Lib.hid (HDR11.out.below hb12)
  clear HB11 HBS11 HT11 HV11 HBL11 HDR11
  have c0 := bAt hb12 c0
  have c1 := bAt hb12 c1
  have c2 := bAt hb12 c2
  have c3 := bAt hb12 c3
  have c4 := bAt hb12 c4
  have c5 := bAt hb12 c5
  have c6 := bAt hb12 c6
  have HOW12 := Lib.hid hs12
  clear hb12 hs12
  go_wp2_with fail
  refine (told_any LW (.slice wa m wc) w12 HV12.out (by rw [HLWM.out]; omega)).mono ?_
  rintro e w13 ⟨v13, rfl, hb13, hs13⟩
  obtain ⟨q13o, q13c, rfl, -, -⟩ := hs13.form
  rw [List.length_map, HLWM.out] at hs13 ⊢
  have HB13 := Lib.hid (bThen HB12.out hb13)
  have HBS13 := Lib.hid (HBS12.out.below hb13)
  have HT13 := Lib.hid (HT12.out.below hb13)
  have HV13 := Lib.hid (HV12.out.below hb13)
  have HBL13 := Lib.hid (HBL12.out.below hb13)
  have HDR13 := Lib.hid (HDR12.out.below hb13)
  have HOW13 := Lib.hid (HOW12.out.below hb13)
  clear HB12 HBS12 HT12 HV12 HBL12 HDR12 HOW12
  have c0 := bAt hb13 c0
  have c1 := bAt hb13 c1
  have c2 := bAt hb13 c2
  have c3 := bAt hb13 c3
  have c4 := bAt hb13 c4
  have c5 := bAt hb13 c5
  have c6 := bAt hb13 c6
  have HTL13 := Lib.hid hs13
  clear hb13 hs13
  go_wp2_with fail
  have hcall := truth_all l (.slice p12o nb p12c) (.slice q13o m q13c) LW n HTN.out w13 HOW13.out HBI.out HTL13.out HCK.out (by rw [HLWM.out]; omega) HLWB.out
  unfold legV legA at hcall
  refine hcall.mono ?_
  rintro e w14 ⟨ta, tb, tc, g, rfl, hb14, hg⟩
  clear hcall
  have HGE := Lib.hid hg
  have HB14 := Lib.hid (bThen HB13.out hb14)
  have HBS14 := Lib.hid (HBS13.out.below hb14)
  have HT14 := Lib.hid (HT13.out.below hb14)
  have HV14 := Lib.hid (HV13.out.below hb14)
  have HBL14 := Lib.hid (HBL13.out.below hb14)
  have HDR14 := Lib.hid (HDR13.out.below hb14)
  clear HB13 HBS13 HT13 HV13 HBL13 HDR13 HOW13 HTL13
  have c0 := bAt hb14 c0
  have c1 := bAt hb14 c1
  have c2 := bAt hb14 c2
  have c3 := bAt hb14 c3
  have c4 := bAt hb14 c4
  have c5 := bAt hb14 c5
  have c6 := bAt hb14 c6
  have hne := drops_ne HDRP.out HNT.out
  obtain ⟨y0, DT, hDT⟩ : ∃ x t, DR = x :: t := by
    cases DR with
    | nil => exact (hne rfl).elim
    | cons x t => exact ⟨x, t, rfl⟩
  have hy0 : DR[0]? = some y0 := by rw [hDT]; rfl
  have hm0 := (HDRP.out.mem y0).1 (by rw [hDT]; exact List.mem_cons_self ..)
  obtain ⟨D, hDl⟩ : ∃ n, y0.length = n := ⟨_, rfl⟩
  have hDz : D = 0 ↔ HasTruth l (allS LW) := by rw [← hDl, List.length_eq_zero_iff]; exact drop_zero hm0
  have hBz : BLn = 0 ↔ HasTruth l (allS LW) := by rw [← HBLN.out, List.length_eq_zero_iff]; exact blames_none HBLP.out
  have hmn : D ≤ many := by
    rw [← hDl, ← HMANY.out]
    have h := hm0
    rw [← HLW.out] at h
    exact wrong_many HTR.out h
  have hDm : D ≤ m := by
    rw [← hDl, ← HLWM.out]
    obtain ⟨⟨s, -, -, e⟩, -⟩ := hm0
    rw [e]; exact bits_len _ _
  have hnd1 : 1 ≤ DRn := by rw [← HDRN.out, hDT]; simp
  obtain ⟨db, df, v0, v0c, e0, hd0, hv0⟩ := sets_at HDR14.out hy0
  cases e0
  rw [hDl, Nat.add_zero] at hd0
  have HND1 := Lib.hid hnd1
  have HDM := Lib.hid hDm
  clear hb14 hne hy0 hm0 hDl hv0 hDT hDm
  have hni : (0 : Int) < (DRn : Int) := by omega
  have hn0 : 0 < DRn := by omega
  have t1 : decide ((DRn : Int) < 1) = false := decide_eq_false (by omega)
  have t2 : decide (DRn < 1) = false := decide_eq_false (by omega)
  have t3 : decide ((many : Int) < (D : Int)) = false := decide_eq_false (by omega)
  have t4 : decide (many < D) = false := decide_eq_false (by omega)
  go_upto_region 6 with fail
  have HZD := Lib.hid hDz
  have HZB := Lib.hid hBz
  clear hDz hBz hmn hnd1
  go_cut [125] from 81 to 124 (fun v wx => v = .bool false ∧ Hid (Below w14.heap.size w14 wx))
  case first =>
    have HBE0 : Hid (Below w14.heap.size w14 w14) := Lib.hid (Below.refl _ _)
    rcases HGE.out with ⟨hg0, hT⟩ | ⟨hg9, hT⟩
    · subst hg0
      have z1 : ((BLn : Int) == 0) = true := beq_iff_eq.2 (by have := HZB.out.2 hT; omega)
      have z2 : ((D : Int) == 0) = true := beq_iff_eq.2 (by have := HZD.out.2 hT; omega)
      clear hT
      go_wp2_with fail
      go_meet
      case rel => exact ⟨rfl, HBE0⟩
    · subst hg9
      have z1 : ((BLn : Int) == 0) = false := beq_eq_false_iff_ne.2 (by intro h; exact hT (HZB.out.1 (by omega)))
      have z2 : ((D : Int) == 0) = false := beq_eq_false_iff_ne.2 (by intro h; exact hT (HZD.out.1 (by omega)))
      clear hT
      go_wp2_with fail
      go_meet
      case rel => exact ⟨rfl, HBE0⟩
  case rest =>
  obtain ⟨rfl, HB15w⟩ := hcut
  obtain ⟨w15, rfl⟩ : ∃ y : World, y = wc := ⟨_, rfl⟩
  have hb15 := HB15w.out
  have HB15 := Lib.hid (bThen HB14.out hb15)
  have HBS15 := Lib.hid (HBS14.out.below hb15)
  have HT15 := Lib.hid (HT14.out.below hb15)
  have HV15 := Lib.hid (HV14.out.below hb15)
  have HBL15 := Lib.hid (HBL14.out.below hb15)
  have HDR15 := Lib.hid (HDR14.out.below hb15)
  clear HB14 HBS14 HT14 HV14 HBL14 HDR14
  have c0 := bAt hb15 c0
  have c1 := bAt hb15 c1
  have c2 := bAt hb15 c2
  have c3 := bAt hb15 c3
  have c4 := bAt hb15 c4
  have c5 := bAt hb15 c5
  have c6 := bAt hb15 c6
  have hd0 := bAt hb15 hd0
  obtain ⟨DB, hDB⟩ : ∃ n, (BL.headD []).length = n := ⟨_, rfl⟩
  have HDB : Hid (∀ x ∈ BL, x.length = DB) := Lib.hid (fun x hx => by
    rw [← hDB]
    cases BL with
    | nil => cases hx
    | cons y t => exact MinS.len ((HBLP.out.mem x).1 hx) ((HBLP.out.mem y).1 (List.mem_cons_self ..)))
  have HDB1 : Hid (0 < BLn → 1 ≤ DB ∧ DB ≤ m) := Lib.hid (fun h => by
    obtain ⟨y, t, e⟩ : ∃ y t, BL = y :: t := by
      cases BL with
      | nil => have := HBLN.out; simp at this; omega
      | cons y t => exact ⟨y, t, rfl⟩
    have hy := (HBLP.out.mem y).1 (by rw [e]; exact List.mem_cons_self ..)
    have h0 := blame_ne HNT.out hy
    have h1 := List.length_pos_iff.2 h0
    rw [← hDB, e]
    refine ⟨h1, ?_⟩
    rw [← HLWM.out]
    obtain ⟨⟨s, -, -, e2⟩, -⟩ := hy
    show y.length ≤ _
    rw [e2]; exact bits_len _ _)
  have HDBE := Lib.hid hDB
  clear hb15 HB15w hDB t1 t2 t3 t4 hni hn0
  have HBE0 : Hid (Below w15.heap.size w15 w15) := Lib.hid (Below.refl _ _)
  go_wp2_with fail
  go_loopw [19] (fun iv wr => ∃ i : Nat, i ≤ BLn ∧ iv = .int .i64 (i : Int) ∧ Hid (Below w15.heap.size w15 wr)) (fun iv _ => BLn - (intOf iv).toNat)
  case atStart => exact ⟨0, by omega, by go_num, HBE0⟩
  case round =>
    clear HBE0
    obtain ⟨i, hi, rfl, HBr⟩ := hrel
    obtain ⟨w16, rfl⟩ : ∃ y : World, y = wr := ⟨_, rfl⟩
    have hb16 := HBr.out
    have HB16 := Lib.hid (bThen HB15.out hb16)
    have HBS16 := Lib.hid (HBS15.out.below hb16)
    have HT16 := Lib.hid (HT15.out.below hb16)
    have HV16 := Lib.hid (HV15.out.below hb16)
    have HBL16 := Lib.hid (HBL15.out.below hb16)
    have HDR16 := Lib.hid (HDR15.out.below hb16)
    have c0 := bAt hb16 c0
    have c1 := bAt hb16 c1
    have c2 := bAt hb16 c2
    have c3 := bAt hb16 c3
    have c4 := bAt hb16 c4
    have c5 := bAt hb16 c5
    have c6 := bAt hb16 c6
    have hd0 := bAt hb16 hd0
    have HR16 := HBr
    clear hb16
    by_cases hlt : i < BLn
    · have hil : i < BL.length := by rw [HBLN.out]; exact hlt
      obtain ⟨xi, hx⟩ : ∃ x, BL[i] = x := ⟨_, rfl⟩
      have hxa : BL[i]? = some xi := by rw [List.getElem?_eq_getElem hil, hx]
      have hmx := (HBLP.out.mem xi).1 (List.mem_of_getElem? hxa)
      have hxl : xi.length = DB := HDB.out xi (List.mem_of_getElem? hxa)
      have hil0 : 0 < BL.length := by omega
      obtain ⟨x0, hx0⟩ : ∃ x, BL[0] = x := ⟨_, rfl⟩
      have hxa0 : BL[0]? = some x0 := by rw [List.getElem?_eq_getElem hil0, hx0]
      have hxl0 : x0.length = DB := HDB.out x0 (List.mem_of_getElem? hxa0)
      obtain ⟨eb, ef, ux, uxc, e1, hcx, hsx⟩ := sets_at HBL16.out hxa
      cases e1
      obtain ⟨eb2, ef2, u0, u0c, e2, hc0, -⟩ := sets_at HBL16.out hxa0
      cases e2
      rw [hxl] at hcx hsx
      rw [hxl0, Nat.add_zero] at hc0
      have HXL := Lib.hid hxl
      have HSX16 := Lib.hid hsx
      have HMX := Lib.hid hmx
      have HNO := Lib.hid (blame_no hmx)
      have hn0 : 0 < BLn := by omega
      have hni : (0 : Int) < (BLn : Int) := by omega
      have hii : (i : Int) < (BLn : Int) := by omega
      have HDB9 := Lib.hid (HDB1.out hn0)
      have hdb1 := HDB9.out.1
      have hdbm := HDB9.out.2
      have hwi : IntKind.i64.wrap ((i : Int) + 1) = (i : Int) + 1 := wrap_small _ (by omega) (by have := HBLM.out; omega)
      have q1 : decide ((DB : Int) < 1) = false := decide_eq_false (by omega)
      have q2 : decide (DB < 1) = false := decide_eq_false (by omega)
      clear hil hx hxa hmx hxl hsx hil0 hx0 hxa0 hxl0
      -- pick, all of the set
      go_wp2_with fail
      have hpf : pickF (-1) xi = xi := by unfold pickF; exact List.filter_eq_self.2 fun z _ => decide_eq_true (by omega)
      have hcall := pick_any LW xi (-1) (.slice wa m wc) (.slice ux DB uxc) w16 HV16.out HSX16.out HNO.out.2.1 HNO.out.2.2 (by rw [HXL.out]; omega)
      rw [hpf, HXL.out] at hcall
      refine hcall.mono ?_
      rintro e w17 ⟨v17, rfl, hb17, ho17⟩
      clear hcall hpf
      obtain ⟨ya, yc, rfl⟩ := owns_form ho17
      have HPK17 : Hid (SlN 3 (fun q => w16.heap.size ≤ q) w17 (.slice ya DB yc) ((pickL LW xi).map rpRow)) := Lib.hid (rows_sl ho17 (by unfold pickL; rw [List.length_map, HXL.out]))
      have HB17 := Lib.hid (bThen HB16.out hb17)
      have HR17 := Lib.hid (bThen HR16.out hb17)
      have HBS17 := Lib.hid (HBS16.out.below hb17)
      have HT17 := Lib.hid (HT16.out.below hb17)
      have HV17 := Lib.hid (HV16.out.below hb17)
      have HBL17 := Lib.hid (HBL16.out.below hb17)
      have HDR17 := Lib.hid (HDR16.out.below hb17)
      have HSX17 := Lib.hid (HSX16.out.below hb17)
      have c0 := bAt hb17 c0
      have c1 := bAt hb17 c1
      have c2 := bAt hb17 c2
      have c3 := bAt hb17 c3
      have c4 := bAt hb17 c4
      have c5 := bAt hb17 c5
      have c6 := bAt hb17 c6
      have hd0 := bAt hb17 hd0
      have hcx := bAt hb17 hcx
      have hc0 := bAt hb17 hc0
      clear hb17 ho17
      go_wp2_with fail
      have hcall := own_any l (.slice ba nb bc) w17 HBS17.out (by rw [HNL.out]; have := HN6.out; omega)
      unfold legV legA at hcall
      refine hcall.mono ?_
      rintro e w18 ⟨bv18, rfl, hb18, hs18⟩
      clear hcall
      obtain ⟨p18o, p18c, rfl, -, -⟩ := hs18.form
      rw [ints_length, HNL.out] at hs18 ⊢
      have HB18 := Lib.hid (bThen HB17.out hb18)
      have HR18 := Lib.hid (bThen HR17.out hb18)
      have HBS18 := Lib.hid (HBS17.out.below hb18)
      have HT18 := Lib.hid (HT17.out.below hb18)
      have HV18 := Lib.hid (HV17.out.below hb18)
      have HBL18 := Lib.hid (HBL17.out.below hb18)
      have HDR18 := Lib.hid (HDR17.out.below hb18)
      have HSX18 := Lib.hid (HSX17.out.below hb18)
      have HPK18 := Lib.hid (HPK17.out.below hb18)
      clear HB17 HR17 HBS17 HT17 HV17 HBL17 HDR17 HSX17 HPK17
      have c0 := bAt hb18 c0
      have c1 := bAt hb18 c1
      have c2 := bAt hb18 c2
      have c3 := bAt hb18 c3
      have c4 := bAt hb18 c4
      have c5 := bAt hb18 c5
      have c6 := bAt hb18 c6
      have hd0 := bAt hb18 hd0
      have hcx := bAt hb18 hcx
      have hc0 := bAt hb18 hc0
      have HOW18 := Lib.hid hs18
      clear hb18 hs18
      go_wp2_with fail
      have hcall := truth_no l (.slice p18o nb p18c) (.slice ya DB yc) (pickL LW xi) w18 HOW18.out HBI.out HPK18.out HCK.out (by unfold pickL; rw [List.length_map, HXL.out]; omega) (fun r hr => HLWB.out r (pickL_sub HNO.out.2.2 r hr)) HNO.out.1
      unfold legV legA at hcall
      refine hcall.mono ?_
      rintro e w19 ⟨rfl, hb19⟩
      clear hcall
      have HB19 := Lib.hid (bThen HB18.out hb19)
      have HR19 := Lib.hid (bThen HR18.out hb19)
      have HBS19 := Lib.hid (HBS18.out.below hb19)
      have HT19 := Lib.hid (HT18.out.below hb19)
      have HV19 := Lib.hid (HV18.out.below hb19)
      have HBL19 := Lib.hid (HBL18.out.below hb19)
      have HDR19 := Lib.hid (HDR18.out.below hb19)
      have HSX19 := Lib.hid (HSX18.out.below hb19)
      clear HB18 HR18 HBS18 HT18 HV18 HBL18 HDR18 HSX18 HPK18 HOW18
      have c0 := bAt hb19 c0
      have c1 := bAt hb19 c1
      have c2 := bAt hb19 c2
      have c3 := bAt hb19 c3
      have c4 := bAt hb19 c4
      have c5 := bAt hb19 c5
      have c6 := bAt hb19 c6
      have hd0 := bAt hb19 hd0
      have hcx := bAt hb19 hcx
      have hc0 := bAt hb19 hc0
      clear hb19
      go_upto_region 13 with fail
      refine wp_region_seqW (.is (.bool true) :: .is (.bool false) :: .is (.bool false) :: .is (.int .i64 9) :: .is (.bool false) :: .is (.bool false) :: .is (.bool false) :: .is (.slice (some ⟨eb, ef, none⟩) BLn BLc) :: .is (.int .i64 (i : Int)) :: .is (.pointer (some ⟨eb, ef + i, none⟩)) :: .is (.slice ux DB uxc) :: .is (.int .i64 (DB : Int)) :: .is (.slice (some ⟨eb, ef, none⟩) BLn BLc) :: .is (.pointer (some ⟨eb, ef, none⟩)) :: .is (.slice u0 DB u0c) :: .is (.int .i64 (DB : Int)) :: .is (.bool false) :: .is (.bool false) :: .is (.bool false) :: .is (.slice (some ⟨eb, ef, none⟩) BLn BLc) :: .is (.int .i64 (i : Int)) :: .is (.pointer (some ⟨eb, ef + i, none⟩)) :: .is (.slice ux DB uxc) :: .is (.int .i64 (DB : Int)) :: .is (.bool false) :: .is (.bool false) :: []) rfl mix (by kernel_rfl) (by kernel_rfl) ?_
      iterate 26
        refine seq_on (by rfl) (fun wr hbr _ => ?_) ?_
        · have hcx' := bAt hbr hcx
          have hc0' := bAt hbr hc0
          simp [opOK, go_sem, hcx', hc0', hii, hn0, q1, Below.refl]
          try exact rfl
        simp only [Act.put, List.setIfInBounds_toArray, List.set_cons_succ, List.set_cons_zero]
      refine seq_end fun w20 hb20 hH => ?_
      clear hH
      have HB20 := Lib.hid (bThen HB19.out hb20)
      have HR20 := Lib.hid (bThen HR19.out hb20)
      have HBS20 := Lib.hid (HBS19.out.below hb20)
      have HT20 := Lib.hid (HT19.out.below hb20)
      have HV20 := Lib.hid (HV19.out.below hb20)
      have HBL20 := Lib.hid (HBL19.out.below hb20)
      have HDR20 := Lib.hid (HDR19.out.below hb20)
      have HSX20 := Lib.hid (HSX19.out.below hb20)
      clear HB19 HR19 HBS19 HT19 HV19 HBL19 HDR19 HSX19
      have c0 := bAt hb20 c0
      have c1 := bAt hb20 c1
      have c2 := bAt hb20 c2
      have c3 := bAt hb20 c3
      have c4 := bAt hb20 c4
      have c5 := bAt hb20 c5
      have c6 := bAt hb20 c6
      have hd0 := bAt hb20 hd0
      have hcx := bAt hb20 hcx
      have hc0 := bAt hb20 hc0
      clear hb20 q1 q2
      have HBE1 : Hid (Below w20.heap.size w20 w20) := Lib.hid (Below.refl _ _)
      go_wp2_with fail
      go_loopw [26] (fun kv wr => ∃ kk : Nat, kk ≤ DB ∧ kv = .int .i64 (kk : Int) ∧ Hid (Below w20.heap.size w20 wr)) (fun kv _ => DB - (intOf kv).toNat)
      case atStart => exact ⟨0, by omega, by go_num, HBE1⟩
      case round =>
        clear HBE1
        obtain ⟨kk, hkk, rfl, HBs⟩ := hrel
        obtain ⟨w21, rfl⟩ : ∃ y : World, y = wr := ⟨_, rfl⟩
        have hb21 := HBs.out
        have HB21 := Lib.hid (bThen HB20.out hb21)
        have HR21 := Lib.hid (bThen HR20.out hb21)
        have HBS21 := Lib.hid (HBS20.out.below hb21)
        have HT21 := Lib.hid (HT20.out.below hb21)
        have HV21 := Lib.hid (HV20.out.below hb21)
        have HBL21 := Lib.hid (HBL20.out.below hb21)
        have HDR21 := Lib.hid (HDR20.out.below hb21)
        have HSX21 := Lib.hid (HSX20.out.below hb21)
        have c0 := bAt hb21 c0
        have c1 := bAt hb21 c1
        have c2 := bAt hb21 c2
        have c3 := bAt hb21 c3
        have c4 := bAt hb21 c4
        have c5 := bAt hb21 c5
        have c6 := bAt hb21 c6
        have hd0 := bAt hb21 hd0
        have hcx := bAt hb21 hcx
        have hc0 := bAt hb21 hc0
        have HS21 := HBs
        clear hb21
        by_cases hlk : kk < DB
        · as_aux_lemma =>
          have hkl : kk < xi.length := by rw [HXL.out]; exact hlk
          have h0l : 0 < xi.length := by omega
          obtain ⟨a, hai⟩ : ∃ z, xi[kk] = z := ⟨_, rfl⟩
          obtain ⟨a0, ha0⟩ : ∃ z, xi[0] = z := ⟨_, rfl⟩
          have haa : xi[kk]? = some a := by rw [List.getElem?_eq_getElem hkl, hai]
          have haa0 : xi[0]? = some a0 := by rw [List.getElem?_eq_getElem h0l, ha0]
          have ham : a < m := by rw [← HLWM.out]; exact HNO.out.2.2 a (List.mem_of_getElem? haa)
          have ham0 : a0 < m := by rw [← HLWM.out]; exact HNO.out.2.2 a0 (List.mem_of_getElem? haa0)
          obtain ⟨xb, xf, hux, -, y1⟩ := Sl.at_ HSX21.out (show (ints (nInts xi))[kk]? = some (.int .i64 (a : Int)) by simp [ints, nInts, haa])
          subst hux
          obtain ⟨xb2, xf2, hux2, -, y0⟩ := Sl.at_ HSX21.out (show (ints (nInts xi))[0]? = some (.int .i64 (a0 : Int)) by simp [ints, nInts, haa0])
          cases hux2
          rw [Nat.add_zero] at y0
          obtain ⟨⟨rt, rs, rl⟩, hr⟩ : ∃ r, LW[a]'(by rw [HLWM.out]; exact ham) = r := ⟨_, rfl⟩
          obtain ⟨⟨rt0, rs0, rl0⟩, hr0⟩ : ∃ r, LW[a0]'(by rw [HLWM.out]; exact ham0) = r := ⟨_, rfl⟩
          have hra : LW[a]? = some ⟨rt, rs, rl⟩ := by rw [List.getElem?_eq_getElem (by rw [HLWM.out]; exact ham), hr]
          have hra0 : LW[a0]? = some ⟨rt0, rs0, rl0⟩ := by rw [List.getElem?_eq_getElem (by rw [HLWM.out]; exact ham0), hr0]
          obtain ⟨wb, wf, hwa, -, -, -⟩ := HV21.out.cell (i := a) (by rw [List.length_map, HLWM.out]; exact ham)
          cases hwa
          obtain ⟨r0, -, -⟩ := rp_cells HV21.out hra
          obtain ⟨r1, -, -⟩ := rp_cells HV21.out hra0
          obtain ⟨pp, hpp⟩ := blame_one HBD.out.1 HMX.out
          have e5 := hpp a (List.mem_of_getElem? haa)
          have e6 := hpp a0 (List.mem_of_getElem? haa0)
          rw [List.getD_eq_getElem?_getD, hra] at e5
          rw [List.getD_eq_getElem?_getD, hra0] at e6
          have b5 := HLWB.out _ (List.mem_of_getElem? hra)
          have b6 := HLWB.out _ (List.mem_of_getElem? hra0)
          have g5 : 0 ≤ rt := by unfold badR isIn at b5; simp at b5; omega
          have g6 : 0 ≤ rt0 := by unfold badR isIn at b6; simp at b6; omega
          have tm1 : rt.tmod l.players = (pp : Int) := by rw [Int.tmod_eq_emod_of_nonneg g5]; exact e5
          have tm0 : rt0.tmod l.players = (pp : Int) := by rw [Int.tmod_eq_emod_of_nonneg g6]; exact e6
          have hpl : ¬ l.players = 0 := by have := HBD.out.1; omega
          have hki : (kk : Int) < (DB : Int) := by omega
          have h0i : (0 : Int) < (DB : Int) := by omega
          have h0n : 0 < DB := by omega
          have hai2 : (a : Int) < (m : Int) := by omega
          have hai0 : (a0 : Int) < (m : Int) := by omega
          have hwk : IntKind.i64.wrap ((kk : Int) + 1) = (kk : Int) + 1 := wrap_small _ (by omega) (by omega)
          have HLES := Lib.hid (blame_less HMX.out (List.mem_of_getElem? haa))
          obtain ⟨PF, hPF⟩ : ∃ y, pickF (a : Int) xi = y := ⟨_, rfl⟩
          have hPF2 := pickF_less a xi
          rw [hPF] at hPF2
          have HLES2 : Hid (HasTruth l (allS (pickL LW PF))) := Lib.hid (by rw [hPF2]; exact HLES.out)
          have HPFI : Hid (∀ z ∈ PF, z < LW.length) := Lib.hid (fun z hz => by rw [hPF2] at hz; exact HNO.out.2.2 z (List.mem_filter.1 hz).1)
          obtain ⟨pn, hpn⟩ : ∃ n, PF.length = n := ⟨_, rfl⟩
          have HPN := Lib.hid hpn
          have HPN5 : Hid (pn ≤ m) := Lib.hid (by rw [← hpn, hPF2]; exact Nat.le_trans (List.length_filter_le _ _) (by rw [HXL.out]; omega))
          have HPF := Lib.hid hPF
          have HAM := Lib.hid ham
          clear hkl h0l hai ha0 haa haa0 hr hr0 hra hra0 hpp e5 e6 b5 b6 g5 g6 hPF hPF2 hpn HLES ham ham0
          go_upto_region 18 with fail
          refine wp_region_seqW (.is (.slice (some ⟨wb, wf, none⟩) m wc) :: .is (.slice (some ⟨eb, ef, none⟩) BLn BLc) :: .is (.int .i64 (i : Int)) :: .is (.pointer (some ⟨eb, ef + i, none⟩)) :: .is (.slice (some ⟨xb, xf, none⟩) DB uxc) :: .is (.slice (some ⟨eb, ef, none⟩) BLn BLc) :: .is (.int .i64 (i : Int)) :: .is (.pointer (some ⟨eb, ef + i, none⟩)) :: .is (.slice (some ⟨xb, xf, none⟩) DB uxc) :: .is (.int .i64 (kk : Int)) :: .is (.pointer (some ⟨xb, xf + kk, none⟩)) :: .is (.int .i64 (a : Int)) :: kTupB (pickL LW PF) pn :: kTupB (pickL LW PF) pn :: kTold (pickL LW PF) pn :: .is (.bool true) :: kTold (pickL LW PF) pn :: .is (.bool true) :: []) rfl mix (by kernel_rfl) (by kernel_rfl) ?_
          iterate 12
            refine seq_on (by rfl) (fun wr hbr _ => ?_) ?_
            · have hcx' := bAt hbr hcx
              have y1' := bAt hbr y1
              simp [opOK, go_sem, hcx', y1', hii, hki, Below.refl]
              try exact rfl
            simp only [Act.put, List.setIfInBounds_toArray, List.set_cons_succ, List.set_cons_zero]
          refine seq_new ⟨_, none, 0, rfl⟩ (by rfl) (fun wr hbr hH => ?_) ?_
          · refine opOK_call (f := 38) (args := #[.slice (some ⟨wb, wf, none⟩) m wc, .slice (some ⟨xb, xf, none⟩) DB uxc, .int .i64 (a : Int)]) (by simp [go_sem]) ?_
            have hcall := pick_any LW xi (a : Int) (.slice (some ⟨wb, wf, none⟩) m wc) (.slice (some ⟨xb, xf, none⟩) DB uxc) wr (HV21.out.below hbr) (HSX21.out.below hbr) HNO.out.2.1 HNO.out.2.2 (by rw [HXL.out]; omega)
            rw [HPF.out, HPN.out] at hcall
            refine hcall.mono ?_
            rintro e w' ⟨v', rfl, hb', ho'⟩
            obtain ⟨xa, y, rfl⟩ := owns_form ho'
            exact ⟨_, rfl, hb', ⟨xa, y, rfl⟩, xa, y, rfl, (rows_sl ho' (by unfold pickL; rw [List.length_map, HPN.out])).mono fun _ _ => trivial⟩
          rintro _ ⟨fa, fc, rfl⟩
          simp only [Act.put, List.setIfInBounds_toArray, List.set_cons_succ, List.set_cons_zero]
          refine seq_new ⟨_, none, 0, rfl⟩ (by rfl) (fun wr hbr hH => ?_) ?_
          · have h5 := hH ⟨12, .data⟩ (by simp) rfl
            exact opOK_val (v := .tuple #[.slice fa pn fc, .bool true]) (w' := wr) (by simp [go_sem, execOp]) ⟨Below.refl _ _, ⟨fa, fc, rfl⟩, h5⟩
          rintro _ ⟨ga, gc, rfl⟩
          simp only [Act.put, List.setIfInBounds_toArray, List.set_cons_succ, List.set_cons_zero]
          refine seq_new ⟨_, none, 0, rfl⟩ (by rfl) (fun wr hbr hH => ?_) ?_
          · obtain ⟨xa, y, e1, hs'⟩ := hH ⟨13, .data⟩ (by simp) rfl
            cases e1
            exact opOK_val (v := .slice ga pn gc) (w' := wr) (by simp [go_sem, execOp]) ⟨Below.refl _ _, ⟨ga, gc, rfl⟩, ga, gc, rfl, hs'⟩
          rintro _ ⟨ha, hc, rfl⟩
          simp only [Act.put, List.setIfInBounds_toArray, List.set_cons_succ, List.set_cons_zero]
          refine seq_on (by rfl) (fun wr hbr _ => ?_) ?_
          · simp [opOK, go_sem, Below.refl]
            try exact rfl
          simp only [Act.put, List.setIfInBounds_toArray, List.set_cons_succ, List.set_cons_zero]
          refine seq_new ⟨_, none, 0, rfl⟩ (by rfl) (fun wr hbr hH => ?_) ?_
          · have h5 := hH ⟨14, .data⟩ (by simp) rfl
            exact opOK_val (v := .slice ha pn hc) (w' := wr) (by simp [go_sem, execOp]) ⟨Below.refl _ _, ⟨ha, hc, rfl⟩, h5⟩
          rintro _ ⟨sa, sc, rfl⟩
          simp only [Act.put, List.setIfInBounds_toArray, List.set_cons_succ, List.set_cons_zero]
          refine seq_on (by rfl) (fun wr hbr _ => ?_) ?_
          · simp [opOK, go_sem, Below.refl]
            try exact rfl
          simp only [Act.put, List.setIfInBounds_toArray, List.set_cons_succ, List.set_cons_zero]
          refine seq_end fun w22 hb22 hH => ?_
          obtain ⟨xa, y, e1, hpk⟩ := hH 16 (by decide)
          cases e1
          have HPK22 := Lib.hid hpk
          have HB22 := Lib.hid (bThen HB21.out hb22)
          have HR22 := Lib.hid (bThen HR21.out hb22)
          have HS22 := Lib.hid (bThen HS21.out hb22)
          have HBS22 := Lib.hid (HBS21.out.below hb22)
          have HT22 := Lib.hid (HT21.out.below hb22)
          have HV22 := Lib.hid (HV21.out.below hb22)
          have HBL22 := Lib.hid (HBL21.out.below hb22)
          have HDR22 := Lib.hid (HDR21.out.below hb22)
          have HSX22 := Lib.hid (HSX21.out.below hb22)
          have c0 := bAt hb22 c0
          have c1 := bAt hb22 c1
          have c2 := bAt hb22 c2
          have c3 := bAt hb22 c3
          have c4 := bAt hb22 c4
          have c5 := bAt hb22 c5
          have c6 := bAt hb22 c6
          have hd0 := bAt hb22 hd0
          have hcx := bAt hb22 hcx
          have hc0 := bAt hb22 hc0
          have y0 := bAt hb22 y0
          have y1 := bAt hb22 y1
          have r0 := bAt hb22 r0
          have r1 := bAt hb22 r1
          clear hb22 hH hpk
          go_wp2_with fail
          have hcall := own_any l (.slice ba nb bc) w22 HBS22.out (by rw [HNL.out]; have := HN6.out; omega)
          unfold legV legA at hcall
          refine hcall.mono ?_
          rintro e w23 ⟨bv23, rfl, hb23, hs23⟩
          clear hcall
          obtain ⟨p23o, p23c, rfl, -, -⟩ := hs23.form
          rw [ints_length, HNL.out] at hs23 ⊢
          have HB23 := Lib.hid (bThen HB22.out hb23)
          have HR23 := Lib.hid (bThen HR22.out hb23)
          have HS23 := Lib.hid (bThen HS22.out hb23)
          have HBS23 := Lib.hid (HBS22.out.below hb23)
          have HT23 := Lib.hid (HT22.out.below hb23)
          have HV23 := Lib.hid (HV22.out.below hb23)
          have HBL23 := Lib.hid (HBL22.out.below hb23)
          have HDR23 := Lib.hid (HDR22.out.below hb23)
          have HSX23 := Lib.hid (HSX22.out.below hb23)
          have HPK23 := Lib.hid (HPK22.out.below hb23)
          clear HB22 HR22 HS22 HBS22 HT22 HV22 HBL22 HDR22 HSX22 HPK22
          have c0 := bAt hb23 c0
          have c1 := bAt hb23 c1
          have c2 := bAt hb23 c2
          have c3 := bAt hb23 c3
          have c4 := bAt hb23 c4
          have c5 := bAt hb23 c5
          have c6 := bAt hb23 c6
          have hd0 := bAt hb23 hd0
          have hcx := bAt hb23 hcx
          have hc0 := bAt hb23 hc0
          have y0 := bAt hb23 y0
          have y1 := bAt hb23 y1
          have r0 := bAt hb23 r0
          have r1 := bAt hb23 r1
          have HOW23 := Lib.hid hs23
          clear hb23 hs23
          go_wp2_with fail
          have hcall := truth_ok l (.slice p23o nb p23c) (.slice sa pn sc) (pickL LW PF) n HTN.out w23 HOW23.out HBI.out HPK23.out HCK.out (by unfold pickL; rw [List.length_map, HPN.out]; have := HPN5.out; omega) (fun r hr => HLWB.out r (pickL_sub HPFI.out r hr)) HLES2.out
          unfold legV legA at hcall
          refine hcall.mono ?_
          rintro e w24 ⟨g1, g2, g3, rfl, hb24, -, -, -⟩
          clear hcall
          have HB24 := Lib.hid (bThen HB23.out hb24)
          have HR24 := Lib.hid (bThen HR23.out hb24)
          have HS24 := Lib.hid (bThen HS23.out hb24)
          have HBS24 := Lib.hid (HBS23.out.below hb24)
          have HT24 := Lib.hid (HT23.out.below hb24)
          have HV24 := Lib.hid (HV23.out.below hb24)
          have HBL24 := Lib.hid (HBL23.out.below hb24)
          have HDR24 := Lib.hid (HDR23.out.below hb24)
          have HSX24 := Lib.hid (HSX23.out.below hb24)
          clear HB23 HR23 HS23 HBS23 HT23 HV23 HBL23 HDR23 HSX23 HPK23 HOW23
          have c0 := bAt hb24 c0
          have c1 := bAt hb24 c1
          have c2 := bAt hb24 c2
          have c3 := bAt hb24 c3
          have c4 := bAt hb24 c4
          have c5 := bAt hb24 c5
          have c6 := bAt hb24 c6
          have hd0 := bAt hb24 hd0
          have hcx := bAt hb24 hcx
          have hc0 := bAt hb24 hc0
          have y0 := bAt hb24 y0
          have y1 := bAt hb24 y1
          have r0 := bAt hb24 r0
          have r1 := bAt hb24 r1
          clear hb24
          go_upto_region 20 with fail
          refine wp_region_seqW (.is (.int .i64 0) :: .is (.bool false) :: .is (.bool false) :: .is (.slice (some ⟨wb, wf, none⟩) m wc) :: .is (.slice (some ⟨eb, ef, none⟩) BLn BLc) :: .is (.int .i64 (i : Int)) :: .is (.pointer (some ⟨eb, ef + i, none⟩)) :: .is (.slice (some ⟨xb, xf, none⟩) DB uxc) :: .is (.int .i64 (kk : Int)) :: .is (.pointer (some ⟨xb, xf + kk, none⟩)) :: .is (.int .i64 (a : Int)) :: .is (.pointer (some ⟨wb, wf + a * 3, none⟩)) :: .is (.pointer (some ⟨wb, wf + a * 3, none⟩)) :: .is (.int .i64 rt) :: .is (.pointer (some ⟨K, 4, none⟩)) :: .is (.int .i64 l.players) :: .is (.int .i64 (pp : Int)) :: .is (.slice (some ⟨wb, wf, none⟩) m wc) :: .is (.slice (some ⟨eb, ef, none⟩) BLn BLc) :: .is (.int .i64 (i : Int)) :: .is (.pointer (some ⟨eb, ef + i, none⟩)) :: .is (.slice (some ⟨xb, xf, none⟩) DB uxc) :: .is (.pointer (some ⟨xb, xf, none⟩)) :: .is (.int .i64 (a0 : Int)) :: .is (.pointer (some ⟨wb, wf + a0 * 3, none⟩)) :: .is (.pointer (some ⟨wb, wf + a0 * 3, none⟩)) :: .is (.int .i64 rt0) :: .is (.pointer (some ⟨K, 4, none⟩)) :: .is (.int .i64 l.players) :: .is (.int .i64 (pp : Int)) :: .is (.bool false) :: .is (.bool false) :: []) rfl mix (by kernel_rfl) (by kernel_rfl) ?_
          iterate 32
            refine seq_on (by rfl) (fun wr hbr _ => ?_) ?_
            · have hcx' := bAt hbr hcx
              have y1' := bAt hbr y1
              have y0' := bAt hbr y0
              have r0' := bAt hbr r0
              have r1' := bAt hbr r1
              have c4' := bAt hbr c4
              simp [opOK, go_sem, hcx', y1', y0', r0', r1', c4', hii, hki, h0n, hai2, hai0, tm1, tm0, hpl, Below.refl]
              try exact rfl
            simp only [Act.put, List.setIfInBounds_toArray, List.set_cons_succ, List.set_cons_zero]
          refine seq_end fun w25 hb25 hH => ?_
          clear hH
          have HB25 := Lib.hid (bThen HB24.out hb25)
          have HR25 := Lib.hid (bThen HR24.out hb25)
          have HS25 := Lib.hid (bThen HS24.out hb25)
          have HBS25 := Lib.hid (HBS24.out.below hb25)
          have HT25 := Lib.hid (HT24.out.below hb25)
          have HV25 := Lib.hid (HV24.out.below hb25)
          have HBL25 := Lib.hid (HBL24.out.below hb25)
          have HDR25 := Lib.hid (HDR24.out.below hb25)
          have HSX25 := Lib.hid (HSX24.out.below hb25)
          clear HB24 HR24 HS24 HBS24 HT24 HV24 HBL24 HDR24 HSX24
          have c0 := bAt hb25 c0
          have c1 := bAt hb25 c1
          have c2 := bAt hb25 c2
          have c3 := bAt hb25 c3
          have c4 := bAt hb25 c4
          have c5 := bAt hb25 c5
          have c6 := bAt hb25 c6
          have hd0 := bAt hb25 hd0
          have hcx := bAt hb25 hcx
          have hc0 := bAt hb25 hc0
          have y0 := bAt hb25 y0
          have y1 := bAt hb25 y1
          have r0 := bAt hb25 r0
          have r1 := bAt hb25 r1
          clear hb25
          go_wp2_with fail
          go_roundw
          case rel => exact ⟨kk + 1, by omega, by go_num, HS25⟩
          case measure => simp [intOf]; omega
        · as_aux_lemma =>
          obtain rfl : kk = DB := by omega
          have HBE2 : Hid (Below w21.heap.size w21 w21) := Lib.hid (Below.refl _ _)
          clear HBs c0 c1 c2 c3 c4 c5 c6 hc0 hd0 HBS21 HT21 HV21 HBL21
          go_wp2_with fail
          go_loopw [33] (fun jv wr => ∃ j : Nat, j ≤ DRn ∧ jv = .int .i64 (j : Int) ∧ Hid (Below w21.heap.size w21 wr)) (fun jv _ => DRn - (intOf jv).toNat)
          case atStart => exact ⟨0, by omega, by go_num, HBE2⟩
          case round =>
            clear HBE2
            obtain ⟨j, hj, rfl, HBu⟩ := hrel
            obtain ⟨w22, rfl⟩ : ∃ y : World, y = wr := ⟨_, rfl⟩
            have hb22 := HBu.out
            have HR22 := Lib.hid (bThen HR21.out hb22)
            have HDR22 := Lib.hid (HDR21.out.below hb22)
            have HSX22 := Lib.hid (HSX21.out.below hb22)
            have hcx := bAt hb22 hcx
            have HU22 := HBu
            clear hb22
            by_cases hlj : j < DRn
            · have hjl : j < DR.length := by rw [HDRN.out]; exact hlj
              obtain ⟨yj, hy⟩ : ∃ x, DR[j] = x := ⟨_, rfl⟩
              have hya : DR[j]? = some yj := by rw [List.getElem?_eq_getElem hjl, hy]
              have hmy := (HDRP.out.mem yj).1 (List.mem_of_getElem? hya)
              have hcom := com_all (blame_drop HMX.out hmy)
              obtain ⟨yn, hyn⟩ : ∃ n, yj.length = n := ⟨_, rfl⟩
              obtain ⟨eb3, ef3, vy, vyc, e3, hcy, hsy⟩ := sets_at HDR22.out hya
              cases e3
              rw [hyn] at hcy hsy hcom
              have HCOM := Lib.hid hcom
              have HYN := Lib.hid hyn
              have HSY22 := Lib.hid hsy
              have hynm : yn ≤ m := by
                rw [← hyn, ← HLWM.out]
                obtain ⟨⟨s, -, -, e⟩, -⟩ := hmy
                rw [e]; exact bits_len _ _
              have hji : (j : Int) < (DRn : Int) := by omega
              have hwj : IntKind.i64.wrap ((j : Int) + 1) = (j : Int) + 1 := wrap_small _ (by omega) (by have := HDRM.out; omega)
              have HC0 : Hid (false = comB xi yj 0) := Lib.hid rfl
              have HBE3 : Hid (Below w22.heap.size w22 w22) := Lib.hid (Below.refl _ _)
              clear hjl hy hya hmy hyn hsy hcom
              go_wp2_with fail
              go_loopw [34, 35] (fun bv nv wr => ∃ (nn : Nat) (b : Bool), nn ≤ yn ∧ bv = .bool b ∧ nv = .int .i64 (nn : Int) ∧ Hid (b = comB xi yj nn) ∧ Hid (Below w22.heap.size w22 wr)) (fun _ nv _ => yn - (intOf nv).toNat)
              case atStart => exact ⟨0, false, by omega, rfl, by go_num, HC0, HBE3⟩
              case round =>
                clear HC0 HBE3
                obtain ⟨nn, b, hnn, rfl, rfl, HCB, HBx⟩ := hrel
                obtain ⟨w23, rfl⟩ : ∃ y : World, y = wr := ⟨_, rfl⟩
                have hb23 := HBx.out
                have HR23 := Lib.hid (bThen HR22.out hb23)
                have HU23 := Lib.hid (bThen HU22.out hb23)
                have HSX23 := Lib.hid (HSX22.out.below hb23)
                have HSY23 := Lib.hid (HSY22.out.below hb23)
                have hcx := bAt hb23 hcx
                have hcy := bAt hb23 hcy
                have HX23 := HBx
                clear hb23
                by_cases hln : nn < yn
                · have hnl : nn < yj.length := by rw [HYN.out]; exact hln
                  obtain ⟨z, hz⟩ : ∃ z, yj[nn] = z := ⟨_, rfl⟩
                  have hza : yj[nn]? = some z := by rw [List.getElem?_eq_getElem hnl, hz]
                  obtain ⟨vb, vf, hvy, -, y5⟩ := Sl.at_ HSY23.out (show (ints (nInts yj))[nn]? = some (.int .i64 (z : Int)) by simp [ints, nInts, hza])
                  subst hvy
                  have HCS := Lib.hid (com_succ (x := xi) hza)
                  have hnni : (nn : Int) < (yn : Int) := by omega
                  have hwn : IntKind.i64.wrap ((nn : Int) + 1) = (nn : Int) + 1 := wrap_small _ (by omega) (by omega)
                  have HC1 : Hid (b = (comB xi yj nn || decide (z ∈ xi.take 0))) := Lib.hid (by rw [← HCB.out]; simp)
                  have HBE4 : Hid (Below w23.heap.size w23 w23) := Lib.hid (Below.refl _ _)
                  clear hnl hz hza HCB
                  go_wp2_with fail
                  go_loopw [34, 36] (fun bv mv wr => ∃ (mm : Nat) (c : Bool), mm ≤ kk ∧ bv = .bool c ∧ mv = .int .i64 (mm : Int) ∧ Hid (c = (comB xi yj nn || decide (z ∈ xi.take mm))) ∧ Hid (Below w23.heap.size w23 wr)) (fun _ mv _ => kk - (intOf mv).toNat)
                  case atStart => exact ⟨0, b, by omega, rfl, by go_num, HC1, HBE4⟩
                  case round =>
                    clear HC1 HBE4
                    obtain ⟨mm, c, hmm, rfl, rfl, HCC, HBy⟩ := hrel
                    obtain ⟨w24, rfl⟩ : ∃ y : World, y = wr := ⟨_, rfl⟩
                    have hb24 := HBy.out
                    have HR24 := Lib.hid (bThen HR23.out hb24)
                    have HU24 := Lib.hid (bThen HU23.out hb24)
                    have HX24 := Lib.hid (bThen HX23.out hb24)
                    have HSX24 := Lib.hid (HSX23.out.below hb24)
                    have hcx := bAt hb24 hcx
                    have hcy := bAt hb24 hcy
                    have y5 := bAt hb24 y5
                    have HY24 := HBy
                    clear hb24
                    by_cases hlm : mm < kk
                    · have hml : mm < xi.length := by rw [HXL.out]; exact hlm
                      obtain ⟨a, hai⟩ : ∃ z, xi[mm] = z := ⟨_, rfl⟩
                      have haa : xi[mm]? = some a := by rw [List.getElem?_eq_getElem hml, hai]
                      obtain ⟨xb, xf, hux, -, y1⟩ := Sl.at_ HSX24.out (show (ints (nInts xi))[mm]? = some (.int .i64 (a : Int)) by simp [ints, nInts, haa])
                      subst hux
                      have HMS := Lib.hid (mem_take_succ haa z)
                      have hmi : (mm : Int) < (kk : Int) := by omega
                      have hwm : IntKind.i64.wrap ((mm : Int) + 1) = (mm : Int) + 1 := wrap_small _ (by omega) (by omega)
                      clear hml hai haa
                      go_upto_region 32 with fail
                      cases c
                      · by_cases hzz : z = a
                        · subst hzz
                          have HC2 : Hid (true = (comB xi yj nn || decide (z ∈ xi.take (mm + 1)))) := Lib.hid (by rw [HMS.out]; simp)
                          clear HCC HMS
                          refine wp_region_seqW (.is (.bool false) :: .is (.bool false) :: .is (.slice (some ⟨db, df, none⟩) DRn DRc) :: .is (.int .i64 (j : Int)) :: .is (.pointer (some ⟨db, df + j, none⟩)) :: .is (.slice (some ⟨vb, vf, none⟩) yn vyc) :: .is (.int .i64 (nn : Int)) :: .is (.pointer (some ⟨vb, vf + nn, none⟩)) :: .is (.int .i64 (z : Int)) :: .is (.slice (some ⟨eb, ef, none⟩) BLn BLc) :: .is (.int .i64 (i : Int)) :: .is (.pointer (some ⟨eb, ef + i, none⟩)) :: .is (.slice (some ⟨xb, xf, none⟩) kk uxc) :: .is (.int .i64 (mm : Int)) :: .is (.pointer (some ⟨xb, xf + mm, none⟩)) :: .is (.int .i64 (z : Int)) :: .is (.bool true) :: .is (.bool true) :: .is (.bool true) :: []) rfl mix (by kernel_rfl) (by kernel_rfl) ?_
                          iterate 19
                            refine seq_on (by rfl) (fun wr hbr _ => ?_) ?_
                            · have hcy' := bAt hbr hcy
                              have y5' := bAt hbr y5
                              have hcx' := bAt hbr hcx
                              have y1' := bAt hbr y1
                              simp [opOK, go_sem, hcy', y5', hcx', y1', hji, hnni, hii, hmi, Below.refl]
                              try exact rfl
                            simp only [Act.put, List.setIfInBounds_toArray, List.set_cons_succ, List.set_cons_zero]
                          refine seq_end fun w25 hb25 hH => ?_
                          clear hH
                          have HR25 := Lib.hid (bThen HR24.out hb25)
                          have HU25 := Lib.hid (bThen HU24.out hb25)
                          have HX25 := Lib.hid (bThen HX24.out hb25)
                          have HY25 := Lib.hid (bThen HY24.out hb25)
                          have HSX25 := Lib.hid (HSX24.out.below hb25)
                          have hcx := bAt hb25 hcx
                          have hcy := bAt hb25 hcy
                          have y5 := bAt hb25 y5
                          clear hb25
                          go_wp2_with fail
                          go_roundw
                          case rel => exact ⟨mm + 1, true, by omega, rfl, by go_num, HC2, HY25⟩
                          case measure => simp [intOf]; omega
                        · have hza9 : ((z : Int) == (a : Int)) = false := beq_eq_false_iff_ne.2 (by omega)
                          have hza8 : ¬ z = a := hzz
                          have HC2 : Hid (false = (comB xi yj nn || decide (z ∈ xi.take (mm + 1)))) := Lib.hid (by rw [HMS.out, ← Bool.or_assoc, ← HCC.out]; simp [hzz])
                          clear HCC HMS hzz
                          refine wp_region_seqW (.is (.bool false) :: .is (.bool false) :: .is (.slice (some ⟨db, df, none⟩) DRn DRc) :: .is (.int .i64 (j : Int)) :: .is (.pointer (some ⟨db, df + j, none⟩)) :: .is (.slice (some ⟨vb, vf, none⟩) yn vyc) :: .is (.int .i64 (nn : Int)) :: .is (.pointer (some ⟨vb, vf + nn, none⟩)) :: .is (.int .i64 (z : Int)) :: .is (.slice (some ⟨eb, ef, none⟩) BLn BLc) :: .is (.int .i64 (i : Int)) :: .is (.pointer (some ⟨eb, ef + i, none⟩)) :: .is (.slice (some ⟨xb, xf, none⟩) kk uxc) :: .is (.int .i64 (mm : Int)) :: .is (.pointer (some ⟨xb, xf + mm, none⟩)) :: .is (.int .i64 (a : Int)) :: .is (.bool false) :: .is (.bool false) :: .is (.bool false) :: []) rfl mix (by kernel_rfl) (by kernel_rfl) ?_
                          iterate 19
                            refine seq_on (by rfl) (fun wr hbr _ => ?_) ?_
                            · have hcy' := bAt hbr hcy
                              have y5' := bAt hbr y5
                              have hcx' := bAt hbr hcx
                              have y1' := bAt hbr y1
                              simp [opOK, go_sem, hcy', y5', hcx', y1', hji, hnni, hii, hmi, hza9, Below.refl]
                              try exact rfl
                            simp only [Act.put, List.setIfInBounds_toArray, List.set_cons_succ, List.set_cons_zero]
                          refine seq_end fun w25 hb25 hH => ?_
                          clear hH
                          have HR25 := Lib.hid (bThen HR24.out hb25)
                          have HU25 := Lib.hid (bThen HU24.out hb25)
                          have HX25 := Lib.hid (bThen HX24.out hb25)
                          have HY25 := Lib.hid (bThen HY24.out hb25)
                          have HSX25 := Lib.hid (HSX24.out.below hb25)
                          have hcx := bAt hb25 hcx
                          have hcy := bAt hb25 hcy
                          have y5 := bAt hb25 y5
                          clear hb25
                          go_wp2_with fail
                          go_roundw
                          case rel => exact ⟨mm + 1, false, by omega, rfl, by go_num, HC2, HY25⟩
                          case measure => simp [intOf]; omega
                      · have HC2 : Hid (true = (comB xi yj nn || decide (z ∈ xi.take (mm + 1)))) := Lib.hid (by rw [HMS.out, ← Bool.or_assoc, ← HCC.out]; rfl)
                        clear HCC HMS
                        refine wp_region_seqW (.is (.bool true) :: .is (.bool true) :: .is (undef) :: .is (undef) :: .is (undef) :: .is (undef) :: .is (undef) :: .is (undef) :: .is (undef) :: .is (undef) :: .is (undef) :: .is (undef) :: .is (undef) :: .is (undef) :: .is (undef) :: .is (undef) :: .is (undef) :: .is (.bool true) :: .is (.bool true) :: []) rfl mix (by kernel_rfl) (by kernel_rfl) ?_
                        iterate 2
                          refine seq_on (by rfl) (fun wr hbr _ => ?_) ?_
                          · simp [opOK, go_sem, Below.refl]
                            try exact rfl
                          simp only [Act.put, List.setIfInBounds_toArray, List.set_cons_succ, List.set_cons_zero]
                        iterate 15
                          refine seq_off (by rfl) ?_
                          simp only [Act.put, List.setIfInBounds_toArray, List.set_cons_succ, List.set_cons_zero]
                        iterate 2
                          refine seq_on (by rfl) (fun wr hbr _ => ?_) ?_
                          · simp [opOK, go_sem, Below.refl]
                            try exact rfl
                          simp only [Act.put, List.setIfInBounds_toArray, List.set_cons_succ, List.set_cons_zero]
                        refine seq_end fun w25 hb25 hH => ?_
                        clear hH
                        have HR25 := Lib.hid (bThen HR24.out hb25)
                        have HU25 := Lib.hid (bThen HU24.out hb25)
                        have HX25 := Lib.hid (bThen HX24.out hb25)
                        have HY25 := Lib.hid (bThen HY24.out hb25)
                        have HSX25 := Lib.hid (HSX24.out.below hb25)
                        have hcx := bAt hb25 hcx
                        have hcy := bAt hb25 hcy
                        have y5 := bAt hb25 y5
                        clear hb25
                        go_wp2_with fail
                        go_roundw
                        case rel => exact ⟨mm + 1, true, by omega, rfl, by go_num, HC2, HY25⟩
                        case measure => simp [intOf]; omega
                    · obtain rfl : mm = kk := by omega
                      have HC3 : Hid (c = comB xi yj (nn + 1)) := Lib.hid (by
                        have h := HCC.out
                        rw [List.take_of_length_le (by rw [HXL.out]; exact Nat.le_refl _)] at h
                        rw [HCS.out]; exact h)
                      clear HCC HCS
                      go_wp2_with fail
                      go_roundw
                      case rel => exact ⟨nn + 1, c, by omega, rfl, by go_num, HC3, HX24⟩
                      case measure => simp [intOf]; omega
                · obtain rfl : nn = yn := by omega
                  obtain rfl : b = true := HCB.out.trans HCOM.out
                  clear HCB
                  go_wp2_with fail
                  go_roundw
                  case rel => exact ⟨j + 1, by omega, by go_num, HU23⟩
                  case measure => simp [intOf]; omega
            · obtain rfl : j = DRn := by omega
              go_wp2_with fail
              go_roundw
              case rel => exact ⟨i + 1, by omega, by go_num, HR22⟩
              case measure => simp [intOf]; omega
    · as_aux_lemma =>
      obtain rfl : i = BLn := by omega
      obtain ⟨Q, hQ⟩ : ∃ B, w16.heap.size = B := ⟨_, rfl⟩
      obtain ⟨wf, hwf⟩ : ∃ y, w16.alloc (.cells #[] 3) = y := ⟨_, rfl⟩
      have hbf : Below w16.heap.size w16 wf := by rw [← hwf]; exact aB _ _
      have kf : wf.heap[Q]? = some (.cells #[] 3 (0, 0)) := by rw [← hwf, ← hQ]; exact World.alloc_heap_new _ _
      have HQ := Lib.hid hQ
      have HWF := Lib.hid hwf
      have HFR0 : Hid (wf.ownsRow Q 3 1 (.slice (some ⟨Q, 0, none⟩) 0 0) 0 (ints (nInts (fewL so DB 0)))) := Lib.hid (own_empty kf (Nat.le_refl _))
      have HBF : Hid (Below Q w16 wf) := Lib.hid (by rw [← hQ]; exact hbf)
      clear hQ hwf hbf kf hd0 HBr
      go_upto_region 36 with fail
      rw [HWF.out, HQ.out]
      go_wp2_with fail
      go_loopw [37, 38, 39] (fun fv cv jv wr => ∃ (j : Nat) (fl : Nat), j ≤ m ∧ jv = .int .i64 (j : Int) ∧ cv = .int .i64 (fl : Int) ∧ fl ≤ j ∧ Hid ((fewL so DB j).length = fl) ∧ Hid (wr.ownsRow Q 3 1 fv fl (ints (nInts (fewL so DB j)))) ∧ Hid (Below Q w16 wr)) (fun _ _ jv _ => m - (intOf jv).toNat)
      case atStart => exact ⟨0, 0, by omega, by go_num, by go_num, by omega, Lib.hid rfl, HFR0, HBF⟩
      case round =>
        clear HFR0 HBF
        obtain ⟨j, fl, hj, rfl, rfl, hfl, HFL, HFR, HBw⟩ := hrel
        obtain ⟨w17, rfl⟩ : ∃ wt : World, wt = wr := ⟨_, rfl⟩
        obtain ⟨fa, fc, hfv⟩ := owns_form HFR.out
        subst hfv
        have hb17 : Below w16.heap.size w16 w17 := by rw [HQ.out]; exact HBw.out
        have HB17 := Lib.hid (bThen HB16.out hb17)
        have HBS17 := Lib.hid (HBS16.out.below hb17)
        have HT17 := Lib.hid (HT16.out.below hb17)
        have HV17 := Lib.hid (HV16.out.below hb17)
        have HBL17 := Lib.hid (HBL16.out.below hb17)
        have HDR17 := Lib.hid (HDR16.out.below hb17)
        have c0 := bAt hb17 c0
        have c1 := bAt hb17 c1
        have c2 := bAt hb17 c2
        have c3 := bAt hb17 c3
        have c4 := bAt hb17 c4
        have c5 := bAt hb17 c5
        have c6 := bAt hb17 c6
        have HBww := Lib.hid hb17
        clear hb17
        by_cases hjm : j < m
        · have hji : (j : Int) < (m : Int) := by omega
          have hwj : IntKind.i64.wrap ((j : Int) + 1) = (j : Int) + 1 := wrap_small _ (by omega) (by omega)
          have hwf9 : IntKind.i64.wrap ((fl : Int) + 1) = (fl : Int) + 1 := wrap_small _ (by omega) (by omega)
          have HHJ : Hid (j < 4) := Lib.hid (by omega)
          by_cases hb0 : 0 < i
          · have p1 : decide ((0 : Int) < (i : Int)) = true := decide_eq_true (by omega)
            have p2 : decide (0 < i) = true := decide_eq_true hb0
            have hni : (0 : Int) < (i : Int) := by omega
            have hil0 : 0 < BL.length := by rw [HBLN.out]; exact hb0
            obtain ⟨x0, hx0⟩ : ∃ x, BL[0] = x := ⟨_, rfl⟩
            have hxa0 : BL[0]? = some x0 := by rw [List.getElem?_eq_getElem hil0, hx0]
            have hxl0 : x0.length = DB := HDB.out x0 (List.mem_of_getElem? hxa0)
            obtain ⟨eb2, ef2, u0, u0c, e2, hc0, -⟩ := sets_at HBL17.out hxa0
            subst e2
            rw [hxl0, Nat.add_zero] at hc0
            have hdb := HDB1.out hb0
            have wD : IntKind.i64.wrap ((DB : Int) - 1) = (DB : Int) - 1 := wrap_small _ (by omega) (by omega)
            obtain ⟨b, hb⟩ : ∃ b, so.testBit j = b := ⟨_, rfl⟩
            have hbit : (bits BinOp.and IntKind.u8 ((so : Int) / 2 ^ j) 1 == 1) = b := by rw [← hb]; exact bit8 ⟨so, HSO.out⟩ ⟨j, by omega⟩
            have HBIT := Lib.hid hb
            clear hb hil0 hx0 hxa0 hxl0 hb0
            cases b
            · have HE : Hid (fewL so DB (j + 1) = fewL so DB j) := Lib.hid (by rw [fewL]; exact if_neg (by rintro ⟨h, -⟩; rw [HBIT.out] at h; cases h))
              have HFL2 : Hid ((fewL so DB (j + 1)).length = fl) := Lib.hid (by rw [HE.out]; exact HFL.out)
              have HFR2 : Hid (w17.ownsRow Q 3 1 (.slice fa fl fc) fl (ints (nInts (fewL so DB (j + 1))))) := Lib.hid (by rw [HE.out]; exact HFR.out)
              clear HFL HFR hc0 hdb
              go_wp2_with fail
              go_roundw
              case rel => exact ⟨j + 1, fl, by omega, by go_num, by go_num, by omega, HFL2, HFR2, HBw⟩
              case measure => simp [intOf]; omega
            · by_cases hfd : fl + 1 < DB
              · have q1 : decide ((fl : Int) < (DB : Int) - 1) = true := decide_eq_true (by omega)
                have HE : Hid (fewL so DB (j + 1) = fewL so DB j ++ [j]) := Lib.hid (by rw [fewL]; exact if_pos ⟨HBIT.out, by rw [HFL.out]; exact hfd⟩)
                have hf9 : fl + 1 ≤ 100000 := by omega
                have HBle : Hid (Q ≤ w17.heap.size) := Lib.hid (by rw [← HQ.out]; exact HBww.out.size)
                clear hfd hdb
                go_wp2_with (at_builtin; refine wpList_append1 rfl (.tmp 313) (.tmp 315) 35 rfl Q 3 (.int .i64 0) 8 Tryz.underlying35 info_i5 rfl (.slice fa fl fc) fl _ rfl (HFR.out.alloc _) w17.heap.size 0 1 (.int .i64 (j : Int)) rfl (cell_new _ _ _) rfl hf9 (by decide) (by have := HBle.out; simp; omega) ?_)
                intro g9 c9 w9 ho9 hg9 hat9
                have hb9 : Below w17.heap.size w17 (w17.alloc (.cells #[.int .i64 (j : Int)] 3)) := aB _ _
                have HFL2 : Hid ((fewL so DB (j + 1)).length = fl + 1) := Lib.hid (by rw [HE.out, List.length_append, HFL.out]; rfl)
                have HFR2 : Hid (w9.ownsRow Q 3 1 (.slice (some ⟨g9, 0, none⟩) (fl + 1) c9) (fl + 1) (ints (nInts (fewL so DB (j + 1))))) := Lib.hid (by
                  rw [HE.out]
                  have e : ints (nInts (fewL so DB j ++ [j])) = ints (nInts (fewL so DB j)) ++ [.int .i64 (j : Int)] := by simp [ints, nInts]
                  rw [e]; exact ho9)
                have HBw2 : Hid (Below Q w16 w9) := Lib.hid ((HBw.out.trans (hb9.mono HBle.out)).trans (below_grownBy hg9 (Nat.le_trans HBle.out hb9.size) (fun q hq => (HFR.out.lt q hq).1)))
                clear ho9 hg9 hat9 hb9 HFL HFR HBw HBww hc0 c0 c1 c2 c3 c4 c5 c6
                go_wp2_with fail
                go_roundw
                case rel => exact ⟨j + 1, fl + 1, by omega, by go_num, by go_num, by omega, HFL2, HFR2, HBw2⟩
                case measure => simp [intOf]; omega
              · have q1 : decide ((fl : Int) < (DB : Int) - 1) = false := decide_eq_false (by omega)
                have HE : Hid (fewL so DB (j + 1) = fewL so DB j) := Lib.hid (by rw [fewL]; exact if_neg (by rintro ⟨-, h⟩; rw [HFL.out] at h; exact hfd h))
                have HFL2 : Hid ((fewL so DB (j + 1)).length = fl) := Lib.hid (by rw [HE.out]; exact HFL.out)
                have HFR2 : Hid (w17.ownsRow Q 3 1 (.slice fa fl fc) fl (ints (nInts (fewL so DB (j + 1))))) := Lib.hid (by rw [HE.out]; exact HFR.out)
                clear HFL HFR hfd hdb
                go_wp2_with fail
                go_roundw
                case rel => exact ⟨j + 1, fl, by omega, by go_num, by go_num, by omega, HFL2, HFR2, HBw⟩
                case measure => simp [intOf]; omega
          · have p1 : decide ((0 : Int) < (i : Int)) = false := decide_eq_false (by omega)
            have p2 : decide (0 < i) = false := decide_eq_false hb0
            have HD0 : Hid (DB = 0) := Lib.hid (by
              have : BL = [] := List.length_eq_zero_iff.1 (by rw [HBLN.out]; omega)
              have h := HDBE.out
              rw [this] at h; exact h.symm)
            have HE : Hid (fewL so DB (j + 1) = fewL so DB j) := Lib.hid (by rw [fewL]; exact if_neg (by rintro ⟨-, h⟩; rw [HD0.out] at h; omega))
            have HFL2 : Hid ((fewL so DB (j + 1)).length = fl) := Lib.hid (by rw [HE.out]; exact HFL.out)
            have HFR2 : Hid (w17.ownsRow Q 3 1 (.slice fa fl fc) fl (ints (nInts (fewL so DB (j + 1))))) := Lib.hid (by rw [HE.out]; exact HFR.out)
            clear HFL HFR hb0
            go_wp2_with fail
            go_roundw
            case rel => exact ⟨j + 1, fl, by omega, by go_num, by go_num, by omega, HFL2, HFR2, HBw⟩
            case measure => simp [intOf]; omega
        · obtain rfl : j = m := by omega
          have HOKF : Hid (HasTruth l (allS (pickL LW (fewL so DB j)))) := Lib.hid (by
            have h := blame_few2 HNT.out HBLP.out HDB.out so
            rw [HLWM.out] at h; exact h)
          have hfo := few_ok so DB j
          obtain ⟨FW, hFW⟩ : ∃ y, fewL so DB j = y := ⟨_, rfl⟩
          rw [hFW] at HOKF HFL HFR hfo
          have HFO := Lib.hid hfo
          have HFWI : Hid (∀ z ∈ FW, z < LW.length) := Lib.hid (fun z hz => by rw [HLWM.out]; exact HFO.out.2.1 z hz)
          have HSF17 : Hid (Sl (fun q => Q ≤ q) w17 (.slice fa fl fc) (ints (nInts FW))) := Lib.hid (Sl.of_owns HFR.out)
          clear hFW HFR HBw HBww hfo
          go_wp2_with fail
          have hpf : pickF (-1) FW = FW := by unfold pickF; exact List.filter_eq_self.2 fun z _ => decide_eq_true (by omega)
          have hcall := pick_any LW FW (-1) (.slice wa j wc) (.slice fa fl fc) w17 HV17.out HSF17.out HFO.out.1 HFWI.out (by rw [HFL.out]; omega)
          rw [hpf, HFL.out] at hcall
          refine hcall.mono ?_
          rintro e w18 ⟨v18, rfl, hb18, ho18⟩
          clear hcall hpf
          obtain ⟨ya, yc, rfl⟩ := owns_form ho18
          have HPK18 : Hid (SlN 3 (fun q => w17.heap.size ≤ q) w18 (.slice ya fl yc) ((pickL LW FW).map rpRow)) := Lib.hid (rows_sl ho18 (by unfold pickL; rw [List.length_map, HFL.out]))
          have HB18 := Lib.hid (bThen HB17.out hb18)
          have HBS18 := Lib.hid (HBS17.out.below hb18)
          have HT18 := Lib.hid (HT17.out.below hb18)
          have c0 := bAt hb18 c0
          have c1 := bAt hb18 c1
          have c2 := bAt hb18 c2
          have c3 := bAt hb18 c3
          have c4 := bAt hb18 c4
          have c5 := bAt hb18 c5
          have c6 := bAt hb18 c6
          clear hb18 ho18
          go_wp2_with fail
          have hcall := own_any l (.slice ba nb bc) w18 HBS18.out (by rw [HNL.out]; have := HN6.out; omega)
          unfold legV legA at hcall
          refine hcall.mono ?_
          rintro e w19 ⟨bv19, rfl, hb19, hs19⟩
          clear hcall
          obtain ⟨p19o, p19c, rfl, -, -⟩ := hs19.form
          rw [ints_length, HNL.out] at hs19 ⊢
          have HB19 := Lib.hid (bThen HB18.out hb19)
          have HBS19 := Lib.hid (HBS18.out.below hb19)
          have HT19 := Lib.hid (HT18.out.below hb19)
          have HPK19 := Lib.hid (HPK18.out.below hb19)
          clear HB18 HBS18 HT18 HPK18
          have c0 := bAt hb19 c0
          have c1 := bAt hb19 c1
          have c2 := bAt hb19 c2
          have c3 := bAt hb19 c3
          have c4 := bAt hb19 c4
          have c5 := bAt hb19 c5
          have c6 := bAt hb19 c6
          have HOW19 := Lib.hid hs19
          clear hb19 hs19
          go_wp2_with fail
          have hcall := truth_ok l (.slice p19o nb p19c) (.slice ya fl yc) (pickL LW FW) n HTN.out w19 HOW19.out HBI.out HPK19.out HCK.out (by unfold pickL; rw [List.length_map, HFL.out]; omega) (fun r hr => HLWB.out r (pickL_sub HFWI.out r hr)) HOKF.out
          unfold legV legA at hcall
          refine hcall.mono ?_
          rintro e w20 ⟨g1, g2, g3, rfl, hb20, -, -, -⟩
          clear hcall
          have HB20 := Lib.hid (bThen HB19.out hb20)
          have HT20 := Lib.hid (HT19.out.below hb20)
          clear HB19 HBS19 HT19 HPK19 HOW19
          clear hb20 c0 c1 c2 c3 c4 c5 c6
          go_wp2_with fail
          refine (known_any w20 HT20.out).mono ?_
          rintro e wz ⟨rfl, hbz⟩
          have HBZ := Lib.hid (bThen HB20.out hbz)
          clear hbz
          go_wp2
          go_returns
          exact ⟨rfl, HBZ.out⟩
end Go.Proofs.YtpfpjbglpibdoaaGreatDoor
