/- The texts QT, OpT, in build order. -/
import Derived.Test.YtpfpjbglpibdoaaGreatDoorZba
import Derived.Deep.DeepCutAuto
import Derived.Deep.CutRange
import Derived.Deep.CutBlock

/- Chapter 5: HeardRight, the walk. -/
namespace Go.Proofs.YtpfpjbglpibdoaaGreatDoor
open Go Go.RowKit Go.Oche Go.Proofs

set_option maxRecDepth 100000 in
set_option maxHeartbeats 40000000 in
theorem heardRight_any {S S' S'' : Nat → Prop} (x : Thr) (hx : ThrOk x) (dv sv : Value) (w : World) (hd : Sl S w dv (u8s x.darts)) (hs : Sl S' w sv (u8s x.said)) (lies : List Int) (zv : Value) (hz : Sl S'' w zv (u8s lies)) (hly : Bytes lies) (so : Nat) (hso : so < 256) (hT : Tab5 w) :
    Calls Tryz.prog 10 #[thrV x dv sv, zv, .int .u8 (so : Int)] w fun e w' => e = .returned (.bool true) ∧ Below w.heap.size w w' := by
  obtain ⟨a, cap, rfl, -, -⟩ := hd.form
  obtain ⟨a', cap', rfl, -, -⟩ := hs.form
  obtain ⟨za, zc, rfl, -, -⟩ := hz.form
  have hzl : (u8s lies).length = lies.length := List.length_map ..
  rw [hzl] at hz ⊢
  obtain ⟨zn, hzn⟩ : ∃ n, lies.length = n := ⟨_, rfl⟩
  rw [hzn] at hz ⊢
  have hdl : (u8s x.darts).length = x.darts.length := List.length_map ..
  have hsl : (u8s x.said).length = x.said.length := List.length_map ..
  rw [hdl] at hd ⊢
  rw [hsl] at hs ⊢
  obtain ⟨dl, hdl2⟩ : ∃ n, x.darts.length = n := ⟨_, rfl⟩
  obtain ⟨sl, hsl2⟩ : ∃ n, x.said.length = n := ⟨_, rfl⟩
  rw [hdl2] at hd ⊢
  rw [hsl2] at hs ⊢
  obtain ⟨N, hN⟩ : ∃ N, w.heap.size = N := ⟨_, rfl⟩
  obtain ⟨w1, hw1⟩ : ∃ y, w.alloc (.cells #[.int .u8 x.st, .int .u8 x.inn, .int .u8 x.out, .int .u8 x.pl, .int .u16 (x.which : Int), .slice a dl cap, .slice a' sl cap'] 76) = y := ⟨_, rfl⟩
  have hb1 : Below w.heap.size w w1 := by rw [← hw1]; exact aB _ _
  have k : w1.heap[N]? = some (.cells #[.int .u8 x.st, .int .u8 x.inn, .int .u8 x.out, .int .u8 x.pl, .int .u16 (x.which : Int), .slice a dl cap, .slice a' sl cap'] 76 (0, 0)) := by rw [← hw1, ← hN]; exact World.alloc_heap_new _ _
  have x0 : w1.cell? ⟨N, 0, none⟩ = some (.int .u8 x.st) := by rw [cell_of_heap k]; rfl
  have x1 : w1.cell? ⟨N, 1, none⟩ = some (.int .u8 x.inn) := by rw [cell_of_heap k]; rfl
  have x2 : w1.cell? ⟨N, 2, none⟩ = some (.int .u8 x.out) := by rw [cell_of_heap k]; rfl
  have x3 : w1.cell? ⟨N, 3, none⟩ = some (.int .u8 x.pl) := by rw [cell_of_heap k]; rfl
  have x4 : w1.cell? ⟨N, 4, none⟩ = some (.int .u16 (x.which : Int)) := by rw [cell_of_heap k]; rfl
  have x5 : w1.cell? ⟨N, 5, none⟩ = some (.slice a dl cap) := by rw [cell_of_heap k]; rfl
  have x6 : w1.cell? ⟨N, 6, none⟩ = some (.slice a' sl cap') := by rw [cell_of_heap k]; rfl
  have HD := Lib.hid (hd.below hb1)
  have HS := Lib.hid (hs.below hb1)
  have HB := Lib.hid hb1
  have HT := Lib.hid (hT.below hb1)
  have HW := Lib.hid hw1
  have HN := Lib.hid hN
  have HX := Lib.hid hx
  have HSO := Lib.hid hso
  have HLY := Lib.hid hly
  have HZ0 := Lib.hid (hz.below hb1)
  unfold thrV
  clear hd hs hb1 hw1 hN k hx hT hz hzl hzn hly hso hdl hsl hdl2 hsl2
  obtain ⟨l, hl⟩ : ∃ l, legT x 4 = l := ⟨_, rfl⟩
  obtain ⟨F, hF⟩ : ∃ F, playX x 4 = F := ⟨_, rfl⟩
  obtain ⟨list, hli⟩ : ∃ y, repsL x 4 = y := ⟨_, rfl⟩
  obtain ⟨n, hn⟩ : ∃ n, F.out.length = n := ⟨_, rfl⟩
  obtain ⟨nb, hnb⟩ : ∃ n, (bedsOf x.which).length = n := ⟨_, rfl⟩
  obtain ⟨m, hm⟩ : ∃ n, list.length = n := ⟨_, rfl⟩
  have hrl : repsN x.said F.out F.out.length = list := by rw [← hli, ← hF]; rfl
  have hbd := legT_bd x 4
  rw [hl] at hbd
  have HBD := Lib.hid hbd
  have HTN : Hid (l.turns = (n : Int)) := Lib.hid (by rw [← hl, legT_turns, hF, hn])
  have HBE : Hid (l.beds = bedsOf x.which) := Lib.hid (by rw [← hl]; rfl)
  have HCK : Hid (checkL l = 0) := Lib.hid (by rw [← hl]; exact legT_check x (by omega))
  have HBI : Hid (BedsIn l) := Lib.hid (by rw [← hl]; exact legT_in x 4)
  have HGB : Hid (GoodBeds l) := Lib.hid (by rw [← hl]; exact legT_good x 4)
  have htt := thrown_truth x 4
  rw [hl, hF, hli] at htt
  have HTR : Hid (HasTruth l (allS list)) := Lib.hid htt.1
  have hin := thrown_in x 4 (list := list) (by rw [hl]; exact htt.1) (by rw [hl, hF]; exact htt.2)
  rw [hl, hF] at hin
  have HIN := Lib.hid hin
  have hro := repsL_ok x 4 (by omega)
  rw [hli] at hro
  have HLB : Hid (∀ r ∈ list, badR l.turns r = false) := Lib.hid (by have h := hro.bad; rw [hl] at h; exact h)
  have hm5 : m ≤ 4 := by rw [← hm, ← hli]; exact repsL_len x 4
  have hn5 : n ≤ 4 := by rw [← hn, ← hF]; exact playX_len x 4
  have HM := Lib.hid hm
  have HNN := Lib.hid hn
  have HNB := Lib.hid hnb
  have HRL := Lib.hid hrl
  have HN6 : Hid (nb ≤ 6) := Lib.hid (by rw [← hnb]; exact bedsOf_len _)
  clear hbd htt hin hro hli hrl
  go_enter Tryz.func10, Tryz.ntmps10
  go_upto_region 1 with fail
  rw [HW.out, HN.out]
  go_wp2_with fail
  have hcall := play_any x HX.out (.slice a dl cap) (.slice a' sl cap') 4 (by omega) w1 HD.out HS.out
  unfold thrV at hcall
  rw [hl, hF, hn, hnb] at hcall
  refine hcall.mono ?_
  rintro e w2 ⟨bv, ov, rfl, hb2, hob, hoo⟩
  clear hcall hl hF hn hnb hm
  obtain ⟨ba, bc, rfl⟩ := owns_form hob
  obtain ⟨oa, oc, rfl⟩ := owns_form hoo
  have HB2 := Lib.hid (bThen HB.out hb2)
  have HBS2 : Hid (Sl (fun q => w1.heap.size ≤ q) w2 (.slice ba nb bc) (ints l.beds)) := Lib.hid (by rw [HBE.out]; exact Sl.of_owns hob)
  have HO2 : Hid (SlN 3 (fun q => w1.heap.size ≤ q) w2 (.slice oa n oc) (F.out.map visRw)) := Lib.hid (SlN.of_ownsN (by rw [List.length_map, HNN.out]; exact hoo) (fun r hr => by obtain ⟨sp, _, rfl⟩ := List.mem_map.1 hr; rfl))
  have HT2 := Lib.hid (HT.out.below hb2)
  have HSS2 := Lib.hid (HS.out.below hb2)
  have HDD2 := Lib.hid (HD.out.below hb2)
  have HZ2 := Lib.hid (HZ0.out.below hb2)
  have x0 := bAt hb2 x0
  have x1 := bAt hb2 x1
  have x2 := bAt hb2 x2
  have x3 := bAt hb2 x3
  have x4 := bAt hb2 x4
  have x5 := bAt hb2 x5
  have x6 := bAt hb2 x6
  obtain ⟨K, hK⟩ : ∃ K, w2.heap.size = K := ⟨_, rfl⟩
  obtain ⟨w3, hw3⟩ : ∃ y, w2.alloc (.cells #[.int .i64 l.start, .int .i64 l.gin, .int .i64 l.gout, .slice ba nb bc, .int .i64 l.players, .int .i64 l.turns, .bool l.won] 27) = y := ⟨_, rfl⟩
  have hb3 : Below w2.heap.size w2 w3 := by rw [← hw3]; exact aB _ _
  have k3 : w3.heap[K]? = some (.cells #[.int .i64 l.start, .int .i64 l.gin, .int .i64 l.gout, .slice ba nb bc, .int .i64 l.players, .int .i64 l.turns, .bool l.won] 27 (0, 0)) := by rw [← hw3, ← hK]; exact World.alloc_heap_new _ _
  have HK := Lib.hid hK
  have HW3 := Lib.hid hw3
  have HB3 := Lib.hid (bThen HB2.out hb3)
  have HBS3 := Lib.hid (HBS2.out.below hb3)
  have HO3 := Lib.hid (HO2.out.below hb3)
  have HT3 := Lib.hid (HT2.out.below hb3)
  have HSS3 := Lib.hid (HSS2.out.below hb3)
  have HDD3 := Lib.hid (HDD2.out.below hb3)
  have HZ3 := Lib.hid (HZ2.out.below hb3)
  have hb3' := hb3
  clear hb2 hob hoo hw3 hK hb3
  unfold legV legA
  go_upto_region 2 with fail
  rw [HW3.out, HK.out]
  have x0 := bAt hb3' x0
  have x1 := bAt hb3' x1
  have x2 := bAt hb3' x2
  have x3 := bAt hb3' x3
  have x4 := bAt hb3' x4
  have x5 := bAt hb3' x5
  have x6 := bAt hb3' x6
  have c0 : w3.cell? ⟨K, 0, none⟩ = some (.int .i64 l.start) := by rw [cell_of_heap k3]; rfl
  have c1 : w3.cell? ⟨K, 1, none⟩ = some (.int .i64 l.gin) := by rw [cell_of_heap k3]; rfl
  have c2 : w3.cell? ⟨K, 2, none⟩ = some (.int .i64 l.gout) := by rw [cell_of_heap k3]; rfl
  have c3 : w3.cell? ⟨K, 3, none⟩ = some (.slice ba nb bc) := by rw [cell_of_heap k3]; rfl
  have c4 : w3.cell? ⟨K, 4, none⟩ = some (.int .i64 l.players) := by rw [cell_of_heap k3]; rfl
  have c5 : w3.cell? ⟨K, 5, none⟩ = some (.int .i64 l.turns) := by rw [cell_of_heap k3]; rfl
  have c6 : w3.cell? ⟨K, 6, none⟩ = some (.bool l.won) := by rw [cell_of_heap k3]; rfl
  clear k3 hb3'
  go_wp2_with fail
  have hcall := reports_any x HX.out.said (.slice a dl cap) (.slice a' sl cap') (.slice oa n oc) F.out 4 (by rw [HNN.out]; exact hn5) (by omega) w3 HDD3.out HSS3.out HO3.out
  unfold thrV at hcall
  rw [HRL.out, HM.out] at hcall
  refine hcall.mono ?_
  rintro e w4 ⟨rv, rfl, hb4, hrr⟩
  clear hcall
  obtain ⟨ra, rc, rfl⟩ := owns_form hrr
  have HR4 : Hid (SlN 3 (fun q => w3.heap.size ≤ q) w4 (.slice ra m rc) (list.map rpRow)) := Lib.hid (SlN.of_ownsN (by rw [List.length_map, HM.out]; exact hrr) (fun r hr => by obtain ⟨y, _, rfl⟩ := List.mem_map.1 hr; rfl))
  have HB4 := Lib.hid (bThen HB3.out hb4)
  have HBS4 := Lib.hid (HBS3.out.below hb4)
  have HO4 := Lib.hid (HO3.out.below hb4)
  have HT4 := Lib.hid (HT3.out.below hb4)
  have HZ4 := Lib.hid (HZ3.out.below hb4)
  clear HB3 HBS3 HO3 HT3 HZ3
  have c0 := bAt hb4 c0
  have c1 := bAt hb4 c1
  have c2 := bAt hb4 c2
  have c3 := bAt hb4 c3
  have c4 := bAt hb4 c4
  have c5 := bAt hb4 c5
  have c6 := bAt hb4 c6
  clear hb4 hrr HZ0 HZ2 x0 x1 x2 x3 x4 x5 x6 HSS2 HDD2 HSS3 HDD3
  obtain ⟨LW, hLW⟩ : ∃ y, wrongL list lies = y := ⟨_, rfl⟩
  obtain ⟨many, hmany⟩ : ∃ y, (chgL list lies list.length).length = y := ⟨_, rfl⟩
  have HLW := Lib.hid hLW
  have HMANY := Lib.hid hmany
  have HLWM : Hid (LW.length = m) := Lib.hid (by rw [← hLW, wrongL_len, HM.out])
  have HLWB : Hid (∀ r ∈ LW, badR l.turns r = false) := Lib.hid (by rw [← hLW]; exact badR_wrongL HLB.out)
  have HNT : Hid (HasTruth l fun _ => []) := Lib.hid (none_truth HTR.out)
  clear hLW hmany
  go_wp2_with fail
  have hcall := wrong_any list lies (.slice ra m rc) (.slice za zn zc) w4 HR4.out HZ4.out HLY.out (by rw [HM.out]; omega)
  rw [HMANY.out, HM.out, HLW.out] at hcall
  refine hcall.mono ?_
  rintro e w5 ⟨wv, rfl, hb5, ho5⟩
  clear hcall
  obtain ⟨wa, wc, rfl⟩ := owns_form ho5
  have HV5 : Hid (SlN 3 (fun _ => True) w5 (.slice wa m wc) (LW.map rpRow)) := Lib.hid ((rows_sl ho5 HLWM.out).mono fun _ _ => trivial)
  have HB5 := Lib.hid (bThen HB4.out hb5)
  have HBS5 := Lib.hid (HBS4.out.below hb5)
  have HO5 := Lib.hid (HO4.out.below hb5)
  have HT5 := Lib.hid (HT4.out.below hb5)
  clear HB4 HBS4 HO4 HT4
  have c0 := bAt hb5 c0
  have c1 := bAt hb5 c1
  have c2 := bAt hb5 c2
  have c3 := bAt hb5 c3
  have c4 := bAt hb5 c4
  have c5 := bAt hb5 c5
  have c6 := bAt hb5 c6
  clear hb5 ho5 HR4 HZ4
  obtain ⟨G, hG⟩ : ∃ G, w5.heap.size = G := ⟨_, rfl⟩
  obtain ⟨w6, hw6⟩ : ∃ y, w5.alloc (.cells #[.slice wa m wc] 53) = y := ⟨_, rfl⟩
  have hb6 : Below w5.heap.size w5 w6 := by rw [← hw6]; exact aB _ _
  have k6 : w6.heap[G]? = some (.cells #[.slice wa m wc] 53 (0, 0)) := by rw [← hw6, ← hG]; exact World.alloc_heap_new _ _
  have HG := Lib.hid hG
  have HW6 := Lib.hid hw6
  have HK6 := Lib.hid k6
  have HB6' := Lib.hid hb6
  clear hG hw6 k6 hb6
  go_upto_region 3 with fail
  rw [HW6.out, HG.out]
  have hb6 := HB6'.out
  have HB6 := Lib.hid (bThen HB5.out hb6)
  have HBS6 := Lib.hid (HBS5.out.below hb6)
  have HT6 := Lib.hid (HT5.out.below hb6)
  have HV6 := Lib.hid (HV5.out.below hb6)
  clear HB5 HBS5 HT5 HV5
  have c0 := bAt hb6 c0
  have c1 := bAt hb6 c1
  have c2 := bAt hb6 c2
  have c3 := bAt hb6 c3
  have c4 := bAt hb6 c4
  have c5 := bAt hb6 c5
  have c6 := bAt hb6 c6
  have l0 : w6.cell? ⟨G, 0, none⟩ = some (.slice wa m wc) := by rw [cell_of_heap HK6.out]; rfl
  have hnl : l.beds.length = nb := by rw [HBE.out, HNB.out]
  have HNL := Lib.hid hnl
  clear hb6 HB6' HK6 hnl HO5
  have HE0 : Hid (dropE l LW = 0) := Lib.hid (dropE_zero HCK.out (by rw [HLWM.out]; omega) HLWB.out HNT.out)
  refine wp_region_seqW (.is (.agg #[.int .i64 l.start, .int .i64 l.gin, .int .i64 l.gout, .slice ba nb bc, .int .i64 l.players, .int .i64 l.turns, .bool l.won]) :: kOwnL l nb :: .is (.slice wa m wc) :: kTold LW m :: kSetsT (Drops l LW) :: kSetsT (Drops l LW) :: kSets (Drops l LW) :: .is (.int .i64 0) :: kSets (Drops l LW) :: .is (.int .i64 0) :: []) rfl mix (by kernel_rfl) (by kernel_rfl) ?_
  refine seq_on (by rfl) (fun wr hbr _ => ?_) ?_
  · have c0' := bAt hbr c0
    have c1' := bAt hbr c1
    have c2' := bAt hbr c2
    have c3' := bAt hbr c3
    have c4' := bAt hbr c4
    have c5' := bAt hbr c5
    have c6' := bAt hbr c6
    simp [opOK, go_sem, c0', c1', c2', c3', c4', c5', c6', Below.refl]
    try exact rfl
  simp only [Act.put, List.setIfInBounds_toArray, List.set_cons_succ, List.set_cons_zero]
  refine seq_new ⟨_, none, 0, rfl⟩ (by rfl) (fun wr hbr hH => ?_) ?_
  · refine opOK_call (f := 14) (args := #[.agg #[.int .i64 l.start, .int .i64 l.gin, .int .i64 l.gout, .slice ba nb bc, .int .i64 l.players, .int .i64 l.turns, .bool l.won]]) (by simp [go_sem]) ?_
    refine (own_any l (.slice ba nb bc) wr (HBS6.out.below hbr) (by rw [HNL.out]; have := HN6.out; omega)).mono ?_
    rintro e w' ⟨bv', rfl, hb', hs'⟩
    obtain ⟨xa, y, rfl, -, -⟩ := hs'.form
    rw [ints_length, HNL.out] at hs' ⊢
    exact ⟨_, rfl, hb', ⟨xa, y, rfl⟩, xa, y, rfl, hs'.mono fun _ _ => trivial⟩
  rintro _ ⟨po, pc, rfl⟩
  simp only [Act.put, List.setIfInBounds_toArray, List.set_cons_succ, List.set_cons_zero]
  refine seq_on (by rfl) (fun wr hbr _ => ?_) ?_
  · have l0' := bAt hbr l0
    simp [opOK, go_sem, l0', Below.refl]
    try exact rfl
  simp only [Act.put, List.setIfInBounds_toArray, List.set_cons_succ, List.set_cons_zero]
  refine seq_new ⟨_, none, 0, rfl⟩ (by rfl) (fun wr hbr hH => ?_) ?_
  · refine opOK_call (f := 24) (args := #[.slice wa m wc]) (by simp [go_sem]) ?_
    refine (told_any LW (.slice wa m wc) wr (HV6.out.below hbr) (by rw [HLWM.out]; omega)).mono ?_
    rintro e w' ⟨v', rfl, hb', hs'⟩
    obtain ⟨xa, y, rfl, -, -⟩ := hs'.form
    rw [List.length_map, HLWM.out] at hs' ⊢
    exact ⟨_, rfl, hb', ⟨xa, y, rfl⟩, xa, y, rfl, hs'.mono fun _ _ => trivial⟩
  rintro _ ⟨qo, qc, rfl⟩
  simp only [Act.put, List.setIfInBounds_toArray, List.set_cons_succ, List.set_cons_zero]
  refine seq_new ⟨_, undef, rfl⟩ (by rfl) (fun wr hbr hH => ?_) ?_
  · obtain ⟨xa, y, e1, hs1⟩ := hH ⟨1, .data⟩ (by simp) rfl
    cases e1
    obtain ⟨xb, yb, e3, hs3⟩ := hH ⟨3, .data⟩ (by simp) rfl
    cases e3
    refine opOK_call (f := 30) (args := #[legV l (.slice po nb pc), .slice qo m qc]) (by simp [go_sem]) ?_
    refine (dropsIs l (.slice po nb pc) (.slice qo m qc) LW wr hs1 HBI.out hs3 (by rw [HLWM.out]; omega) (HT6.out.below hbr) HE0.out).mono ?_
    rintro e w' ⟨u, rfl, hb', o', hP, hs'⟩
    exact ⟨_, rfl, hb', ⟨u, rfl⟩, u, o', rfl, hP, hs'⟩
  rintro _ ⟨ut, rfl⟩
  simp only [Act.put, List.setIfInBounds_toArray, List.set_cons_succ, List.set_cons_zero]
  refine seq_new ⟨_, undef, rfl⟩ (by rfl) (fun wr hbr hH => ?_) ?_
  · have h4 := hH ⟨4, .data⟩ (by simp) rfl
    exact opOK_val (v := .tuple #[ut, .int .i64 0]) (w' := wr) (by simp [go_sem, execOp]) ⟨Below.refl _ _, ⟨ut, rfl⟩, h4⟩
  rintro _ ⟨um, rfl⟩
  simp only [Act.put, List.setIfInBounds_toArray, List.set_cons_succ, List.set_cons_zero]
  refine seq_new ⟨undef, trivial⟩ (by rfl) (fun wr hbr hH => ?_) ?_
  · obtain ⟨u, o', e1, hP, hs'⟩ := hH ⟨5, .data⟩ (by simp) rfl
    cases e1
    exact opOK_val (v := um) (w' := wr) (by simp [go_sem, execOp]) ⟨Below.refl _ _, trivial, o', hP, hs'⟩
  rintro ue -
  simp only [Act.put, List.setIfInBounds_toArray, List.set_cons_succ, List.set_cons_zero]
  refine seq_on (by rfl) (fun wr hbr _ => ?_) ?_
  · simp [opOK, go_sem, Below.refl]
    try exact rfl
  simp only [Act.put, List.setIfInBounds_toArray, List.set_cons_succ, List.set_cons_zero]
  refine seq_new ⟨undef, trivial⟩ (by rfl) (fun wr hbr hH => ?_) ?_
  · have h6 := hH ⟨6, .data⟩ (by simp) rfl
    exact opOK_val (v := ue) (w' := wr) (by simp [go_sem, execOp]) ⟨Below.refl _ _, trivial, h6⟩
  rintro ua -
  simp only [Act.put, List.setIfInBounds_toArray, List.set_cons_succ, List.set_cons_zero]
  refine seq_on (by rfl) (fun wr hbr _ => ?_) ?_
  · simp [opOK, go_sem, Below.refl]
    try exact rfl
  simp only [Act.put, List.setIfInBounds_toArray, List.set_cons_succ, List.set_cons_zero]
  refine seq_end fun w7 hb7 hH => ?_
  obtain ⟨DS, hD, hsl⟩ := hH 8 (by decide)
  obtain ⟨da, dc, rfl, hf1, hf2⟩ := hsl.form
  rw [List.length_map] at hsl hf1 ⊢
  obtain ⟨nd, hnd⟩ : ∃ n, DS.length = n := ⟨_, rfl⟩
  rw [hnd] at hsl hf1 ⊢
  have HNDM : Hid (nd ≤ 2 ^ 63 - 1) := Lib.hid (Nat.le_trans hf1 hf2)
  clear hf1 hf2
  have HDS := Lib.hid hD
  have HDSL := Lib.hid hsl
  have HND := Lib.hid hnd
  have hne := drops_ne hD HNT.out
  obtain ⟨x0, DT, hDT⟩ : ∃ x t, DS = x :: t := by
    cases DS with
    | nil => exact (hne rfl).elim
    | cons x t => exact ⟨x, t, rfl⟩
  have hx0 : DS[0]? = some x0 := by rw [hDT]; rfl
  have hm0 := (hD.mem x0).1 (by rw [hDT]; exact List.mem_cons_self ..)
  obtain ⟨D, hDl⟩ : ∃ n, x0.length = n := ⟨_, rfl⟩
  have HX0 := Lib.hid hx0
  have HM0 := Lib.hid hm0
  have HDL := Lib.hid hDl
  have HMN : Hid (D ≤ many) := Lib.hid (by
    rw [← hDl, ← HMANY.out]
    have h := hm0
    rw [← HLW.out] at h
    exact wrong_many HTR.out h)
  have HDM : Hid (D ≤ m) := Lib.hid (by
    rw [← hDl, ← HLWM.out]
    obtain ⟨⟨s, -, -, e⟩, -⟩ := hm0
    rw [e]; exact bits_len _ _)
  have hnd1 : 1 ≤ nd := by rw [← hnd, hDT]; simp
  have HND1 := Lib.hid hnd1
  have HB7 := Lib.hid (bThen HB6.out hb7)
  have HBS7 := Lib.hid (HBS6.out.below hb7)
  have HT7 := Lib.hid (HT6.out.below hb7)
  have HV7 := Lib.hid (HV6.out.below hb7)
  clear HB6 HBS6 HT6 HV6
  have c0 := bAt hb7 c0
  have c1 := bAt hb7 c1
  have c2 := bAt hb7 c2
  have c3 := bAt hb7 c3
  have c4 := bAt hb7 c4
  have c5 := bAt hb7 c5
  have c6 := bAt hb7 c6
  have l0 := bAt hb7 l0
  obtain ⟨eb, ef, u0, u0c, e0, hc0, hs0⟩ := sets_at hsl hx0
  cases e0
  rw [hDl, Nat.add_zero] at hc0
  rw [hDl] at hs0
  have HS0 := Lib.hid hs0
  clear hb7 hH hD hsl hnd hne hx0 hm0 hDl hs0 hDT
  have t1 : decide ((nd : Int) < 1) = false := decide_eq_false (by omega)
  have t2 : decide (nd < 1) = false := decide_eq_false (by omega)
  have hni : (0 : Int) < (nd : Int) := by omega
  have hmn := HMN.out
  have t3 : decide ((many : Int) < (D : Int)) = false := decide_eq_false (by omega)
  have t4 : decide (many < D) = false := decide_eq_false (by omega)
  clear hmn hnd1
  go_upto_region 7 with fail
  have HBE0 : Hid (Below w7.heap.size w7 w7) := Lib.hid (Below.refl _ _)
  clear t1 t2 t3 t4 hni
  go_wp2_with fail
  go_loopw [14] (fun iv wr => ∃ i : Nat, i ≤ nd ∧ iv = .int .i64 (i : Int) ∧ Hid (Below w7.heap.size w7 wr)) (fun iv _ => nd - (intOf iv).toNat)
  case atStart => exact ⟨0, by omega, by go_num, HBE0⟩
  case round =>
    clear HBE0
    obtain ⟨i, hi, rfl, HBr⟩ := hrel
    obtain ⟨wo, rfl⟩ : ∃ wo : World, wo = wr := ⟨_, rfl⟩
    have c0 := bAt HBr.out c0
    have c1 := bAt HBr.out c1
    have c2 := bAt HBr.out c2
    have c3 := bAt HBr.out c3
    have c4 := bAt HBr.out c4
    have c5 := bAt HBr.out c5
    have c6 := bAt HBr.out c6
    have l0 := bAt HBr.out l0
    have hc0 := bAt HBr.out hc0
    have HDSo := Lib.hid (HDSL.out.below HBr.out)
    have HBSo := Lib.hid (HBS7.out.below HBr.out)
    have HVo := Lib.hid (HV7.out.below HBr.out)
    by_cases hlt : i < nd
    · have hil : i < DS.length := by rw [HND.out]; exact hlt
      obtain ⟨x, hx⟩ : ∃ x, DS[i] = x := ⟨_, rfl⟩
      have hxa : DS[i]? = some x := by rw [List.getElem?_eq_getElem hil, hx]
      have hmx := (HDS.out.mem x).1 (List.mem_of_getElem? hxa)
      have hxl : x.length = D := by rw [← HDL.out]; exact MinS.len hmx HM0.out
      obtain ⟨eb2, ef2, ux, uxc, e1, hcx, hsx⟩ := sets_at HDSo.out hxa
      cases e1
      rw [hxl] at hcx hsx
      have HXL := Lib.hid hxl
      have HSX := Lib.hid hsx
      have HYES := Lib.hid (drop_yes hmx)
      have hni : (0 : Int) < (nd : Int) := by omega
      have hn0 : 0 < nd := by omega
      have hii : (i : Int) < (nd : Int) := by omega
      have hwi : IntKind.i64.wrap ((i : Int) + 1) = (i : Int) + 1 := wrap_small _ (by omega) (by have := HNDM.out; omega)
      clear hil hx hxa hmx hxl hsx
      go_upto_region 10 with fail
      refine wp_region_seqW (.is (.slice wa m wc) :: .is (.slice (some ⟨eb, ef, none⟩) nd dc) :: .is (.int .i64 (i : Int)) :: .is (.pointer (some ⟨eb, ef + i, none⟩)) :: .is (.slice ux D uxc) :: kTupB (pickL LW x) D :: kTupB (pickL LW x) D :: kAny :: .is (.bool true) :: kAny :: .is (.bool true) :: []) rfl mix (by kernel_rfl) (by kernel_rfl) ?_
      refine seq_on (by rfl) (fun wr hbr _ => ?_) ?_
      · have l0' := bAt hbr l0
        simp [opOK, go_sem, l0', Below.refl]
        try exact rfl
      simp only [Act.put, List.setIfInBounds_toArray, List.set_cons_succ, List.set_cons_zero]
      refine seq_on (by rfl) (fun wr hbr _ => ?_) ?_
      · simp [opOK, go_sem, Below.refl]
        try exact rfl
      simp only [Act.put, List.setIfInBounds_toArray, List.set_cons_succ, List.set_cons_zero]
      refine seq_on (by rfl) (fun wr hbr _ => ?_) ?_
      · simp [opOK, go_sem, Below.refl]
        try exact rfl
      simp only [Act.put, List.setIfInBounds_toArray, List.set_cons_succ, List.set_cons_zero]
      refine seq_on (by rfl) (fun wr hbr _ => ?_) ?_
      · simp [opOK, go_sem, hii, Below.refl]
        try exact rfl
      simp only [Act.put, List.setIfInBounds_toArray, List.set_cons_succ, List.set_cons_zero]
      refine seq_on (by rfl) (fun wr hbr _ => ?_) ?_
      · have hcx' := bAt hbr hcx
        simp [opOK, go_sem, hcx', Below.refl]
        try exact rfl
      simp only [Act.put, List.setIfInBounds_toArray, List.set_cons_succ, List.set_cons_zero]
      refine seq_new ⟨_, none, 0, rfl⟩ (by rfl) (fun wr hbr hH => ?_) ?_
      · refine opOK_call (f := 38) (args := #[.slice wa m wc, .slice ux D uxc, .int .i64 (-1)]) (by simp [go_sem]) ?_
        have hpf : pickF (-1) x = x := by unfold pickF; exact List.filter_eq_self.2 fun z _ => decide_eq_true (by omega)
        have hcall := pick_any LW x (-1) (.slice wa m wc) (.slice ux D uxc) wr (HVo.out.below hbr) (HSX.out.below hbr) HYES.out.2.1 HYES.out.2.2 (by rw [HXL.out]; have := HDM.out; omega)
        rw [hpf, HXL.out] at hcall
        refine hcall.mono ?_
        rintro e w' ⟨v', rfl, hb', ho'⟩
        obtain ⟨xa, y, rfl⟩ := owns_form ho'
        exact ⟨_, rfl, hb', ⟨xa, y, rfl⟩, xa, y, rfl, (rows_sl ho' (by unfold pickL; rw [List.length_map, HXL.out])).mono fun _ _ => trivial⟩
      rintro _ ⟨ya, yc, rfl⟩
      simp only [Act.put, List.setIfInBounds_toArray, List.set_cons_succ, List.set_cons_zero]
      refine seq_new ⟨_, none, 0, rfl⟩ (by rfl) (fun wr hbr hH => ?_) ?_
      · have h5 := hH ⟨5, .data⟩ (by simp) rfl
        exact opOK_val (v := .tuple #[.slice ya D yc, .bool true]) (w' := wr) (by simp [go_sem, execOp]) ⟨Below.refl _ _, ⟨ya, yc, rfl⟩, h5⟩
      rintro _ ⟨yb, yd, rfl⟩
      simp only [Act.put, List.setIfInBounds_toArray, List.set_cons_succ, List.set_cons_zero]
      refine seq_new ⟨undef, trivial⟩ (by rfl) (fun wr hbr hH => ?_) ?_
      · exact opOK_val (v := .slice yb D yd) (w' := wr) (by simp [go_sem, execOp]) ⟨Below.refl _ _, trivial, trivial⟩
      rintro sv1 -
      simp only [Act.put, List.setIfInBounds_toArray, List.set_cons_succ, List.set_cons_zero]
      refine seq_on (by rfl) (fun wr hbr _ => ?_) ?_
      · simp [opOK, go_sem, Below.refl]
        try exact rfl
      simp only [Act.put, List.setIfInBounds_toArray, List.set_cons_succ, List.set_cons_zero]
      refine seq_new ⟨undef, trivial⟩ (by rfl) (fun wr hbr hH => ?_) ?_
      · exact opOK_val (v := sv1) (w' := wr) (by simp [go_sem, execOp]) ⟨Below.refl _ _, trivial, trivial⟩
      rintro sv2 -
      simp only [Act.put, List.setIfInBounds_toArray, List.set_cons_succ, List.set_cons_zero]
      refine seq_on (by rfl) (fun wr hbr _ => ?_) ?_
      · simp [opOK, go_sem, Below.refl]
        try exact rfl
      simp only [Act.put, List.setIfInBounds_toArray, List.set_cons_succ, List.set_cons_zero]
      refine seq_end fun w8 hb8 hH => ?_
      have HB8 := Lib.hid (bThen HBr.out hb8)
      have HDS8 := Lib.hid (HDSo.out.below hb8)
      have HBS8 := Lib.hid (HBSo.out.below hb8)
      have HV8 := Lib.hid (HVo.out.below hb8)
      have HSX8 := Lib.hid (HSX.out.below hb8)
      have c0 := bAt hb8 c0
      have c1 := bAt hb8 c1
      have c2 := bAt hb8 c2
      have c3 := bAt hb8 c3
      have c4 := bAt hb8 c4
      have c5 := bAt hb8 c5
      have c6 := bAt hb8 c6
      have l0 := bAt hb8 l0
      have hc0 := bAt hb8 hc0
      have hcx := bAt hb8 hcx
      clear hb8 hH HDSo HBSo HVo HSX HBr
      obtain ⟨dl, hdl⟩ : ∃ n, (dropL LW x).length = n := ⟨_, rfl⟩
      have HDLN := Lib.hid hdl
      have HDL5 : Hid (dl ≤ 4) := Lib.hid (by rw [← hdl]; exact Nat.le_trans (dropL_len _ _) (by rw [HLWM.out]; exact hm5))
      clear hdl
      go_upto_region 11 with fail
      refine wp_region_seqW (.is (.agg #[.int .i64 l.start, .int .i64 l.gin, .int .i64 l.gout, .slice ba nb bc, .int .i64 l.players, .int .i64 l.turns, .bool l.won]) :: kOwnL l nb :: .is (.func (.func 39) #[] #[.pointer (some ⟨G, 0, none⟩)]) :: .is (.slice (some ⟨eb, ef, none⟩) nd dc) :: .is (.int .i64 (i : Int)) :: .is (.pointer (some ⟨eb, ef + i, none⟩)) :: .is (.slice ux D uxc) :: kTold (dropL LW x) dl :: kTup4 0 :: kTup4 0 :: kAny :: kAny :: kAny :: .is (.int .i64 0) :: kAny :: kAny :: kAny :: .is (.int .i64 0) :: []) rfl mix (by kernel_rfl) (by kernel_rfl) ?_
      refine seq_on (by rfl) (fun wr hbr _ => ?_) ?_
      · have c0' := bAt hbr c0
        have c1' := bAt hbr c1
        have c2' := bAt hbr c2
        have c3' := bAt hbr c3
        have c4' := bAt hbr c4
        have c5' := bAt hbr c5
        have c6' := bAt hbr c6
        simp [opOK, go_sem, c0', c1', c2', c3', c4', c5', c6', Below.refl]
        try exact rfl
      simp only [Act.put, List.setIfInBounds_toArray, List.set_cons_succ, List.set_cons_zero]
      refine seq_new ⟨_, none, 0, rfl⟩ (by rfl) (fun wr hbr hH => ?_) ?_
      · refine opOK_call (f := 14) (args := #[.agg #[.int .i64 l.start, .int .i64 l.gin, .int .i64 l.gout, .slice ba nb bc, .int .i64 l.players, .int .i64 l.turns, .bool l.won]]) (by simp [go_sem]) ?_
        refine (own_any l (.slice ba nb bc) wr (HBS8.out.below hbr) (by rw [HNL.out]; have := HN6.out; omega)).mono ?_
        rintro e w' ⟨bv', rfl, hb', hs'⟩
        obtain ⟨xa, y, rfl, -, -⟩ := hs'.form
        rw [ints_length, HNL.out] at hs' ⊢
        exact ⟨_, rfl, hb', ⟨xa, y, rfl⟩, xa, y, rfl, hs'.mono fun _ _ => trivial⟩
      rintro _ ⟨po, pc, rfl⟩
      simp only [Act.put, List.setIfInBounds_toArray, List.set_cons_succ, List.set_cons_zero]
      refine seq_on (by rfl) (fun wr hbr _ => ?_) ?_
      · simp [opOK, go_sem, Below.refl]
        try exact rfl
      simp only [Act.put, List.setIfInBounds_toArray, List.set_cons_succ, List.set_cons_zero]
      refine seq_on (by rfl) (fun wr hbr _ => ?_) ?_
      · simp [opOK, go_sem, Below.refl]
        try exact rfl
      simp only [Act.put, List.setIfInBounds_toArray, List.set_cons_succ, List.set_cons_zero]
      refine seq_on (by rfl) (fun wr hbr _ => ?_) ?_
      · simp [opOK, go_sem, Below.refl]
        try exact rfl
      simp only [Act.put, List.setIfInBounds_toArray, List.set_cons_succ, List.set_cons_zero]
      refine seq_on (by rfl) (fun wr hbr _ => ?_) ?_
      · simp [opOK, go_sem, hii, Below.refl]
        try exact rfl
      simp only [Act.put, List.setIfInBounds_toArray, List.set_cons_succ, List.set_cons_zero]
      refine seq_on (by rfl) (fun wr hbr _ => ?_) ?_
      · have hcx' := bAt hbr hcx
        simp [opOK, go_sem, hcx', Below.refl]
        try exact rfl
      simp only [Act.put, List.setIfInBounds_toArray, List.set_cons_succ, List.set_cons_zero]
      refine seq_new ⟨_, none, 0, rfl⟩ (by rfl) (fun wr hbr hH => ?_) ?_
      · refine opOK_call (f := 39) (args := #[.slice ux D uxc, .pointer (some ⟨G, 0, none⟩)]) (by simp [go_sem, execOp, resolve, Deferred.ofValue, invoke]) ?_
        refine (without_any LW x G (.slice wa m wc) (.slice ux D uxc) wr (bAt hbr l0) (HV8.out.below hbr) (HSX8.out.below hbr) (by rw [HLWM.out]; omega) (by rw [HXL.out]; have := HDM.out; omega)).mono ?_
        rintro e w' ⟨v', rfl, hb', ho'⟩
        rw [HDLN.out] at ho'
        obtain ⟨xa, y, rfl⟩ := owns_form ho'
        exact ⟨_, rfl, hb', ⟨xa, y, rfl⟩, xa, y, rfl, (rows_sl ho' HDLN.out).mono fun _ _ => trivial⟩
      rintro _ ⟨qo, qc, rfl⟩
      simp only [Act.put, List.setIfInBounds_toArray, List.set_cons_succ, List.set_cons_zero]
      refine seq_new ⟨_, undef, undef, undef, rfl⟩ (by rfl) (fun wr hbr hH => ?_) ?_
      · obtain ⟨xa, y, e1, hs1⟩ := hH ⟨1, .data⟩ (by simp) rfl
        cases e1
        obtain ⟨xb, yb, e3, hs3⟩ := hH ⟨7, .data⟩ (by simp) rfl
        cases e3
        refine opOK_call (f := 25) (args := #[legV l (.slice po nb pc), .slice qo dl qc]) (by simp [go_sem]) ?_
        refine (truth_ok l (.slice po nb pc) (.slice qo dl qc) (dropL LW x) n HTN.out wr hs1 HBI.out hs3 HCK.out (by rw [HDLN.out]; have := HDL5.out; omega) (fun r hr => HLWB.out r (dropL_sub r hr)) HYES.out.1).mono ?_
        rintro e w' ⟨g1, g2, g3, rfl, hb', -, -, -⟩
        exact ⟨_, rfl, hb', ⟨_, _, _, rfl⟩, trivial⟩
      rintro _ ⟨ta, tb, tc, rfl⟩
      simp only [Act.put, List.setIfInBounds_toArray, List.set_cons_succ, List.set_cons_zero]
      refine seq_new ⟨_, undef, undef, undef, rfl⟩ (by rfl) (fun wr hbr hH => ?_) ?_
      · exact opOK_val (v := .tuple #[ta, tb, tc, .int .i64 0]) (w' := wr) (by simp [go_sem, execOp]) ⟨Below.refl _ _, ⟨_, _, _, rfl⟩, trivial⟩
      rintro _ ⟨ta, tb, tc, rfl⟩
      simp only [Act.put, List.setIfInBounds_toArray, List.set_cons_succ, List.set_cons_zero]
      refine seq_new ⟨undef, trivial⟩ (by rfl) (fun wr hbr hH => ?_) ?_
      · exact opOK_val (v := ta) (w' := wr) (by simp [go_sem, execOp]) ⟨Below.refl _ _, trivial, trivial⟩
      rintro ua -
      simp only [Act.put, List.setIfInBounds_toArray, List.set_cons_succ, List.set_cons_zero]
      refine seq_new ⟨undef, trivial⟩ (by rfl) (fun wr hbr hH => ?_) ?_
      · exact opOK_val (v := tb) (w' := wr) (by simp [go_sem, execOp]) ⟨Below.refl _ _, trivial, trivial⟩
      rintro ub -
      simp only [Act.put, List.setIfInBounds_toArray, List.set_cons_succ, List.set_cons_zero]
      refine seq_new ⟨undef, trivial⟩ (by rfl) (fun wr hbr hH => ?_) ?_
      · exact opOK_val (v := tc) (w' := wr) (by simp [go_sem, execOp]) ⟨Below.refl _ _, trivial, trivial⟩
      rintro uc -
      simp only [Act.put, List.setIfInBounds_toArray, List.set_cons_succ, List.set_cons_zero]
      refine seq_on (by rfl) (fun wr hbr _ => ?_) ?_
      · simp [opOK, go_sem, Below.refl]
        try exact rfl
      simp only [Act.put, List.setIfInBounds_toArray, List.set_cons_succ, List.set_cons_zero]
      refine seq_new ⟨undef, trivial⟩ (by rfl) (fun wr hbr hH => ?_) ?_
      · exact opOK_val (v := ua) (w' := wr) (by simp [go_sem, execOp]) ⟨Below.refl _ _, trivial, trivial⟩
      rintro va -
      simp only [Act.put, List.setIfInBounds_toArray, List.set_cons_succ, List.set_cons_zero]
      refine seq_new ⟨undef, trivial⟩ (by rfl) (fun wr hbr hH => ?_) ?_
      · exact opOK_val (v := ub) (w' := wr) (by simp [go_sem, execOp]) ⟨Below.refl _ _, trivial, trivial⟩
      rintro vb -
      simp only [Act.put, List.setIfInBounds_toArray, List.set_cons_succ, List.set_cons_zero]
      refine seq_new ⟨undef, trivial⟩ (by rfl) (fun wr hbr hH => ?_) ?_
      · exact opOK_val (v := uc) (w' := wr) (by simp [go_sem, execOp]) ⟨Below.refl _ _, trivial, trivial⟩
      rintro vc -
      simp only [Act.put, List.setIfInBounds_toArray, List.set_cons_succ, List.set_cons_zero]
      refine seq_on (by rfl) (fun wr hbr _ => ?_) ?_
      · simp [opOK, go_sem, Below.refl]
        try exact rfl
      simp only [Act.put, List.setIfInBounds_toArray, List.set_cons_succ, List.set_cons_zero]
      refine seq_end fun w9 hb9 hH => ?_
      have HB9 := Lib.hid (bThen HB8.out hb9)
      have c0 := bAt hb9 c0
      have c1 := bAt hb9 c1
      have c2 := bAt hb9 c2
      have c3 := bAt hb9 c3
      have c4 := bAt hb9 c4
      have c5 := bAt hb9 c5
      have c6 := bAt hb9 c6
      have l0 := bAt hb9 l0
      have hc0 := bAt hb9 hc0
      have hcx := bAt hb9 hcx
      clear hb9 hH HDS8 HBS8 HV8 HSX8 HB8
      go_upto_region 12 with fail
      refine wp_region_seqW (.is (.bool true) :: .is (.bool false) :: .is (.bool false) :: .is (.int .i64 0) :: .is (.bool false) :: .is (.bool false) :: .is (.bool false) :: .is (.slice (some ⟨eb, ef, none⟩) nd dc) :: .is (.int .i64 (i : Int)) :: .is (.pointer (some ⟨eb, ef + i, none⟩)) :: .is (.slice ux D uxc) :: .is (.int .i64 (D : Int)) :: .is (.slice (some ⟨eb, ef, none⟩) nd dc) :: .is (.pointer (some ⟨eb, ef, none⟩)) :: .is (.slice u0 D u0c) :: .is (.int .i64 (D : Int)) :: .is (.bool false) :: .is (.bool false) :: []) rfl mix (by kernel_rfl) (by kernel_rfl) ?_
      iterate 18
        refine seq_on (by rfl) (fun wr hbr _ => ?_) ?_
        · have hc0' := bAt hbr hc0
          have hcx' := bAt hbr hcx
          simp [opOK, go_sem, hc0', hcx', hii, hn0, Below.refl]
          try exact rfl
        simp only [Act.put, List.setIfInBounds_toArray, List.set_cons_succ, List.set_cons_zero]
      refine seq_end fun wA hbA hH => ?_
      have HBA := Lib.hid (bThen HB9.out hbA)
      clear hbA hH hc0 hcx c0 c1 c2 c3 c4 c5 c6 l0
      go_wp2_with fail
      go_roundw
      case rel => exact ⟨i + 1, by omega, by go_num, HBA⟩
      case measure => simp [intOf]; omega
    · obtain rfl : i = nd := by omega
      have HTo := Lib.hid (HT7.out.below HBr.out)
      have HS0o := Lib.hid (HS0.out.below HBr.out)
      obtain ⟨B, hB⟩ : ∃ B, wo.heap.size = B := ⟨_, rfl⟩
      obtain ⟨wf, hwf⟩ : ∃ y, wo.alloc (.cells #[] 3) = y := ⟨_, rfl⟩
      have hbf : Below wo.heap.size wo wf := by rw [← hwf]; exact aB _ _
      have kf : wf.heap[B]? = some (.cells #[] 3 (0, 0)) := by rw [← hwf, ← hB]; exact World.alloc_heap_new _ _
      have HB := Lib.hid hB
      have HWF := Lib.hid hwf
      have HFR0 : Hid (wf.ownsRow B 3 1 (.slice (some ⟨B, 0, none⟩) 0 0) 0 (ints (nInts (fewL so D 0)))) := Lib.hid (own_empty kf (Nat.le_refl _))
      have HBF : Hid (Below B wo wf) := Lib.hid (by rw [← hB]; exact hbf)
      clear hB hwf hbf kf HDSo HBSo HVo
      go_upto_region 15 with fail
      rw [HWF.out, HB.out]
      go_wp2_with fail
      go_loopw [21, 22] (fun fv jv wr => ∃ (j : Nat) (fl : Nat), j ≤ m ∧ jv = .int .i64 (j : Int) ∧ fl ≤ j ∧ Hid ((fewL so D j).length = fl) ∧ Hid (wr.ownsRow B 3 1 fv fl (ints (nInts (fewL so D j)))) ∧ Hid (Below B wo wr)) (fun _ jv _ => m - (intOf jv).toNat)
      case atStart => exact ⟨0, 0, by omega, by go_num, by omega, Lib.hid rfl, HFR0, HBF⟩
      case round =>
        clear HFR0 HBF
        obtain ⟨j, fl, hj, rfl, hfl, HFL, HFR, HBw⟩ := hrel
        obtain ⟨wt, rfl⟩ : ∃ wt : World, wt = wr := ⟨_, rfl⟩
        obtain ⟨fa, fc, hfv⟩ := owns_form HFR.out
        subst hfv
        have hbw : Below wo.heap.size wo wt := by rw [HB.out]; exact HBw.out
        have HBww := Lib.hid hbw
        have c0 := bAt hbw c0
        have c1 := bAt hbw c1
        have c2 := bAt hbw c2
        have c3 := bAt hbw c3
        have c4 := bAt hbw c4
        have c5 := bAt hbw c5
        have c6 := bAt hbw c6
        have l0 := bAt hbw l0
        have hc0 := bAt hbw hc0
        clear hbw
        by_cases hjm : j < m
        · have hji : (j : Int) < (m : Int) := by omega
          have hni : (0 : Int) < (i : Int) := by have := HND1.out; omega
          have hwj : IntKind.i64.wrap ((j : Int) + 1) = (j : Int) + 1 := wrap_small _ (by omega) (by omega)
          obtain ⟨b, hb⟩ : ∃ b, so.testBit j = b := ⟨_, rfl⟩
          have hbit : (bits BinOp.and IntKind.u8 ((so : Int) / 2 ^ j) 1 == 1) = b := by rw [← hb]; exact bit8 ⟨so, HSO.out⟩ ⟨j, by omega⟩
          have hDm := HDM.out
          have wD : IntKind.i64.wrap ((D : Int) - 1) = (D : Int) - 1 := wrap_small _ (by omega) (by omega)
          have HBIT := Lib.hid hb
          have HHJ : Hid (j < 4) := Lib.hid (by omega)
          clear hDm hb
          cases b
          · have HFL2 : Hid ((fewL so D (j + 1)).length = fl) := Lib.hid (by
              have e : fewL so D (j + 1) = fewL so D j := by rw [fewL]; exact if_neg (by rintro ⟨h, -⟩; rw [HBIT.out] at h; cases h)
              rw [e]; exact HFL.out)
            have HFR2 : Hid (wt.ownsRow B 3 1 (.slice fa fl fc) fl (ints (nInts (fewL so D (j + 1))))) := Lib.hid (by
              have e : fewL so D (j + 1) = fewL so D j := by rw [fewL]; exact if_neg (by rintro ⟨h, -⟩; rw [HBIT.out] at h; cases h)
              rw [e]; exact HFR.out)
            clear HFL HFR hc0 c0 c1 c2 c3 c4 c5 c6
            go_wp2_with fail
            go_roundw
            case rel => exact ⟨j + 1, fl, by omega, by go_num, by omega, HFL2, HFR2, HBw⟩
            case measure => simp [intOf]; omega
          · by_cases hfd : fl + 1 < D
            · have q1 : decide ((fl : Int) < (D : Int) - 1) = true := decide_eq_true (by omega)
              have HE : Hid (fewL so D (j + 1) = fewL so D j ++ [j]) := Lib.hid (by rw [fewL]; exact if_pos ⟨HBIT.out, by rw [HFL.out]; exact hfd⟩)
              have hf9 : fl + 1 ≤ 100000 := by omega
              have HBle : Hid (B ≤ wt.heap.size) := Lib.hid (by rw [← HB.out]; exact HBww.out.size)
              clear hfd
              go_wp2_with (at_builtin; refine wpList_append1 rfl (.tmp 134) (.tmp 136) 35 rfl B 3 (.int .i64 0) 8 Tryz.underlying35 info_i5 rfl (.slice fa fl fc) fl _ rfl (HFR.out.alloc _) wt.heap.size 0 1 (.int .i64 (j : Int)) rfl (cell_new _ _ _) rfl hf9 (by decide) (by have := HBle.out; simp; omega) ?_)
              intro g9 c9 w9 ho9 hg9 hat9
              have hb9 : Below wt.heap.size wt (wt.alloc (.cells #[.int .i64 (j : Int)] 3)) := aB _ _
              have HFL2 : Hid ((fewL so D (j + 1)).length = fl + 1) := Lib.hid (by rw [HE.out, List.length_append, HFL.out]; rfl)
              have HFR2 : Hid (w9.ownsRow B 3 1 (.slice (some ⟨g9, 0, none⟩) (fl + 1) c9) (fl + 1) (ints (nInts (fewL so D (j + 1))))) := Lib.hid (by
                rw [HE.out]
                have e : ints (nInts (fewL so D j ++ [j])) = ints (nInts (fewL so D j)) ++ [.int .i64 (j : Int)] := by simp [ints, nInts]
                rw [e]; exact ho9)
              have HBw2 : Hid (Below B wo w9) := Lib.hid ((HBw.out.trans (hb9.mono HBle.out)).trans (below_grownBy hg9 (Nat.le_trans HBle.out hb9.size) (fun q hq => (HFR.out.lt q hq).1)))
              clear ho9 hg9 hat9 hb9 HFL HFR HBw HBww hc0 c0 c1 c2 c3 c4 c5 c6 l0
              go_wp2_with fail
              go_roundw
              case rel => exact ⟨j + 1, fl + 1, by omega, by go_num, by omega, HFL2, HFR2, HBw2⟩
              case measure => simp [intOf]; omega
            · have q1 : decide ((fl : Int) < (D : Int) - 1) = false := decide_eq_false (by omega)
              have HE : Hid (fewL so D (j + 1) = fewL so D j) := Lib.hid (by rw [fewL]; exact if_neg (by rintro ⟨-, h⟩; rw [HFL.out] at h; exact hfd h))
              have HFL2 : Hid ((fewL so D (j + 1)).length = fl) := Lib.hid (by rw [HE.out]; exact HFL.out)
              have HFR2 : Hid (wt.ownsRow B 3 1 (.slice fa fl fc) fl (ints (nInts (fewL so D (j + 1))))) := Lib.hid (by rw [HE.out]; exact HFR.out)
              clear HFL HFR hfd c0 c1 c2 c3 c4 c5 c6
              go_wp2_with fail
              go_roundw
              case rel => exact ⟨j + 1, fl, by omega, by go_num, by omega, HFL2, HFR2, HBw⟩
              case measure => simp [intOf]; omega
        · obtain rfl : j = m := by omega
          have HTt := Lib.hid (HTo.out.below HBww.out)
          have HBt := Lib.hid (bThen (bThen HB7.out HBr.out) HBww.out)
          have HBS8 := Lib.hid ((HBS7.out.below HBr.out).below HBww.out)
          have HV8 := Lib.hid ((HV7.out.below HBr.out).below HBww.out)
          have hni : (0 : Int) < (i : Int) := by have := HND1.out; omega
          by_cases hD0 : 0 < D
          · have q1 : decide ((0 : Int) < (D : Int)) = true := decide_eq_true (by omega)
            have q2 : decide (0 < D) = true := decide_eq_true hD0
            have HNO : Hid (¬ HasTruth l (allS (dropL LW (fewL so D j)))) := Lib.hid (by
              have h := right_few HM0.out (by rw [HDL.out]; exact hD0) so
              rw [HDL.out, HLWM.out] at h; exact h)
            obtain ⟨FW, hFW⟩ : ∃ y, fewL so D j = y := ⟨_, rfl⟩
            rw [hFW] at HNO HFR HFL
            obtain ⟨dl, hdl⟩ : ∃ n, (dropL LW FW).length = n := ⟨_, rfl⟩
            have HDLN := Lib.hid hdl
            have HDL5 : Hid (dl ≤ 4) := Lib.hid (by rw [← hdl]; exact Nat.le_trans (dropL_len _ _) (by rw [HLWM.out]; exact hm5))
            have HSF : Hid (Sl (fun q => B ≤ q) wt (.slice fa fl fc) (ints (nInts FW))) := Lib.hid (Sl.of_owns HFR.out)
            clear hFW hdl hD0 HFR
            go_upto_region 21 with fail
            clear q1 q2 hni hc0
            go_wp2_with fail
            have hcall := own_any l (.slice ba nb bc) wt HBS8.out (by rw [HNL.out]; have := HN6.out; omega)
            unfold legV legA at hcall
            refine hcall.mono ?_
            rintro e w8 ⟨bv8, rfl, hb8, hs8⟩
            clear hcall
            obtain ⟨po, pc, rfl, -, -⟩ := hs8.form
            rw [ints_length, HNL.out] at hs8 ⊢
            have HBO8 := Lib.hid hs8
            have HT8 := Lib.hid (HTt.out.below hb8)
            have HB8 := Lib.hid (bThen HBt.out hb8)
            have HV8 := Lib.hid (HV8.out.below hb8)
            have HSF8 := Lib.hid (HSF.out.below hb8)
            have l0 := bAt hb8 l0
            clear hb8 hs8 HTt HBt HSF HBS8 c0 c1 c2 c3 c4 c5 c6
            go_wp2_with fail
            refine (without_any LW FW G (.slice wa j wc) (.slice fa fl fc) w8 l0 HV8.out HSF8.out (by rw [HLWM.out]; omega) (by rw [HFL.out]; omega)).mono ?_
            rintro e w9 ⟨v9, rfl, hb9, ho9⟩
            rw [HDLN.out] at ho9
            obtain ⟨qo, qc, rfl⟩ := owns_form ho9
            have HQ9 := Lib.hid (rows_sl ho9 HDLN.out)
            have HBO9 := Lib.hid (HBO8.out.below hb9)
            have HT9 := Lib.hid (HT8.out.below hb9)
            have HB9 := Lib.hid (bThen HB8.out hb9)
            clear hb9 ho9 HBO8 HT8 HB8 HV8 HSF8 l0
            go_wp2_with fail
            have hcall := truth_no l (.slice po nb pc) (.slice qo dl qc) (dropL LW FW) w9 HBO9.out HBI.out HQ9.out HCK.out (by rw [HDLN.out]; have := HDL5.out; omega) (fun r hr => HLWB.out r (dropL_sub r hr)) HNO.out
            unfold legV legA at hcall
            refine hcall.mono ?_
            rintro e wA ⟨rfl, hbA⟩
            clear hcall
            have HTA := Lib.hid (HT9.out.below hbA)
            have HBA := Lib.hid (bThen HB9.out hbA)
            clear hbA HT9 HB9 HQ9 HBO9
            go_wp2_with fail
            refine (known_any wA HTA.out).mono ?_
            rintro e wz ⟨rfl, hbz⟩
            have HBZ := Lib.hid (bThen HBA.out hbz)
            clear hbz
            go_wp2
            go_returns
            exact ⟨rfl, HBZ.out⟩
          · have q1 : decide ((0 : Int) < (D : Int)) = false := decide_eq_false (by omega)
            have q2 : decide (0 < D) = false := decide_eq_false hD0
            clear hD0 HFR HFL c0 c1 c2 c3 c4 c5 c6
            go_wp2_with fail
            refine (known_any wt HTt.out).mono ?_
            rintro e wz ⟨rfl, hbz⟩
            have HBZ := Lib.hid (bThen HBt.out hbz)
            clear hbz
            go_wp2
            go_returns
            exact ⟨rfl, HBZ.out⟩
end Go.Proofs.YtpfpjbglpibdoaaGreatDoor

/- Chapter 5: an argument that is a thrown leg in bytes. -/
namespace Go.Proofs.YtpfpjbglpibdoaaGreatDoor
open Go.RowKit Go.Oche Go.Proofs Go.ChangeShapes Go.WideShapes Go.ChangeAt Go.Deep
section
variable {H : Type} {enc : TypeId × Value → H} {W : World} {base : Nat} {spare : Nat → Bool} {held : Bool} {n : Nat} {v : Value} {x : DataW H × List MemPlace}
theorem open_u8h (h : DataW.trod enc Tryz.prog W base spare held n 5 [v] = some x) : ∃ z, v = .int .u8 z ∧ 0 ≤ z ∧ z < 256 := by
  obtain ⟨z, hz, _, hw⟩ := DataW.trod_int Tryz.underlying5 h
  simp only [List.cons.injEq, and_true] at hz
  have := wf_u8 hw
  exact ⟨z, hz, by omega, by omega⟩
theorem open_u16h (h : DataW.trod enc Tryz.prog W base spare held n 73 [v] = some x) : ∃ z, v = .int .u16 z ∧ 0 ≤ z ∧ z < 65536 := by
  obtain ⟨z, hz, _, hw⟩ := DataW.trod_int Tryz.underlying73 h
  simp only [List.cons.injEq, and_true] at hz
  have := wf_u16 hw
  exact ⟨z, hz, by omega, by omega⟩
theorem open_u8s (h : DataW.trod enc Tryz.prog W base spare held n 74 [v] = some x) : ∃ xs : List Int, Sl (fun _ => True) W v (u8s xs) ∧ Bytes xs := by
  obtain ⟨xs, h1, h2⟩ := open_nums Tryz.underlying74 Tryz.underlying5 (by kernel_rfl) h
  exact ⟨xs, h1, fun b hb => by have := wf_u8 (h2 b hb); omega⟩
set_option maxRecDepth 100000 in
theorem open_thrown {r : Reach} {b0 : Nat} {d : DataW H} {p : List MemPlace} (hv : Value.okWide Tryz.prog W r b0 76 v) (h : DataW.Trod enc Tryz.prog W base spare held 76 v d p) :
    ∃ (y : Thr) (dv sv : Value), v = thrV y dv sv ∧ ThrOk y ∧ Sl (fun _ => True) W dv (u8s y.darts) ∧ Sl (fun _ => True) W sv (u8s y.said) := by
  obtain ⟨cs, rfl, hsz⟩ := okWide_struct Tryz.underlying76 hv
  obtain ⟨fuel, hf⟩ := h
  obtain ⟨xs, n, _, _, hl, hlen, hfs⟩ := DataW.trod_struct Tryz.underlying76 hf
  have k0 : Tryz.prog.cellsOf 76 = 7 := by kernel_rfl
  have k1 : Tryz.prog.cellsOf 5 = 1 := by kernel_rfl
  have k2 : Tryz.prog.cellsOf 73 = 1 := by kernel_rfl
  have k3 : Tryz.prog.cellsOf 74 = 1 := by kernel_rfl
  obtain ⟨l0⟩ := cs
  have hl7 : l0.length = 7 := by rw [k0] at hl; exact hl
  obtain ⟨u0, u1, u2, u3, u4, u5, u6, rfl⟩ := list_seven hl7
  match xs, hlen with
  | [y0, y1, y2, y3, y4, y5, y6], _ =>
    have h0 : DataW.trod enc Tryz.prog W base spare held n 5 (([u0, u1, u2, u3, u4, u5, u6].drop 0).take (Tryz.prog.cellsOf 5)) = some y0 := hfs 0 _ rfl
    have h1 : DataW.trod enc Tryz.prog W base spare held n 5 (([u0, u1, u2, u3, u4, u5, u6].drop 1).take (Tryz.prog.cellsOf 5)) = some y1 := hfs 1 _ rfl
    have h2 : DataW.trod enc Tryz.prog W base spare held n 5 (([u0, u1, u2, u3, u4, u5, u6].drop 2).take (Tryz.prog.cellsOf 5)) = some y2 := hfs 2 _ rfl
    have h3 : DataW.trod enc Tryz.prog W base spare held n 5 (([u0, u1, u2, u3, u4, u5, u6].drop 3).take (Tryz.prog.cellsOf 5)) = some y3 := hfs 3 _ rfl
    have h4 : DataW.trod enc Tryz.prog W base spare held n 73 (([u0, u1, u2, u3, u4, u5, u6].drop 4).take (Tryz.prog.cellsOf 73)) = some y4 := hfs 4 _ rfl
    have h5 : DataW.trod enc Tryz.prog W base spare held n 74 (([u0, u1, u2, u3, u4, u5, u6].drop 5).take (Tryz.prog.cellsOf 74)) = some y5 := hfs 5 _ rfl
    have h6 : DataW.trod enc Tryz.prog W base spare held n 74 (([u0, u1, u2, u3, u4, u5, u6].drop 6).take (Tryz.prog.cellsOf 74)) = some y6 := hfs 6 _ rfl
    rw [k1] at h0 h1 h2 h3
    rw [k2] at h4
    rw [k3] at h5 h6
    obtain ⟨a, rfl, ha⟩ := open_u8h (show DataW.trod enc Tryz.prog W base spare held n 5 [u0] = some y0 from h0)
    obtain ⟨b, rfl, hb⟩ := open_u8h (show DataW.trod enc Tryz.prog W base spare held n 5 [u1] = some y1 from h1)
    obtain ⟨c, rfl, hc⟩ := open_u8h (show DataW.trod enc Tryz.prog W base spare held n 5 [u2] = some y2 from h2)
    obtain ⟨e, rfl, he⟩ := open_u8h (show DataW.trod enc Tryz.prog W base spare held n 5 [u3] = some y3 from h3)
    obtain ⟨f, rfl, hf1⟩ := open_u16h (show DataW.trod enc Tryz.prog W base spare held n 73 [u4] = some y4 from h4)
    obtain ⟨ds, hd1, hd2⟩ := open_u8s (show DataW.trod enc Tryz.prog W base spare held n 74 [u5] = some y5 from h5)
    obtain ⟨ss, hs1, hs2⟩ := open_u8s (show DataW.trod enc Tryz.prog W base spare held n 74 [u6] = some y6 from h6)
    refine ⟨⟨a, b, c, e, f.toNat, ds, ss⟩, u5, u6, ?_, ⟨ha, hb, hc, he, by show f.toNat < 65536; omega, hd2, hs2⟩, hd1, hs1⟩
    unfold thrV
    simp only
    rw [Int.toNat_of_nonneg hf1.1]
end
end Go.Proofs.YtpfpjbglpibdoaaGreatDoor
