/- The texts QF, in build order. -/
import Derived.Test.YtpfpjbglpibdoaaGreatDoorZay

/- Chapter 5: HeardTruths, the walk. -/
namespace Go.Proofs.YtpfpjbglpibdoaaGreatDoor
open Go Go.RowKit Go.Oche Go.Proofs

set_option maxRecDepth 100000 in
set_option maxHeartbeats 40000000 in
theorem heardTruths_any {S S' : Nat → Prop} (x : Thr) (hx : ThrOk x) (dv sv : Value) (w : World) (hd : Sl S w dv (u8s x.darts)) (hs : Sl S' w sv (u8s x.said)) (hT : Tab5 w) :
    Calls Tryz.prog 7 #[thrV x dv sv] w fun e w' => e = .returned (.bool true) ∧ Below w.heap.size w w' := by
  obtain ⟨a, cap, rfl, -, -⟩ := hd.form
  obtain ⟨a', cap', rfl, -, -⟩ := hs.form
  have hdl : (u8s x.darts).length = x.darts.length := List.length_map ..
  have hsl : (u8s x.said).length = x.said.length := List.length_map ..
  rw [hdl] at hd ⊢
  rw [hsl] at hs ⊢
  obtain ⟨dl, hdl2⟩ : ∃ n, x.darts.length = n := ⟨_, rfl⟩
  obtain ⟨sl, hsl2⟩ : ∃ n, x.said.length = n := ⟨_, rfl⟩
  rw [hdl2] at hd ⊢
  rw [hsl2] at hs ⊢
  obtain ⟨N, hN⟩ : ∃ N, w.heap.size = N := ⟨_, rfl⟩
  obtain ⟨w1, hw1⟩ : ∃ y, w.alloc (.cells #[.int .u8 x.st, .int .u8 x.inn, .int .u8 x.out, .int .u8 x.pl, .int .u16 (x.which : Int), .slice a dl cap, .slice a' sl cap'] 76) = y := ⟨_, rfl⟩
  have hb1 : Below w.heap.size w w1 := by rw [← hw1]; exact aB _ _
  have k : w1.heap[N]? = some (.cells #[.int .u8 x.st, .int .u8 x.inn, .int .u8 x.out, .int .u8 x.pl, .int .u16 (x.which : Int), .slice a dl cap, .slice a' sl cap'] 76 (0, 0)) := by rw [← hw1, ← hN]; exact World.alloc_heap_new _ _
  have x0 : w1.cell? ⟨N, 0, none⟩ = some (.int .u8 x.st) := by rw [cell_of_heap k]; rfl
  have x1 : w1.cell? ⟨N, 1, none⟩ = some (.int .u8 x.inn) := by rw [cell_of_heap k]; rfl
  have x2 : w1.cell? ⟨N, 2, none⟩ = some (.int .u8 x.out) := by rw [cell_of_heap k]; rfl
  have x3 : w1.cell? ⟨N, 3, none⟩ = some (.int .u8 x.pl) := by rw [cell_of_heap k]; rfl
  have x4 : w1.cell? ⟨N, 4, none⟩ = some (.int .u16 (x.which : Int)) := by rw [cell_of_heap k]; rfl
  have x5 : w1.cell? ⟨N, 5, none⟩ = some (.slice a dl cap) := by rw [cell_of_heap k]; rfl
  have x6 : w1.cell? ⟨N, 6, none⟩ = some (.slice a' sl cap') := by rw [cell_of_heap k]; rfl
  have HD := Lib.hid (hd.below hb1)
  have HS := Lib.hid (hs.below hb1)
  have HB := Lib.hid hb1
  have HT := Lib.hid (hT.below hb1)
  have HW := Lib.hid hw1
  have HN := Lib.hid hN
  have HX := Lib.hid hx
  unfold thrV
  clear hd hs hb1 hw1 hN k hx hT hdl hsl hdl2 hsl2
  obtain ⟨l, hl⟩ : ∃ l, legT x 5 = l := ⟨_, rfl⟩
  obtain ⟨F, hF⟩ : ∃ F, playX x 5 = F := ⟨_, rfl⟩
  obtain ⟨list, hli⟩ : ∃ y, repsL x 5 = y := ⟨_, rfl⟩
  obtain ⟨n, hn⟩ : ∃ n, F.out.length = n := ⟨_, rfl⟩
  obtain ⟨nb, hnb⟩ : ∃ n, (bedsOf x.which).length = n := ⟨_, rfl⟩
  obtain ⟨m, hm⟩ : ∃ n, list.length = n := ⟨_, rfl⟩
  have hrl : repsN x.said F.out F.out.length = list := by rw [← hli, ← hF]; rfl
  have hbd := legT_bd x 5
  rw [hl] at hbd
  have HBD := Lib.hid hbd
  have HTN : Hid (l.turns = (n : Int)) := Lib.hid (by rw [← hl, legT_turns, hF, hn])
  have HBE : Hid (l.beds = bedsOf x.which) := Lib.hid (by rw [← hl]; rfl)
  have HCK : Hid (checkL l = 0) := Lib.hid (by rw [← hl]; exact legT_check x (by omega))
  have HBI : Hid (BedsIn l) := Lib.hid (by rw [← hl]; exact legT_in x 5)
  have HGB : Hid (GoodBeds l) := Lib.hid (by rw [← hl]; exact legT_good x 5)
  have htt := thrown_truth x 5
  rw [hl, hF, hli] at htt
  have HTR : Hid (HasTruth l (allS list)) := Lib.hid htt.1
  have hin := thrown_in x 5 (list := list) (by rw [hl]; exact htt.1) (by rw [hl, hF]; exact htt.2)
  rw [hl, hF] at hin
  have HIN := Lib.hid hin
  have hro := repsL_ok x 5 (by omega)
  rw [hli] at hro
  have HLB : Hid (∀ r ∈ list, badR l.turns r = false) := Lib.hid (by have h := hro.bad; rw [hl] at h; exact h)
  have hm5 : m ≤ 5 := by rw [← hm, ← hli]; exact repsL_len x 5
  have hn5 : n ≤ 5 := by rw [← hn, ← hF]; exact playX_len x 5
  have HM := Lib.hid hm
  have HNN := Lib.hid hn
  have HNB := Lib.hid hnb
  have HRL := Lib.hid hrl
  have HN6 : Hid (nb ≤ 6) := Lib.hid (by rw [← hnb]; exact bedsOf_len _)
  clear hbd htt hin hro hli hrl
  go_enter Tryz.func7, Tryz.ntmps7
  go_upto_region 1 with fail
  rw [HW.out, HN.out]
  go_wp2_with fail
  have hcall := play_any x HX.out (.slice a dl cap) (.slice a' sl cap') 5 (by omega) w1 HD.out HS.out
  unfold thrV at hcall
  rw [hl, hF, hn, hnb] at hcall
  refine hcall.mono ?_
  rintro e w2 ⟨bv, ov, rfl, hb2, hob, hoo⟩
  clear hcall hl hF hn hnb hm
  obtain ⟨ba, bc, rfl⟩ := owns_form hob
  obtain ⟨oa, oc, rfl⟩ := owns_form hoo
  have HB2 := Lib.hid (bThen HB.out hb2)
  have HBS2 : Hid (Sl (fun q => w1.heap.size ≤ q) w2 (.slice ba nb bc) (ints l.beds)) := Lib.hid (by rw [HBE.out]; exact Sl.of_owns hob)
  have HO2 : Hid (SlN 3 (fun q => w1.heap.size ≤ q) w2 (.slice oa n oc) (F.out.map visRw)) := Lib.hid (SlN.of_ownsN (by rw [List.length_map, HNN.out]; exact hoo) (fun r hr => by obtain ⟨sp, _, rfl⟩ := List.mem_map.1 hr; rfl))
  have HT2 := Lib.hid (HT.out.below hb2)
  have HSS2 := Lib.hid (HS.out.below hb2)
  have HDD2 := Lib.hid (HD.out.below hb2)
  have x0 := bAt hb2 x0
  have x1 := bAt hb2 x1
  have x2 := bAt hb2 x2
  have x3 := bAt hb2 x3
  have x4 := bAt hb2 x4
  have x5 := bAt hb2 x5
  have x6 := bAt hb2 x6
  obtain ⟨K, hK⟩ : ∃ K, w2.heap.size = K := ⟨_, rfl⟩
  obtain ⟨w3, hw3⟩ : ∃ y, w2.alloc (.cells #[.int .i64 l.start, .int .i64 l.gin, .int .i64 l.gout, .slice ba nb bc, .int .i64 l.players, .int .i64 l.turns, .bool l.won] 27) = y := ⟨_, rfl⟩
  have hb3 : Below w2.heap.size w2 w3 := by rw [← hw3]; exact aB _ _
  have k3 : w3.heap[K]? = some (.cells #[.int .i64 l.start, .int .i64 l.gin, .int .i64 l.gout, .slice ba nb bc, .int .i64 l.players, .int .i64 l.turns, .bool l.won] 27 (0, 0)) := by rw [← hw3, ← hK]; exact World.alloc_heap_new _ _
  have HK := Lib.hid hK
  have HW3 := Lib.hid hw3
  have HB3 := Lib.hid (bThen HB2.out hb3)
  have HBS3 := Lib.hid (HBS2.out.below hb3)
  have HO3 := Lib.hid (HO2.out.below hb3)
  have HT3 := Lib.hid (HT2.out.below hb3)
  have HSS3 := Lib.hid (HSS2.out.below hb3)
  have HDD3 := Lib.hid (HDD2.out.below hb3)
  have hb3' := hb3
  clear hb2 hob hoo hw3 hK hb3
  unfold legV legA
  go_upto_region 2 with fail
  rw [HW3.out, HK.out]
  have x0 := bAt hb3' x0
  have x1 := bAt hb3' x1
  have x2 := bAt hb3' x2
  have x3 := bAt hb3' x3
  have x4 := bAt hb3' x4
  have x5 := bAt hb3' x5
  have x6 := bAt hb3' x6
  have c0 : w3.cell? ⟨K, 0, none⟩ = some (.int .i64 l.start) := by rw [cell_of_heap k3]; rfl
  have c1 : w3.cell? ⟨K, 1, none⟩ = some (.int .i64 l.gin) := by rw [cell_of_heap k3]; rfl
  have c2 : w3.cell? ⟨K, 2, none⟩ = some (.int .i64 l.gout) := by rw [cell_of_heap k3]; rfl
  have c3 : w3.cell? ⟨K, 3, none⟩ = some (.slice ba nb bc) := by rw [cell_of_heap k3]; rfl
  have c4 : w3.cell? ⟨K, 4, none⟩ = some (.int .i64 l.players) := by rw [cell_of_heap k3]; rfl
  have c5 : w3.cell? ⟨K, 5, none⟩ = some (.int .i64 l.turns) := by rw [cell_of_heap k3]; rfl
  have c6 : w3.cell? ⟨K, 6, none⟩ = some (.bool l.won) := by rw [cell_of_heap k3]; rfl
  clear k3 hb3'
  go_wp2_with fail
  have hcall := reports_any x HX.out.said (.slice a dl cap) (.slice a' sl cap') (.slice oa n oc) F.out 5 (by rw [HNN.out]; exact hn5) (by omega) w3 HDD3.out HSS3.out HO3.out
  unfold thrV at hcall
  rw [HRL.out, HM.out] at hcall
  refine hcall.mono ?_
  rintro e w4 ⟨rv, rfl, hb4, hrr⟩
  clear hcall
  obtain ⟨ra, rc, rfl⟩ := owns_form hrr
  have HR4 : Hid (SlN 3 (fun q => w3.heap.size ≤ q) w4 (.slice ra m rc) (list.map rpRow)) := Lib.hid (SlN.of_ownsN (by rw [List.length_map, HM.out]; exact hrr) (fun r hr => by obtain ⟨y, _, rfl⟩ := List.mem_map.1 hr; rfl))
  have HB4 := Lib.hid (bThen HB3.out hb4)
  have HBS4 := Lib.hid (HBS3.out.below hb4)
  have HO4 := Lib.hid (HO3.out.below hb4)
  have HT4 := Lib.hid (HT3.out.below hb4)
  clear HB3 HBS3 HO3 HT3
  have c0 := bAt hb4 c0
  have c1 := bAt hb4 c1
  have c2 := bAt hb4 c2
  have c3 := bAt hb4 c3
  have c4 := bAt hb4 c4
  have c5 := bAt hb4 c5
  have c6 := bAt hb4 c6
  clear hb4 hrr x0 x1 x2 x3 x4 x5 x6 HSS2 HDD2 HSS3 HDD3
  -- what is left possible
  go_wp2_with fail
  have hcall := own_any l (.slice ba nb bc) w4 HBS4.out (by rw [HBE.out, HNB.out]; have := HN6.out; omega)
  unfold legV legA at hcall
  refine hcall.mono ?_
  rintro e w5 ⟨bv5, rfl, hb5, ho5⟩
  clear hcall
  obtain ⟨oa5, oc5, rfl, -, -⟩ := ho5.form
  rw [ints_length, HBE.out, HNB.out] at ho5 ⊢
  have HBO5 : Hid (Sl (fun q => w4.heap.size ≤ q) w5 (.slice oa5 nb oc5) (ints l.beds)) := Lib.hid (by rw [HBE.out]; exact ho5)
  have HB5 := Lib.hid (bThen HB4.out hb5)
  have HBS5 := Lib.hid (HBS4.out.below hb5)
  have HO5 := Lib.hid (HO4.out.below hb5)
  have HT5 := Lib.hid (HT4.out.below hb5)
  have HR5 := Lib.hid (HR4.out.below hb5)
  clear ho5 HB4 HBS4 HO4 HT4 HR4
  have c0 := bAt hb5 c0
  have c1 := bAt hb5 c1
  have c2 := bAt hb5 c2
  have c3 := bAt hb5 c3
  have c4 := bAt hb5 c4
  have c5 := bAt hb5 c5
  have c6 := bAt hb5 c6
  clear hb5
  go_wp2_with fail
  have hcall := told_any list (.slice ra m rc) w5 HR5.out (by rw [HM.out]; omega)
  refine hcall.mono ?_
  rintro e w6 ⟨lv2, rfl, hb6, hlv2⟩
  clear hcall
  have HLV6 := Lib.hid hlv2
  have HBO6 := Lib.hid (HBO5.out.below hb6)
  have HB6 := Lib.hid (bThen HB5.out hb6)
  have HBS6 := Lib.hid (HBS5.out.below hb6)
  have HO6 := Lib.hid (HO5.out.below hb6)
  have HT6 := Lib.hid (HT5.out.below hb6)
  have HR6 := Lib.hid (HR5.out.below hb6)
  clear HB5 HBS5 HO5 HT5 HR5
  have c0 := bAt hb6 c0
  have c1 := bAt hb6 c1
  have c2 := bAt hb6 c2
  have c3 := bAt hb6 c3
  have c4 := bAt hb6 c4
  have c5 := bAt hb6 c5
  have c6 := bAt hb6 c6
  clear hb6 hlv2 HBO5
  go_wp2_with fail
  have hcall := truth_ok l (.slice oa5 nb oc5) lv2 list n HTN.out w6 HBO6.out HBI.out HLV6.out HCK.out (by rw [HM.out]; omega) HLB.out HTR.out
  unfold legV legA at hcall
  refine hcall.mono ?_
  rintro e w7 ⟨g1, g2, g3, rfl, hb7, h1, h2, h3⟩
  clear hcall
  have HG1 := Lib.hid h1
  have HG2 := Lib.hid h2
  have HG3 := Lib.hid h3
  have HB7 := Lib.hid (bThen HB6.out hb7)
  have HBS7 := Lib.hid (HBS6.out.below hb7)
  have HO7 := Lib.hid (HO6.out.below hb7)
  have HT7 := Lib.hid (HT6.out.below hb7)
  have HR7 := Lib.hid (HR6.out.below hb7)
  clear HB6 HBS6 HO6 HT6 HR6
  have c0 := bAt hb7 c0
  have c1 := bAt hb7 c1
  have c2 := bAt hb7 c2
  have c3 := bAt hb7 c3
  have c4 := bAt hb7 c4
  have c5 := bAt hb7 c5
  have c6 := bAt hb7 c6
  clear hb7 h1 h2 h3 HBO6 HLV6
  go_wp2_with fail
  have hcall := own_any l (.slice ba nb bc) w7 HBS7.out (by rw [HBE.out, HNB.out]; have := HN6.out; omega)
  unfold legV legA at hcall
  refine hcall.mono ?_
  rintro e w8 ⟨bv8, rfl, hb8, ho8⟩
  clear hcall
  obtain ⟨oa8, oc8, rfl, -, -⟩ := ho8.form
  rw [ints_length, HBE.out, HNB.out] at ho8 ⊢
  have HBO8 : Hid (Sl (fun q => w7.heap.size ≤ q) w8 (.slice oa8 nb oc8) (ints l.beds)) := Lib.hid (by rw [HBE.out]; exact ho8)
  have HB8 := Lib.hid (bThen HB7.out hb8)
  have HBS8 := Lib.hid (HBS7.out.below hb8)
  have HO8 := Lib.hid (HO7.out.below hb8)
  have HT8 := Lib.hid (HT7.out.below hb8)
  have HR8 := Lib.hid (HR7.out.below hb8)
  clear ho8 HB7 HBS7 HO7 HT7 HR7
  have c0 := bAt hb8 c0
  have c1 := bAt hb8 c1
  have c2 := bAt hb8 c2
  have c3 := bAt hb8 c3
  have c4 := bAt hb8 c4
  have c5 := bAt hb8 c5
  have c6 := bAt hb8 c6
  have HG18 := Lib.hid (HG1.out.below hb8)
  have HG28 := Lib.hid (HG2.out.below hb8)
  have HG38 := Lib.hid (HG3.out.below hb8)
  clear HG1 HG2 HG3 hb8
  go_wp2_with fail
  have hcall := check_any l (.slice oa8 nb oc8) w8 HBO8.out HBI.out
  unfold legV legA at hcall
  rw [HCK.out] at hcall
  refine hcall.mono ?_
  rintro e w9 ⟨rfl, hb9⟩
  clear hcall
  have HG19 := Lib.hid (HG18.out.below hb9)
  have HG29 := Lib.hid (HG28.out.below hb9)
  have HG39 := Lib.hid (HG38.out.below hb9)
  have HB9 := Lib.hid (bThen HB8.out hb9)
  have HBS9 := Lib.hid (HBS8.out.below hb9)
  have HO9 := Lib.hid (HO8.out.below hb9)
  have HT9 := Lib.hid (HT8.out.below hb9)
  have HR9 := Lib.hid (HR8.out.below hb9)
  clear HB8 HBS8 HO8 HT8 HR8
  have c0 := bAt hb9 c0
  have c1 := bAt hb9 c1
  have c2 := bAt hb9 c2
  have c3 := bAt hb9 c3
  have c4 := bAt hb9 c4
  have c5 := bAt hb9 c5
  have c6 := bAt hb9 c6
  clear hb9 HG18 HG28 HG38 HBO8
  go_wp2_with fail
  have hcall := holds_any F.out n HNN.out _ _ _ HIN.out (.slice oa n oc) g1 g2 g3 w9 HO9.out HG19.out HG29.out HG39.out
  refine hcall.mono ?_
  rintro e wa ⟨rfl, hba⟩
  clear hcall
  have HG1 := Lib.hid (HG19.out.below hba)
  have HG2 := Lib.hid (HG29.out.below hba)
  have HG3 := Lib.hid (HG39.out.below hba)
  have HBa := Lib.hid (bThen HB9.out hba)
  have HBSa := Lib.hid (HBS9.out.below hba)
  have HTa := Lib.hid (HT9.out.below hba)
  have HRa := Lib.hid (HR9.out.below hba)
  clear HB9 HBS9 HT9 HR9
  have c0 := bAt hba c0
  have c1 := bAt hba c1
  have c2 := bAt hba c2
  have c3 := bAt hba c3
  have c4 := bAt hba c4
  have c5 := bAt hba c5
  have c6 := bAt hba c6
  clear hba HG19 HG29 HG39 HO9
  go_wp2_with fail
  go_loopw [10] (fun iv wr => ∃ i : Nat, i ≤ n ∧ iv = .int .i64 (i : Int) ∧ Hid (Below wa.heap.size wa wr)) (fun iv _ => n - (intOf iv).toNat)
  case atStart => exact ⟨0, by omega, by go_num, Lib.hid (Below.refl _ _)⟩
  case round =>
    obtain ⟨i, hi, rfl, HBr⟩ := hrel
    obtain ⟨wo, rfl⟩ : ∃ wo : World, wo = wr := ⟨_, rfl⟩
    have d5 := bAt HBr.out c5
    by_cases hlt : i < n
    · have t5 : decide ((i : Int) < l.turns) = true := decide_eq_true (by rw [HTN.out]; omega)
      have hit : i < l.turns.toNat := by rw [HTN.out]; omega
      have HIT := Lib.hid hit
      clear hit
      go_wp2_with fail
      go_loopw [11] (fun kv wr => ∃ k : Nat, k ≤ 4 ∧ kv = .int .i64 (k : Int) ∧ Hid (Below wo.heap.size wo wr)) (fun kv _ => 4 - (intOf kv).toNat)
      case atStart => exact ⟨0, by omega, by go_num, Lib.hid (Below.refl _ _)⟩
      case round =>
        obtain ⟨k, hk, rfl, HBk⟩ := hrel
        obtain ⟨wq, rfl⟩ : ∃ wq : World, wq = wr := ⟨_, rfl⟩
        by_cases hk4 : k < 4
        · have hbq : Below wa.heap.size wa wq := bThen HBr.out HBk.out
          obtain ⟨u1, u2⟩ := (HG1.out.below hbq).cells hlt
          obtain ⟨u3, u4⟩ := (HG2.out.below hbq).cells hlt
          have HBSq := Lib.hid (HBSa.out.below hbq)
          have HRq := Lib.hid (HRa.out.below hbq)
          have hli : (i : Int) < (n : Int) := by omega
          have c0 := bAt hbq c0
          have c1 := bAt hbq c1
          have c2 := bAt hbq c2
          have c3 := bAt hbq c3
          have c4 := bAt hbq c4
          have c5 := bAt hbq c5
          have c6 := bAt hbq c6
          clear hbq d5 t5
          have hk0 : k = 0 ∨ k = 1 ∨ k = 2 ∨ k = 3 := by omega
          rcases hk0 with rfl | rfl | rfl | rfl
          · as_aux_lemma =>
            obtain ⟨vv, hv⟩ : ∃ z, (scF l list i).1 = z := ⟨_, rfl⟩
            rw [hv] at u1
            have hre := score_reached HBD.out.1 HBD.out.2.1 HGB.out HBD.out.2.2.1 HTR.out HIT.out (v := vv) (.inl hv.symm)
            obtain ⟨r, hr⟩ : ∃ r : Rp, r = ⟨i, vv, -1⟩ := ⟨_, rfl⟩
            rw [← hr] at hre
            have HRW : Hid (rpRow r = [.int .i64 (i : Int), .int .i64 vv, .int .i64 (-1)]) := Lib.hid (by rw [hr]; rfl)
            have HTR2 := Lib.hid hre.2.2.1
            have HSV : Hid (scF l (list ++ [r]) i = (vv, vv)) := Lib.hid hre.2.2.2
            have HLR : Hid (∀ y ∈ list ++ [r], badR l.turns y = false) := Lib.hid (fun y hy => (List.mem_append.1 hy).elim (HLB.out y) fun hy => by
              rw [List.mem_singleton] at hy
              rw [hy, hr]
              have h1 := hre.1
              have h2 := hre.2.1
              have h3 := HBD.out.2.2.2
              refine badR_no ⟨by show (0 : Int) ≤ (i : Int); omega, by show (i : Int) ≤ l.turns - 1; rw [HTN.out]; omega⟩ ?_ ?_
              · show -1 ≤ vv ∧ vv ≤ 240; omega
              · show (-1 : Int) ≤ -1 ∧ (-1 : Int) ≤ 1001; omega)
            clear hre hv hr
            obtain ⟨R, hR⟩ : ∃ R, wq.heap.size = R := ⟨_, rfl⟩
            obtain ⟨wv, hwv⟩ : ∃ y, wq.alloc (.cells #[.int .i64 (i : Int), .int .i64 (-1), .int .i64 (-1)] 83) = y := ⟨_, rfl⟩
            have hbv : Below wq.heap.size wq wv := by rw [← hwv]; exact aB _ _
            have kv : wv.heap[R]? = some (.cells #[.int .i64 (i : Int), .int .i64 (-1), .int .i64 (-1)] 83 (0, 0)) := by rw [← hwv, ← hR]; exact World.alloc_heap_new _ _
            obtain ⟨wz, hwz⟩ : ∃ y, wv.setCell ⟨R, 1, none⟩ (.int .i64 vv) = y := ⟨_, rfl⟩
            have kz : wz.heap[R]? = some (.cells #[.int .i64 (i : Int), .int .i64 vv, .int .i64 (-1)] 83 (0, 0)) := by rw [← hwz]; exact heap_setCell_at kv _
            have hbz0 : Below wq.heap.size wq wz := by rw [← hwz]; exact hbv.setCell (p := ⟨R, 1, none⟩) (Nat.le_of_eq hR) _
            have HR := Lib.hid hR
            have HWV := Lib.hid hwv
            have HWZ := Lib.hid hwz
            have HBq : Hid (Below wo.heap.size wo wz) := Lib.hid (bThen HBk.out hbz0)
            have HBSz := Lib.hid (HBSq.out.below hbz0)
            have HRz := Lib.hid (HRq.out.below hbz0)
            have rz0 : wz.cell? ⟨R, 0, none⟩ = some (.int .i64 (i : Int)) := by rw [cell_of_heap kz]; rfl
            have rz1 : wz.cell? ⟨R, 1, none⟩ = some (.int .i64 vv) := by rw [cell_of_heap kz]; rfl
            have rz2 : wz.cell? ⟨R, 2, none⟩ = some (.int .i64 (-1)) := by rw [cell_of_heap kz]; rfl
            have rv : wv.cell? ⟨R, 1, none⟩ = some (.int .i64 (-1)) := by rw [cell_of_heap kv]; rfl
            have fv : wv.frozen? ⟨R, 1, none⟩ = false := frozen_of_heap kv
            have uv := bAt hbv u1
            have HBZ0 := Lib.hid hbz0
            clear hR hwv hwz kv kz hbz0 hbv
            go_upto_region 13 with fail
            rw [HWV.out, HR.out]
            go_upto_region 21 with fail
            rw [HWZ.out]
            clear rv fv uv u1 u2 u3 u4
            have c0 := bAt HBZ0.out c0
            have c1 := bAt HBZ0.out c1
            have c2 := bAt HBZ0.out c2
            have c3 := bAt HBZ0.out c3
            have c4 := bAt HBZ0.out c4
            have c5 := bAt HBZ0.out c5
            have c6 := bAt HBZ0.out c6
            have hown : ∀ W, Below wz.heap.size wz W → Calls Tryz.prog 14 #[.agg #[.int .i64 l.start, .int .i64 l.gin, .int .i64 l.gout, .slice ba nb bc, .int .i64 l.players, .int .i64 l.turns, .bool l.won]] W fun e w' => ∃ bv', e = .returned (legV l bv') ∧ Below W.heap.size W w' ∧ Sl (fun q => W.heap.size ≤ q) w' bv' (ints l.beds) := fun W hW =>
              own_any l (.slice ba nb bc) W (HBSz.out.below hW) (by rw [HBE.out, HNB.out]; have := HN6.out; omega)
            have htold : ∀ W, Below wz.heap.size wz W → Calls Tryz.prog 24 #[.slice ra m rc] W fun e w' => ∃ v, e = .returned v ∧ Below W.heap.size W w' ∧ w'.ownsRow W.heap.size 83 3 v m ((list.map rpRow).flatten) := fun W hW => by
              have h := told_own list (.slice ra m rc) W (HRz.out.below hW) (by rw [HM.out]; omega)
              rw [HM.out] at h
              exact h
            have htruth : ∀ W (xa : Option Addr) (y : Nat) (v2 : Value) (S2 : Nat → Prop) (B2 : Nat), Sl S2 W (.slice xa nb y) (ints l.beds) → W.ownsRow B2 83 3 v2 (m + 1) (((list.map rpRow).flatten) ++ rpRow r) → Calls Tryz.prog 25 #[.agg #[.int .i64 l.start, .int .i64 l.gin, .int .i64 l.gout, .slice xa nb y, .int .i64 l.players, .int .i64 l.turns, .bool l.won], v2] W fun e w' => ∃ g1 g2 g3, e = .returned (tupT n g1 g2 g3) ∧ Below W.heap.size W w' ∧ SpansAt w' g1 n (scF l (list ++ [r])) ∧ SpansAt w' g2 n (leF l (list ++ [r])) ∧ SpansAt w' g3 n (daF l (list ++ [r])) := fun W xa y v2 S2 B2 hs ho =>
              truth_ok l (.slice xa nb y) v2 (list ++ [r]) n HTN.out W hs HBI.out (SlN.of_ownsN (base := B2) (e := 83) (by rw [List.length_map, List.length_append, HM.out, List.map_append, List.flatten_append]; simpa using ho) (fun q hq => by obtain ⟨y, _, rfl⟩ := List.mem_map.1 hq; rfl)) HCK.out (by rw [List.length_append, HM.out]; simp; omega) HLR.out HTR2.out
            refine wp_region_seqV 17 ((fun v => v = .agg #[.int .i64 l.start, .int .i64 l.gin, .int .i64 l.gout, .slice ba nb bc, .int .i64 l.players, .int .i64 l.turns, .bool l.won]) :: (fun v => ∃ p : Option Addr × Nat, v = .agg #[.int .i64 l.start, .int .i64 l.gin, .int .i64 l.gout, .slice p.1 nb p.2, .int .i64 l.players, .int .i64 l.turns, .bool l.won]) :: (fun v => v = .slice ra m rc) :: (fun v => ∃ p : Option Addr × Nat, v = .slice p.1 m p.2) :: (fun v => v = .agg #[.int .i64 (i : Int), .int .i64 vv, .int .i64 (-1)]) :: (fun v => ∃ q, v = .slice (some ⟨q, 0, none⟩) 1 1) :: (fun v => ∃ p : Option Addr × Nat, v = .slice p.1 (m + 1) p.2) :: (fun v => ∃ p : Nat × Nat × Nat, v = tupT n p.1 p.2.1 p.2.2) :: (fun v => ∃ p : Nat × Nat × Nat, v = tupT n p.1 p.2.1 p.2.2) :: (fun v => ∃ g, v = slT n g) :: (fun v => ∃ g, v = slT n g) :: (fun v => ∃ g, v = slT n g) :: (fun v => v = .int .i64 0) :: (fun v => ∃ g, v = slT n g) :: (fun v => ∃ g, v = slT n g) :: (fun v => ∃ g, v = slT n g) :: (fun v => v = .int .i64 0) :: []) (JT l nb m ((list.map rpRow).flatten) (rpRow r) 1 3 5 6 7 n (scF l (list ++ [r])) (leF l (list ++ [r])) (daF l (list ++ [r])) wz) rfl mix (by kernel_rfl) (by kernel_rfl) (fun _ _ _ _ hc h => h.congr hc) (fun vs => JT.start vs) ?_
            simp only [List.take_succ_cons, List.take_zero]
            refine sv_new ⟨_, rfl⟩ rfl (fun W L vs hvs hL hj hd => ?_) ?_
            · simp only [List.length_nil] at hL ⊢
              have q0 := bAt hj.base.below c0
              have q1 := bAt hj.base.below c1
              have q2 := bAt hj.base.below c2
              have q3 := bAt hj.base.below c3
              have q4 := bAt hj.base.below c4
              have q5 := bAt hj.base.below c5
              have q6 := bAt hj.base.below c6
              exact opOK_val (v := .agg #[.int .i64 l.start, .int .i64 l.gin, .int .i64 l.gout, .slice ba nb bc, .int .i64 l.players, .int .i64 l.turns, .bool l.won]) (w' := W) (by simp [go_sem, execOp, q0, q1, q2, q3, q4, q5, q6]) ⟨rfl, hj.oth (by decide) (by decide) (by decide) (by decide) (by decide)⟩
            rintro _ rfl
            simp only [Act.put, List.setIfInBounds_toArray, List.set_cons_succ, List.set_cons_zero]
            refine sv_new ⟨_, (none, 0), rfl⟩ rfl (fun W L vs hvs hL hj hd => ?_) ?_
            · simp only [List.length_append, List.length_cons, List.length_nil, Nat.zero_add] at hL ⊢
              have h6 : L 6 = false := by
                cases e : L 6 with
                | false => rfl
                | true => rw [hj.base.d3 (hj.base.d6 e).1] at hL; cases hL
              refine opOK_call (f := 14) (args := #[.agg #[.int .i64 l.start, .int .i64 l.gin, .int .i64 l.gout, .slice ba nb bc, .int .i64 l.players, .int .i64 l.turns, .bool l.won]]) (by simp [go_sem]) ?_
              refine (hown W hj.base.below).mono ?_
              rintro e w' ⟨bv', rfl, hb3, hs3⟩
              obtain ⟨xa, y, rfl, -, -⟩ := hs3.form
              rw [ints_length, HBE.out, HNB.out] at hs3 ⊢
              rw [← HBE.out] at hs3
              exact ⟨_, rfl, ⟨(xa, y), rfl⟩, hj.low (by decide) h6 (hj.base.own1 hL hb3 hs3 (by decide) (by decide) (by decide))⟩
            rintro _ ⟨⟨xo, yo⟩, rfl⟩
            simp only [Act.put, List.setIfInBounds_toArray, List.set_cons_succ, List.set_cons_zero]
            refine sv_new ⟨_, rfl⟩ rfl (fun W L vs hvs hL hj hd => ?_) ?_
            · simp only [List.length_append, List.length_cons, List.length_nil, Nat.zero_add, Nat.reduceAdd] at hL ⊢
              exact opOK_val (v := .slice ra m rc) (w' := W) (by simp [go_sem, execOp]) ⟨rfl, hj.oth (by decide) (by decide) (by decide) (by decide) (by decide)⟩
            rintro _ rfl
            simp only [Act.put, List.setIfInBounds_toArray, List.set_cons_succ, List.set_cons_zero]
            refine sv_new ⟨_, (none, 0), rfl⟩ rfl (fun W L vs hvs hL hj hd => ?_) ?_
            · simp only [List.length_append, List.length_cons, List.length_nil, Nat.zero_add, Nat.reduceAdd] at hL ⊢
              have h6 : L 6 = false := by
                cases e : L 6 with
                | false => rfl
                | true => rw [(hj.base.d6 e).1] at hL; cases hL
              refine opOK_call (f := 24) (args := #[.slice ra m rc]) (by simp [go_sem]) ?_
              refine (htold W hj.base.below).mono ?_
              rintro e w' ⟨v, rfl, hb3, ho3⟩
              obtain ⟨xa, y, rfl⟩ := owns_form ho3
              exact ⟨_, rfl, ⟨(xa, y), rfl⟩, hj.low (by decide) h6 (hj.base.told3 (hd ⟨1, .chain⟩ (by simp) rfl) hL hb3 ho3 (by decide) (by decide) (by decide))⟩
            rintro _ ⟨⟨xt, yt⟩, rfl⟩
            simp only [Act.put, List.setIfInBounds_toArray, List.set_cons_succ, List.set_cons_zero]
            refine sv_new ⟨_, rfl⟩ rfl (fun W L vs hvs hL hj hd => ?_) ?_
            · simp only [List.length_append, List.length_cons, List.length_nil, Nat.zero_add, Nat.reduceAdd] at hL ⊢
              have p0 := bAt hj.base.below rz0
              have p1 := bAt hj.base.below rz1
              have p2 := bAt hj.base.below rz2
              exact opOK_val (v := .agg #[.int .i64 (i : Int), .int .i64 vv, .int .i64 (-1)]) (w' := W) (by simp [go_sem, execOp, p0, p1, p2]) ⟨rfl, hj.oth (by decide) (by decide) (by decide) (by decide) (by decide)⟩
            rintro _ rfl
            simp only [Act.put, List.setIfInBounds_toArray, List.set_cons_succ, List.set_cons_zero]
            refine sv_new ⟨_, 0, rfl⟩ rfl (fun W L vs hvs hL hj hd => ?_) ?_
            · simp only [List.length_append, List.length_cons, List.length_nil, Nat.zero_add, Nat.reduceAdd] at hL ⊢
              have h6 : L 6 = false := by
                cases e : L 6 with
                | false => rfl
                | true => rw [(hj.base.d6 e).2] at hL; cases hL
              exact opOK_val (v := .slice (some ⟨W.heap.size, 0, none⟩) 1 1) (w' := W.alloc (.cells #[.int .i64 (i : Int), .int .i64 vv, .int .i64 (-1)] 83)) (by simp [go_sem, execOp]) ⟨⟨_, rfl⟩, hj.low (by decide) h6 (hj.base.lit5 (aB _ _) (fun j u hu => by rw [cell_of_heap (World.alloc_heap_new _ _), Nat.zero_add]; rw [HRW.out] at hu; simpa using hu) (by decide) (by decide) (by decide))⟩
            rintro _ ⟨q5, rfl⟩
            simp only [Act.put, List.setIfInBounds_toArray, List.set_cons_succ, List.set_cons_zero]
            refine sv_new ⟨_, (none, 0), rfl⟩ rfl (fun W L vs hvs hL hj hd => ?_) ?_
            · simp only [List.length_append, List.length_cons, List.length_nil, Nat.zero_add, Nat.reduceAdd] at hL ⊢
              have hL3 := hd ⟨3, .data⟩ (by simp) rfl
              have hL5 := hd ⟨5, .data⟩ (by simp) rfl
              have e3 := hvs 3 (.slice xt m yt) (by simp)
              have e5 := hvs 5 (.slice (some ⟨q5, 0, none⟩) 1 1) (by simp)
              have ht := hj.base.told hL3 hL
              obtain ⟨q', e5', hq'⟩ := hj.base.lit hL5 hL
              rw [e5] at e5'
              cases e5'
              have ht2 := ht
              rw [e3] at ht2
              refine opOK_mono (opOK_appendN_at (.tmp 100) (.tmp 102) 53 rfl wz.heap.size 83 (.agg #[.int .i64 0, .int .i64 0, .int .i64 0]) 3 24 Tryz.underlying53 info_rp rfl (by decide) (.slice xt m yt) m ((list.map rpRow).flatten) rfl ht2 q5 0 1 1 (rpRow r) rfl rfl hq' (rpRow_one r) (by omega) (by decide) hj.base.below.size) ?_
              rintro v' w' ⟨h1, h2, h3⟩
              obtain ⟨xa, y, rfl⟩ := owns_form h1
              exact ⟨⟨(xa, y), rfl⟩, hj.low (by decide) hL (hj.base.app6 hL3 hL5 hL (by rw [e3]; exact h2) h1 (by decide) (by decide) (by decide))⟩
            rintro _ ⟨⟨xp, yp⟩, rfl⟩
            simp only [Act.put, List.setIfInBounds_toArray, List.set_cons_succ, List.set_cons_zero]
            refine sv_new ⟨_, (0, 0, 0), rfl⟩ rfl (fun W L vs hvs hL hj hd => ?_) ?_
            · simp only [List.length_append, List.length_cons, List.length_nil, Nat.zero_add, Nat.reduceAdd] at hL ⊢
              have hL1 := hd ⟨1, .data⟩ (by simp) rfl
              have hL6 := hd ⟨6, .data⟩ (by simp) rfl
              have e1 := hvs 1 (.agg #[.int .i64 l.start, .int .i64 l.gin, .int .i64 l.gout, .slice xo nb yo, .int .i64 l.players, .int .i64 l.turns, .bool l.won]) (by simp)
              have e6 := hvs 6 (.slice xp (m + 1) yp) (by simp)
              obtain ⟨xa, y, e1', hs4⟩ := hj.base.own hL1
              rw [e1] at e1'
              cases e1'
              have ha := hj.base.app hL6
              rw [e6] at ha
              refine opOK_call (f := 25) (args := #[.agg #[.int .i64 l.start, .int .i64 l.gin, .int .i64 l.gout, .slice xo nb yo, .int .i64 l.players, .int .i64 l.turns, .bool l.won], .slice xp (m + 1) yp]) (by simp [go_sem]) ?_
              refine (htruth W xo yo (.slice xp (m + 1) yp) _ _ hs4 ha).mono ?_
              rintro e w' ⟨g1, g2, g3, rfl, hb3, k1, k2, k3⟩
              exact ⟨_, rfl, ⟨(g1, g2, g3), rfl⟩, hj.at_ (k0 := 0) hb3 (by decide) (by decide) (by decide) (by decide) (by decide) hL6 (fun _ => ⟨g1, g2, g3, rfl, k1, k2, k3⟩) (fun h => absurd h (by decide))⟩
            rintro _ ⟨⟨ta, tb, tc⟩, rfl⟩
            simp only [Act.put, List.setIfInBounds_toArray, List.set_cons_succ, List.set_cons_zero]
            refine sv_new ⟨_, (0, 0, 0), rfl⟩ rfl (fun W L vs hvs hL hj hd => ?_) ?_
            · simp only [List.length_append, List.length_cons, List.length_nil, Nat.zero_add, Nat.reduceAdd] at hL ⊢
              have hL7 := hd ⟨7, .data⟩ (by simp) rfl
              obtain ⟨g1, g2, g3, e1, k1, k2, k3⟩ := hj.t7 0 (by decide) hL7
              have e2 := hvs 7 (tupT n ta tb tc) (by simp)
              rw [show 7 + 0 = 7 from rfl, e2] at e1
              simp only [tupT, slT, Value.tuple.injEq, Array.mk.injEq, List.cons.injEq, Value.slice.injEq, Option.some.injEq, Addr.mk.injEq, and_true] at e1
              obtain ⟨rfl, rfl, rfl⟩ := e1
              exact opOK_val (v := tupT n ta tb tc) (w' := W) (by simp [go_sem, execOp, tupT, slT]) ⟨⟨(ta, tb, tc), rfl⟩, hj.at_ (k0 := 1) (Below.refl _ _) (by decide) (by decide) (by decide) (by decide) (by decide) (hj.d7 0 (by decide) hL7) (fun _ => ⟨ta, tb, tc, rfl, k1, k2, k3⟩) (fun h => absurd h (by decide))⟩
            rintro _ ⟨⟨tp, tq, tr⟩, rfl⟩
            simp only [Act.put, List.setIfInBounds_toArray, List.set_cons_succ, List.set_cons_zero]
            refine sv_new ⟨_, 0, rfl⟩ rfl (fun W L vs hvs hL hj hd => ?_) ?_
            · simp only [List.length_append, List.length_cons, List.length_nil, Nat.zero_add, Nat.reduceAdd] at hL ⊢
              have hL7 := hd ⟨8, .data⟩ (by simp) rfl
              obtain ⟨g1, g2, g3, e1, k1, k2, k3⟩ := hj.t7 1 (by decide) hL7
              have e2 := hvs 8 (tupT n tp tq tr) (by simp)
              rw [show 7 + 1 = 8 from rfl, e2] at e1
              simp only [tupT, slT, Value.tuple.injEq, Array.mk.injEq, List.cons.injEq, Value.slice.injEq, Option.some.injEq, Addr.mk.injEq, and_true] at e1
              obtain ⟨rfl, rfl, rfl⟩ := e1
              exact opOK_val (v := slT n tp) (w' := W) (by simp [go_sem, execOp, tupT, slT]) ⟨⟨tp, rfl⟩, hj.at_ (k0 := 2) (Below.refl _ _) (by decide) (by decide) (by decide) (by decide) (by decide) (hj.d7 1 (by decide) hL7) (fun h => absurd h (by decide)) (fun _ _ _ => ⟨tp, rfl, k1⟩)⟩
            rintro _ ⟨y2, rfl⟩
            simp only [Act.put, List.setIfInBounds_toArray, List.set_cons_succ, List.set_cons_zero]
            refine sv_new ⟨_, 0, rfl⟩ rfl (fun W L vs hvs hL hj hd => ?_) ?_
            · simp only [List.length_append, List.length_cons, List.length_nil, Nat.zero_add, Nat.reduceAdd] at hL ⊢
              have hL7 := hd ⟨8, .data⟩ (by simp) rfl
              obtain ⟨g1, g2, g3, e1, k1, k2, k3⟩ := hj.t7 1 (by decide) hL7
              have e2 := hvs 8 (tupT n tp tq tr) (by simp)
              rw [show 7 + 1 = 8 from rfl, e2] at e1
              simp only [tupT, slT, Value.tuple.injEq, Array.mk.injEq, List.cons.injEq, Value.slice.injEq, Option.some.injEq, Addr.mk.injEq, and_true] at e1
              obtain ⟨rfl, rfl, rfl⟩ := e1
              exact opOK_val (v := slT n tq) (w' := W) (by simp [go_sem, execOp, tupT, slT]) ⟨⟨tq, rfl⟩, hj.at_ (k0 := 3) (Below.refl _ _) (by decide) (by decide) (by decide) (by decide) (by decide) (hj.d7 1 (by decide) hL7) (fun h => absurd h (by decide)) (fun _ _ _ => ⟨tq, rfl, k2⟩)⟩
            rintro _ ⟨y3, rfl⟩
            simp only [Act.put, List.setIfInBounds_toArray, List.set_cons_succ, List.set_cons_zero]
            refine sv_new ⟨_, 0, rfl⟩ rfl (fun W L vs hvs hL hj hd => ?_) ?_
            · simp only [List.length_append, List.length_cons, List.length_nil, Nat.zero_add, Nat.reduceAdd] at hL ⊢
              have hL7 := hd ⟨8, .data⟩ (by simp) rfl
              obtain ⟨g1, g2, g3, e1, k1, k2, k3⟩ := hj.t7 1 (by decide) hL7
              have e2 := hvs 8 (tupT n tp tq tr) (by simp)
              rw [show 7 + 1 = 8 from rfl, e2] at e1
              simp only [tupT, slT, Value.tuple.injEq, Array.mk.injEq, List.cons.injEq, Value.slice.injEq, Option.some.injEq, Addr.mk.injEq, and_true] at e1
              obtain ⟨rfl, rfl, rfl⟩ := e1
              exact opOK_val (v := slT n tr) (w' := W) (by simp [go_sem, execOp, tupT, slT]) ⟨⟨tr, rfl⟩, hj.at_ (k0 := 4) (Below.refl _ _) (by decide) (by decide) (by decide) (by decide) (by decide) (hj.d7 1 (by decide) hL7) (fun h => absurd h (by decide)) (fun _ _ _ => ⟨tr, rfl, k3⟩)⟩
            rintro _ ⟨y4, rfl⟩
            simp only [Act.put, List.setIfInBounds_toArray, List.set_cons_succ, List.set_cons_zero]
            refine sv_new ⟨_, rfl⟩ rfl (fun W L vs hvs hL hj hd => ?_) ?_
            · simp only [List.length_append, List.length_cons, List.length_nil, Nat.zero_add, Nat.reduceAdd] at hL ⊢
              have hL7 := hd ⟨8, .data⟩ (by simp) rfl
              exact opOK_val (v := .int .i64 0) (w' := W) (by simp [go_sem, execOp, tupT]) ⟨rfl, hj.at_ (k0 := 5) (Below.refl _ _) (by decide) (by decide) (by decide) (by decide) (by decide) (hj.d7 1 (by decide) hL7) (fun h => absurd h (by decide)) (fun _ _ _ => by contradiction)⟩
            rintro _ rfl
            simp only [Act.put, List.setIfInBounds_toArray, List.set_cons_succ, List.set_cons_zero]
            refine sv_new ⟨_, 0, rfl⟩ rfl (fun W L vs hvs hL hj hd => ?_) ?_
            · simp only [List.length_append, List.length_cons, List.length_nil, Nat.zero_add, Nat.reduceAdd] at hL ⊢
              have hL7 := hd ⟨9, .data⟩ (by simp) rfl
              obtain ⟨g, e1, k1⟩ := hj.sp 2 (by decide) (by decide) (by decide) (by decide) hL7
              have e2 := hvs 9 (slT n y2) (by simp)
              rw [show 7 + 2 = 9 from rfl, e2] at e1
              simp only [slT, Value.slice.injEq, Option.some.injEq, Addr.mk.injEq, and_true] at e1
              subst e1
              exact opOK_val (v := slT n y2) (w' := W) (by simp [go_sem, execOp, slT]) ⟨⟨y2, rfl⟩, hj.at_ (k0 := 6) (Below.refl _ _) (by decide) (by decide) (by decide) (by decide) (by decide) (hj.d7 2 (by decide) hL7) (fun h => absurd h (by decide)) (fun _ _ _ => ⟨y2, rfl, k1⟩)⟩
            rintro _ ⟨s6, rfl⟩
            simp only [Act.put, List.setIfInBounds_toArray, List.set_cons_succ, List.set_cons_zero]
            refine sv_new ⟨_, 0, rfl⟩ rfl (fun W L vs hvs hL hj hd => ?_) ?_
            · simp only [List.length_append, List.length_cons, List.length_nil, Nat.zero_add, Nat.reduceAdd] at hL ⊢
              have hL7 := hd ⟨10, .data⟩ (by simp) rfl
              obtain ⟨g, e1, k1⟩ := hj.sp 3 (by decide) (by decide) (by decide) (by decide) hL7
              have e2 := hvs 10 (slT n y3) (by simp)
              rw [show 7 + 3 = 10 from rfl, e2] at e1
              simp only [slT, Value.slice.injEq, Option.some.injEq, Addr.mk.injEq, and_true] at e1
              subst e1
              exact opOK_val (v := slT n y3) (w' := W) (by simp [go_sem, execOp, slT]) ⟨⟨y3, rfl⟩, hj.at_ (k0 := 7) (Below.refl _ _) (by decide) (by decide) (by decide) (by decide) (by decide) (hj.d7 3 (by decide) hL7) (fun h => absurd h (by decide)) (fun _ _ _ => ⟨y3, rfl, k1⟩)⟩
            rintro _ ⟨s7, rfl⟩
            simp only [Act.put, List.setIfInBounds_toArray, List.set_cons_succ, List.set_cons_zero]
            refine sv_new ⟨_, 0, rfl⟩ rfl (fun W L vs hvs hL hj hd => ?_) ?_
            · simp only [List.length_append, List.length_cons, List.length_nil, Nat.zero_add, Nat.reduceAdd] at hL ⊢
              have hL7 := hd ⟨11, .data⟩ (by simp) rfl
              obtain ⟨g, e1, k1⟩ := hj.sp 4 (by decide) (by decide) (by decide) (by decide) hL7
              have e2 := hvs 11 (slT n y4) (by simp)
              rw [show 7 + 4 = 11 from rfl, e2] at e1
              simp only [slT, Value.slice.injEq, Option.some.injEq, Addr.mk.injEq, and_true] at e1
              subst e1
              exact opOK_val (v := slT n y4) (w' := W) (by simp [go_sem, execOp, slT]) ⟨⟨y4, rfl⟩, hj.at_ (k0 := 8) (Below.refl _ _) (by decide) (by decide) (by decide) (by decide) (by decide) (hj.d7 4 (by decide) hL7) (fun h => absurd h (by decide)) (fun _ _ _ => ⟨y4, rfl, k1⟩)⟩
            rintro _ ⟨s8, rfl⟩
            simp only [Act.put, List.setIfInBounds_toArray, List.set_cons_succ, List.set_cons_zero]
            refine sv_new ⟨_, rfl⟩ rfl (fun W L vs hvs hL hj hd => ?_) ?_
            · simp only [List.length_append, List.length_cons, List.length_nil, Nat.zero_add, Nat.reduceAdd] at hL ⊢
              have hL7 := hd ⟨12, .data⟩ (by simp) rfl
              exact opOK_val (v := .int .i64 0) (w' := W) (by simp [go_sem, execOp, tupT]) ⟨rfl, hj.at_ (k0 := 9) (Below.refl _ _) (by decide) (by decide) (by decide) (by decide) (by decide) (hj.d7 5 (by decide) hL7) (fun h => absurd h (by decide)) (fun _ _ _ => by contradiction)⟩
            rintro _ rfl
            simp only [Act.put, List.setIfInBounds_toArray, List.set_cons_succ, List.set_cons_zero]
            refine sv_end fun vs wy hvs hj => ?_
            simp only [List.drop_succ_cons, List.drop_zero]
            obtain ⟨gg, e1, k1⟩ := hj.sp 6 (by decide) (by decide) (by decide) (by decide) (by decide)
            have e2 := hvs 13 (slT n s6) (by simp)
            rw [show 7 + 6 = 13 from rfl, e2] at e1
            simp only [slT, Value.slice.injEq, Option.some.injEq, Addr.mk.injEq, and_true] at e1
            subst e1
            obtain ⟨gg, e1, l1⟩ := hj.sp 7 (by decide) (by decide) (by decide) (by decide) (by decide)
            have e2 := hvs 14 (slT n s7) (by simp)
            rw [show 7 + 7 = 14 from rfl, e2] at e1
            simp only [slT, Value.slice.injEq, Option.some.injEq, Addr.mk.injEq, and_true] at e1
            subst e1
            have HS6 : Hid (SpansAt wy s6 n (scF l (list ++ [r]))) := Lib.hid k1
            have HS7 : Hid (SpansAt wy s7 n (leF l (list ++ [r]))) := Lib.hid l1
            have hbz := hj.base.below
            clear hvs hj k1 l1 e2 hown htold htruth
            simp only [slT]
            have ne5 : ((n : Int) != l.turns) = false := by rw [HTN.out]; simp
            have HSn : Hid (wy.cell? ⟨s6, i * 2, none⟩ = some (.int .i64 vv) ∧ wy.cell? ⟨s6, i * 2 + 1, none⟩ = some (.int .i64 vv)) := Lib.hid (by
              have h := HS6.out.cells hlt
              rw [HSV.out] at h; exact h)
            obtain ⟨u7, u8⟩ := HSn.out
            have kt := bAt hbz c5
            have kr := bAt hbz rz1
            have HBy := Lib.hid (bThen HBq.out hbz)
            clear hbz
            go_upto_region 22 with fail
            refine wp_region_seqW (.is (.int .i64 0) :: .is (.bool false) :: .is (.bool false) :: .is (.slice (some ⟨s6, 0, none⟩) n n) :: .is (.int .i64 (n : Int)) :: .is (.pointer (some ⟨K, 5, none⟩)) :: .is (.int .i64 l.turns) :: .is (.bool false) :: .is (.bool false) :: .is (.bool false) :: .is (.slice (some ⟨s7, 0, none⟩) n n) :: .is (.int .i64 (n : Int)) :: .is (.pointer (some ⟨K, 5, none⟩)) :: .is (.int .i64 l.turns) :: .is (.bool false) :: .is (.bool false) :: .is (.bool false) :: .is (.int .i64 (0 : Int)) :: .is (.bool true) :: .is (.bool true) :: .is (.slice (some ⟨s6, 0, none⟩) n n) :: .is (.int .i64 (i : Int)) :: .is (.pointer (some ⟨s6, i * 2, none⟩)) :: .is (.agg #[.int .i64 vv, .int .i64 vv]) :: .is (.pointer (some ⟨R, 1, none⟩)) :: .is (.int .i64 vv) :: .is (.pointer (some ⟨R, 1, none⟩)) :: .is (.int .i64 vv) :: .is (.agg #[.int .i64 vv, .int .i64 vv]) :: .is (.bool false) :: .is (.bool false) :: .is (.bool false) :: .is (.bool false) :: .is (.int .i64 (0 : Int)) :: .is (.bool false) :: .is (.bool false) :: .is (undef) :: .is (undef) :: .is (undef) :: .is (undef) :: .is (undef) :: .is (undef) :: .is (undef) :: .is (undef) :: .is (undef) :: .is (undef) :: .is (.bool false) :: .is (.bool false) :: []) rfl mix (by kernel_rfl) (by kernel_rfl) ?_
            iterate 28
              refine seq_on (by rfl) (fun w4 hb4 _ => ?_) ?_
              · have kt' := bAt hb4 kt
                have kr' := bAt hb4 kr
                have u7' := bAt hb4 u7
                have u8' := bAt hb4 u8
                simp [opOK, go_sem, kt', kr', u7', u8', ne5, hli, Below.refl]
                try exact rfl
              simp only [Act.put, List.setIfInBounds_toArray, List.set_cons_succ, List.set_cons_zero]
            refine seq_on (by rfl) (fun w4 hb4 _ => ?_) ?_
            · refine opOK_call (f := 23) (args := #[.int .i64 vv, .int .i64 vv]) (by simp [go_sem]) ?_
              refine (to_any vv vv w4).mono ?_
              rintro e w' ⟨rfl, hbi⟩
              exact ⟨_, rfl, rfl, hbi⟩
            simp only [Act.put, List.setIfInBounds_toArray, List.set_cons_succ, List.set_cons_zero]
            iterate 7
              refine seq_on (by rfl) (fun w4 hb4 _ => ?_) ?_
              · have kt' := bAt hb4 kt
                have kr' := bAt hb4 kr
                have u7' := bAt hb4 u7
                have u8' := bAt hb4 u8
                simp [opOK, go_sem, Below.refl]
                try exact rfl
              simp only [Act.put, List.setIfInBounds_toArray, List.set_cons_succ, List.set_cons_zero]
            refine seq_off (by rfl) ?_
            simp only [Act.put, List.setIfInBounds_toArray, List.set_cons_succ, List.set_cons_zero]
            refine seq_off (by rfl) ?_
            simp only [Act.put, List.setIfInBounds_toArray, List.set_cons_succ, List.set_cons_zero]
            refine seq_off (by rfl) ?_
            simp only [Act.put, List.setIfInBounds_toArray, List.set_cons_succ, List.set_cons_zero]
            refine seq_off (by rfl) ?_
            simp only [Act.put, List.setIfInBounds_toArray, List.set_cons_succ, List.set_cons_zero]
            refine seq_off (by rfl) ?_
            simp only [Act.put, List.setIfInBounds_toArray, List.set_cons_succ, List.set_cons_zero]
            refine seq_off (by rfl) ?_
            simp only [Act.put, List.setIfInBounds_toArray, List.set_cons_succ, List.set_cons_zero]
            refine seq_off (by rfl) ?_
            simp only [Act.put, List.setIfInBounds_toArray, List.set_cons_succ, List.set_cons_zero]
            refine seq_off (by rfl) ?_
            simp only [Act.put, List.setIfInBounds_toArray, List.set_cons_succ, List.set_cons_zero]
            refine seq_off (by rfl) ?_
            simp only [Act.put, List.setIfInBounds_toArray, List.set_cons_succ, List.set_cons_zero]
            refine seq_off (by rfl) ?_
            simp only [Act.put, List.setIfInBounds_toArray, List.set_cons_succ, List.set_cons_zero]
            iterate 2
              refine seq_on (by rfl) (fun w4 hb4 _ => ?_) ?_
              · have kt' := bAt hb4 kt
                have kr' := bAt hb4 kr
                have u7' := bAt hb4 u7
                have u8' := bAt hb4 u8
                simp [opOK, go_sem, Below.refl]
                try exact rfl
              simp only [Act.put, List.setIfInBounds_toArray, List.set_cons_succ, List.set_cons_zero]
            refine seq_end fun w4 hb4 hH => ?_
            have HB4 : Hid (Below wo.heap.size wo w4) := Lib.hid (bThen HBy.out hb4)
            clear hH hb4 u7 u8 kt kr ne5 rz0 rz1 rz2
            go_wp2_with fail
            go_roundw
            case rel => exact ⟨1, by omega, by go_num, HB4⟩
            case measure => simp [intOf]
          · as_aux_lemma =>
            obtain ⟨vv, hv⟩ : ∃ z, (scF l list i).2 = z := ⟨_, rfl⟩
            rw [hv] at u2
            have hre := score_reached HBD.out.1 HBD.out.2.1 HGB.out HBD.out.2.2.1 HTR.out HIT.out (v := vv) (.inr hv.symm)
            obtain ⟨r, hr⟩ : ∃ r : Rp, r = ⟨i, vv, -1⟩ := ⟨_, rfl⟩
            rw [← hr] at hre
            have HRW : Hid (rpRow r = [.int .i64 (i : Int), .int .i64 vv, .int .i64 (-1)]) := Lib.hid (by rw [hr]; rfl)
            have HTR2 := Lib.hid hre.2.2.1
            have HSV : Hid (scF l (list ++ [r]) i = (vv, vv)) := Lib.hid hre.2.2.2
            have HLR : Hid (∀ y ∈ list ++ [r], badR l.turns y = false) := Lib.hid (fun y hy => (List.mem_append.1 hy).elim (HLB.out y) fun hy => by
              rw [List.mem_singleton] at hy
              rw [hy, hr]
              have h1 := hre.1
              have h2 := hre.2.1
              have h3 := HBD.out.2.2.2
              refine badR_no ⟨by show (0 : Int) ≤ (i : Int); omega, by show (i : Int) ≤ l.turns - 1; rw [HTN.out]; omega⟩ ?_ ?_
              · show -1 ≤ vv ∧ vv ≤ 240; omega
              · show (-1 : Int) ≤ -1 ∧ (-1 : Int) ≤ 1001; omega)
            clear hre hv hr
            obtain ⟨R, hR⟩ : ∃ R, wq.heap.size = R := ⟨_, rfl⟩
            obtain ⟨wv, hwv⟩ : ∃ y, wq.alloc (.cells #[.int .i64 (i : Int), .int .i64 (-1), .int .i64 (-1)] 83) = y := ⟨_, rfl⟩
            have hbv : Below wq.heap.size wq wv := by rw [← hwv]; exact aB _ _
            have kv : wv.heap[R]? = some (.cells #[.int .i64 (i : Int), .int .i64 (-1), .int .i64 (-1)] 83 (0, 0)) := by rw [← hwv, ← hR]; exact World.alloc_heap_new _ _
            obtain ⟨wz, hwz⟩ : ∃ y, wv.setCell ⟨R, 1, none⟩ (.int .i64 vv) = y := ⟨_, rfl⟩
            have kz : wz.heap[R]? = some (.cells #[.int .i64 (i : Int), .int .i64 vv, .int .i64 (-1)] 83 (0, 0)) := by rw [← hwz]; exact heap_setCell_at kv _
            have hbz0 : Below wq.heap.size wq wz := by rw [← hwz]; exact hbv.setCell (p := ⟨R, 1, none⟩) (Nat.le_of_eq hR) _
            have HR := Lib.hid hR
            have HWV := Lib.hid hwv
            have HWZ := Lib.hid hwz
            have HBq : Hid (Below wo.heap.size wo wz) := Lib.hid (bThen HBk.out hbz0)
            have HBSz := Lib.hid (HBSq.out.below hbz0)
            have HRz := Lib.hid (HRq.out.below hbz0)
            have rz0 : wz.cell? ⟨R, 0, none⟩ = some (.int .i64 (i : Int)) := by rw [cell_of_heap kz]; rfl
            have rz1 : wz.cell? ⟨R, 1, none⟩ = some (.int .i64 vv) := by rw [cell_of_heap kz]; rfl
            have rz2 : wz.cell? ⟨R, 2, none⟩ = some (.int .i64 (-1)) := by rw [cell_of_heap kz]; rfl
            have rv : wv.cell? ⟨R, 1, none⟩ = some (.int .i64 (-1)) := by rw [cell_of_heap kv]; rfl
            have fv : wv.frozen? ⟨R, 1, none⟩ = false := frozen_of_heap kv
            have uv := bAt hbv u2
            have HBZ0 := Lib.hid hbz0
            clear hR hwv hwz kv kz hbz0 hbv
            go_upto_region 13 with fail
            rw [HWV.out, HR.out]
            go_upto_region 21 with fail
            rw [HWZ.out]
            clear rv fv uv u1 u2 u3 u4
            have c0 := bAt HBZ0.out c0
            have c1 := bAt HBZ0.out c1
            have c2 := bAt HBZ0.out c2
            have c3 := bAt HBZ0.out c3
            have c4 := bAt HBZ0.out c4
            have c5 := bAt HBZ0.out c5
            have c6 := bAt HBZ0.out c6
            have hown : ∀ W, Below wz.heap.size wz W → Calls Tryz.prog 14 #[.agg #[.int .i64 l.start, .int .i64 l.gin, .int .i64 l.gout, .slice ba nb bc, .int .i64 l.players, .int .i64 l.turns, .bool l.won]] W fun e w' => ∃ bv', e = .returned (legV l bv') ∧ Below W.heap.size W w' ∧ Sl (fun q => W.heap.size ≤ q) w' bv' (ints l.beds) := fun W hW =>
              own_any l (.slice ba nb bc) W (HBSz.out.below hW) (by rw [HBE.out, HNB.out]; have := HN6.out; omega)
            have htold : ∀ W, Below wz.heap.size wz W → Calls Tryz.prog 24 #[.slice ra m rc] W fun e w' => ∃ v, e = .returned v ∧ Below W.heap.size W w' ∧ w'.ownsRow W.heap.size 83 3 v m ((list.map rpRow).flatten) := fun W hW => by
              have h := told_own list (.slice ra m rc) W (HRz.out.below hW) (by rw [HM.out]; omega)
              rw [HM.out] at h
              exact h
            have htruth : ∀ W (xa : Option Addr) (y : Nat) (v2 : Value) (S2 : Nat → Prop) (B2 : Nat), Sl S2 W (.slice xa nb y) (ints l.beds) → W.ownsRow B2 83 3 v2 (m + 1) (((list.map rpRow).flatten) ++ rpRow r) → Calls Tryz.prog 25 #[.agg #[.int .i64 l.start, .int .i64 l.gin, .int .i64 l.gout, .slice xa nb y, .int .i64 l.players, .int .i64 l.turns, .bool l.won], v2] W fun e w' => ∃ g1 g2 g3, e = .returned (tupT n g1 g2 g3) ∧ Below W.heap.size W w' ∧ SpansAt w' g1 n (scF l (list ++ [r])) ∧ SpansAt w' g2 n (leF l (list ++ [r])) ∧ SpansAt w' g3 n (daF l (list ++ [r])) := fun W xa y v2 S2 B2 hs ho =>
              truth_ok l (.slice xa nb y) v2 (list ++ [r]) n HTN.out W hs HBI.out (SlN.of_ownsN (base := B2) (e := 83) (by rw [List.length_map, List.length_append, HM.out, List.map_append, List.flatten_append]; simpa using ho) (fun q hq => by obtain ⟨y, _, rfl⟩ := List.mem_map.1 hq; rfl)) HCK.out (by rw [List.length_append, HM.out]; simp; omega) HLR.out HTR2.out
            refine wp_region_seqV 17 ((fun v => v = .agg #[.int .i64 l.start, .int .i64 l.gin, .int .i64 l.gout, .slice ba nb bc, .int .i64 l.players, .int .i64 l.turns, .bool l.won]) :: (fun v => ∃ p : Option Addr × Nat, v = .agg #[.int .i64 l.start, .int .i64 l.gin, .int .i64 l.gout, .slice p.1 nb p.2, .int .i64 l.players, .int .i64 l.turns, .bool l.won]) :: (fun v => v = .slice ra m rc) :: (fun v => ∃ p : Option Addr × Nat, v = .slice p.1 m p.2) :: (fun v => v = .agg #[.int .i64 (i : Int), .int .i64 vv, .int .i64 (-1)]) :: (fun v => ∃ q, v = .slice (some ⟨q, 0, none⟩) 1 1) :: (fun v => ∃ p : Option Addr × Nat, v = .slice p.1 (m + 1) p.2) :: (fun v => ∃ p : Nat × Nat × Nat, v = tupT n p.1 p.2.1 p.2.2) :: (fun v => ∃ p : Nat × Nat × Nat, v = tupT n p.1 p.2.1 p.2.2) :: (fun v => ∃ g, v = slT n g) :: (fun v => ∃ g, v = slT n g) :: (fun v => ∃ g, v = slT n g) :: (fun v => v = .int .i64 0) :: (fun v => ∃ g, v = slT n g) :: (fun v => ∃ g, v = slT n g) :: (fun v => ∃ g, v = slT n g) :: (fun v => v = .int .i64 0) :: []) (JT l nb m ((list.map rpRow).flatten) (rpRow r) 1 3 5 6 7 n (scF l (list ++ [r])) (leF l (list ++ [r])) (daF l (list ++ [r])) wz) rfl mix (by kernel_rfl) (by kernel_rfl) (fun _ _ _ _ hc h => h.congr hc) (fun vs => JT.start vs) ?_
            simp only [List.take_succ_cons, List.take_zero]
            refine sv_new ⟨_, rfl⟩ rfl (fun W L vs hvs hL hj hd => ?_) ?_
            · simp only [List.length_nil] at hL ⊢
              have q0 := bAt hj.base.below c0
              have q1 := bAt hj.base.below c1
              have q2 := bAt hj.base.below c2
              have q3 := bAt hj.base.below c3
              have q4 := bAt hj.base.below c4
              have q5 := bAt hj.base.below c5
              have q6 := bAt hj.base.below c6
              exact opOK_val (v := .agg #[.int .i64 l.start, .int .i64 l.gin, .int .i64 l.gout, .slice ba nb bc, .int .i64 l.players, .int .i64 l.turns, .bool l.won]) (w' := W) (by simp [go_sem, execOp, q0, q1, q2, q3, q4, q5, q6]) ⟨rfl, hj.oth (by decide) (by decide) (by decide) (by decide) (by decide)⟩
            rintro _ rfl
            simp only [Act.put, List.setIfInBounds_toArray, List.set_cons_succ, List.set_cons_zero]
            refine sv_new ⟨_, (none, 0), rfl⟩ rfl (fun W L vs hvs hL hj hd => ?_) ?_
            · simp only [List.length_append, List.length_cons, List.length_nil, Nat.zero_add] at hL ⊢
              have h6 : L 6 = false := by
                cases e : L 6 with
                | false => rfl
                | true => rw [hj.base.d3 (hj.base.d6 e).1] at hL; cases hL
              refine opOK_call (f := 14) (args := #[.agg #[.int .i64 l.start, .int .i64 l.gin, .int .i64 l.gout, .slice ba nb bc, .int .i64 l.players, .int .i64 l.turns, .bool l.won]]) (by simp [go_sem]) ?_
              refine (hown W hj.base.below).mono ?_
              rintro e w' ⟨bv', rfl, hb3, hs3⟩
              obtain ⟨xa, y, rfl, -, -⟩ := hs3.form
              rw [ints_length, HBE.out, HNB.out] at hs3 ⊢
              rw [← HBE.out] at hs3
              exact ⟨_, rfl, ⟨(xa, y), rfl⟩, hj.low (by decide) h6 (hj.base.own1 hL hb3 hs3 (by decide) (by decide) (by decide))⟩
            rintro _ ⟨⟨xo, yo⟩, rfl⟩
            simp only [Act.put, List.setIfInBounds_toArray, List.set_cons_succ, List.set_cons_zero]
            refine sv_new ⟨_, rfl⟩ rfl (fun W L vs hvs hL hj hd => ?_) ?_
            · simp only [List.length_append, List.length_cons, List.length_nil, Nat.zero_add, Nat.reduceAdd] at hL ⊢
              exact opOK_val (v := .slice ra m rc) (w' := W) (by simp [go_sem, execOp]) ⟨rfl, hj.oth (by decide) (by decide) (by decide) (by decide) (by decide)⟩
            rintro _ rfl
            simp only [Act.put, List.setIfInBounds_toArray, List.set_cons_succ, List.set_cons_zero]
            refine sv_new ⟨_, (none, 0), rfl⟩ rfl (fun W L vs hvs hL hj hd => ?_) ?_
            · simp only [List.length_append, List.length_cons, List.length_nil, Nat.zero_add, Nat.reduceAdd] at hL ⊢
              have h6 : L 6 = false := by
                cases e : L 6 with
                | false => rfl
                | true => rw [(hj.base.d6 e).1] at hL; cases hL
              refine opOK_call (f := 24) (args := #[.slice ra m rc]) (by simp [go_sem]) ?_
              refine (htold W hj.base.below).mono ?_
              rintro e w' ⟨v, rfl, hb3, ho3⟩
              obtain ⟨xa, y, rfl⟩ := owns_form ho3
              exact ⟨_, rfl, ⟨(xa, y), rfl⟩, hj.low (by decide) h6 (hj.base.told3 (hd ⟨1, .chain⟩ (by simp) rfl) hL hb3 ho3 (by decide) (by decide) (by decide))⟩
            rintro _ ⟨⟨xt, yt⟩, rfl⟩
            simp only [Act.put, List.setIfInBounds_toArray, List.set_cons_succ, List.set_cons_zero]
            refine sv_new ⟨_, rfl⟩ rfl (fun W L vs hvs hL hj hd => ?_) ?_
            · simp only [List.length_append, List.length_cons, List.length_nil, Nat.zero_add, Nat.reduceAdd] at hL ⊢
              have p0 := bAt hj.base.below rz0
              have p1 := bAt hj.base.below rz1
              have p2 := bAt hj.base.below rz2
              exact opOK_val (v := .agg #[.int .i64 (i : Int), .int .i64 vv, .int .i64 (-1)]) (w' := W) (by simp [go_sem, execOp, p0, p1, p2]) ⟨rfl, hj.oth (by decide) (by decide) (by decide) (by decide) (by decide)⟩
            rintro _ rfl
            simp only [Act.put, List.setIfInBounds_toArray, List.set_cons_succ, List.set_cons_zero]
            refine sv_new ⟨_, 0, rfl⟩ rfl (fun W L vs hvs hL hj hd => ?_) ?_
            · simp only [List.length_append, List.length_cons, List.length_nil, Nat.zero_add, Nat.reduceAdd] at hL ⊢
              have h6 : L 6 = false := by
                cases e : L 6 with
                | false => rfl
                | true => rw [(hj.base.d6 e).2] at hL; cases hL
              exact opOK_val (v := .slice (some ⟨W.heap.size, 0, none⟩) 1 1) (w' := W.alloc (.cells #[.int .i64 (i : Int), .int .i64 vv, .int .i64 (-1)] 83)) (by simp [go_sem, execOp]) ⟨⟨_, rfl⟩, hj.low (by decide) h6 (hj.base.lit5 (aB _ _) (fun j u hu => by rw [cell_of_heap (World.alloc_heap_new _ _), Nat.zero_add]; rw [HRW.out] at hu; simpa using hu) (by decide) (by decide) (by decide))⟩
            rintro _ ⟨q5, rfl⟩
            simp only [Act.put, List.setIfInBounds_toArray, List.set_cons_succ, List.set_cons_zero]
            refine sv_new ⟨_, (none, 0), rfl⟩ rfl (fun W L vs hvs hL hj hd => ?_) ?_
            · simp only [List.length_append, List.length_cons, List.length_nil, Nat.zero_add, Nat.reduceAdd] at hL ⊢
              have hL3 := hd ⟨3, .data⟩ (by simp) rfl
              have hL5 := hd ⟨5, .data⟩ (by simp) rfl
              have e3 := hvs 3 (.slice xt m yt) (by simp)
              have e5 := hvs 5 (.slice (some ⟨q5, 0, none⟩) 1 1) (by simp)
              have ht := hj.base.told hL3 hL
              obtain ⟨q', e5', hq'⟩ := hj.base.lit hL5 hL
              rw [e5] at e5'
              cases e5'
              have ht2 := ht
              rw [e3] at ht2
              refine opOK_mono (opOK_appendN_at (.tmp 100) (.tmp 102) 53 rfl wz.heap.size 83 (.agg #[.int .i64 0, .int .i64 0, .int .i64 0]) 3 24 Tryz.underlying53 info_rp rfl (by decide) (.slice xt m yt) m ((list.map rpRow).flatten) rfl ht2 q5 0 1 1 (rpRow r) rfl rfl hq' (rpRow_one r) (by omega) (by decide) hj.base.below.size) ?_
              rintro v' w' ⟨h1, h2, h3⟩
              obtain ⟨xa, y, rfl⟩ := owns_form h1
              exact ⟨⟨(xa, y), rfl⟩, hj.low (by decide) hL (hj.base.app6 hL3 hL5 hL (by rw [e3]; exact h2) h1 (by decide) (by decide) (by decide))⟩
            rintro _ ⟨⟨xp, yp⟩, rfl⟩
            simp only [Act.put, List.setIfInBounds_toArray, List.set_cons_succ, List.set_cons_zero]
            refine sv_new ⟨_, (0, 0, 0), rfl⟩ rfl (fun W L vs hvs hL hj hd => ?_) ?_
            · simp only [List.length_append, List.length_cons, List.length_nil, Nat.zero_add, Nat.reduceAdd] at hL ⊢
              have hL1 := hd ⟨1, .data⟩ (by simp) rfl
              have hL6 := hd ⟨6, .data⟩ (by simp) rfl
              have e1 := hvs 1 (.agg #[.int .i64 l.start, .int .i64 l.gin, .int .i64 l.gout, .slice xo nb yo, .int .i64 l.players, .int .i64 l.turns, .bool l.won]) (by simp)
              have e6 := hvs 6 (.slice xp (m + 1) yp) (by simp)
              obtain ⟨xa, y, e1', hs4⟩ := hj.base.own hL1
              rw [e1] at e1'
              cases e1'
              have ha := hj.base.app hL6
              rw [e6] at ha
              refine opOK_call (f := 25) (args := #[.agg #[.int .i64 l.start, .int .i64 l.gin, .int .i64 l.gout, .slice xo nb yo, .int .i64 l.players, .int .i64 l.turns, .bool l.won], .slice xp (m + 1) yp]) (by simp [go_sem]) ?_
              refine (htruth W xo yo (.slice xp (m + 1) yp) _ _ hs4 ha).mono ?_
              rintro e w' ⟨g1, g2, g3, rfl, hb3, k1, k2, k3⟩
              exact ⟨_, rfl, ⟨(g1, g2, g3), rfl⟩, hj.at_ (k0 := 0) hb3 (by decide) (by decide) (by decide) (by decide) (by decide) hL6 (fun _ => ⟨g1, g2, g3, rfl, k1, k2, k3⟩) (fun h => absurd h (by decide))⟩
            rintro _ ⟨⟨ta, tb, tc⟩, rfl⟩
            simp only [Act.put, List.setIfInBounds_toArray, List.set_cons_succ, List.set_cons_zero]
            refine sv_new ⟨_, (0, 0, 0), rfl⟩ rfl (fun W L vs hvs hL hj hd => ?_) ?_
            · simp only [List.length_append, List.length_cons, List.length_nil, Nat.zero_add, Nat.reduceAdd] at hL ⊢
              have hL7 := hd ⟨7, .data⟩ (by simp) rfl
              obtain ⟨g1, g2, g3, e1, k1, k2, k3⟩ := hj.t7 0 (by decide) hL7
              have e2 := hvs 7 (tupT n ta tb tc) (by simp)
              rw [show 7 + 0 = 7 from rfl, e2] at e1
              simp only [tupT, slT, Value.tuple.injEq, Array.mk.injEq, List.cons.injEq, Value.slice.injEq, Option.some.injEq, Addr.mk.injEq, and_true] at e1
              obtain ⟨rfl, rfl, rfl⟩ := e1
              exact opOK_val (v := tupT n ta tb tc) (w' := W) (by simp [go_sem, execOp, tupT, slT]) ⟨⟨(ta, tb, tc), rfl⟩, hj.at_ (k0 := 1) (Below.refl _ _) (by decide) (by decide) (by decide) (by decide) (by decide) (hj.d7 0 (by decide) hL7) (fun _ => ⟨ta, tb, tc, rfl, k1, k2, k3⟩) (fun h => absurd h (by decide))⟩
            rintro _ ⟨⟨tp, tq, tr⟩, rfl⟩
            simp only [Act.put, List.setIfInBounds_toArray, List.set_cons_succ, List.set_cons_zero]
            refine sv_new ⟨_, 0, rfl⟩ rfl (fun W L vs hvs hL hj hd => ?_) ?_
            · simp only [List.length_append, List.length_cons, List.length_nil, Nat.zero_add, Nat.reduceAdd] at hL ⊢
              have hL7 := hd ⟨8, .data⟩ (by simp) rfl
              obtain ⟨g1, g2, g3, e1, k1, k2, k3⟩ := hj.t7 1 (by decide) hL7
              have e2 := hvs 8 (tupT n tp tq tr) (by simp)
              rw [show 7 + 1 = 8 from rfl, e2] at e1
              simp only [tupT, slT, Value.tuple.injEq, Array.mk.injEq, List.cons.injEq, Value.slice.injEq, Option.some.injEq, Addr.mk.injEq, and_true] at e1
              obtain ⟨rfl, rfl, rfl⟩ := e1
              exact opOK_val (v := slT n tp) (w' := W) (by simp [go_sem, execOp, tupT, slT]) ⟨⟨tp, rfl⟩, hj.at_ (k0 := 2) (Below.refl _ _) (by decide) (by decide) (by decide) (by decide) (by decide) (hj.d7 1 (by decide) hL7) (fun h => absurd h (by decide)) (fun _ _ _ => ⟨tp, rfl, k1⟩)⟩
            rintro _ ⟨y2, rfl⟩
            simp only [Act.put, List.setIfInBounds_toArray, List.set_cons_succ, List.set_cons_zero]
            refine sv_new ⟨_, 0, rfl⟩ rfl (fun W L vs hvs hL hj hd => ?_) ?_
            · simp only [List.length_append, List.length_cons, List.length_nil, Nat.zero_add, Nat.reduceAdd] at hL ⊢
              have hL7 := hd ⟨8, .data⟩ (by simp) rfl
              obtain ⟨g1, g2, g3, e1, k1, k2, k3⟩ := hj.t7 1 (by decide) hL7
              have e2 := hvs 8 (tupT n tp tq tr) (by simp)
              rw [show 7 + 1 = 8 from rfl, e2] at e1
              simp only [tupT, slT, Value.tuple.injEq, Array.mk.injEq, List.cons.injEq, Value.slice.injEq, Option.some.injEq, Addr.mk.injEq, and_true] at e1
              obtain ⟨rfl, rfl, rfl⟩ := e1
              exact opOK_val (v := slT n tq) (w' := W) (by simp [go_sem, execOp, tupT, slT]) ⟨⟨tq, rfl⟩, hj.at_ (k0 := 3) (Below.refl _ _) (by decide) (by decide) (by decide) (by decide) (by decide) (hj.d7 1 (by decide) hL7) (fun h => absurd h (by decide)) (fun _ _ _ => ⟨tq, rfl, k2⟩)⟩
            rintro _ ⟨y3, rfl⟩
            simp only [Act.put, List.setIfInBounds_toArray, List.set_cons_succ, List.set_cons_zero]
            refine sv_new ⟨_, 0, rfl⟩ rfl (fun W L vs hvs hL hj hd => ?_) ?_
            · simp only [List.length_append, List.length_cons, List.length_nil, Nat.zero_add, Nat.reduceAdd] at hL ⊢
              have hL7 := hd ⟨8, .data⟩ (by simp) rfl
              obtain ⟨g1, g2, g3, e1, k1, k2, k3⟩ := hj.t7 1 (by decide) hL7
              have e2 := hvs 8 (tupT n tp tq tr) (by simp)
              rw [show 7 + 1 = 8 from rfl, e2] at e1
              simp only [tupT, slT, Value.tuple.injEq, Array.mk.injEq, List.cons.injEq, Value.slice.injEq, Option.some.injEq, Addr.mk.injEq, and_true] at e1
              obtain ⟨rfl, rfl, rfl⟩ := e1
              exact opOK_val (v := slT n tr) (w' := W) (by simp [go_sem, execOp, tupT, slT]) ⟨⟨tr, rfl⟩, hj.at_ (k0 := 4) (Below.refl _ _) (by decide) (by decide) (by decide) (by decide) (by decide) (hj.d7 1 (by decide) hL7) (fun h => absurd h (by decide)) (fun _ _ _ => ⟨tr, rfl, k3⟩)⟩
            rintro _ ⟨y4, rfl⟩
            simp only [Act.put, List.setIfInBounds_toArray, List.set_cons_succ, List.set_cons_zero]
            refine sv_new ⟨_, rfl⟩ rfl (fun W L vs hvs hL hj hd => ?_) ?_
            · simp only [List.length_append, List.length_cons, List.length_nil, Nat.zero_add, Nat.reduceAdd] at hL ⊢
              have hL7 := hd ⟨8, .data⟩ (by simp) rfl
              exact opOK_val (v := .int .i64 0) (w' := W) (by simp [go_sem, execOp, tupT]) ⟨rfl, hj.at_ (k0 := 5) (Below.refl _ _) (by decide) (by decide) (by decide) (by decide) (by decide) (hj.d7 1 (by decide) hL7) (fun h => absurd h (by decide)) (fun _ _ _ => by contradiction)⟩
            rintro _ rfl
            simp only [Act.put, List.setIfInBounds_toArray, List.set_cons_succ, List.set_cons_zero]
            refine sv_new ⟨_, 0, rfl⟩ rfl (fun W L vs hvs hL hj hd => ?_) ?_
            · simp only [List.length_append, List.length_cons, List.length_nil, Nat.zero_add, Nat.reduceAdd] at hL ⊢
              have hL7 := hd ⟨9, .data⟩ (by simp) rfl
              obtain ⟨g, e1, k1⟩ := hj.sp 2 (by decide) (by decide) (by decide) (by decide) hL7
              have e2 := hvs 9 (slT n y2) (by simp)
              rw [show 7 + 2 = 9 from rfl, e2] at e1
              simp only [slT, Value.slice.injEq, Option.some.injEq, Addr.mk.injEq, and_true] at e1
              subst e1
              exact opOK_val (v := slT n y2) (w' := W) (by simp [go_sem, execOp, slT]) ⟨⟨y2, rfl⟩, hj.at_ (k0 := 6) (Below.refl _ _) (by decide) (by decide) (by decide) (by decide) (by decide) (hj.d7 2 (by decide) hL7) (fun h => absurd h (by decide)) (fun _ _ _ => ⟨y2, rfl, k1⟩)⟩
            rintro _ ⟨s6, rfl⟩
            simp only [Act.put, List.setIfInBounds_toArray, List.set_cons_succ, List.set_cons_zero]
            refine sv_new ⟨_, 0, rfl⟩ rfl (fun W L vs hvs hL hj hd => ?_) ?_
            · simp only [List.length_append, List.length_cons, List.length_nil, Nat.zero_add, Nat.reduceAdd] at hL ⊢
              have hL7 := hd ⟨10, .data⟩ (by simp) rfl
              obtain ⟨g, e1, k1⟩ := hj.sp 3 (by decide) (by decide) (by decide) (by decide) hL7
              have e2 := hvs 10 (slT n y3) (by simp)
              rw [show 7 + 3 = 10 from rfl, e2] at e1
              simp only [slT, Value.slice.injEq, Option.some.injEq, Addr.mk.injEq, and_true] at e1
              subst e1
              exact opOK_val (v := slT n y3) (w' := W) (by simp [go_sem, execOp, slT]) ⟨⟨y3, rfl⟩, hj.at_ (k0 := 7) (Below.refl _ _) (by decide) (by decide) (by decide) (by decide) (by decide) (hj.d7 3 (by decide) hL7) (fun h => absurd h (by decide)) (fun _ _ _ => ⟨y3, rfl, k1⟩)⟩
            rintro _ ⟨s7, rfl⟩
            simp only [Act.put, List.setIfInBounds_toArray, List.set_cons_succ, List.set_cons_zero]
            refine sv_new ⟨_, 0, rfl⟩ rfl (fun W L vs hvs hL hj hd => ?_) ?_
            · simp only [List.length_append, List.length_cons, List.length_nil, Nat.zero_add, Nat.reduceAdd] at hL ⊢
              have hL7 := hd ⟨11, .data⟩ (by simp) rfl
              obtain ⟨g, e1, k1⟩ := hj.sp 4 (by decide) (by decide) (by decide) (by decide) hL7
              have e2 := hvs 11 (slT n y4) (by simp)
              rw [show 7 + 4 = 11 from rfl, e2] at e1
              simp only [slT, Value.slice.injEq, Option.some.injEq, Addr.mk.injEq, and_true] at e1
              subst e1
              exact opOK_val (v := slT n y4) (w' := W) (by simp [go_sem, execOp, slT]) ⟨⟨y4, rfl⟩, hj.at_ (k0 := 8) (Below.refl _ _) (by decide) (by decide) (by decide) (by decide) (by decide) (hj.d7 4 (by decide) hL7) (fun h => absurd h (by decide)) (fun _ _ _ => ⟨y4, rfl, k1⟩)⟩
            rintro _ ⟨s8, rfl⟩
            simp only [Act.put, List.setIfInBounds_toArray, List.set_cons_succ, List.set_cons_zero]
            refine sv_new ⟨_, rfl⟩ rfl (fun W L vs hvs hL hj hd => ?_) ?_
            · simp only [List.length_append, List.length_cons, List.length_nil, Nat.zero_add, Nat.reduceAdd] at hL ⊢
              have hL7 := hd ⟨12, .data⟩ (by simp) rfl
              exact opOK_val (v := .int .i64 0) (w' := W) (by simp [go_sem, execOp, tupT]) ⟨rfl, hj.at_ (k0 := 9) (Below.refl _ _) (by decide) (by decide) (by decide) (by decide) (by decide) (hj.d7 5 (by decide) hL7) (fun h => absurd h (by decide)) (fun _ _ _ => by contradiction)⟩
            rintro _ rfl
            simp only [Act.put, List.setIfInBounds_toArray, List.set_cons_succ, List.set_cons_zero]
            refine sv_end fun vs wy hvs hj => ?_
            simp only [List.drop_succ_cons, List.drop_zero]
            obtain ⟨gg, e1, k1⟩ := hj.sp 6 (by decide) (by decide) (by decide) (by decide) (by decide)
            have e2 := hvs 13 (slT n s6) (by simp)
            rw [show 7 + 6 = 13 from rfl, e2] at e1
            simp only [slT, Value.slice.injEq, Option.some.injEq, Addr.mk.injEq, and_true] at e1
            subst e1
            obtain ⟨gg, e1, l1⟩ := hj.sp 7 (by decide) (by decide) (by decide) (by decide) (by decide)
            have e2 := hvs 14 (slT n s7) (by simp)
            rw [show 7 + 7 = 14 from rfl, e2] at e1
            simp only [slT, Value.slice.injEq, Option.some.injEq, Addr.mk.injEq, and_true] at e1
            subst e1
            have HS6 : Hid (SpansAt wy s6 n (scF l (list ++ [r]))) := Lib.hid k1
            have HS7 : Hid (SpansAt wy s7 n (leF l (list ++ [r]))) := Lib.hid l1
            have hbz := hj.base.below
            clear hvs hj k1 l1 e2 hown htold htruth
            simp only [slT]
            have ne5 : ((n : Int) != l.turns) = false := by rw [HTN.out]; simp
            have HSn : Hid (wy.cell? ⟨s6, i * 2, none⟩ = some (.int .i64 vv) ∧ wy.cell? ⟨s6, i * 2 + 1, none⟩ = some (.int .i64 vv)) := Lib.hid (by
              have h := HS6.out.cells hlt
              rw [HSV.out] at h; exact h)
            obtain ⟨u7, u8⟩ := HSn.out
            have kt := bAt hbz c5
            have kr := bAt hbz rz1
            have HBy := Lib.hid (bThen HBq.out hbz)
            clear hbz
            go_upto_region 22 with fail
            refine wp_region_seqW (.is (.int .i64 0) :: .is (.bool false) :: .is (.bool false) :: .is (.slice (some ⟨s6, 0, none⟩) n n) :: .is (.int .i64 (n : Int)) :: .is (.pointer (some ⟨K, 5, none⟩)) :: .is (.int .i64 l.turns) :: .is (.bool false) :: .is (.bool false) :: .is (.bool false) :: .is (.slice (some ⟨s7, 0, none⟩) n n) :: .is (.int .i64 (n : Int)) :: .is (.pointer (some ⟨K, 5, none⟩)) :: .is (.int .i64 l.turns) :: .is (.bool false) :: .is (.bool false) :: .is (.bool false) :: .is (.int .i64 (1 : Int)) :: .is (.bool true) :: .is (.bool true) :: .is (.slice (some ⟨s6, 0, none⟩) n n) :: .is (.int .i64 (i : Int)) :: .is (.pointer (some ⟨s6, i * 2, none⟩)) :: .is (.agg #[.int .i64 vv, .int .i64 vv]) :: .is (.pointer (some ⟨R, 1, none⟩)) :: .is (.int .i64 vv) :: .is (.pointer (some ⟨R, 1, none⟩)) :: .is (.int .i64 vv) :: .is (.agg #[.int .i64 vv, .int .i64 vv]) :: .is (.bool false) :: .is (.bool false) :: .is (.bool false) :: .is (.bool false) :: .is (.int .i64 (1 : Int)) :: .is (.bool false) :: .is (.bool false) :: .is (undef) :: .is (undef) :: .is (undef) :: .is (undef) :: .is (undef) :: .is (undef) :: .is (undef) :: .is (undef) :: .is (undef) :: .is (undef) :: .is (.bool false) :: .is (.bool false) :: []) rfl mix (by kernel_rfl) (by kernel_rfl) ?_
            iterate 28
              refine seq_on (by rfl) (fun w4 hb4 _ => ?_) ?_
              · have kt' := bAt hb4 kt
                have kr' := bAt hb4 kr
                have u7' := bAt hb4 u7
                have u8' := bAt hb4 u8
                simp [opOK, go_sem, kt', kr', u7', u8', ne5, hli, Below.refl]
                try exact rfl
              simp only [Act.put, List.setIfInBounds_toArray, List.set_cons_succ, List.set_cons_zero]
            refine seq_on (by rfl) (fun w4 hb4 _ => ?_) ?_
            · refine opOK_call (f := 23) (args := #[.int .i64 vv, .int .i64 vv]) (by simp [go_sem]) ?_
              refine (to_any vv vv w4).mono ?_
              rintro e w' ⟨rfl, hbi⟩
              exact ⟨_, rfl, rfl, hbi⟩
            simp only [Act.put, List.setIfInBounds_toArray, List.set_cons_succ, List.set_cons_zero]
            iterate 7
              refine seq_on (by rfl) (fun w4 hb4 _ => ?_) ?_
              · have kt' := bAt hb4 kt
                have kr' := bAt hb4 kr
                have u7' := bAt hb4 u7
                have u8' := bAt hb4 u8
                simp [opOK, go_sem, Below.refl]
                try exact rfl
              simp only [Act.put, List.setIfInBounds_toArray, List.set_cons_succ, List.set_cons_zero]
            refine seq_off (by rfl) ?_
            simp only [Act.put, List.setIfInBounds_toArray, List.set_cons_succ, List.set_cons_zero]
            refine seq_off (by rfl) ?_
            simp only [Act.put, List.setIfInBounds_toArray, List.set_cons_succ, List.set_cons_zero]
            refine seq_off (by rfl) ?_
            simp only [Act.put, List.setIfInBounds_toArray, List.set_cons_succ, List.set_cons_zero]
            refine seq_off (by rfl) ?_
            simp only [Act.put, List.setIfInBounds_toArray, List.set_cons_succ, List.set_cons_zero]
            refine seq_off (by rfl) ?_
            simp only [Act.put, List.setIfInBounds_toArray, List.set_cons_succ, List.set_cons_zero]
            refine seq_off (by rfl) ?_
            simp only [Act.put, List.setIfInBounds_toArray, List.set_cons_succ, List.set_cons_zero]
            refine seq_off (by rfl) ?_
            simp only [Act.put, List.setIfInBounds_toArray, List.set_cons_succ, List.set_cons_zero]
            refine seq_off (by rfl) ?_
            simp only [Act.put, List.setIfInBounds_toArray, List.set_cons_succ, List.set_cons_zero]
            refine seq_off (by rfl) ?_
            simp only [Act.put, List.setIfInBounds_toArray, List.set_cons_succ, List.set_cons_zero]
            refine seq_off (by rfl) ?_
            simp only [Act.put, List.setIfInBounds_toArray, List.set_cons_succ, List.set_cons_zero]
            iterate 2
              refine seq_on (by rfl) (fun w4 hb4 _ => ?_) ?_
              · have kt' := bAt hb4 kt
                have kr' := bAt hb4 kr
                have u7' := bAt hb4 u7
                have u8' := bAt hb4 u8
                simp [opOK, go_sem, Below.refl]
                try exact rfl
              simp only [Act.put, List.setIfInBounds_toArray, List.set_cons_succ, List.set_cons_zero]
            refine seq_end fun w4 hb4 hH => ?_
            have HB4 : Hid (Below wo.heap.size wo w4) := Lib.hid (bThen HBy.out hb4)
            clear hH hb4 u7 u8 kt kr ne5 rz0 rz1 rz2
            go_wp2_with fail
            go_roundw
            case rel => exact ⟨2, by omega, by go_num, HB4⟩
            case measure => simp [intOf]
          · as_aux_lemma =>
            obtain ⟨vv, hv⟩ : ∃ z, (leF l list i).1 = z := ⟨_, rfl⟩
            rw [hv] at u3
            have hre := left_reached HBD.out.1 HBD.out.2.1 HGB.out HBD.out.2.2.1 HTR.out HIT.out (v := vv) (.inl hv.symm)
            obtain ⟨r, hr⟩ : ∃ r : Rp, r = ⟨i, -1, vv⟩ := ⟨_, rfl⟩
            rw [← hr] at hre
            have HRW : Hid (rpRow r = [.int .i64 (i : Int), .int .i64 (-1), .int .i64 vv]) := Lib.hid (by rw [hr]; rfl)
            have HTR2 := Lib.hid hre.2.2.1
            have HSV : Hid (leF l (list ++ [r]) i = (vv, vv)) := Lib.hid hre.2.2.2
            have HLR : Hid (∀ y ∈ list ++ [r], badR l.turns y = false) := Lib.hid (fun y hy => (List.mem_append.1 hy).elim (HLB.out y) fun hy => by
              rw [List.mem_singleton] at hy
              rw [hy, hr]
              have h1 := hre.1
              have h2 := hre.2.1
              have h3 := HBD.out.2.2.2
              refine badR_no ⟨by show (0 : Int) ≤ (i : Int); omega, by show (i : Int) ≤ l.turns - 1; rw [HTN.out]; omega⟩ ?_ ?_
              · show (-1 : Int) ≤ -1 ∧ (-1 : Int) ≤ 240; omega
              · show -1 ≤ vv ∧ vv ≤ 1001; omega)
            clear hre hv hr
            obtain ⟨R, hR⟩ : ∃ R, wq.heap.size = R := ⟨_, rfl⟩
            obtain ⟨wv, hwv⟩ : ∃ y, wq.alloc (.cells #[.int .i64 (i : Int), .int .i64 (-1), .int .i64 (-1)] 83) = y := ⟨_, rfl⟩
            have hbv : Below wq.heap.size wq wv := by rw [← hwv]; exact aB _ _
            have kv : wv.heap[R]? = some (.cells #[.int .i64 (i : Int), .int .i64 (-1), .int .i64 (-1)] 83 (0, 0)) := by rw [← hwv, ← hR]; exact World.alloc_heap_new _ _
            obtain ⟨wz, hwz⟩ : ∃ y, wv.setCell ⟨R, 2, none⟩ (.int .i64 vv) = y := ⟨_, rfl⟩
            have kz : wz.heap[R]? = some (.cells #[.int .i64 (i : Int), .int .i64 (-1), .int .i64 vv] 83 (0, 0)) := by rw [← hwz]; exact heap_setCell_at kv _
            have hbz0 : Below wq.heap.size wq wz := by rw [← hwz]; exact hbv.setCell (p := ⟨R, 2, none⟩) (Nat.le_of_eq hR) _
            have HR := Lib.hid hR
            have HWV := Lib.hid hwv
            have HWZ := Lib.hid hwz
            have HBq : Hid (Below wo.heap.size wo wz) := Lib.hid (bThen HBk.out hbz0)
            have HBSz := Lib.hid (HBSq.out.below hbz0)
            have HRz := Lib.hid (HRq.out.below hbz0)
            have rz0 : wz.cell? ⟨R, 0, none⟩ = some (.int .i64 (i : Int)) := by rw [cell_of_heap kz]; rfl
            have rz1 : wz.cell? ⟨R, 1, none⟩ = some (.int .i64 (-1)) := by rw [cell_of_heap kz]; rfl
            have rz2 : wz.cell? ⟨R, 2, none⟩ = some (.int .i64 vv) := by rw [cell_of_heap kz]; rfl
            have rv : wv.cell? ⟨R, 2, none⟩ = some (.int .i64 (-1)) := by rw [cell_of_heap kv]; rfl
            have fv : wv.frozen? ⟨R, 2, none⟩ = false := frozen_of_heap kv
            have uv := bAt hbv u3
            have HBZ0 := Lib.hid hbz0
            clear hR hwv hwz kv kz hbz0 hbv
            go_upto_region 13 with fail
            rw [HWV.out, HR.out]
            go_upto_region 21 with fail
            rw [HWZ.out]
            clear rv fv uv u1 u2 u3 u4
            have c0 := bAt HBZ0.out c0
            have c1 := bAt HBZ0.out c1
            have c2 := bAt HBZ0.out c2
            have c3 := bAt HBZ0.out c3
            have c4 := bAt HBZ0.out c4
            have c5 := bAt HBZ0.out c5
            have c6 := bAt HBZ0.out c6
            have hown : ∀ W, Below wz.heap.size wz W → Calls Tryz.prog 14 #[.agg #[.int .i64 l.start, .int .i64 l.gin, .int .i64 l.gout, .slice ba nb bc, .int .i64 l.players, .int .i64 l.turns, .bool l.won]] W fun e w' => ∃ bv', e = .returned (legV l bv') ∧ Below W.heap.size W w' ∧ Sl (fun q => W.heap.size ≤ q) w' bv' (ints l.beds) := fun W hW =>
              own_any l (.slice ba nb bc) W (HBSz.out.below hW) (by rw [HBE.out, HNB.out]; have := HN6.out; omega)
            have htold : ∀ W, Below wz.heap.size wz W → Calls Tryz.prog 24 #[.slice ra m rc] W fun e w' => ∃ v, e = .returned v ∧ Below W.heap.size W w' ∧ w'.ownsRow W.heap.size 83 3 v m ((list.map rpRow).flatten) := fun W hW => by
              have h := told_own list (.slice ra m rc) W (HRz.out.below hW) (by rw [HM.out]; omega)
              rw [HM.out] at h
              exact h
            have htruth : ∀ W (xa : Option Addr) (y : Nat) (v2 : Value) (S2 : Nat → Prop) (B2 : Nat), Sl S2 W (.slice xa nb y) (ints l.beds) → W.ownsRow B2 83 3 v2 (m + 1) (((list.map rpRow).flatten) ++ rpRow r) → Calls Tryz.prog 25 #[.agg #[.int .i64 l.start, .int .i64 l.gin, .int .i64 l.gout, .slice xa nb y, .int .i64 l.players, .int .i64 l.turns, .bool l.won], v2] W fun e w' => ∃ g1 g2 g3, e = .returned (tupT n g1 g2 g3) ∧ Below W.heap.size W w' ∧ SpansAt w' g1 n (scF l (list ++ [r])) ∧ SpansAt w' g2 n (leF l (list ++ [r])) ∧ SpansAt w' g3 n (daF l (list ++ [r])) := fun W xa y v2 S2 B2 hs ho =>
              truth_ok l (.slice xa nb y) v2 (list ++ [r]) n HTN.out W hs HBI.out (SlN.of_ownsN (base := B2) (e := 83) (by rw [List.length_map, List.length_append, HM.out, List.map_append, List.flatten_append]; simpa using ho) (fun q hq => by obtain ⟨y, _, rfl⟩ := List.mem_map.1 hq; rfl)) HCK.out (by rw [List.length_append, HM.out]; simp; omega) HLR.out HTR2.out
            refine wp_region_seqV 17 ((fun v => v = .agg #[.int .i64 l.start, .int .i64 l.gin, .int .i64 l.gout, .slice ba nb bc, .int .i64 l.players, .int .i64 l.turns, .bool l.won]) :: (fun v => ∃ p : Option Addr × Nat, v = .agg #[.int .i64 l.start, .int .i64 l.gin, .int .i64 l.gout, .slice p.1 nb p.2, .int .i64 l.players, .int .i64 l.turns, .bool l.won]) :: (fun v => v = .slice ra m rc) :: (fun v => ∃ p : Option Addr × Nat, v = .slice p.1 m p.2) :: (fun v => v = .agg #[.int .i64 (i : Int), .int .i64 (-1), .int .i64 vv]) :: (fun v => ∃ q, v = .slice (some ⟨q, 0, none⟩) 1 1) :: (fun v => ∃ p : Option Addr × Nat, v = .slice p.1 (m + 1) p.2) :: (fun v => ∃ p : Nat × Nat × Nat, v = tupT n p.1 p.2.1 p.2.2) :: (fun v => ∃ p : Nat × Nat × Nat, v = tupT n p.1 p.2.1 p.2.2) :: (fun v => ∃ g, v = slT n g) :: (fun v => ∃ g, v = slT n g) :: (fun v => ∃ g, v = slT n g) :: (fun v => v = .int .i64 0) :: (fun v => ∃ g, v = slT n g) :: (fun v => ∃ g, v = slT n g) :: (fun v => ∃ g, v = slT n g) :: (fun v => v = .int .i64 0) :: []) (JT l nb m ((list.map rpRow).flatten) (rpRow r) 1 3 5 6 7 n (scF l (list ++ [r])) (leF l (list ++ [r])) (daF l (list ++ [r])) wz) rfl mix (by kernel_rfl) (by kernel_rfl) (fun _ _ _ _ hc h => h.congr hc) (fun vs => JT.start vs) ?_
            simp only [List.take_succ_cons, List.take_zero]
            refine sv_new ⟨_, rfl⟩ rfl (fun W L vs hvs hL hj hd => ?_) ?_
            · simp only [List.length_nil] at hL ⊢
              have q0 := bAt hj.base.below c0
              have q1 := bAt hj.base.below c1
              have q2 := bAt hj.base.below c2
              have q3 := bAt hj.base.below c3
              have q4 := bAt hj.base.below c4
              have q5 := bAt hj.base.below c5
              have q6 := bAt hj.base.below c6
              exact opOK_val (v := .agg #[.int .i64 l.start, .int .i64 l.gin, .int .i64 l.gout, .slice ba nb bc, .int .i64 l.players, .int .i64 l.turns, .bool l.won]) (w' := W) (by simp [go_sem, execOp, q0, q1, q2, q3, q4, q5, q6]) ⟨rfl, hj.oth (by decide) (by decide) (by decide) (by decide) (by decide)⟩
            rintro _ rfl
            simp only [Act.put, List.setIfInBounds_toArray, List.set_cons_succ, List.set_cons_zero]
            refine sv_new ⟨_, (none, 0), rfl⟩ rfl (fun W L vs hvs hL hj hd => ?_) ?_
            · simp only [List.length_append, List.length_cons, List.length_nil, Nat.zero_add] at hL ⊢
              have h6 : L 6 = false := by
                cases e : L 6 with
                | false => rfl
                | true => rw [hj.base.d3 (hj.base.d6 e).1] at hL; cases hL
              refine opOK_call (f := 14) (args := #[.agg #[.int .i64 l.start, .int .i64 l.gin, .int .i64 l.gout, .slice ba nb bc, .int .i64 l.players, .int .i64 l.turns, .bool l.won]]) (by simp [go_sem]) ?_
              refine (hown W hj.base.below).mono ?_
              rintro e w' ⟨bv', rfl, hb3, hs3⟩
              obtain ⟨xa, y, rfl, -, -⟩ := hs3.form
              rw [ints_length, HBE.out, HNB.out] at hs3 ⊢
              rw [← HBE.out] at hs3
              exact ⟨_, rfl, ⟨(xa, y), rfl⟩, hj.low (by decide) h6 (hj.base.own1 hL hb3 hs3 (by decide) (by decide) (by decide))⟩
            rintro _ ⟨⟨xo, yo⟩, rfl⟩
            simp only [Act.put, List.setIfInBounds_toArray, List.set_cons_succ, List.set_cons_zero]
            refine sv_new ⟨_, rfl⟩ rfl (fun W L vs hvs hL hj hd => ?_) ?_
            · simp only [List.length_append, List.length_cons, List.length_nil, Nat.zero_add, Nat.reduceAdd] at hL ⊢
              exact opOK_val (v := .slice ra m rc) (w' := W) (by simp [go_sem, execOp]) ⟨rfl, hj.oth (by decide) (by decide) (by decide) (by decide) (by decide)⟩
            rintro _ rfl
            simp only [Act.put, List.setIfInBounds_toArray, List.set_cons_succ, List.set_cons_zero]
            refine sv_new ⟨_, (none, 0), rfl⟩ rfl (fun W L vs hvs hL hj hd => ?_) ?_
            · simp only [List.length_append, List.length_cons, List.length_nil, Nat.zero_add, Nat.reduceAdd] at hL ⊢
              have h6 : L 6 = false := by
                cases e : L 6 with
                | false => rfl
                | true => rw [(hj.base.d6 e).1] at hL; cases hL
              refine opOK_call (f := 24) (args := #[.slice ra m rc]) (by simp [go_sem]) ?_
              refine (htold W hj.base.below).mono ?_
              rintro e w' ⟨v, rfl, hb3, ho3⟩
              obtain ⟨xa, y, rfl⟩ := owns_form ho3
              exact ⟨_, rfl, ⟨(xa, y), rfl⟩, hj.low (by decide) h6 (hj.base.told3 (hd ⟨1, .chain⟩ (by simp) rfl) hL hb3 ho3 (by decide) (by decide) (by decide))⟩
            rintro _ ⟨⟨xt, yt⟩, rfl⟩
            simp only [Act.put, List.setIfInBounds_toArray, List.set_cons_succ, List.set_cons_zero]
            refine sv_new ⟨_, rfl⟩ rfl (fun W L vs hvs hL hj hd => ?_) ?_
            · simp only [List.length_append, List.length_cons, List.length_nil, Nat.zero_add, Nat.reduceAdd] at hL ⊢
              have p0 := bAt hj.base.below rz0
              have p1 := bAt hj.base.below rz1
              have p2 := bAt hj.base.below rz2
              exact opOK_val (v := .agg #[.int .i64 (i : Int), .int .i64 (-1), .int .i64 vv]) (w' := W) (by simp [go_sem, execOp, p0, p1, p2]) ⟨rfl, hj.oth (by decide) (by decide) (by decide) (by decide) (by decide)⟩
            rintro _ rfl
            simp only [Act.put, List.setIfInBounds_toArray, List.set_cons_succ, List.set_cons_zero]
            refine sv_new ⟨_, 0, rfl⟩ rfl (fun W L vs hvs hL hj hd => ?_) ?_
            · simp only [List.length_append, List.length_cons, List.length_nil, Nat.zero_add, Nat.reduceAdd] at hL ⊢
              have h6 : L 6 = false := by
                cases e : L 6 with
                | false => rfl
                | true => rw [(hj.base.d6 e).2] at hL; cases hL
              exact opOK_val (v := .slice (some ⟨W.heap.size, 0, none⟩) 1 1) (w' := W.alloc (.cells #[.int .i64 (i : Int), .int .i64 (-1), .int .i64 vv] 83)) (by simp [go_sem, execOp]) ⟨⟨_, rfl⟩, hj.low (by decide) h6 (hj.base.lit5 (aB _ _) (fun j u hu => by rw [cell_of_heap (World.alloc_heap_new _ _), Nat.zero_add]; rw [HRW.out] at hu; simpa using hu) (by decide) (by decide) (by decide))⟩
            rintro _ ⟨q5, rfl⟩
            simp only [Act.put, List.setIfInBounds_toArray, List.set_cons_succ, List.set_cons_zero]
            refine sv_new ⟨_, (none, 0), rfl⟩ rfl (fun W L vs hvs hL hj hd => ?_) ?_
            · simp only [List.length_append, List.length_cons, List.length_nil, Nat.zero_add, Nat.reduceAdd] at hL ⊢
              have hL3 := hd ⟨3, .data⟩ (by simp) rfl
              have hL5 := hd ⟨5, .data⟩ (by simp) rfl
              have e3 := hvs 3 (.slice xt m yt) (by simp)
              have e5 := hvs 5 (.slice (some ⟨q5, 0, none⟩) 1 1) (by simp)
              have ht := hj.base.told hL3 hL
              obtain ⟨q', e5', hq'⟩ := hj.base.lit hL5 hL
              rw [e5] at e5'
              cases e5'
              have ht2 := ht
              rw [e3] at ht2
              refine opOK_mono (opOK_appendN_at (.tmp 100) (.tmp 102) 53 rfl wz.heap.size 83 (.agg #[.int .i64 0, .int .i64 0, .int .i64 0]) 3 24 Tryz.underlying53 info_rp rfl (by decide) (.slice xt m yt) m ((list.map rpRow).flatten) rfl ht2 q5 0 1 1 (rpRow r) rfl rfl hq' (rpRow_one r) (by omega) (by decide) hj.base.below.size) ?_
              rintro v' w' ⟨h1, h2, h3⟩
              obtain ⟨xa, y, rfl⟩ := owns_form h1
              exact ⟨⟨(xa, y), rfl⟩, hj.low (by decide) hL (hj.base.app6 hL3 hL5 hL (by rw [e3]; exact h2) h1 (by decide) (by decide) (by decide))⟩
            rintro _ ⟨⟨xp, yp⟩, rfl⟩
            simp only [Act.put, List.setIfInBounds_toArray, List.set_cons_succ, List.set_cons_zero]
            refine sv_new ⟨_, (0, 0, 0), rfl⟩ rfl (fun W L vs hvs hL hj hd => ?_) ?_
            · simp only [List.length_append, List.length_cons, List.length_nil, Nat.zero_add, Nat.reduceAdd] at hL ⊢
              have hL1 := hd ⟨1, .data⟩ (by simp) rfl
              have hL6 := hd ⟨6, .data⟩ (by simp) rfl
              have e1 := hvs 1 (.agg #[.int .i64 l.start, .int .i64 l.gin, .int .i64 l.gout, .slice xo nb yo, .int .i64 l.players, .int .i64 l.turns, .bool l.won]) (by simp)
              have e6 := hvs 6 (.slice xp (m + 1) yp) (by simp)
              obtain ⟨xa, y, e1', hs4⟩ := hj.base.own hL1
              rw [e1] at e1'
              cases e1'
              have ha := hj.base.app hL6
              rw [e6] at ha
              refine opOK_call (f := 25) (args := #[.agg #[.int .i64 l.start, .int .i64 l.gin, .int .i64 l.gout, .slice xo nb yo, .int .i64 l.players, .int .i64 l.turns, .bool l.won], .slice xp (m + 1) yp]) (by simp [go_sem]) ?_
              refine (htruth W xo yo (.slice xp (m + 1) yp) _ _ hs4 ha).mono ?_
              rintro e w' ⟨g1, g2, g3, rfl, hb3, k1, k2, k3⟩
              exact ⟨_, rfl, ⟨(g1, g2, g3), rfl⟩, hj.at_ (k0 := 0) hb3 (by decide) (by decide) (by decide) (by decide) (by decide) hL6 (fun _ => ⟨g1, g2, g3, rfl, k1, k2, k3⟩) (fun h => absurd h (by decide))⟩
            rintro _ ⟨⟨ta, tb, tc⟩, rfl⟩
            simp only [Act.put, List.setIfInBounds_toArray, List.set_cons_succ, List.set_cons_zero]
            refine sv_new ⟨_, (0, 0, 0), rfl⟩ rfl (fun W L vs hvs hL hj hd => ?_) ?_
            · simp only [List.length_append, List.length_cons, List.length_nil, Nat.zero_add, Nat.reduceAdd] at hL ⊢
              have hL7 := hd ⟨7, .data⟩ (by simp) rfl
              obtain ⟨g1, g2, g3, e1, k1, k2, k3⟩ := hj.t7 0 (by decide) hL7
              have e2 := hvs 7 (tupT n ta tb tc) (by simp)
              rw [show 7 + 0 = 7 from rfl, e2] at e1
              simp only [tupT, slT, Value.tuple.injEq, Array.mk.injEq, List.cons.injEq, Value.slice.injEq, Option.some.injEq, Addr.mk.injEq, and_true] at e1
              obtain ⟨rfl, rfl, rfl⟩ := e1
              exact opOK_val (v := tupT n ta tb tc) (w' := W) (by simp [go_sem, execOp, tupT, slT]) ⟨⟨(ta, tb, tc), rfl⟩, hj.at_ (k0 := 1) (Below.refl _ _) (by decide) (by decide) (by decide) (by decide) (by decide) (hj.d7 0 (by decide) hL7) (fun _ => ⟨ta, tb, tc, rfl, k1, k2, k3⟩) (fun h => absurd h (by decide))⟩
            rintro _ ⟨⟨tp, tq, tr⟩, rfl⟩
            simp only [Act.put, List.setIfInBounds_toArray, List.set_cons_succ, List.set_cons_zero]
            refine sv_new ⟨_, 0, rfl⟩ rfl (fun W L vs hvs hL hj hd => ?_) ?_
            · simp only [List.length_append, List.length_cons, List.length_nil, Nat.zero_add, Nat.reduceAdd] at hL ⊢
              have hL7 := hd ⟨8, .data⟩ (by simp) rfl
              obtain ⟨g1, g2, g3, e1, k1, k2, k3⟩ := hj.t7 1 (by decide) hL7
              have e2 := hvs 8 (tupT n tp tq tr) (by simp)
              rw [show 7 + 1 = 8 from rfl, e2] at e1
              simp only [tupT, slT, Value.tuple.injEq, Array.mk.injEq, List.cons.injEq, Value.slice.injEq, Option.some.injEq, Addr.mk.injEq, and_true] at e1
              obtain ⟨rfl, rfl, rfl⟩ := e1
              exact opOK_val (v := slT n tp) (w' := W) (by simp [go_sem, execOp, tupT, slT]) ⟨⟨tp, rfl⟩, hj.at_ (k0 := 2) (Below.refl _ _) (by decide) (by decide) (by decide) (by decide) (by decide) (hj.d7 1 (by decide) hL7) (fun h => absurd h (by decide)) (fun _ _ _ => ⟨tp, rfl, k1⟩)⟩
            rintro _ ⟨y2, rfl⟩
            simp only [Act.put, List.setIfInBounds_toArray, List.set_cons_succ, List.set_cons_zero]
            refine sv_new ⟨_, 0, rfl⟩ rfl (fun W L vs hvs hL hj hd => ?_) ?_
            · simp only [List.length_append, List.length_cons, List.length_nil, Nat.zero_add, Nat.reduceAdd] at hL ⊢
              have hL7 := hd ⟨8, .data⟩ (by simp) rfl
              obtain ⟨g1, g2, g3, e1, k1, k2, k3⟩ := hj.t7 1 (by decide) hL7
              have e2 := hvs 8 (tupT n tp tq tr) (by simp)
              rw [show 7 + 1 = 8 from rfl, e2] at e1
              simp only [tupT, slT, Value.tuple.injEq, Array.mk.injEq, List.cons.injEq, Value.slice.injEq, Option.some.injEq, Addr.mk.injEq, and_true] at e1
              obtain ⟨rfl, rfl, rfl⟩ := e1
              exact opOK_val (v := slT n tq) (w' := W) (by simp [go_sem, execOp, tupT, slT]) ⟨⟨tq, rfl⟩, hj.at_ (k0 := 3) (Below.refl _ _) (by decide) (by decide) (by decide) (by decide) (by decide) (hj.d7 1 (by decide) hL7) (fun h => absurd h (by decide)) (fun _ _ _ => ⟨tq, rfl, k2⟩)⟩
            rintro _ ⟨y3, rfl⟩
            simp only [Act.put, List.setIfInBounds_toArray, List.set_cons_succ, List.set_cons_zero]
            refine sv_new ⟨_, 0, rfl⟩ rfl (fun W L vs hvs hL hj hd => ?_) ?_
            · simp only [List.length_append, List.length_cons, List.length_nil, Nat.zero_add, Nat.reduceAdd] at hL ⊢
              have hL7 := hd ⟨8, .data⟩ (by simp) rfl
              obtain ⟨g1, g2, g3, e1, k1, k2, k3⟩ := hj.t7 1 (by decide) hL7
              have e2 := hvs 8 (tupT n tp tq tr) (by simp)
              rw [show 7 + 1 = 8 from rfl, e2] at e1
              simp only [tupT, slT, Value.tuple.injEq, Array.mk.injEq, List.cons.injEq, Value.slice.injEq, Option.some.injEq, Addr.mk.injEq, and_true] at e1
              obtain ⟨rfl, rfl, rfl⟩ := e1
              exact opOK_val (v := slT n tr) (w' := W) (by simp [go_sem, execOp, tupT, slT]) ⟨⟨tr, rfl⟩, hj.at_ (k0 := 4) (Below.refl _ _) (by decide) (by decide) (by decide) (by decide) (by decide) (hj.d7 1 (by decide) hL7) (fun h => absurd h (by decide)) (fun _ _ _ => ⟨tr, rfl, k3⟩)⟩
            rintro _ ⟨y4, rfl⟩
            simp only [Act.put, List.setIfInBounds_toArray, List.set_cons_succ, List.set_cons_zero]
            refine sv_new ⟨_, rfl⟩ rfl (fun W L vs hvs hL hj hd => ?_) ?_
            · simp only [List.length_append, List.length_cons, List.length_nil, Nat.zero_add, Nat.reduceAdd] at hL ⊢
              have hL7 := hd ⟨8, .data⟩ (by simp) rfl
              exact opOK_val (v := .int .i64 0) (w' := W) (by simp [go_sem, execOp, tupT]) ⟨rfl, hj.at_ (k0 := 5) (Below.refl _ _) (by decide) (by decide) (by decide) (by decide) (by decide) (hj.d7 1 (by decide) hL7) (fun h => absurd h (by decide)) (fun _ _ _ => by contradiction)⟩
            rintro _ rfl
            simp only [Act.put, List.setIfInBounds_toArray, List.set_cons_succ, List.set_cons_zero]
            refine sv_new ⟨_, 0, rfl⟩ rfl (fun W L vs hvs hL hj hd => ?_) ?_
            · simp only [List.length_append, List.length_cons, List.length_nil, Nat.zero_add, Nat.reduceAdd] at hL ⊢
              have hL7 := hd ⟨9, .data⟩ (by simp) rfl
              obtain ⟨g, e1, k1⟩ := hj.sp 2 (by decide) (by decide) (by decide) (by decide) hL7
              have e2 := hvs 9 (slT n y2) (by simp)
              rw [show 7 + 2 = 9 from rfl, e2] at e1
              simp only [slT, Value.slice.injEq, Option.some.injEq, Addr.mk.injEq, and_true] at e1
              subst e1
              exact opOK_val (v := slT n y2) (w' := W) (by simp [go_sem, execOp, slT]) ⟨⟨y2, rfl⟩, hj.at_ (k0 := 6) (Below.refl _ _) (by decide) (by decide) (by decide) (by decide) (by decide) (hj.d7 2 (by decide) hL7) (fun h => absurd h (by decide)) (fun _ _ _ => ⟨y2, rfl, k1⟩)⟩
            rintro _ ⟨s6, rfl⟩
            simp only [Act.put, List.setIfInBounds_toArray, List.set_cons_succ, List.set_cons_zero]
            refine sv_new ⟨_, 0, rfl⟩ rfl (fun W L vs hvs hL hj hd => ?_) ?_
            · simp only [List.length_append, List.length_cons, List.length_nil, Nat.zero_add, Nat.reduceAdd] at hL ⊢
              have hL7 := hd ⟨10, .data⟩ (by simp) rfl
              obtain ⟨g, e1, k1⟩ := hj.sp 3 (by decide) (by decide) (by decide) (by decide) hL7
              have e2 := hvs 10 (slT n y3) (by simp)
              rw [show 7 + 3 = 10 from rfl, e2] at e1
              simp only [slT, Value.slice.injEq, Option.some.injEq, Addr.mk.injEq, and_true] at e1
              subst e1
              exact opOK_val (v := slT n y3) (w' := W) (by simp [go_sem, execOp, slT]) ⟨⟨y3, rfl⟩, hj.at_ (k0 := 7) (Below.refl _ _) (by decide) (by decide) (by decide) (by decide) (by decide) (hj.d7 3 (by decide) hL7) (fun h => absurd h (by decide)) (fun _ _ _ => ⟨y3, rfl, k1⟩)⟩
            rintro _ ⟨s7, rfl⟩
            simp only [Act.put, List.setIfInBounds_toArray, List.set_cons_succ, List.set_cons_zero]
            refine sv_new ⟨_, 0, rfl⟩ rfl (fun W L vs hvs hL hj hd => ?_) ?_
            · simp only [List.length_append, List.length_cons, List.length_nil, Nat.zero_add, Nat.reduceAdd] at hL ⊢
              have hL7 := hd ⟨11, .data⟩ (by simp) rfl
              obtain ⟨g, e1, k1⟩ := hj.sp 4 (by decide) (by decide) (by decide) (by decide) hL7
              have e2 := hvs 11 (slT n y4) (by simp)
              rw [show 7 + 4 = 11 from rfl, e2] at e1
              simp only [slT, Value.slice.injEq, Option.some.injEq, Addr.mk.injEq, and_true] at e1
              subst e1
              exact opOK_val (v := slT n y4) (w' := W) (by simp [go_sem, execOp, slT]) ⟨⟨y4, rfl⟩, hj.at_ (k0 := 8) (Below.refl _ _) (by decide) (by decide) (by decide) (by decide) (by decide) (hj.d7 4 (by decide) hL7) (fun h => absurd h (by decide)) (fun _ _ _ => ⟨y4, rfl, k1⟩)⟩
            rintro _ ⟨s8, rfl⟩
            simp only [Act.put, List.setIfInBounds_toArray, List.set_cons_succ, List.set_cons_zero]
            refine sv_new ⟨_, rfl⟩ rfl (fun W L vs hvs hL hj hd => ?_) ?_
            · simp only [List.length_append, List.length_cons, List.length_nil, Nat.zero_add, Nat.reduceAdd] at hL ⊢
              have hL7 := hd ⟨12, .data⟩ (by simp) rfl
              exact opOK_val (v := .int .i64 0) (w' := W) (by simp [go_sem, execOp, tupT]) ⟨rfl, hj.at_ (k0 := 9) (Below.refl _ _) (by decide) (by decide) (by decide) (by decide) (by decide) (hj.d7 5 (by decide) hL7) (fun h => absurd h (by decide)) (fun _ _ _ => by contradiction)⟩
            rintro _ rfl
            simp only [Act.put, List.setIfInBounds_toArray, List.set_cons_succ, List.set_cons_zero]
            refine sv_end fun vs wy hvs hj => ?_
            simp only [List.drop_succ_cons, List.drop_zero]
            obtain ⟨gg, e1, k1⟩ := hj.sp 6 (by decide) (by decide) (by decide) (by decide) (by decide)
            have e2 := hvs 13 (slT n s6) (by simp)
            rw [show 7 + 6 = 13 from rfl, e2] at e1
            simp only [slT, Value.slice.injEq, Option.some.injEq, Addr.mk.injEq, and_true] at e1
            subst e1
            obtain ⟨gg, e1, l1⟩ := hj.sp 7 (by decide) (by decide) (by decide) (by decide) (by decide)
            have e2 := hvs 14 (slT n s7) (by simp)
            rw [show 7 + 7 = 14 from rfl, e2] at e1
            simp only [slT, Value.slice.injEq, Option.some.injEq, Addr.mk.injEq, and_true] at e1
            subst e1
            have HS6 : Hid (SpansAt wy s6 n (scF l (list ++ [r]))) := Lib.hid k1
            have HS7 : Hid (SpansAt wy s7 n (leF l (list ++ [r]))) := Lib.hid l1
            have hbz := hj.base.below
            clear hvs hj k1 l1 e2 hown htold htruth
            simp only [slT]
            have ne5 : ((n : Int) != l.turns) = false := by rw [HTN.out]; simp
            have HSn : Hid (wy.cell? ⟨s7, i * 2, none⟩ = some (.int .i64 vv) ∧ wy.cell? ⟨s7, i * 2 + 1, none⟩ = some (.int .i64 vv)) := Lib.hid (by
              have h := HS7.out.cells hlt
              rw [HSV.out] at h; exact h)
            obtain ⟨u7, u8⟩ := HSn.out
            have kt := bAt hbz c5
            have kr := bAt hbz rz2
            have HBy := Lib.hid (bThen HBq.out hbz)
            clear hbz
            go_upto_region 22 with fail
            refine wp_region_seqW (.is (.int .i64 0) :: .is (.bool false) :: .is (.bool false) :: .is (.slice (some ⟨s6, 0, none⟩) n n) :: .is (.int .i64 (n : Int)) :: .is (.pointer (some ⟨K, 5, none⟩)) :: .is (.int .i64 l.turns) :: .is (.bool false) :: .is (.bool false) :: .is (.bool false) :: .is (.slice (some ⟨s7, 0, none⟩) n n) :: .is (.int .i64 (n : Int)) :: .is (.pointer (some ⟨K, 5, none⟩)) :: .is (.int .i64 l.turns) :: .is (.bool false) :: .is (.bool false) :: .is (.bool false) :: .is (.int .i64 (2 : Int)) :: .is (.bool false) :: .is (.bool false) :: .is (undef) :: .is (undef) :: .is (undef) :: .is (undef) :: .is (undef) :: .is (undef) :: .is (undef) :: .is (undef) :: .is (undef) :: .is (undef) :: .is (.bool false) :: .is (.bool false) :: .is (.bool false) :: .is (.int .i64 (2 : Int)) :: .is (.bool true) :: .is (.bool true) :: .is (.slice (some ⟨s7, 0, none⟩) n n) :: .is (.int .i64 (i : Int)) :: .is (.pointer (some ⟨s7, i * 2, none⟩)) :: .is (.agg #[.int .i64 vv, .int .i64 vv]) :: .is (.pointer (some ⟨R, 2, none⟩)) :: .is (.int .i64 vv) :: .is (.pointer (some ⟨R, 2, none⟩)) :: .is (.int .i64 vv) :: .is (.agg #[.int .i64 vv, .int .i64 vv]) :: .is (.bool false) :: .is (.bool false) :: .is (.bool false) :: []) rfl mix (by kernel_rfl) (by kernel_rfl) ?_
            iterate 20
              refine seq_on (by rfl) (fun w4 hb4 _ => ?_) ?_
              · have kt' := bAt hb4 kt
                have kr' := bAt hb4 kr
                have u7' := bAt hb4 u7
                have u8' := bAt hb4 u8
                simp [opOK, go_sem, kt', ne5, Below.refl]
                try exact rfl
              simp only [Act.put, List.setIfInBounds_toArray, List.set_cons_succ, List.set_cons_zero]
            refine seq_off (by rfl) ?_
            simp only [Act.put, List.setIfInBounds_toArray, List.set_cons_succ, List.set_cons_zero]
            refine seq_off (by rfl) ?_
            simp only [Act.put, List.setIfInBounds_toArray, List.set_cons_succ, List.set_cons_zero]
            refine seq_off (by rfl) ?_
            simp only [Act.put, List.setIfInBounds_toArray, List.set_cons_succ, List.set_cons_zero]
            refine seq_off (by rfl) ?_
            simp only [Act.put, List.setIfInBounds_toArray, List.set_cons_succ, List.set_cons_zero]
            refine seq_off (by rfl) ?_
            simp only [Act.put, List.setIfInBounds_toArray, List.set_cons_succ, List.set_cons_zero]
            refine seq_off (by rfl) ?_
            simp only [Act.put, List.setIfInBounds_toArray, List.set_cons_succ, List.set_cons_zero]
            refine seq_off (by rfl) ?_
            simp only [Act.put, List.setIfInBounds_toArray, List.set_cons_succ, List.set_cons_zero]
            refine seq_off (by rfl) ?_
            simp only [Act.put, List.setIfInBounds_toArray, List.set_cons_succ, List.set_cons_zero]
            refine seq_off (by rfl) ?_
            simp only [Act.put, List.setIfInBounds_toArray, List.set_cons_succ, List.set_cons_zero]
            refine seq_off (by rfl) ?_
            simp only [Act.put, List.setIfInBounds_toArray, List.set_cons_succ, List.set_cons_zero]
            iterate 14
              refine seq_on (by rfl) (fun w4 hb4 _ => ?_) ?_
              · have kt' := bAt hb4 kt
                have kr' := bAt hb4 kr
                have u7' := bAt hb4 u7
                have u8' := bAt hb4 u8
                simp [opOK, go_sem, kr', u7', u8', hli, Below.refl]
                try exact rfl
              simp only [Act.put, List.setIfInBounds_toArray, List.set_cons_succ, List.set_cons_zero]
            refine seq_on (by rfl) (fun w4 hb4 _ => ?_) ?_
            · refine opOK_call (f := 23) (args := #[.int .i64 vv, .int .i64 vv]) (by simp [go_sem]) ?_
              refine (to_any vv vv w4).mono ?_
              rintro e w' ⟨rfl, hbi⟩
              exact ⟨_, rfl, rfl, hbi⟩
            simp only [Act.put, List.setIfInBounds_toArray, List.set_cons_succ, List.set_cons_zero]
            iterate 3
              refine seq_on (by rfl) (fun w4 hb4 _ => ?_) ?_
              · have kt' := bAt hb4 kt
                have kr' := bAt hb4 kr
                have u7' := bAt hb4 u7
                have u8' := bAt hb4 u8
                simp [opOK, go_sem, Below.refl]
                try exact rfl
              simp only [Act.put, List.setIfInBounds_toArray, List.set_cons_succ, List.set_cons_zero]
            refine seq_end fun w4 hb4 hH => ?_
            have HB4 : Hid (Below wo.heap.size wo w4) := Lib.hid (bThen HBy.out hb4)
            clear hH hb4 u7 u8 kt kr ne5 rz0 rz1 rz2
            go_wp2_with fail
            go_roundw
            case rel => exact ⟨3, by omega, by go_num, HB4⟩
            case measure => simp [intOf]
          · as_aux_lemma =>
            obtain ⟨vv, hv⟩ : ∃ z, (leF l list i).2 = z := ⟨_, rfl⟩
            rw [hv] at u4
            have hre := left_reached HBD.out.1 HBD.out.2.1 HGB.out HBD.out.2.2.1 HTR.out HIT.out (v := vv) (.inr hv.symm)
            obtain ⟨r, hr⟩ : ∃ r : Rp, r = ⟨i, -1, vv⟩ := ⟨_, rfl⟩
            rw [← hr] at hre
            have HRW : Hid (rpRow r = [.int .i64 (i : Int), .int .i64 (-1), .int .i64 vv]) := Lib.hid (by rw [hr]; rfl)
            have HTR2 := Lib.hid hre.2.2.1
            have HSV : Hid (leF l (list ++ [r]) i = (vv, vv)) := Lib.hid hre.2.2.2
            have HLR : Hid (∀ y ∈ list ++ [r], badR l.turns y = false) := Lib.hid (fun y hy => (List.mem_append.1 hy).elim (HLB.out y) fun hy => by
              rw [List.mem_singleton] at hy
              rw [hy, hr]
              have h1 := hre.1
              have h2 := hre.2.1
              have h3 := HBD.out.2.2.2
              refine badR_no ⟨by show (0 : Int) ≤ (i : Int); omega, by show (i : Int) ≤ l.turns - 1; rw [HTN.out]; omega⟩ ?_ ?_
              · show (-1 : Int) ≤ -1 ∧ (-1 : Int) ≤ 240; omega
              · show -1 ≤ vv ∧ vv ≤ 1001; omega)
            clear hre hv hr
            obtain ⟨R, hR⟩ : ∃ R, wq.heap.size = R := ⟨_, rfl⟩
            obtain ⟨wv, hwv⟩ : ∃ y, wq.alloc (.cells #[.int .i64 (i : Int), .int .i64 (-1), .int .i64 (-1)] 83) = y := ⟨_, rfl⟩
            have hbv : Below wq.heap.size wq wv := by rw [← hwv]; exact aB _ _
            have kv : wv.heap[R]? = some (.cells #[.int .i64 (i : Int), .int .i64 (-1), .int .i64 (-1)] 83 (0, 0)) := by rw [← hwv, ← hR]; exact World.alloc_heap_new _ _
            obtain ⟨wz, hwz⟩ : ∃ y, wv.setCell ⟨R, 2, none⟩ (.int .i64 vv) = y := ⟨_, rfl⟩
            have kz : wz.heap[R]? = some (.cells #[.int .i64 (i : Int), .int .i64 (-1), .int .i64 vv] 83 (0, 0)) := by rw [← hwz]; exact heap_setCell_at kv _
            have hbz0 : Below wq.heap.size wq wz := by rw [← hwz]; exact hbv.setCell (p := ⟨R, 2, none⟩) (Nat.le_of_eq hR) _
            have HR := Lib.hid hR
            have HWV := Lib.hid hwv
            have HWZ := Lib.hid hwz
            have HBq : Hid (Below wo.heap.size wo wz) := Lib.hid (bThen HBk.out hbz0)
            have HBSz := Lib.hid (HBSq.out.below hbz0)
            have HRz := Lib.hid (HRq.out.below hbz0)
            have rz0 : wz.cell? ⟨R, 0, none⟩ = some (.int .i64 (i : Int)) := by rw [cell_of_heap kz]; rfl
            have rz1 : wz.cell? ⟨R, 1, none⟩ = some (.int .i64 (-1)) := by rw [cell_of_heap kz]; rfl
            have rz2 : wz.cell? ⟨R, 2, none⟩ = some (.int .i64 vv) := by rw [cell_of_heap kz]; rfl
            have rv : wv.cell? ⟨R, 2, none⟩ = some (.int .i64 (-1)) := by rw [cell_of_heap kv]; rfl
            have fv : wv.frozen? ⟨R, 2, none⟩ = false := frozen_of_heap kv
            have uv := bAt hbv u4
            have HBZ0 := Lib.hid hbz0
            clear hR hwv hwz kv kz hbz0 hbv
            go_upto_region 13 with fail
            rw [HWV.out, HR.out]
            go_upto_region 21 with fail
            rw [HWZ.out]
            clear rv fv uv u1 u2 u3 u4
            have c0 := bAt HBZ0.out c0
            have c1 := bAt HBZ0.out c1
            have c2 := bAt HBZ0.out c2
            have c3 := bAt HBZ0.out c3
            have c4 := bAt HBZ0.out c4
            have c5 := bAt HBZ0.out c5
            have c6 := bAt HBZ0.out c6
            have hown : ∀ W, Below wz.heap.size wz W → Calls Tryz.prog 14 #[.agg #[.int .i64 l.start, .int .i64 l.gin, .int .i64 l.gout, .slice ba nb bc, .int .i64 l.players, .int .i64 l.turns, .bool l.won]] W fun e w' => ∃ bv', e = .returned (legV l bv') ∧ Below W.heap.size W w' ∧ Sl (fun q => W.heap.size ≤ q) w' bv' (ints l.beds) := fun W hW =>
              own_any l (.slice ba nb bc) W (HBSz.out.below hW) (by rw [HBE.out, HNB.out]; have := HN6.out; omega)
            have htold : ∀ W, Below wz.heap.size wz W → Calls Tryz.prog 24 #[.slice ra m rc] W fun e w' => ∃ v, e = .returned v ∧ Below W.heap.size W w' ∧ w'.ownsRow W.heap.size 83 3 v m ((list.map rpRow).flatten) := fun W hW => by
              have h := told_own list (.slice ra m rc) W (HRz.out.below hW) (by rw [HM.out]; omega)
              rw [HM.out] at h
              exact h
            have htruth : ∀ W (xa : Option Addr) (y : Nat) (v2 : Value) (S2 : Nat → Prop) (B2 : Nat), Sl S2 W (.slice xa nb y) (ints l.beds) → W.ownsRow B2 83 3 v2 (m + 1) (((list.map rpRow).flatten) ++ rpRow r) → Calls Tryz.prog 25 #[.agg #[.int .i64 l.start, .int .i64 l.gin, .int .i64 l.gout, .slice xa nb y, .int .i64 l.players, .int .i64 l.turns, .bool l.won], v2] W fun e w' => ∃ g1 g2 g3, e = .returned (tupT n g1 g2 g3) ∧ Below W.heap.size W w' ∧ SpansAt w' g1 n (scF l (list ++ [r])) ∧ SpansAt w' g2 n (leF l (list ++ [r])) ∧ SpansAt w' g3 n (daF l (list ++ [r])) := fun W xa y v2 S2 B2 hs ho =>
              truth_ok l (.slice xa nb y) v2 (list ++ [r]) n HTN.out W hs HBI.out (SlN.of_ownsN (base := B2) (e := 83) (by rw [List.length_map, List.length_append, HM.out, List.map_append, List.flatten_append]; simpa using ho) (fun q hq => by obtain ⟨y, _, rfl⟩ := List.mem_map.1 hq; rfl)) HCK.out (by rw [List.length_append, HM.out]; simp; omega) HLR.out HTR2.out
            refine wp_region_seqV 17 ((fun v => v = .agg #[.int .i64 l.start, .int .i64 l.gin, .int .i64 l.gout, .slice ba nb bc, .int .i64 l.players, .int .i64 l.turns, .bool l.won]) :: (fun v => ∃ p : Option Addr × Nat, v = .agg #[.int .i64 l.start, .int .i64 l.gin, .int .i64 l.gout, .slice p.1 nb p.2, .int .i64 l.players, .int .i64 l.turns, .bool l.won]) :: (fun v => v = .slice ra m rc) :: (fun v => ∃ p : Option Addr × Nat, v = .slice p.1 m p.2) :: (fun v => v = .agg #[.int .i64 (i : Int), .int .i64 (-1), .int .i64 vv]) :: (fun v => ∃ q, v = .slice (some ⟨q, 0, none⟩) 1 1) :: (fun v => ∃ p : Option Addr × Nat, v = .slice p.1 (m + 1) p.2) :: (fun v => ∃ p : Nat × Nat × Nat, v = tupT n p.1 p.2.1 p.2.2) :: (fun v => ∃ p : Nat × Nat × Nat, v = tupT n p.1 p.2.1 p.2.2) :: (fun v => ∃ g, v = slT n g) :: (fun v => ∃ g, v = slT n g) :: (fun v => ∃ g, v = slT n g) :: (fun v => v = .int .i64 0) :: (fun v => ∃ g, v = slT n g) :: (fun v => ∃ g, v = slT n g) :: (fun v => ∃ g, v = slT n g) :: (fun v => v = .int .i64 0) :: []) (JT l nb m ((list.map rpRow).flatten) (rpRow r) 1 3 5 6 7 n (scF l (list ++ [r])) (leF l (list ++ [r])) (daF l (list ++ [r])) wz) rfl mix (by kernel_rfl) (by kernel_rfl) (fun _ _ _ _ hc h => h.congr hc) (fun vs => JT.start vs) ?_
            simp only [List.take_succ_cons, List.take_zero]
            refine sv_new ⟨_, rfl⟩ rfl (fun W L vs hvs hL hj hd => ?_) ?_
            · simp only [List.length_nil] at hL ⊢
              have q0 := bAt hj.base.below c0
              have q1 := bAt hj.base.below c1
              have q2 := bAt hj.base.below c2
              have q3 := bAt hj.base.below c3
              have q4 := bAt hj.base.below c4
              have q5 := bAt hj.base.below c5
              have q6 := bAt hj.base.below c6
              exact opOK_val (v := .agg #[.int .i64 l.start, .int .i64 l.gin, .int .i64 l.gout, .slice ba nb bc, .int .i64 l.players, .int .i64 l.turns, .bool l.won]) (w' := W) (by simp [go_sem, execOp, q0, q1, q2, q3, q4, q5, q6]) ⟨rfl, hj.oth (by decide) (by decide) (by decide) (by decide) (by decide)⟩
            rintro _ rfl
            simp only [Act.put, List.setIfInBounds_toArray, List.set_cons_succ, List.set_cons_zero]
            refine sv_new ⟨_, (none, 0), rfl⟩ rfl (fun W L vs hvs hL hj hd => ?_) ?_
            · simp only [List.length_append, List.length_cons, List.length_nil, Nat.zero_add] at hL ⊢
              have h6 : L 6 = false := by
                cases e : L 6 with
                | false => rfl
                | true => rw [hj.base.d3 (hj.base.d6 e).1] at hL; cases hL
              refine opOK_call (f := 14) (args := #[.agg #[.int .i64 l.start, .int .i64 l.gin, .int .i64 l.gout, .slice ba nb bc, .int .i64 l.players, .int .i64 l.turns, .bool l.won]]) (by simp [go_sem]) ?_
              refine (hown W hj.base.below).mono ?_
              rintro e w' ⟨bv', rfl, hb3, hs3⟩
              obtain ⟨xa, y, rfl, -, -⟩ := hs3.form
              rw [ints_length, HBE.out, HNB.out] at hs3 ⊢
              rw [← HBE.out] at hs3
              exact ⟨_, rfl, ⟨(xa, y), rfl⟩, hj.low (by decide) h6 (hj.base.own1 hL hb3 hs3 (by decide) (by decide) (by decide))⟩
            rintro _ ⟨⟨xo, yo⟩, rfl⟩
            simp only [Act.put, List.setIfInBounds_toArray, List.set_cons_succ, List.set_cons_zero]
            refine sv_new ⟨_, rfl⟩ rfl (fun W L vs hvs hL hj hd => ?_) ?_
            · simp only [List.length_append, List.length_cons, List.length_nil, Nat.zero_add, Nat.reduceAdd] at hL ⊢
              exact opOK_val (v := .slice ra m rc) (w' := W) (by simp [go_sem, execOp]) ⟨rfl, hj.oth (by decide) (by decide) (by decide) (by decide) (by decide)⟩
            rintro _ rfl
            simp only [Act.put, List.setIfInBounds_toArray, List.set_cons_succ, List.set_cons_zero]
            refine sv_new ⟨_, (none, 0), rfl⟩ rfl (fun W L vs hvs hL hj hd => ?_) ?_
            · simp only [List.length_append, List.length_cons, List.length_nil, Nat.zero_add, Nat.reduceAdd] at hL ⊢
              have h6 : L 6 = false := by
                cases e : L 6 with
                | false => rfl
                | true => rw [(hj.base.d6 e).1] at hL; cases hL
              refine opOK_call (f := 24) (args := #[.slice ra m rc]) (by simp [go_sem]) ?_
              refine (htold W hj.base.below).mono ?_
              rintro e w' ⟨v, rfl, hb3, ho3⟩
              obtain ⟨xa, y, rfl⟩ := owns_form ho3
              exact ⟨_, rfl, ⟨(xa, y), rfl⟩, hj.low (by decide) h6 (hj.base.told3 (hd ⟨1, .chain⟩ (by simp) rfl) hL hb3 ho3 (by decide) (by decide) (by decide))⟩
            rintro _ ⟨⟨xt, yt⟩, rfl⟩
            simp only [Act.put, List.setIfInBounds_toArray, List.set_cons_succ, List.set_cons_zero]
            refine sv_new ⟨_, rfl⟩ rfl (fun W L vs hvs hL hj hd => ?_) ?_
            · simp only [List.length_append, List.length_cons, List.length_nil, Nat.zero_add, Nat.reduceAdd] at hL ⊢
              have p0 := bAt hj.base.below rz0
              have p1 := bAt hj.base.below rz1
              have p2 := bAt hj.base.below rz2
              exact opOK_val (v := .agg #[.int .i64 (i : Int), .int .i64 (-1), .int .i64 vv]) (w' := W) (by simp [go_sem, execOp, p0, p1, p2]) ⟨rfl, hj.oth (by decide) (by decide) (by decide) (by decide) (by decide)⟩
            rintro _ rfl
            simp only [Act.put, List.setIfInBounds_toArray, List.set_cons_succ, List.set_cons_zero]
            refine sv_new ⟨_, 0, rfl⟩ rfl (fun W L vs hvs hL hj hd => ?_) ?_
            · simp only [List.length_append, List.length_cons, List.length_nil, Nat.zero_add, Nat.reduceAdd] at hL ⊢
              have h6 : L 6 = false := by
                cases e : L 6 with
                | false => rfl
                | true => rw [(hj.base.d6 e).2] at hL; cases hL
              exact opOK_val (v := .slice (some ⟨W.heap.size, 0, none⟩) 1 1) (w' := W.alloc (.cells #[.int .i64 (i : Int), .int .i64 (-1), .int .i64 vv] 83)) (by simp [go_sem, execOp]) ⟨⟨_, rfl⟩, hj.low (by decide) h6 (hj.base.lit5 (aB _ _) (fun j u hu => by rw [cell_of_heap (World.alloc_heap_new _ _), Nat.zero_add]; rw [HRW.out] at hu; simpa using hu) (by decide) (by decide) (by decide))⟩
            rintro _ ⟨q5, rfl⟩
            simp only [Act.put, List.setIfInBounds_toArray, List.set_cons_succ, List.set_cons_zero]
            refine sv_new ⟨_, (none, 0), rfl⟩ rfl (fun W L vs hvs hL hj hd => ?_) ?_
            · simp only [List.length_append, List.length_cons, List.length_nil, Nat.zero_add, Nat.reduceAdd] at hL ⊢
              have hL3 := hd ⟨3, .data⟩ (by simp) rfl
              have hL5 := hd ⟨5, .data⟩ (by simp) rfl
              have e3 := hvs 3 (.slice xt m yt) (by simp)
              have e5 := hvs 5 (.slice (some ⟨q5, 0, none⟩) 1 1) (by simp)
              have ht := hj.base.told hL3 hL
              obtain ⟨q', e5', hq'⟩ := hj.base.lit hL5 hL
              rw [e5] at e5'
              cases e5'
              have ht2 := ht
              rw [e3] at ht2
              refine opOK_mono (opOK_appendN_at (.tmp 100) (.tmp 102) 53 rfl wz.heap.size 83 (.agg #[.int .i64 0, .int .i64 0, .int .i64 0]) 3 24 Tryz.underlying53 info_rp rfl (by decide) (.slice xt m yt) m ((list.map rpRow).flatten) rfl ht2 q5 0 1 1 (rpRow r) rfl rfl hq' (rpRow_one r) (by omega) (by decide) hj.base.below.size) ?_
              rintro v' w' ⟨h1, h2, h3⟩
              obtain ⟨xa, y, rfl⟩ := owns_form h1
              exact ⟨⟨(xa, y), rfl⟩, hj.low (by decide) hL (hj.base.app6 hL3 hL5 hL (by rw [e3]; exact h2) h1 (by decide) (by decide) (by decide))⟩
            rintro _ ⟨⟨xp, yp⟩, rfl⟩
            simp only [Act.put, List.setIfInBounds_toArray, List.set_cons_succ, List.set_cons_zero]
            refine sv_new ⟨_, (0, 0, 0), rfl⟩ rfl (fun W L vs hvs hL hj hd => ?_) ?_
            · simp only [List.length_append, List.length_cons, List.length_nil, Nat.zero_add, Nat.reduceAdd] at hL ⊢
              have hL1 := hd ⟨1, .data⟩ (by simp) rfl
              have hL6 := hd ⟨6, .data⟩ (by simp) rfl
              have e1 := hvs 1 (.agg #[.int .i64 l.start, .int .i64 l.gin, .int .i64 l.gout, .slice xo nb yo, .int .i64 l.players, .int .i64 l.turns, .bool l.won]) (by simp)
              have e6 := hvs 6 (.slice xp (m + 1) yp) (by simp)
              obtain ⟨xa, y, e1', hs4⟩ := hj.base.own hL1
              rw [e1] at e1'
              cases e1'
              have ha := hj.base.app hL6
              rw [e6] at ha
              refine opOK_call (f := 25) (args := #[.agg #[.int .i64 l.start, .int .i64 l.gin, .int .i64 l.gout, .slice xo nb yo, .int .i64 l.players, .int .i64 l.turns, .bool l.won], .slice xp (m + 1) yp]) (by simp [go_sem]) ?_
              refine (htruth W xo yo (.slice xp (m + 1) yp) _ _ hs4 ha).mono ?_
              rintro e w' ⟨g1, g2, g3, rfl, hb3, k1, k2, k3⟩
              exact ⟨_, rfl, ⟨(g1, g2, g3), rfl⟩, hj.at_ (k0 := 0) hb3 (by decide) (by decide) (by decide) (by decide) (by decide) hL6 (fun _ => ⟨g1, g2, g3, rfl, k1, k2, k3⟩) (fun h => absurd h (by decide))⟩
            rintro _ ⟨⟨ta, tb, tc⟩, rfl⟩
            simp only [Act.put, List.setIfInBounds_toArray, List.set_cons_succ, List.set_cons_zero]
            refine sv_new ⟨_, (0, 0, 0), rfl⟩ rfl (fun W L vs hvs hL hj hd => ?_) ?_
            · simp only [List.length_append, List.length_cons, List.length_nil, Nat.zero_add, Nat.reduceAdd] at hL ⊢
              have hL7 := hd ⟨7, .data⟩ (by simp) rfl
              obtain ⟨g1, g2, g3, e1, k1, k2, k3⟩ := hj.t7 0 (by decide) hL7
              have e2 := hvs 7 (tupT n ta tb tc) (by simp)
              rw [show 7 + 0 = 7 from rfl, e2] at e1
              simp only [tupT, slT, Value.tuple.injEq, Array.mk.injEq, List.cons.injEq, Value.slice.injEq, Option.some.injEq, Addr.mk.injEq, and_true] at e1
              obtain ⟨rfl, rfl, rfl⟩ := e1
              exact opOK_val (v := tupT n ta tb tc) (w' := W) (by simp [go_sem, execOp, tupT, slT]) ⟨⟨(ta, tb, tc), rfl⟩, hj.at_ (k0 := 1) (Below.refl _ _) (by decide) (by decide) (by decide) (by decide) (by decide) (hj.d7 0 (by decide) hL7) (fun _ => ⟨ta, tb, tc, rfl, k1, k2, k3⟩) (fun h => absurd h (by decide))⟩
            rintro _ ⟨⟨tp, tq, tr⟩, rfl⟩
            simp only [Act.put, List.setIfInBounds_toArray, List.set_cons_succ, List.set_cons_zero]
            refine sv_new ⟨_, 0, rfl⟩ rfl (fun W L vs hvs hL hj hd => ?_) ?_
            · simp only [List.length_append, List.length_cons, List.length_nil, Nat.zero_add, Nat.reduceAdd] at hL ⊢
              have hL7 := hd ⟨8, .data⟩ (by simp) rfl
              obtain ⟨g1, g2, g3, e1, k1, k2, k3⟩ := hj.t7 1 (by decide) hL7
              have e2 := hvs 8 (tupT n tp tq tr) (by simp)
              rw [show 7 + 1 = 8 from rfl, e2] at e1
              simp only [tupT, slT, Value.tuple.injEq, Array.mk.injEq, List.cons.injEq, Value.slice.injEq, Option.some.injEq, Addr.mk.injEq, and_true] at e1
              obtain ⟨rfl, rfl, rfl⟩ := e1
              exact opOK_val (v := slT n tp) (w' := W) (by simp [go_sem, execOp, tupT, slT]) ⟨⟨tp, rfl⟩, hj.at_ (k0 := 2) (Below.refl _ _) (by decide) (by decide) (by decide) (by decide) (by decide) (hj.d7 1 (by decide) hL7) (fun h => absurd h (by decide)) (fun _ _ _ => ⟨tp, rfl, k1⟩)⟩
            rintro _ ⟨y2, rfl⟩
            simp only [Act.put, List.setIfInBounds_toArray, List.set_cons_succ, List.set_cons_zero]
            refine sv_new ⟨_, 0, rfl⟩ rfl (fun W L vs hvs hL hj hd => ?_) ?_
            · simp only [List.length_append, List.length_cons, List.length_nil, Nat.zero_add, Nat.reduceAdd] at hL ⊢
              have hL7 := hd ⟨8, .data⟩ (by simp) rfl
              obtain ⟨g1, g2, g3, e1, k1, k2, k3⟩ := hj.t7 1 (by decide) hL7
              have e2 := hvs 8 (tupT n tp tq tr) (by simp)
              rw [show 7 + 1 = 8 from rfl, e2] at e1
              simp only [tupT, slT, Value.tuple.injEq, Array.mk.injEq, List.cons.injEq, Value.slice.injEq, Option.some.injEq, Addr.mk.injEq, and_true] at e1
              obtain ⟨rfl, rfl, rfl⟩ := e1
              exact opOK_val (v := slT n tq) (w' := W) (by simp [go_sem, execOp, tupT, slT]) ⟨⟨tq, rfl⟩, hj.at_ (k0 := 3) (Below.refl _ _) (by decide) (by decide) (by decide) (by decide) (by decide) (hj.d7 1 (by decide) hL7) (fun h => absurd h (by decide)) (fun _ _ _ => ⟨tq, rfl, k2⟩)⟩
            rintro _ ⟨y3, rfl⟩
            simp only [Act.put, List.setIfInBounds_toArray, List.set_cons_succ, List.set_cons_zero]
            refine sv_new ⟨_, 0, rfl⟩ rfl (fun W L vs hvs hL hj hd => ?_) ?_
            · simp only [List.length_append, List.length_cons, List.length_nil, Nat.zero_add, Nat.reduceAdd] at hL ⊢
              have hL7 := hd ⟨8, .data⟩ (by simp) rfl
              obtain ⟨g1, g2, g3, e1, k1, k2, k3⟩ := hj.t7 1 (by decide) hL7
              have e2 := hvs 8 (tupT n tp tq tr) (by simp)
              rw [show 7 + 1 = 8 from rfl, e2] at e1
              simp only [tupT, slT, Value.tuple.injEq, Array.mk.injEq, List.cons.injEq, Value.slice.injEq, Option.some.injEq, Addr.mk.injEq, and_true] at e1
              obtain ⟨rfl, rfl, rfl⟩ := e1
              exact opOK_val (v := slT n tr) (w' := W) (by simp [go_sem, execOp, tupT, slT]) ⟨⟨tr, rfl⟩, hj.at_ (k0 := 4) (Below.refl _ _) (by decide) (by decide) (by decide) (by decide) (by decide) (hj.d7 1 (by decide) hL7) (fun h => absurd h (by decide)) (fun _ _ _ => ⟨tr, rfl, k3⟩)⟩
            rintro _ ⟨y4, rfl⟩
            simp only [Act.put, List.setIfInBounds_toArray, List.set_cons_succ, List.set_cons_zero]
            refine sv_new ⟨_, rfl⟩ rfl (fun W L vs hvs hL hj hd => ?_) ?_
            · simp only [List.length_append, List.length_cons, List.length_nil, Nat.zero_add, Nat.reduceAdd] at hL ⊢
              have hL7 := hd ⟨8, .data⟩ (by simp) rfl
              exact opOK_val (v := .int .i64 0) (w' := W) (by simp [go_sem, execOp, tupT]) ⟨rfl, hj.at_ (k0 := 5) (Below.refl _ _) (by decide) (by decide) (by decide) (by decide) (by decide) (hj.d7 1 (by decide) hL7) (fun h => absurd h (by decide)) (fun _ _ _ => by contradiction)⟩
            rintro _ rfl
            simp only [Act.put, List.setIfInBounds_toArray, List.set_cons_succ, List.set_cons_zero]
            refine sv_new ⟨_, 0, rfl⟩ rfl (fun W L vs hvs hL hj hd => ?_) ?_
            · simp only [List.length_append, List.length_cons, List.length_nil, Nat.zero_add, Nat.reduceAdd] at hL ⊢
              have hL7 := hd ⟨9, .data⟩ (by simp) rfl
              obtain ⟨g, e1, k1⟩ := hj.sp 2 (by decide) (by decide) (by decide) (by decide) hL7
              have e2 := hvs 9 (slT n y2) (by simp)
              rw [show 7 + 2 = 9 from rfl, e2] at e1
              simp only [slT, Value.slice.injEq, Option.some.injEq, Addr.mk.injEq, and_true] at e1
              subst e1
              exact opOK_val (v := slT n y2) (w' := W) (by simp [go_sem, execOp, slT]) ⟨⟨y2, rfl⟩, hj.at_ (k0 := 6) (Below.refl _ _) (by decide) (by decide) (by decide) (by decide) (by decide) (hj.d7 2 (by decide) hL7) (fun h => absurd h (by decide)) (fun _ _ _ => ⟨y2, rfl, k1⟩)⟩
            rintro _ ⟨s6, rfl⟩
            simp only [Act.put, List.setIfInBounds_toArray, List.set_cons_succ, List.set_cons_zero]
            refine sv_new ⟨_, 0, rfl⟩ rfl (fun W L vs hvs hL hj hd => ?_) ?_
            · simp only [List.length_append, List.length_cons, List.length_nil, Nat.zero_add, Nat.reduceAdd] at hL ⊢
              have hL7 := hd ⟨10, .data⟩ (by simp) rfl
              obtain ⟨g, e1, k1⟩ := hj.sp 3 (by decide) (by decide) (by decide) (by decide) hL7
              have e2 := hvs 10 (slT n y3) (by simp)
              rw [show 7 + 3 = 10 from rfl, e2] at e1
              simp only [slT, Value.slice.injEq, Option.some.injEq, Addr.mk.injEq, and_true] at e1
              subst e1
              exact opOK_val (v := slT n y3) (w' := W) (by simp [go_sem, execOp, slT]) ⟨⟨y3, rfl⟩, hj.at_ (k0 := 7) (Below.refl _ _) (by decide) (by decide) (by decide) (by decide) (by decide) (hj.d7 3 (by decide) hL7) (fun h => absurd h (by decide)) (fun _ _ _ => ⟨y3, rfl, k1⟩)⟩
            rintro _ ⟨s7, rfl⟩
            simp only [Act.put, List.setIfInBounds_toArray, List.set_cons_succ, List.set_cons_zero]
            refine sv_new ⟨_, 0, rfl⟩ rfl (fun W L vs hvs hL hj hd => ?_) ?_
            · simp only [List.length_append, List.length_cons, List.length_nil, Nat.zero_add, Nat.reduceAdd] at hL ⊢
              have hL7 := hd ⟨11, .data⟩ (by simp) rfl
              obtain ⟨g, e1, k1⟩ := hj.sp 4 (by decide) (by decide) (by decide) (by decide) hL7
              have e2 := hvs 11 (slT n y4) (by simp)
              rw [show 7 + 4 = 11 from rfl, e2] at e1
              simp only [slT, Value.slice.injEq, Option.some.injEq, Addr.mk.injEq, and_true] at e1
              subst e1
              exact opOK_val (v := slT n y4) (w' := W) (by simp [go_sem, execOp, slT]) ⟨⟨y4, rfl⟩, hj.at_ (k0 := 8) (Below.refl _ _) (by decide) (by decide) (by decide) (by decide) (by decide) (hj.d7 4 (by decide) hL7) (fun h => absurd h (by decide)) (fun _ _ _ => ⟨y4, rfl, k1⟩)⟩
            rintro _ ⟨s8, rfl⟩
            simp only [Act.put, List.setIfInBounds_toArray, List.set_cons_succ, List.set_cons_zero]
            refine sv_new ⟨_, rfl⟩ rfl (fun W L vs hvs hL hj hd => ?_) ?_
            · simp only [List.length_append, List.length_cons, List.length_nil, Nat.zero_add, Nat.reduceAdd] at hL ⊢
              have hL7 := hd ⟨12, .data⟩ (by simp) rfl
              exact opOK_val (v := .int .i64 0) (w' := W) (by simp [go_sem, execOp, tupT]) ⟨rfl, hj.at_ (k0 := 9) (Below.refl _ _) (by decide) (by decide) (by decide) (by decide) (by decide) (hj.d7 5 (by decide) hL7) (fun h => absurd h (by decide)) (fun _ _ _ => by contradiction)⟩
            rintro _ rfl
            simp only [Act.put, List.setIfInBounds_toArray, List.set_cons_succ, List.set_cons_zero]
            refine sv_end fun vs wy hvs hj => ?_
            simp only [List.drop_succ_cons, List.drop_zero]
            obtain ⟨gg, e1, k1⟩ := hj.sp 6 (by decide) (by decide) (by decide) (by decide) (by decide)
            have e2 := hvs 13 (slT n s6) (by simp)
            rw [show 7 + 6 = 13 from rfl, e2] at e1
            simp only [slT, Value.slice.injEq, Option.some.injEq, Addr.mk.injEq, and_true] at e1
            subst e1
            obtain ⟨gg, e1, l1⟩ := hj.sp 7 (by decide) (by decide) (by decide) (by decide) (by decide)
            have e2 := hvs 14 (slT n s7) (by simp)
            rw [show 7 + 7 = 14 from rfl, e2] at e1
            simp only [slT, Value.slice.injEq, Option.some.injEq, Addr.mk.injEq, and_true] at e1
            subst e1
            have HS6 : Hid (SpansAt wy s6 n (scF l (list ++ [r]))) := Lib.hid k1
            have HS7 : Hid (SpansAt wy s7 n (leF l (list ++ [r]))) := Lib.hid l1
            have hbz := hj.base.below
            clear hvs hj k1 l1 e2 hown htold htruth
            simp only [slT]
            have ne5 : ((n : Int) != l.turns) = false := by rw [HTN.out]; simp
            have HSn : Hid (wy.cell? ⟨s7, i * 2, none⟩ = some (.int .i64 vv) ∧ wy.cell? ⟨s7, i * 2 + 1, none⟩ = some (.int .i64 vv)) := Lib.hid (by
              have h := HS7.out.cells hlt
              rw [HSV.out] at h; exact h)
            obtain ⟨u7, u8⟩ := HSn.out
            have kt := bAt hbz c5
            have kr := bAt hbz rz2
            have HBy := Lib.hid (bThen HBq.out hbz)
            clear hbz
            go_upto_region 22 with fail
            refine wp_region_seqW (.is (.int .i64 0) :: .is (.bool false) :: .is (.bool false) :: .is (.slice (some ⟨s6, 0, none⟩) n n) :: .is (.int .i64 (n : Int)) :: .is (.pointer (some ⟨K, 5, none⟩)) :: .is (.int .i64 l.turns) :: .is (.bool false) :: .is (.bool false) :: .is (.bool false) :: .is (.slice (some ⟨s7, 0, none⟩) n n) :: .is (.int .i64 (n : Int)) :: .is (.pointer (some ⟨K, 5, none⟩)) :: .is (.int .i64 l.turns) :: .is (.bool false) :: .is (.bool false) :: .is (.bool false) :: .is (.int .i64 (3 : Int)) :: .is (.bool false) :: .is (.bool false) :: .is (undef) :: .is (undef) :: .is (undef) :: .is (undef) :: .is (undef) :: .is (undef) :: .is (undef) :: .is (undef) :: .is (undef) :: .is (undef) :: .is (.bool false) :: .is (.bool false) :: .is (.bool false) :: .is (.int .i64 (3 : Int)) :: .is (.bool true) :: .is (.bool true) :: .is (.slice (some ⟨s7, 0, none⟩) n n) :: .is (.int .i64 (i : Int)) :: .is (.pointer (some ⟨s7, i * 2, none⟩)) :: .is (.agg #[.int .i64 vv, .int .i64 vv]) :: .is (.pointer (some ⟨R, 2, none⟩)) :: .is (.int .i64 vv) :: .is (.pointer (some ⟨R, 2, none⟩)) :: .is (.int .i64 vv) :: .is (.agg #[.int .i64 vv, .int .i64 vv]) :: .is (.bool false) :: .is (.bool false) :: .is (.bool false) :: []) rfl mix (by kernel_rfl) (by kernel_rfl) ?_
            iterate 20
              refine seq_on (by rfl) (fun w4 hb4 _ => ?_) ?_
              · have kt' := bAt hb4 kt
                have kr' := bAt hb4 kr
                have u7' := bAt hb4 u7
                have u8' := bAt hb4 u8
                simp [opOK, go_sem, kt', ne5, Below.refl]
                try exact rfl
              simp only [Act.put, List.setIfInBounds_toArray, List.set_cons_succ, List.set_cons_zero]
            refine seq_off (by rfl) ?_
            simp only [Act.put, List.setIfInBounds_toArray, List.set_cons_succ, List.set_cons_zero]
            refine seq_off (by rfl) ?_
            simp only [Act.put, List.setIfInBounds_toArray, List.set_cons_succ, List.set_cons_zero]
            refine seq_off (by rfl) ?_
            simp only [Act.put, List.setIfInBounds_toArray, List.set_cons_succ, List.set_cons_zero]
            refine seq_off (by rfl) ?_
            simp only [Act.put, List.setIfInBounds_toArray, List.set_cons_succ, List.set_cons_zero]
            refine seq_off (by rfl) ?_
            simp only [Act.put, List.setIfInBounds_toArray, List.set_cons_succ, List.set_cons_zero]
            refine seq_off (by rfl) ?_
            simp only [Act.put, List.setIfInBounds_toArray, List.set_cons_succ, List.set_cons_zero]
            refine seq_off (by rfl) ?_
            simp only [Act.put, List.setIfInBounds_toArray, List.set_cons_succ, List.set_cons_zero]
            refine seq_off (by rfl) ?_
            simp only [Act.put, List.setIfInBounds_toArray, List.set_cons_succ, List.set_cons_zero]
            refine seq_off (by rfl) ?_
            simp only [Act.put, List.setIfInBounds_toArray, List.set_cons_succ, List.set_cons_zero]
            refine seq_off (by rfl) ?_
            simp only [Act.put, List.setIfInBounds_toArray, List.set_cons_succ, List.set_cons_zero]
            iterate 14
              refine seq_on (by rfl) (fun w4 hb4 _ => ?_) ?_
              · have kt' := bAt hb4 kt
                have kr' := bAt hb4 kr
                have u7' := bAt hb4 u7
                have u8' := bAt hb4 u8
                simp [opOK, go_sem, kr', u7', u8', hli, Below.refl]
                try exact rfl
              simp only [Act.put, List.setIfInBounds_toArray, List.set_cons_succ, List.set_cons_zero]
            refine seq_on (by rfl) (fun w4 hb4 _ => ?_) ?_
            · refine opOK_call (f := 23) (args := #[.int .i64 vv, .int .i64 vv]) (by simp [go_sem]) ?_
              refine (to_any vv vv w4).mono ?_
              rintro e w' ⟨rfl, hbi⟩
              exact ⟨_, rfl, rfl, hbi⟩
            simp only [Act.put, List.setIfInBounds_toArray, List.set_cons_succ, List.set_cons_zero]
            iterate 3
              refine seq_on (by rfl) (fun w4 hb4 _ => ?_) ?_
              · have kt' := bAt hb4 kt
                have kr' := bAt hb4 kr
                have u7' := bAt hb4 u7
                have u8' := bAt hb4 u8
                simp [opOK, go_sem, Below.refl]
                try exact rfl
              simp only [Act.put, List.setIfInBounds_toArray, List.set_cons_succ, List.set_cons_zero]
            refine seq_end fun w4 hb4 hH => ?_
            have HB4 : Hid (Below wo.heap.size wo w4) := Lib.hid (bThen HBy.out hb4)
            clear hH hb4 u7 u8 kt kr ne5 rz0 rz1 rz2
            go_wp2_with fail
            go_roundw
            case rel => exact ⟨4, by omega, by go_num, HB4⟩
            case measure => simp [intOf]
        · as_aux_lemma =>
          obtain rfl : k = 4 := by omega
          go_wp2_with fail
          go_loopw [17] (fun jv wr => ∃ j : Nat, j ≤ m ∧ jv = .int .i64 (j : Int) ∧ Hid (Below wo.heap.size wo wr)) (fun jv _ => m - (intOf jv).toNat)
          case atStart => exact ⟨0, by omega, by go_num, HBk⟩
          case round =>
            clear HBk
            obtain ⟨j, hj, rfl, HBj⟩ := hrel
            obtain ⟨wt, rfl⟩ : ∃ wt : World, wt = wr := ⟨_, rfl⟩
            by_cases hjm : j < m
            · have hbt : Below wa.heap.size wa wt := bThen HBr.out HBj.out
              have hjl : j < list.length := by rw [HM.out]; exact hjm
              obtain ⟨⟨rt, rs, rl⟩, hr⟩ : ∃ r, list[j] = r := ⟨_, rfl⟩
              obtain ⟨rb, rf, hra, -, -, hc⟩ := (HRa.out.below hbt).cell (i := j) (by rw [List.length_map]; exact hjl)
              cases hra
              have hrow : (list.map rpRow)[j]'(by rw [List.length_map]; exact hjl) = [.int .i64 rt, .int .i64 rs, .int .i64 rl] := by rw [List.getElem_map, hr]; rfl
              rw [hrow] at hc
              have p0 := hc 0 _ rfl
              have p1 := hc 1 _ rfl
              have p2 := hc 2 _ rfl
              rw [Nat.add_zero] at p0
              have HMEM : Hid ((⟨rt, rs, rl⟩ : Rp) ∈ list) := Lib.hid (by rw [← hr]; exact List.getElem_mem _)
              have hli : (i : Int) < (n : Int) := by omega
              have hji : (j : Int) < (m : Int) := by omega
              have hwi : IntKind.i64.wrap ((j : Int) + 1) = (j : Int) + 1 := wrap_small _ (by omega) (by omega)
              obtain ⟨R2, hR2⟩ : ∃ R, wt.heap.size = R := ⟨_, rfl⟩
              obtain ⟨wv, hwv⟩ : ∃ y, wt.alloc (.cells #[.int .i64 rt, .int .i64 rs, .int .i64 rl] 83) = y := ⟨_, rfl⟩
              have hbv : Below wt.heap.size wt wv := by rw [← hwv]; exact aB _ _
              have kv : wv.heap[R2]? = some (.cells #[.int .i64 rt, .int .i64 rs, .int .i64 rl] 83 (0, 0)) := by rw [← hwv, ← hR2]; exact World.alloc_heap_new _ _
              have e0 : wv.cell? ⟨R2, 0, none⟩ = some (.int .i64 rt) := by rw [cell_of_heap kv]; rfl
              have e1 : wv.cell? ⟨R2, 1, none⟩ = some (.int .i64 rs) := by rw [cell_of_heap kv]; rfl
              have e2 : wv.cell? ⟨R2, 2, none⟩ = some (.int .i64 rl) := by rw [cell_of_heap kv]; rfl
              have hbw : Below wa.heap.size wa wv := bThen hbt hbv
              obtain ⟨u1, u2⟩ := (HG1.out.below hbw).cells hlt
              obtain ⟨u3, u4⟩ := (HG2.out.below hbw).cells hlt
              have HBv : Hid (Below wo.heap.size wo wv) := Lib.hid (bThen HBj.out hbv)
              have HR2 := Lib.hid hR2
              have HWV := Lib.hid hwv
              clear hbt hjl hr hc hrow hR2 hwv hbv kv hbw
              go_upto_region 28 with fail
              rw [HWV.out, HR2.out]
              clear p0 p1 p2
              by_cases htn : rt = (i : Int)
              · have dt : (rt == (i : Int)) = true := beq_iff_eq.2 htn
                have hsd := said_span HBD.out.1 HBD.out.2.1 HTR.out HIT.out (r := ⟨rt, rs, rl⟩) (mem_allS.2 ⟨HMEM.out, htn⟩)
                have HSD : Hid ((rs ≠ -1 → scF l list i = (rs, rs)) ∧ (rl ≠ -1 → leF l list i = (rl, rl))) := Lib.hid hsd
                clear hsd htn
                by_cases hs0 : 0 ≤ rs
                · have ds : decide (0 ≤ rs) = true := decide_eq_true hs0
                  rw [HSD.out.1 (by omega)] at u1 u2
                  by_cases hl0 : 0 ≤ rl
                  · have dl : decide (0 ≤ rl) = true := decide_eq_true hl0
                    rw [HSD.out.2 (by omega)] at u3 u4
                    clear hs0 hl0
                    refine wp_region_seqW (.is (.pointer (some ⟨R2, 0, none⟩)) :: .is (.int .i64 rt) :: .is (.int .i64 (i : Int)) :: .is (.bool true) :: .is (.bool true) :: .is (.pointer (some ⟨R2, 1, none⟩)) :: .is (.int .i64 rs) :: .is (.bool true) :: .is (.bool true) :: .is (.slice (some ⟨g1, 0, none⟩) n n) :: .is (.int .i64 (i : Int)) :: .is (.pointer (some ⟨g1, i * 2, none⟩)) :: .is (.agg #[.int .i64 rs, .int .i64 rs]) :: .is (.pointer (some ⟨R2, 1, none⟩)) :: .is (.int .i64 rs) :: .is (.pointer (some ⟨R2, 1, none⟩)) :: .is (.int .i64 rs) :: .is (.agg #[.int .i64 rs, .int .i64 rs]) :: .is (.bool false) :: .is (.bool false) :: .is (.bool false) :: .is (.pointer (some ⟨R2, 2, none⟩)) :: .is (.int .i64 rl) :: .is (.bool true) :: .is (.bool true) :: .is (.slice (some ⟨g2, 0, none⟩) n n) :: .is (.int .i64 (i : Int)) :: .is (.pointer (some ⟨g2, i * 2, none⟩)) :: .is (.agg #[.int .i64 rl, .int .i64 rl]) :: .is (.pointer (some ⟨R2, 2, none⟩)) :: .is (.int .i64 rl) :: .is (.pointer (some ⟨R2, 2, none⟩)) :: .is (.int .i64 rl) :: .is (.agg #[.int .i64 rl, .int .i64 rl]) :: .is (.bool false) :: .is (.bool false) :: .is (.bool false) :: .is (.bool false) :: []) rfl mix (by kernel_rfl) (by kernel_rfl) ?_
                    iterate 17
                      refine seq_on (by rfl) (fun w4 hb4 _ => ?_) ?_
                      · have e0' := bAt hb4 e0
                        have e1' := bAt hb4 e1
                        have e2' := bAt hb4 e2
                        have u1' := bAt hb4 u1
                        have u2' := bAt hb4 u2
                        have u3' := bAt hb4 u3
                        have u4' := bAt hb4 u4
                        simp [opOK, go_sem, e0', e1', u1', u2', dt, ds, hli, Below.refl]
                        try exact rfl
                      simp only [Act.put, List.setIfInBounds_toArray, List.set_cons_succ, List.set_cons_zero]
                    refine seq_on (by rfl) (fun w4 hb4 _ => ?_) ?_
                    · refine opOK_call (f := 23) (args := #[.int .i64 rs, .int .i64 rs]) (by simp [go_sem]) ?_
                      refine (to_any rs rs w4).mono ?_
                      rintro e w' ⟨rfl, hbi⟩
                      exact ⟨_, rfl, rfl, hbi⟩
                    simp only [Act.put, List.setIfInBounds_toArray, List.set_cons_succ, List.set_cons_zero]
                    iterate 15
                      refine seq_on (by rfl) (fun w4 hb4 _ => ?_) ?_
                      · have e0' := bAt hb4 e0
                        have e1' := bAt hb4 e1
                        have e2' := bAt hb4 e2
                        have u1' := bAt hb4 u1
                        have u2' := bAt hb4 u2
                        have u3' := bAt hb4 u3
                        have u4' := bAt hb4 u4
                        simp [opOK, go_sem, e2', u3', u4', dl, hli, Below.refl]
                        try exact rfl
                      simp only [Act.put, List.setIfInBounds_toArray, List.set_cons_succ, List.set_cons_zero]
                    refine seq_on (by rfl) (fun w4 hb4 _ => ?_) ?_
                    · refine opOK_call (f := 23) (args := #[.int .i64 rl, .int .i64 rl]) (by simp [go_sem]) ?_
                      refine (to_any rl rl w4).mono ?_
                      rintro e w' ⟨rfl, hbi⟩
                      exact ⟨_, rfl, rfl, hbi⟩
                    simp only [Act.put, List.setIfInBounds_toArray, List.set_cons_succ, List.set_cons_zero]
                    iterate 4
                      refine seq_on (by rfl) (fun w4 hb4 _ => ?_) ?_
                      · have e0' := bAt hb4 e0
                        have e1' := bAt hb4 e1
                        have e2' := bAt hb4 e2
                        have u1' := bAt hb4 u1
                        have u2' := bAt hb4 u2
                        have u3' := bAt hb4 u3
                        have u4' := bAt hb4 u4
                        simp [opOK, go_sem, Below.refl]
                        try exact rfl
                      simp only [Act.put, List.setIfInBounds_toArray, List.set_cons_succ, List.set_cons_zero]
                    refine seq_end fun w4 hb4 hH => ?_
                    have HB4 : Hid (Below wo.heap.size wo w4) := Lib.hid (bThen HBv.out hb4)
                    clear hH hb4 e0 e1 e2 u1 u2 u3 u4
                    go_wp2_with fail
                    go_roundw
                    case rel => exact ⟨j + 1, by omega, by go_num, HB4⟩
                    case measure => simp [intOf]; omega
                  · have dl : decide (0 ≤ rl) = false := decide_eq_false hl0
                    clear hs0 hl0
                    refine wp_region_seqW (.is (.pointer (some ⟨R2, 0, none⟩)) :: .is (.int .i64 rt) :: .is (.int .i64 (i : Int)) :: .is (.bool true) :: .is (.bool true) :: .is (.pointer (some ⟨R2, 1, none⟩)) :: .is (.int .i64 rs) :: .is (.bool true) :: .is (.bool true) :: .is (.slice (some ⟨g1, 0, none⟩) n n) :: .is (.int .i64 (i : Int)) :: .is (.pointer (some ⟨g1, i * 2, none⟩)) :: .is (.agg #[.int .i64 rs, .int .i64 rs]) :: .is (.pointer (some ⟨R2, 1, none⟩)) :: .is (.int .i64 rs) :: .is (.pointer (some ⟨R2, 1, none⟩)) :: .is (.int .i64 rs) :: .is (.agg #[.int .i64 rs, .int .i64 rs]) :: .is (.bool false) :: .is (.bool false) :: .is (.bool false) :: .is (.pointer (some ⟨R2, 2, none⟩)) :: .is (.int .i64 rl) :: .is (.bool false) :: .is (.bool false) :: .is (undef) :: .is (undef) :: .is (undef) :: .is (undef) :: .is (undef) :: .is (undef) :: .is (undef) :: .is (undef) :: .is (undef) :: .is (undef) :: .is (.bool false) :: .is (.bool false) :: .is (.bool false) :: []) rfl mix (by kernel_rfl) (by kernel_rfl) ?_
                    iterate 17
                      refine seq_on (by rfl) (fun w4 hb4 _ => ?_) ?_
                      · have e0' := bAt hb4 e0
                        have e1' := bAt hb4 e1
                        have e2' := bAt hb4 e2
                        have u1' := bAt hb4 u1
                        have u2' := bAt hb4 u2
                        simp [opOK, go_sem, e0', e1', u1', u2', dt, ds, hli, Below.refl]
                        try exact rfl
                      simp only [Act.put, List.setIfInBounds_toArray, List.set_cons_succ, List.set_cons_zero]
                    refine seq_on (by rfl) (fun w4 hb4 _ => ?_) ?_
                    · refine opOK_call (f := 23) (args := #[.int .i64 rs, .int .i64 rs]) (by simp [go_sem]) ?_
                      refine (to_any rs rs w4).mono ?_
                      rintro e w' ⟨rfl, hbi⟩
                      exact ⟨_, rfl, rfl, hbi⟩
                    simp only [Act.put, List.setIfInBounds_toArray, List.set_cons_succ, List.set_cons_zero]
                    iterate 7
                      refine seq_on (by rfl) (fun w4 hb4 _ => ?_) ?_
                      · have e0' := bAt hb4 e0
                        have e1' := bAt hb4 e1
                        have e2' := bAt hb4 e2
                        have u1' := bAt hb4 u1
                        have u2' := bAt hb4 u2
                        simp [opOK, go_sem, e2', dl, Below.refl]
                        try exact rfl
                      simp only [Act.put, List.setIfInBounds_toArray, List.set_cons_succ, List.set_cons_zero]
                    refine seq_off (by rfl) ?_
                    simp only [Act.put, List.setIfInBounds_toArray, List.set_cons_succ, List.set_cons_zero]
                    refine seq_off (by rfl) ?_
                    simp only [Act.put, List.setIfInBounds_toArray, List.set_cons_succ, List.set_cons_zero]
                    refine seq_off (by rfl) ?_
                    simp only [Act.put, List.setIfInBounds_toArray, List.set_cons_succ, List.set_cons_zero]
                    refine seq_off (by rfl) ?_
                    simp only [Act.put, List.setIfInBounds_toArray, List.set_cons_succ, List.set_cons_zero]
                    refine seq_off (by rfl) ?_
                    simp only [Act.put, List.setIfInBounds_toArray, List.set_cons_succ, List.set_cons_zero]
                    refine seq_off (by rfl) ?_
                    simp only [Act.put, List.setIfInBounds_toArray, List.set_cons_succ, List.set_cons_zero]
                    refine seq_off (by rfl) ?_
                    simp only [Act.put, List.setIfInBounds_toArray, List.set_cons_succ, List.set_cons_zero]
                    refine seq_off (by rfl) ?_
                    simp only [Act.put, List.setIfInBounds_toArray, List.set_cons_succ, List.set_cons_zero]
                    refine seq_off (by rfl) ?_
                    simp only [Act.put, List.setIfInBounds_toArray, List.set_cons_succ, List.set_cons_zero]
                    refine seq_off (by rfl) ?_
                    simp only [Act.put, List.setIfInBounds_toArray, List.set_cons_succ, List.set_cons_zero]
                    iterate 3
                      refine seq_on (by rfl) (fun w4 hb4 _ => ?_) ?_
                      · have e0' := bAt hb4 e0
                        have e1' := bAt hb4 e1
                        have e2' := bAt hb4 e2
                        have u1' := bAt hb4 u1
                        have u2' := bAt hb4 u2
                        simp [opOK, go_sem, Below.refl]
                        try exact rfl
                      simp only [Act.put, List.setIfInBounds_toArray, List.set_cons_succ, List.set_cons_zero]
                    refine seq_end fun w4 hb4 hH => ?_
                    have HB4 : Hid (Below wo.heap.size wo w4) := Lib.hid (bThen HBv.out hb4)
                    clear hH hb4 e0 e1 e2 u1 u2 u3 u4
                    go_wp2_with fail
                    go_roundw
                    case rel => exact ⟨j + 1, by omega, by go_num, HB4⟩
                    case measure => simp [intOf]; omega
                · have ds : decide (0 ≤ rs) = false := decide_eq_false hs0
                  by_cases hl0 : 0 ≤ rl
                  · have dl : decide (0 ≤ rl) = true := decide_eq_true hl0
                    rw [HSD.out.2 (by omega)] at u3 u4
                    clear hs0 hl0
                    refine wp_region_seqW (.is (.pointer (some ⟨R2, 0, none⟩)) :: .is (.int .i64 rt) :: .is (.int .i64 (i : Int)) :: .is (.bool true) :: .is (.bool true) :: .is (.pointer (some ⟨R2, 1, none⟩)) :: .is (.int .i64 rs) :: .is (.bool false) :: .is (.bool false) :: .is (undef) :: .is (undef) :: .is (undef) :: .is (undef) :: .is (undef) :: .is (undef) :: .is (undef) :: .is (undef) :: .is (undef) :: .is (undef) :: .is (.bool false) :: .is (.bool false) :: .is (.pointer (some ⟨R2, 2, none⟩)) :: .is (.int .i64 rl) :: .is (.bool true) :: .is (.bool true) :: .is (.slice (some ⟨g2, 0, none⟩) n n) :: .is (.int .i64 (i : Int)) :: .is (.pointer (some ⟨g2, i * 2, none⟩)) :: .is (.agg #[.int .i64 rl, .int .i64 rl]) :: .is (.pointer (some ⟨R2, 2, none⟩)) :: .is (.int .i64 rl) :: .is (.pointer (some ⟨R2, 2, none⟩)) :: .is (.int .i64 rl) :: .is (.agg #[.int .i64 rl, .int .i64 rl]) :: .is (.bool false) :: .is (.bool false) :: .is (.bool false) :: .is (.bool false) :: []) rfl mix (by kernel_rfl) (by kernel_rfl) ?_
                    iterate 9
                      refine seq_on (by rfl) (fun w4 hb4 _ => ?_) ?_
                      · have e0' := bAt hb4 e0
                        have e1' := bAt hb4 e1
                        have e2' := bAt hb4 e2
                        have u3' := bAt hb4 u3
                        have u4' := bAt hb4 u4
                        simp [opOK, go_sem, e0', e1', dt, ds, Below.refl]
                        try exact rfl
                      simp only [Act.put, List.setIfInBounds_toArray, List.set_cons_succ, List.set_cons_zero]
                    refine seq_off (by rfl) ?_
                    simp only [Act.put, List.setIfInBounds_toArray, List.set_cons_succ, List.set_cons_zero]
                    refine seq_off (by rfl) ?_
                    simp only [Act.put, List.setIfInBounds_toArray, List.set_cons_succ, List.set_cons_zero]
                    refine seq_off (by rfl) ?_
                    simp only [Act.put, List.setIfInBounds_toArray, List.set_cons_succ, List.set_cons_zero]
                    refine seq_off (by rfl) ?_
                    simp only [Act.put, List.setIfInBounds_toArray, List.set_cons_succ, List.set_cons_zero]
                    refine seq_off (by rfl) ?_
                    simp only [Act.put, List.setIfInBounds_toArray, List.set_cons_succ, List.set_cons_zero]
                    refine seq_off (by rfl) ?_
                    simp only [Act.put, List.setIfInBounds_toArray, List.set_cons_succ, List.set_cons_zero]
                    refine seq_off (by rfl) ?_
                    simp only [Act.put, List.setIfInBounds_toArray, List.set_cons_succ, List.set_cons_zero]
                    refine seq_off (by rfl) ?_
                    simp only [Act.put, List.setIfInBounds_toArray, List.set_cons_succ, List.set_cons_zero]
                    refine seq_off (by rfl) ?_
                    simp only [Act.put, List.setIfInBounds_toArray, List.set_cons_succ, List.set_cons_zero]
                    refine seq_off (by rfl) ?_
                    simp only [Act.put, List.setIfInBounds_toArray, List.set_cons_succ, List.set_cons_zero]
                    iterate 14
                      refine seq_on (by rfl) (fun w4 hb4 _ => ?_) ?_
                      · have e0' := bAt hb4 e0
                        have e1' := bAt hb4 e1
                        have e2' := bAt hb4 e2
                        have u3' := bAt hb4 u3
                        have u4' := bAt hb4 u4
                        simp [opOK, go_sem, e2', u3', u4', dl, hli, Below.refl]
                        try exact rfl
                      simp only [Act.put, List.setIfInBounds_toArray, List.set_cons_succ, List.set_cons_zero]
                    refine seq_on (by rfl) (fun w4 hb4 _ => ?_) ?_
                    · refine opOK_call (f := 23) (args := #[.int .i64 rl, .int .i64 rl]) (by simp [go_sem]) ?_
                      refine (to_any rl rl w4).mono ?_
                      rintro e w' ⟨rfl, hbi⟩
                      exact ⟨_, rfl, rfl, hbi⟩
                    simp only [Act.put, List.setIfInBounds_toArray, List.set_cons_succ, List.set_cons_zero]
                    iterate 4
                      refine seq_on (by rfl) (fun w4 hb4 _ => ?_) ?_
                      · have e0' := bAt hb4 e0
                        have e1' := bAt hb4 e1
                        have e2' := bAt hb4 e2
                        have u3' := bAt hb4 u3
                        have u4' := bAt hb4 u4
                        simp [opOK, go_sem, Below.refl]
                        try exact rfl
                      simp only [Act.put, List.setIfInBounds_toArray, List.set_cons_succ, List.set_cons_zero]
                    refine seq_end fun w4 hb4 hH => ?_
                    have HB4 : Hid (Below wo.heap.size wo w4) := Lib.hid (bThen HBv.out hb4)
                    clear hH hb4 e0 e1 e2 u1 u2 u3 u4
                    go_wp2_with fail
                    go_roundw
                    case rel => exact ⟨j + 1, by omega, by go_num, HB4⟩
                    case measure => simp [intOf]; omega
                  · have dl : decide (0 ≤ rl) = false := decide_eq_false hl0
                    clear hs0 hl0
                    refine wp_region_seqW (.is (.pointer (some ⟨R2, 0, none⟩)) :: .is (.int .i64 rt) :: .is (.int .i64 (i : Int)) :: .is (.bool true) :: .is (.bool true) :: .is (.pointer (some ⟨R2, 1, none⟩)) :: .is (.int .i64 rs) :: .is (.bool false) :: .is (.bool false) :: .is (undef) :: .is (undef) :: .is (undef) :: .is (undef) :: .is (undef) :: .is (undef) :: .is (undef) :: .is (undef) :: .is (undef) :: .is (undef) :: .is (.bool false) :: .is (.bool false) :: .is (.pointer (some ⟨R2, 2, none⟩)) :: .is (.int .i64 rl) :: .is (.bool false) :: .is (.bool false) :: .is (undef) :: .is (undef) :: .is (undef) :: .is (undef) :: .is (undef) :: .is (undef) :: .is (undef) :: .is (undef) :: .is (undef) :: .is (undef) :: .is (.bool false) :: .is (.bool false) :: .is (.bool false) :: []) rfl mix (by kernel_rfl) (by kernel_rfl) ?_
                    iterate 9
                      refine seq_on (by rfl) (fun w4 hb4 _ => ?_) ?_
                      · have e0' := bAt hb4 e0
                        have e1' := bAt hb4 e1
                        have e2' := bAt hb4 e2
                        simp [opOK, go_sem, e0', e1', dt, ds, Below.refl]
                        try exact rfl
                      simp only [Act.put, List.setIfInBounds_toArray, List.set_cons_succ, List.set_cons_zero]
                    refine seq_off (by rfl) ?_
                    simp only [Act.put, List.setIfInBounds_toArray, List.set_cons_succ, List.set_cons_zero]
                    refine seq_off (by rfl) ?_
                    simp only [Act.put, List.setIfInBounds_toArray, List.set_cons_succ, List.set_cons_zero]
                    refine seq_off (by rfl) ?_
                    simp only [Act.put, List.setIfInBounds_toArray, List.set_cons_succ, List.set_cons_zero]
                    refine seq_off (by rfl) ?_
                    simp only [Act.put, List.setIfInBounds_toArray, List.set_cons_succ, List.set_cons_zero]
                    refine seq_off (by rfl) ?_
                    simp only [Act.put, List.setIfInBounds_toArray, List.set_cons_succ, List.set_cons_zero]
                    refine seq_off (by rfl) ?_
                    simp only [Act.put, List.setIfInBounds_toArray, List.set_cons_succ, List.set_cons_zero]
                    refine seq_off (by rfl) ?_
                    simp only [Act.put, List.setIfInBounds_toArray, List.set_cons_succ, List.set_cons_zero]
                    refine seq_off (by rfl) ?_
                    simp only [Act.put, List.setIfInBounds_toArray, List.set_cons_succ, List.set_cons_zero]
                    refine seq_off (by rfl) ?_
                    simp only [Act.put, List.setIfInBounds_toArray, List.set_cons_succ, List.set_cons_zero]
                    refine seq_off (by rfl) ?_
                    simp only [Act.put, List.setIfInBounds_toArray, List.set_cons_succ, List.set_cons_zero]
                    iterate 6
                      refine seq_on (by rfl) (fun w4 hb4 _ => ?_) ?_
                      · have e0' := bAt hb4 e0
                        have e1' := bAt hb4 e1
                        have e2' := bAt hb4 e2
                        simp [opOK, go_sem, e2', dl, Below.refl]
                        try exact rfl
                      simp only [Act.put, List.setIfInBounds_toArray, List.set_cons_succ, List.set_cons_zero]
                    refine seq_off (by rfl) ?_
                    simp only [Act.put, List.setIfInBounds_toArray, List.set_cons_succ, List.set_cons_zero]
                    refine seq_off (by rfl) ?_
                    simp only [Act.put, List.setIfInBounds_toArray, List.set_cons_succ, List.set_cons_zero]
                    refine seq_off (by rfl) ?_
                    simp only [Act.put, List.setIfInBounds_toArray, List.set_cons_succ, List.set_cons_zero]
                    refine seq_off (by rfl) ?_
                    simp only [Act.put, List.setIfInBounds_toArray, List.set_cons_succ, List.set_cons_zero]
                    refine seq_off (by rfl) ?_
                    simp only [Act.put, List.setIfInBounds_toArray, List.set_cons_succ, List.set_cons_zero]
                    refine seq_off (by rfl) ?_
                    simp only [Act.put, List.setIfInBounds_toArray, List.set_cons_succ, List.set_cons_zero]
                    refine seq_off (by rfl) ?_
                    simp only [Act.put, List.setIfInBounds_toArray, List.set_cons_succ, List.set_cons_zero]
                    refine seq_off (by rfl) ?_
                    simp only [Act.put, List.setIfInBounds_toArray, List.set_cons_succ, List.set_cons_zero]
                    refine seq_off (by rfl) ?_
                    simp only [Act.put, List.setIfInBounds_toArray, List.set_cons_succ, List.set_cons_zero]
                    refine seq_off (by rfl) ?_
                    simp only [Act.put, List.setIfInBounds_toArray, List.set_cons_succ, List.set_cons_zero]
                    iterate 3
                      refine seq_on (by rfl) (fun w4 hb4 _ => ?_) ?_
                      · have e0' := bAt hb4 e0
                        have e1' := bAt hb4 e1
                        have e2' := bAt hb4 e2
                        simp [opOK, go_sem, Below.refl]
                        try exact rfl
                      simp only [Act.put, List.setIfInBounds_toArray, List.set_cons_succ, List.set_cons_zero]
                    refine seq_end fun w4 hb4 hH => ?_
                    have HB4 : Hid (Below wo.heap.size wo w4) := Lib.hid (bThen HBv.out hb4)
                    clear hH hb4 e0 e1 e2 u1 u2 u3 u4
                    go_wp2_with fail
                    go_roundw
                    case rel => exact ⟨j + 1, by omega, by go_num, HB4⟩
                    case measure => simp [intOf]; omega
              · have dt : (rt == (i : Int)) = false := beq_eq_false_iff_ne.2 htn
                clear htn
                refine wp_region_seqW (.is (.pointer (some ⟨R2, 0, none⟩)) :: .is (.int .i64 rt) :: .is (.int .i64 (i : Int)) :: .is (.bool false) :: .is (.bool false) :: .is (undef) :: .is (undef) :: .is (undef) :: .is (undef) :: .is (undef) :: .is (undef) :: .is (undef) :: .is (undef) :: .is (undef) :: .is (undef) :: .is (undef) :: .is (undef) :: .is (undef) :: .is (undef) :: .is (undef) :: .is (undef) :: .is (undef) :: .is (undef) :: .is (undef) :: .is (undef) :: .is (undef) :: .is (undef) :: .is (undef) :: .is (undef) :: .is (undef) :: .is (undef) :: .is (undef) :: .is (undef) :: .is (undef) :: .is (undef) :: .is (undef) :: .is (undef) :: .is (.bool false) :: []) rfl mix (by kernel_rfl) (by kernel_rfl) ?_
                iterate 5
                  refine seq_on (by rfl) (fun w4 hb4 _ => ?_) ?_
                  · have e0' := bAt hb4 e0
                    have e1' := bAt hb4 e1
                    have e2' := bAt hb4 e2
                    simp [opOK, go_sem, e0', dt, Below.refl]
                    try exact rfl
                  simp only [Act.put, List.setIfInBounds_toArray, List.set_cons_succ, List.set_cons_zero]
                refine seq_off (by rfl) ?_
                simp only [Act.put, List.setIfInBounds_toArray, List.set_cons_succ, List.set_cons_zero]
                refine seq_off (by rfl) ?_
                simp only [Act.put, List.setIfInBounds_toArray, List.set_cons_succ, List.set_cons_zero]
                refine seq_off (by rfl) ?_
                simp only [Act.put, List.setIfInBounds_toArray, List.set_cons_succ, List.set_cons_zero]
                refine seq_off (by rfl) ?_
                simp only [Act.put, List.setIfInBounds_toArray, List.set_cons_succ, List.set_cons_zero]
                refine seq_off (by rfl) ?_
                simp only [Act.put, List.setIfInBounds_toArray, List.set_cons_succ, List.set_cons_zero]
                refine seq_off (by rfl) ?_
                simp only [Act.put, List.setIfInBounds_toArray, List.set_cons_succ, List.set_cons_zero]
                refine seq_off (by rfl) ?_
                simp only [Act.put, List.setIfInBounds_toArray, List.set_cons_succ, List.set_cons_zero]
                refine seq_off (by rfl) ?_
                simp only [Act.put, List.setIfInBounds_toArray, List.set_cons_succ, List.set_cons_zero]
                refine seq_off (by rfl) ?_
                simp only [Act.put, List.setIfInBounds_toArray, List.set_cons_succ, List.set_cons_zero]
                refine seq_off (by rfl) ?_
                simp only [Act.put, List.setIfInBounds_toArray, List.set_cons_succ, List.set_cons_zero]
                refine seq_off (by rfl) ?_
                simp only [Act.put, List.setIfInBounds_toArray, List.set_cons_succ, List.set_cons_zero]
                refine seq_off (by rfl) ?_
                simp only [Act.put, List.setIfInBounds_toArray, List.set_cons_succ, List.set_cons_zero]
                refine seq_off (by rfl) ?_
                simp only [Act.put, List.setIfInBounds_toArray, List.set_cons_succ, List.set_cons_zero]
                refine seq_off (by rfl) ?_
                simp only [Act.put, List.setIfInBounds_toArray, List.set_cons_succ, List.set_cons_zero]
                refine seq_off (by rfl) ?_
                simp only [Act.put, List.setIfInBounds_toArray, List.set_cons_succ, List.set_cons_zero]
                refine seq_off (by rfl) ?_
                simp only [Act.put, List.setIfInBounds_toArray, List.set_cons_succ, List.set_cons_zero]
                refine seq_off (by rfl) ?_
                simp only [Act.put, List.setIfInBounds_toArray, List.set_cons_succ, List.set_cons_zero]
                refine seq_off (by rfl) ?_
                simp only [Act.put, List.setIfInBounds_toArray, List.set_cons_succ, List.set_cons_zero]
                refine seq_off (by rfl) ?_
                simp only [Act.put, List.setIfInBounds_toArray, List.set_cons_succ, List.set_cons_zero]
                refine seq_off (by rfl) ?_
                simp only [Act.put, List.setIfInBounds_toArray, List.set_cons_succ, List.set_cons_zero]
                refine seq_off (by rfl) ?_
                simp only [Act.put, List.setIfInBounds_toArray, List.set_cons_succ, List.set_cons_zero]
                refine seq_off (by rfl) ?_
                simp only [Act.put, List.setIfInBounds_toArray, List.set_cons_succ, List.set_cons_zero]
                refine seq_off (by rfl) ?_
                simp only [Act.put, List.setIfInBounds_toArray, List.set_cons_succ, List.set_cons_zero]
                refine seq_off (by rfl) ?_
                simp only [Act.put, List.setIfInBounds_toArray, List.set_cons_succ, List.set_cons_zero]
                refine seq_off (by rfl) ?_
                simp only [Act.put, List.setIfInBounds_toArray, List.set_cons_succ, List.set_cons_zero]
                refine seq_off (by rfl) ?_
                simp only [Act.put, List.setIfInBounds_toArray, List.set_cons_succ, List.set_cons_zero]
                refine seq_off (by rfl) ?_
                simp only [Act.put, List.setIfInBounds_toArray, List.set_cons_succ, List.set_cons_zero]
                refine seq_off (by rfl) ?_
                simp only [Act.put, List.setIfInBounds_toArray, List.set_cons_succ, List.set_cons_zero]
                refine seq_off (by rfl) ?_
                simp only [Act.put, List.setIfInBounds_toArray, List.set_cons_succ, List.set_cons_zero]
                refine seq_off (by rfl) ?_
                simp only [Act.put, List.setIfInBounds_toArray, List.set_cons_succ, List.set_cons_zero]
                refine seq_off (by rfl) ?_
                simp only [Act.put, List.setIfInBounds_toArray, List.set_cons_succ, List.set_cons_zero]
                refine seq_off (by rfl) ?_
                simp only [Act.put, List.setIfInBounds_toArray, List.set_cons_succ, List.set_cons_zero]
                iterate 1
                  refine seq_on (by rfl) (fun w4 hb4 _ => ?_) ?_
                  · have e0' := bAt hb4 e0
                    have e1' := bAt hb4 e1
                    have e2' := bAt hb4 e2
                    simp [opOK, go_sem, Below.refl]
                    try exact rfl
                  simp only [Act.put, List.setIfInBounds_toArray, List.set_cons_succ, List.set_cons_zero]
                refine seq_end fun w4 hb4 hH => ?_
                have HB4 : Hid (Below wo.heap.size wo w4) := Lib.hid (bThen HBv.out hb4)
                clear hH hb4 e0 e1 e2 u1 u2 u3 u4
                go_wp2_with fail
                go_roundw
                case rel => exact ⟨j + 1, by omega, by go_num, HB4⟩
                case measure => simp [intOf]; omega
            · obtain rfl : j = m := by omega
              have HB9 := Lib.hid (bThen HBr.out HBj.out)
              have hwi : IntKind.i64.wrap ((i : Int) + 1) = (i : Int) + 1 := wrap_small _ (by omega) (by omega)
              go_wp2_with fail
              go_roundw
              case rel => exact ⟨i + 1, by omega, by go_num, HB9⟩
              case measure => simp [intOf]; omega
    · obtain rfl : i = n := by omega
      have t5 : decide ((i : Int) < l.turns) = false := decide_eq_false (by rw [HTN.out]; omega)
      go_wp2_with fail
      refine (known_any wo (HTa.out.below HBr.out)).mono ?_
      rintro e wz ⟨rfl, hbz⟩
      have HBZ := Lib.hid (bThen (bThen HBa.out HBr.out) hbz)
      clear hbz
      go_wp2
      go_returns
      exact ⟨rfl, HBZ.out⟩
end Go.Proofs.YtpfpjbglpibdoaaGreatDoor
