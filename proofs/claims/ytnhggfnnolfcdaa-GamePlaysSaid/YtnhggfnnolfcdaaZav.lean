/- The texts KE, KK0, KF, OnG, in build order. -/
import Derived.Test.YtnhggfnnolfcdaaZau
import Derived.Lib.MinMax
import Derived.Deep.DeepCutAuto
import Derived.Deep.CutRange

/- Chapter 4, the reference: a dart of round. -/
namespace Go.Proofs.Ytnhggfnnolfcdaa
open Go.RowKit Go.Oche Go.Proofs
def RefPost (t pb : Nat) (r : Rul) (cap : Nat) (nv wv : Value) (w : World) (d : Gam × List Int) (e : Ending) (w' : World) : Prop :=
  (∃ v, e = .returned v) ∧ (∃ wv', ((d.2 = [] ∧ wv' = wv) ∨ (d.2 ≠ [] ∧ Sl (fun q => w.heap.size ≤ q) w' wv' (ints d.2))) ∧ GamAt w' t pb r { d.1 with win := d.2 } cap wv' nv) ∧ Rel (TO t pb) w (TO t pb) w'
theorem noWin {x : Gam} (h : x.win = []) : x = { x with win := [] } := by cases x; cases h; rfl
set_option maxRecDepth 100000 in
set_option maxHeartbeats 4000000 in
theorem refRound_any (t pb cap : Nat) (r : Rul) (g : Gam) (wv nv : Value) (f n M : Int) (w : World) (h : GamAt w t pb r g cap wv nv) (hi : Run r M g) (k : r.kind = 1) (hM : M ≤ 1000000) (hf : 0 ≤ f ∧ f ≤ 4) :
    Calls Try.prog 51 #[.pointer (some ⟨t, 0, none⟩), .int .i64 f, .int .i64 n, .int .i64 g.player] w (RefPost t pb r cap nv wv w (dartRound r g f n)) := by
  have htw : t < w.heap.size := h.lt t (.inl rfl)
  have hc := ok1 hi.ok k
  have hme := hi.each _ (plr_mem hi.pl)
  have hls := hi.less k _ (plr_mem hi.pl)
  obtain ⟨P, hP⟩ : ∃ P, (plr g g.player).pts = P := ⟨_, rfl⟩
  obtain ⟨L, hL⟩ : ∃ L, r.last = L := ⟨_, rfl⟩
  obtain ⟨TT, hTT⟩ : ∃ T, targetsR r = T := ⟨_, rfl⟩
  obtain ⟨ST, hST⟩ : ∃ T, (if r.jump = true then f else 1) = T := ⟨_, rfl⟩
  rw [hP, hTT] at hls
  have hPb : 0 ≤ P ∧ P ≤ 1000000 := by have := hme.1.nn; have := hme.2; omega
  have hLb : 1 ≤ L ∧ L ≤ 20 := by omega
  have hTb : L ≤ TT ∧ TT ≤ L + 1 := by rw [← hTT, ← hL]; unfold targetsR; split <;> omega
  have hSb : 0 ≤ ST ∧ ST ≤ 4 := by rw [← hST]; split <;> omega
  obtain ⟨d, hd⟩ : ∃ d, dartRound r g f n = d := ⟨_, rfl⟩
  have HD : Hid (d = if n = (if decide (L < P + 1) = true then 25 else P + 1) then (setP g g.player { plr g g.player with pts := min (if decide (L < P + 1) = true then TT else L) (P + ST) }, if min (if decide (L < P + 1) = true then TT else L) (P + ST) = TT then [(g.player : Int)] else []) else (g, [])) := Lib.hid (by
    rw [← hd]; unfold dartRound; dsimp only; rw [hP, hL, hTT, hST])
  rw [hd]
  clear hd
  obtain ⟨np, hnp⟩ : ∃ x, g.pls.length = x := ⟨_, rfl⟩
  obtain ⟨bu, hbu⟩ : ∃ x, r.bull = x := ⟨_, rfl⟩
  obtain ⟨ju, hju⟩ : ∃ x, r.jump = x := ⟨_, rfl⟩
  have hpl : g.player < np := by rw [← hnp]; exact hi.pl
  have hpli : (g.player : Int) < (np : Int) := by omega
  have c2 : w.cell? ⟨t, 2, none⟩ = some (.int .i64 L) := by rw [← hL]; exact h.at_ rfl
  have c3 : w.cell? ⟨t, 3, none⟩ = some (.bool bu) := by rw [← hbu]; exact h.at_ rfl
  have c4 : w.cell? ⟨t, 4, none⟩ = some (.bool ju) := by rw [← hju]; exact h.at_ rfl
  have c13 : w.cell? ⟨t, 13, none⟩ = some (.slice (some ⟨pb, 0, none⟩) np cap) := by rw [← hnp]; exact h.at_ rfl
  have p0 : w.cell? ⟨pb, g.player * 9, none⟩ = some (.int .i64 P) := by rw [← hP, ← plr_at hi.pl]; exact h.pls.pts hi.pl
  have HT := Lib.hid h
  have HR : Hid (Rel (TO t pb) w (TO t pb) w) := Lib.hid (Rel.of_below (Below.refl _ _) h.lt)
  have HP := Lib.hid hP
  have HPL := Lib.hid hi.pl
  have HWIN := Lib.hid hi.win
  have zL : bu = true → IntKind.i64.wrap (L + 1) = TT := fun e => by rw [wrap_small _ (by omega) (by omega), ← hTT]; unfold targetsR; rw [hbu, e, hL]; rfl
  have zL2 : bu = false → L = TT := fun e => by rw [← hTT]; unfold targetsR; rw [hbu, e, hL]; rfl
  have zJ : (if ju = true then f else 1) = ST := by rw [← hST, hju]
  have zP : IntKind.i64.wrap (P + 1) = P + 1 := wrap_small _ (by omega) (by omega)
  have zS : IntKind.i64.wrap (P + ST) = P + ST := wrap_small _ (by omega) (by omega)
  have HZL := Lib.hid (And.intro zL (And.intro zL2 zJ))
  clear hP hL hTT hST h hi hme hc k hnp hbu hju zL zL2 zJ hM
  go_enter Try.func51, Try.ntmps51
  go_upto_region 0 with fail
  refine wp_region_seq 14 [.is (.pointer (some ⟨t, 0, none⟩)), .is (.pointer (some ⟨t, 0, none⟩)), .is (.pointer (some ⟨t, 0, none⟩)), .is (.pointer (some ⟨t, 2, none⟩)), .is (.int .i64 L), .is (.pointer (some ⟨t, 0, none⟩)), .is (.pointer (some ⟨t, 0, none⟩)), .is (.pointer (some ⟨t, 10, none⟩)), .is (.pointer (some ⟨t, 13, none⟩)), .is (.slice (some ⟨pb, 0, none⟩) np cap), .is (.int .i64 g.player), .is (.pointer (some ⟨pb, g.player * 9, none⟩)), .is (.int .i64 L), .is (.pointer (some ⟨pb, g.player * 9, none⟩))] rfl mix (by kernel_rfl) (by kernel_rfl) ?seqm
  case seqm =>
    simp only [List.take_succ_cons, List.take_zero]
    iterate 14
      refine seq_on (by rfl) (fun w3 hb3 _ => ?_) ?_
      · have y1 := bAt hb3 c2
        have y2 := bAt hb3 c13
        have y3 := bAt hb3 p0
        simp [opOK, go_sem, y1, y2, hpli, Below.refl]
        try exact rfl
      simp only [Act.put, List.setIfInBounds_toArray, List.set_cons_succ, List.set_cons_zero]
    refine seq_end fun w1 hb_w1 _ => ?_
    simp only [List.drop_succ_cons, List.drop_zero]
    replace c2 := bAt hb_w1 c2
    replace c13 := bAt hb_w1 c13
    replace p0 := bAt hb_w1 p0
    replace HT := Lib.hid (HT.out.below hb_w1)
    replace HR := Lib.hid (HR.out.ext hb_w1)
    have HB1 := Lib.hid hb_w1
    clear hb_w1
    replace c3 := bAt HB1.out c3
    replace c4 := bAt HB1.out c4
    clear HB1
    go_upto_if 27 with fail
    go_cut [8] from 23 to 29 (fun cv wx => cv = .int .i64 TT ∧ Hid (wx = w1))
    case first =>
      cases bu with
      | false =>
        have z := Lib.hid (HZL.out.2.1 rfl)
        go_wp2_with fail
        go_meet
        case rel => exact ⟨congrArg _ z.out, Lib.hid rfl⟩
      | true =>
        have z := HZL.out.1 rfl
        go_wp2_with fail
        go_meet
        case rel => exact ⟨rfl, Lib.hid rfl⟩
    case rest =>
      obtain ⟨rfl, hwx⟩ := hcut
      obtain rfl := hwx.out
      obtain ⟨w1, rfl⟩ : ∃ x : World, x = wc := ⟨_, rfl⟩
      clear hwx c3
      go_upto_if 34 with fail
      go_cut [10] from 30 to 35 (fun cv wx => cv = .int .i64 ST ∧ Hid (wx = w1))
      case first =>
        cases ju with
        | false =>
          have z := Lib.hid HZL.out.2.2
          go_wp2_with fail
          go_meet
          case rel => exact ⟨congrArg _ (by rw [← z.out]; rfl), Lib.hid rfl⟩
        | true =>
          have z := Lib.hid HZL.out.2.2
          go_wp2_with fail
          go_meet
          case rel => exact ⟨congrArg _ (by rw [← z.out]; rfl), Lib.hid rfl⟩
      case rest =>
        obtain ⟨rfl, hwx⟩ := hcut
        obtain rfl := hwx.out
        obtain ⟨w1, rfl⟩ : ∃ x : World, x = wc := ⟨_, rfl⟩
        clear hwx c4
        go_upto_region 6 with fail
        by_cases g1 : P < L
        · have h1 : decide (P < L) = true := decide_eq_true g1
          by_cases g2 : n = P + 1
          · have h2 : (n == P + 1) = true := by rw [g2]; simp
            have h2b : decide (n = P + 1) = true := decide_eq_true g2
            refine wp_region_seq 19 [.is (.pointer (some ⟨pb, g.player * 9, none⟩)), .is (.pointer (some ⟨pb, g.player * 9, none⟩)), .is (.pointer (some ⟨pb, g.player * 9, none⟩)), .is (.int .i64 P), .is (.pointer (some ⟨t, 0, none⟩)), .is (.pointer (some ⟨t, 0, none⟩)), .is (.pointer (some ⟨t, 0, none⟩)), .is (.pointer (some ⟨t, 2, none⟩)), .is (.int .i64 L), .is (.bool true), .is (.bool true), .is (.int .i64 n), .is (.pointer (some ⟨pb, g.player * 9, none⟩)), .is (.pointer (some ⟨pb, g.player * 9, none⟩)), .is (.pointer (some ⟨pb, g.player * 9, none⟩)), .is (.int .i64 P), .is (.int .i64 (P + 1)), .is (.bool true), .is (.bool true)] rfl mix (by kernel_rfl) (by kernel_rfl) ?seqm
            case seqm =>
              simp only [List.take_succ_cons, List.take_zero]
              iterate 19
                refine seq_on (by rfl) (fun w3 hb3 _ => ?_) ?_
                · have y1 := bAt hb3 c2
                  have y2 := bAt hb3 c13
                  have y3 := bAt hb3 p0
                  simp [opOK, go_sem, y1, y3, h1, h2, zP, Below.refl]
                  try exact rfl
                simp only [Act.put, List.setIfInBounds_toArray, List.set_cons_succ, List.set_cons_zero]
              refine seq_end fun w2 hb_w2 _ => ?_
              simp only [List.drop_succ_cons, List.drop_zero]
              replace c2 := bAt hb_w2 c2
              replace c13 := bAt hb_w2 c13
              replace p0 := bAt hb_w2 p0
              replace HT := Lib.hid (HT.out.below hb_w2)
              replace HR := Lib.hid (HR.out.ext hb_w2)
              clear hb_w2
              obtain ⟨Z, hZ⟩ : ∃ Z, min L (P + ST) = Z := ⟨_, rfl⟩
              have HD2 : Hid (d = (setP g g.player { plr g g.player with pts := Z }, if Z = TT then [(g.player : Int)] else [])) := Lib.hid (by
                rw [HD.out, decide_eq_false (show ¬ L < P + 1 by omega)]
                simp only [Bool.false_eq_true, if_false]
                rw [if_pos g2, hZ])
              clear g1 g2 h1 h2 h2b zP
              go_upto_region 7 with fail
              refine wp_region_seq 15 [.is (.pointer (some ⟨pb, g.player * 9, none⟩)), .is (.pointer (some ⟨t, 0, none⟩)), .is (.pointer (some ⟨t, 0, none⟩)), .is (.pointer (some ⟨t, 0, none⟩)), .is (.pointer (some ⟨t, 2, none⟩)), .is (.int .i64 L), .is (.pointer (some ⟨pb, g.player * 9, none⟩)), .is (.pointer (some ⟨pb, g.player * 9, none⟩)), .is (.pointer (some ⟨pb, g.player * 9, none⟩)), .is (.int .i64 P), .is (.int .i64 ST), .is (.int .i64 (P + ST)), .is (.int .i64 Z), .is (.pointer (some ⟨pb, g.player * 9, none⟩)), .is (.pointer (some ⟨pb, g.player * 9, none⟩))] rfl mix (by kernel_rfl) (by kernel_rfl) ?seqm
              case seqm =>
                simp only [List.take_succ_cons, List.take_zero]
                iterate 15
                  refine seq_on (by rfl) (fun w3 hb3 _ => ?_) ?_
                  · have y1 := bAt hb3 c2
                    have y2 := bAt hb3 c13
                    have y3 := bAt hb3 p0
                    simp [opOK, go_sem, y1, y3, zS, hZ, Below.refl]
                    try exact rfl
                  simp only [Act.put, List.setIfInBounds_toArray, List.set_cons_succ, List.set_cons_zero]
                refine seq_end fun w4 hb_w4 _ => ?_
                simp only [List.drop_succ_cons, List.drop_zero]
                replace c2 := bAt hb_w4 c2
                replace c13 := bAt hb_w4 c13
                replace p0 := bAt hb_w4 p0
                replace HT := Lib.hid (HT.out.below hb_w4)
                replace HR := Lib.hid (HR.out.ext hb_w4)
                clear hb_w4
                have fz := HT.out.pls.free (g.player * 9)
                go_upto_region 10 with fail
                obtain ⟨w5, hw5⟩ : ∃ x, w4.setCell ⟨pb, g.player * 9, none⟩ (.int .i64 Z) = x := ⟨_, rfl⟩
                have HT5 := Lib.hid (HT.out.setPts HPL.out Z)
                have HR5 := Lib.hid (HR.out.setCell (p := ⟨pb, g.player * 9, none⟩) (.inr rfl) (.int .i64 Z))
                rw [hw5] at HT5 HR5
                have HW5 := Lib.hid hw5
                have p5 : w5.cell? ⟨pb, g.player * 9, none⟩ = some (.int .i64 Z) := by
                  have h5 : g.player < (setP g g.player { plr g g.player with pts := Z }).pls.length := by rw [setP_len]; exact HPL.out
                  have := HT5.out.pls.pts h5
                  rw [plr_at h5, plr_setP HPL.out, if_pos rfl] at this
                  exact this
                clear hw5 p0 fz zS hZ c2 c13
                rw [HW5.out]
                by_cases g5 : Z = TT
                · have z0 : (Z == TT) = true := by rw [g5]; simp
                  have HD3 : Hid (d = (setP g g.player { plr g g.player with pts := Z }, [(g.player : Int)])) := Lib.hid (by rw [HD2.out, if_pos g5])
                  clear g5
                  go_upto_region 11 with fail
                  have fz : (w5.alloc (.cells #[.int .i64 g.player] 3)).frozen? ⟨t, 14, none⟩ = false := (HT5.out.below (aB _ _)).free 14
                  have c14 : (w5.alloc (.cells #[.int .i64 g.player] 3)).cell? ⟨t, 14, none⟩ = some wv := (HT5.out.below (aB _ _)).at_ rfl
                  go_wp2
                  go_end0
                  refine ⟨⟨_, rfl⟩, ⟨.slice (some ⟨w5.heap.size, 0, none⟩) 1 1, (.inr ⟨by rw [HD3.out]; simp, by rw [HD3.out]; exact sl_set (Sl.new1 (fun q => w.heap.size ≤ q) _ HR5.out.size 3 _) _ (fun q hq e => by (dsimp only at e; omega))⟩), ?_⟩, ?_⟩
                  · rw [HD3.out]
                    exact (HT5.out.below (aB w5 (.cells #[.int .i64 g.player] 3))).setWin (Sl.new1 _ _ ⟨HT5.out.lt t (.inl rfl), by have := HT5.out.lt pb (.inr rfl); omega⟩ 3 _)
                  · exact (HR5.out.ext (aB w5 (.cells #[.int .i64 g.player] 3))).setCell (.inl rfl) _
                · have z0 : (Z == TT) = false := by simpa using g5
                  have HD3 : Hid (d = (setP g g.player { plr g g.player with pts := Z }, [])) := Lib.hid (by rw [HD2.out, if_neg g5])
                  clear g5
                  go_wp2
                  go_end0
                  refine ⟨⟨_, rfl⟩, ⟨wv, (.inl ⟨by rw [HD3.out], rfl⟩), ?_⟩, HR5.out⟩
                  rw [HD3.out]
                  exact noWin (x := setP g g.player { plr g g.player with pts := Z }) HWIN.out ▸ HT5.out
          · have h2 : (n == P + 1) = false := by simpa using g2
            have h2b : decide (n = P + 1) = false := decide_eq_false g2
            have h3 : (P == L) = false := by simp; omega
            have h3b : decide (P = L) = false := decide_eq_false (by omega)
            refine wp_region_seq 19 [.is (.pointer (some ⟨pb, g.player * 9, none⟩)), .is (.pointer (some ⟨pb, g.player * 9, none⟩)), .is (.pointer (some ⟨pb, g.player * 9, none⟩)), .is (.int .i64 P), .is (.pointer (some ⟨t, 0, none⟩)), .is (.pointer (some ⟨t, 0, none⟩)), .is (.pointer (some ⟨t, 0, none⟩)), .is (.pointer (some ⟨t, 2, none⟩)), .is (.int .i64 L), .is (.bool true), .is (.bool true), .is (.int .i64 n), .is (.pointer (some ⟨pb, g.player * 9, none⟩)), .is (.pointer (some ⟨pb, g.player * 9, none⟩)), .is (.pointer (some ⟨pb, g.player * 9, none⟩)), .is (.int .i64 P), .is (.int .i64 (P + 1)), .is (.bool false), .is (.bool false)] rfl mix (by kernel_rfl) (by kernel_rfl) ?seqm
            case seqm =>
              simp only [List.take_succ_cons, List.take_zero]
              iterate 19
                refine seq_on (by rfl) (fun w3 hb3 _ => ?_) ?_
                · have y1 := bAt hb3 c2
                  have y2 := bAt hb3 c13
                  have y3 := bAt hb3 p0
                  simp [opOK, go_sem, y1, y3, h1, h2, zP, Below.refl]
                  try exact rfl
                simp only [Act.put, List.setIfInBounds_toArray, List.set_cons_succ, List.set_cons_zero]
              refine seq_end fun w2 hb_w2 _ => ?_
              simp only [List.drop_succ_cons, List.drop_zero]
              replace c2 := bAt hb_w2 c2
              replace c13 := bAt hb_w2 c13
              replace p0 := bAt hb_w2 p0
              replace HT := Lib.hid (HT.out.below hb_w2)
              replace HR := Lib.hid (HR.out.ext hb_w2)
              clear hb_w2
              have HD2 : Hid (d = (g, [])) := Lib.hid (by
                rw [HD.out, decide_eq_false (show ¬ L < P + 1 by omega)]
                simp only [Bool.false_eq_true, if_false]
                rw [if_neg g2])
              have z0 : (P == TT) = false := by simp; omega
              clear g1 g2 h1 h2 h2b zP zS
              go_upto_region 8 with fail
              refine wp_region_seq 14 [.is (.pointer (some ⟨pb, g.player * 9, none⟩)), .is (.pointer (some ⟨pb, g.player * 9, none⟩)), .is (.pointer (some ⟨pb, g.player * 9, none⟩)), .is (.int .i64 P), .is (.pointer (some ⟨t, 0, none⟩)), .is (.pointer (some ⟨t, 0, none⟩)), .is (.pointer (some ⟨t, 0, none⟩)), .is (.pointer (some ⟨t, 2, none⟩)), .is (.int .i64 L), .is (.bool false), .is (.bool false), .is undef, .is undef, .is (.bool false)] rfl mix (by kernel_rfl) (by kernel_rfl) ?seqm
              case seqm =>
                simp only [List.take_succ_cons, List.take_zero]
                iterate 11
                  refine seq_on (by rfl) (fun w3 hb3 _ => ?_) ?_
                  · have y1 := bAt hb3 c2
                    have y2 := bAt hb3 c13
                    have y3 := bAt hb3 p0
                    simp [opOK, go_sem, y1, y3, h3, Below.refl]
                    try exact rfl
                  simp only [Act.put, List.setIfInBounds_toArray, List.set_cons_succ, List.set_cons_zero]
                iterate 2
                  refine seq_off (by rfl) ?_
                  simp only [Act.put, List.setIfInBounds_toArray, List.set_cons_succ, List.set_cons_zero]
                refine seq_on (by rfl) (fun w3 hb3 _ => ?_) ?_
                · have y1 := bAt hb3 c2
                  have y2 := bAt hb3 c13
                  have y3 := bAt hb3 p0
                  simp [opOK, go_sem, Below.refl]
                  try exact rfl
                simp only [Act.put, List.setIfInBounds_toArray, List.set_cons_succ, List.set_cons_zero]
                refine seq_end fun w3 hb_w3 _ => ?_
                simp only [List.drop_succ_cons, List.drop_zero]
                replace c2 := bAt hb_w3 c2
                replace c13 := bAt hb_w3 c13
                replace p0 := bAt hb_w3 p0
                replace HT := Lib.hid (HT.out.below hb_w3)
                replace HR := Lib.hid (HR.out.ext hb_w3)
                clear hb_w3
                clear h3 h3b
                go_wp2
                go_end0
                refine ⟨⟨_, rfl⟩, ⟨wv, (.inl ⟨by rw [HD2.out], rfl⟩), ?_⟩, HR.out⟩
                rw [HD2.out]
                exact noWin HWIN.out ▸ HT.out
        · have h1 : decide (P < L) = false := decide_eq_false g1
          have gPL : P = L := by omega
          have h3 : (P == L) = true := by rw [gPL]; simp
          have h3b : decide (P = L) = true := decide_eq_true gPL
          have HPLe := Lib.hid gPL
          clear gPL
          refine wp_region_seq 19 [.is (.pointer (some ⟨pb, g.player * 9, none⟩)), .is (.pointer (some ⟨pb, g.player * 9, none⟩)), .is (.pointer (some ⟨pb, g.player * 9, none⟩)), .is (.int .i64 P), .is (.pointer (some ⟨t, 0, none⟩)), .is (.pointer (some ⟨t, 0, none⟩)), .is (.pointer (some ⟨t, 0, none⟩)), .is (.pointer (some ⟨t, 2, none⟩)), .is (.int .i64 L), .is (.bool false), .is (.bool false), .is undef, .is undef, .is undef, .is undef, .is undef, .is undef, .is undef, .is (.bool false)] rfl mix (by kernel_rfl) (by kernel_rfl) ?seqm
          case seqm =>
            simp only [List.take_succ_cons, List.take_zero]
            iterate 11
              refine seq_on (by rfl) (fun w3 hb3 _ => ?_) ?_
              · have y1 := bAt hb3 c2
                have y2 := bAt hb3 c13
                have y3 := bAt hb3 p0
                simp [opOK, go_sem, y1, y3, h1, Below.refl]
                try exact rfl
              simp only [Act.put, List.setIfInBounds_toArray, List.set_cons_succ, List.set_cons_zero]
            iterate 7
              refine seq_off (by rfl) ?_
              simp only [Act.put, List.setIfInBounds_toArray, List.set_cons_succ, List.set_cons_zero]
            refine seq_on (by rfl) (fun w3 hb3 _ => ?_) ?_
            · have y1 := bAt hb3 c2
              have y2 := bAt hb3 c13
              have y3 := bAt hb3 p0
              simp [opOK, go_sem, Below.refl]
              try exact rfl
            simp only [Act.put, List.setIfInBounds_toArray, List.set_cons_succ, List.set_cons_zero]
            refine seq_end fun w2 hb_w2 _ => ?_
            simp only [List.drop_succ_cons, List.drop_zero]
            replace c2 := bAt hb_w2 c2
            replace c13 := bAt hb_w2 c13
            replace p0 := bAt hb_w2 p0
            replace HT := Lib.hid (HT.out.below hb_w2)
            replace HR := Lib.hid (HR.out.ext hb_w2)
            clear hb_w2
            clear h1 zP
            go_upto_region 8 with fail
            by_cases g4 : n = 25
            · have h4 : (n == 25) = true := by rw [g4]; rfl
              obtain ⟨Z, hZ⟩ : ∃ Z, min TT (P + ST) = Z := ⟨_, rfl⟩
              have HD2 : Hid (d = (setP g g.player { plr g g.player with pts := Z }, if Z = TT then [(g.player : Int)] else [])) := Lib.hid (by
                rw [HD.out, decide_eq_true (show L < P + 1 by omega)]
                simp only [if_true]
                rw [if_pos g4, hZ])
              clear g1 g4
              refine wp_region_seq 14 [.is (.pointer (some ⟨pb, g.player * 9, none⟩)), .is (.pointer (some ⟨pb, g.player * 9, none⟩)), .is (.pointer (some ⟨pb, g.player * 9, none⟩)), .is (.int .i64 P), .is (.pointer (some ⟨t, 0, none⟩)), .is (.pointer (some ⟨t, 0, none⟩)), .is (.pointer (some ⟨t, 0, none⟩)), .is (.pointer (some ⟨t, 2, none⟩)), .is (.int .i64 L), .is (.bool true), .is (.bool true), .is (.int .i64 n), .is (.bool true), .is (.bool true)] rfl mix (by kernel_rfl) (by kernel_rfl) ?seqm
              case seqm =>
                simp only [List.take_succ_cons, List.take_zero]
                iterate 14
                  refine seq_on (by rfl) (fun w3 hb3 _ => ?_) ?_
                  · have y1 := bAt hb3 c2
                    have y2 := bAt hb3 c13
                    have y3 := bAt hb3 p0
                    simp [opOK, go_sem, y1, y3, h3, h4, Below.refl]
                    try exact rfl
                  simp only [Act.put, List.setIfInBounds_toArray, List.set_cons_succ, List.set_cons_zero]
                refine seq_end fun w4 hb_w4 _ => ?_
                simp only [List.drop_succ_cons, List.drop_zero]
                replace c2 := bAt hb_w4 c2
                replace c13 := bAt hb_w4 c13
                replace p0 := bAt hb_w4 p0
                replace HT := Lib.hid (HT.out.below hb_w4)
                replace HR := Lib.hid (HR.out.ext hb_w4)
                clear hb_w4
                have fz := HT.out.pls.free (g.player * 9)
                clear h3 h3b h4
                go_upto_region 10 with fail
                obtain ⟨w5, hw5⟩ : ∃ x, w4.setCell ⟨pb, g.player * 9, none⟩ (.int .i64 Z) = x := ⟨_, rfl⟩
                have HT5 := Lib.hid (HT.out.setPts HPL.out Z)
                have HR5 := Lib.hid (HR.out.setCell (p := ⟨pb, g.player * 9, none⟩) (.inr rfl) (.int .i64 Z))
                rw [hw5] at HT5 HR5
                have HW5 := Lib.hid hw5
                have p5 : w5.cell? ⟨pb, g.player * 9, none⟩ = some (.int .i64 Z) := by
                  have h5 : g.player < (setP g g.player { plr g g.player with pts := Z }).pls.length := by rw [setP_len]; exact HPL.out
                  have := HT5.out.pls.pts h5
                  rw [plr_at h5, plr_setP HPL.out, if_pos rfl] at this
                  exact this
                clear hw5 p0 fz zS hZ c2 c13
                rw [HW5.out]
                by_cases g5 : Z = TT
                · have z0 : (Z == TT) = true := by rw [g5]; simp
                  have HD3 : Hid (d = (setP g g.player { plr g g.player with pts := Z }, [(g.player : Int)])) := Lib.hid (by rw [HD2.out, if_pos g5])
                  clear g5
                  go_upto_region 11 with fail
                  have fz : (w5.alloc (.cells #[.int .i64 g.player] 3)).frozen? ⟨t, 14, none⟩ = false := (HT5.out.below (aB _ _)).free 14
                  have c14 : (w5.alloc (.cells #[.int .i64 g.player] 3)).cell? ⟨t, 14, none⟩ = some wv := (HT5.out.below (aB _ _)).at_ rfl
                  go_wp2
                  go_end0
                  refine ⟨⟨_, rfl⟩, ⟨.slice (some ⟨w5.heap.size, 0, none⟩) 1 1, (.inr ⟨by rw [HD3.out]; simp, by rw [HD3.out]; exact sl_set (Sl.new1 (fun q => w.heap.size ≤ q) _ HR5.out.size 3 _) _ (fun q hq e => by (dsimp only at e; omega))⟩), ?_⟩, ?_⟩
                  · rw [HD3.out]
                    exact (HT5.out.below (aB w5 (.cells #[.int .i64 g.player] 3))).setWin (Sl.new1 _ _ ⟨HT5.out.lt t (.inl rfl), by have := HT5.out.lt pb (.inr rfl); omega⟩ 3 _)
                  · exact (HR5.out.ext (aB w5 (.cells #[.int .i64 g.player] 3))).setCell (.inl rfl) _
                · have z0 : (Z == TT) = false := by simpa using g5
                  have HD3 : Hid (d = (setP g g.player { plr g g.player with pts := Z }, [])) := Lib.hid (by rw [HD2.out, if_neg g5])
                  clear g5
                  go_wp2
                  go_end0
                  refine ⟨⟨_, rfl⟩, ⟨wv, (.inl ⟨by rw [HD3.out], rfl⟩), ?_⟩, HR5.out⟩
                  rw [HD3.out]
                  exact noWin (x := setP g g.player { plr g g.player with pts := Z }) HWIN.out ▸ HT5.out
            · have h4 : (n == 25) = false := by simpa using g4
              have HD2 : Hid (d = (g, [])) := Lib.hid (by
                rw [HD.out, decide_eq_true (show L < P + 1 by omega)]
                simp only [if_true]
                rw [if_neg g4])
              have z0 : (P == TT) = false := by simp; omega
              clear g1 g4 zS
              refine wp_region_seq 14 [.is (.pointer (some ⟨pb, g.player * 9, none⟩)), .is (.pointer (some ⟨pb, g.player * 9, none⟩)), .is (.pointer (some ⟨pb, g.player * 9, none⟩)), .is (.int .i64 P), .is (.pointer (some ⟨t, 0, none⟩)), .is (.pointer (some ⟨t, 0, none⟩)), .is (.pointer (some ⟨t, 0, none⟩)), .is (.pointer (some ⟨t, 2, none⟩)), .is (.int .i64 L), .is (.bool true), .is (.bool true), .is (.int .i64 n), .is (.bool false), .is (.bool false)] rfl mix (by kernel_rfl) (by kernel_rfl) ?seqm
              case seqm =>
                simp only [List.take_succ_cons, List.take_zero]
                iterate 14
                  refine seq_on (by rfl) (fun w3 hb3 _ => ?_) ?_
                  · have y1 := bAt hb3 c2
                    have y2 := bAt hb3 c13
                    have y3 := bAt hb3 p0
                    simp [opOK, go_sem, y1, y3, h3, h4, Below.refl]
                    try exact rfl
                  simp only [Act.put, List.setIfInBounds_toArray, List.set_cons_succ, List.set_cons_zero]
                refine seq_end fun w3 hb_w3 _ => ?_
                simp only [List.drop_succ_cons, List.drop_zero]
                replace c2 := bAt hb_w3 c2
                replace c13 := bAt hb_w3 c13
                replace p0 := bAt hb_w3 p0
                replace HT := Lib.hid (HT.out.below hb_w3)
                replace HR := Lib.hid (HR.out.ext hb_w3)
                clear hb_w3
                clear h3 h3b h4
                go_wp2
                go_end0
                refine ⟨⟨_, rfl⟩, ⟨wv, (.inl ⟨by rw [HD2.out], rfl⟩), ?_⟩, HR.out⟩
                rw [HD2.out]
                exact noWin HWIN.out ▸ HT.out
end Go.Proofs.Ytnhggfnnolfcdaa

/- Chapter 4, the reference: a game by value, the search for the next player, the best ones. -/
namespace Go.Proofs.Ytnhggfnnolfcdaa
open Go.RowKit Go.Oche Go.Proofs
structure GamV (w : World) (r : Rul) (g : Gam) (nv : Value) (pb cap : Nat) (wv : Value) : Prop where
  pls : PlsAt w pb g.pls
  win : Sl (fun _ => True) w wv (ints g.win)
  num : Sl (fun _ => True) w nv (ints r.nums)
  cap : g.pls.length ≤ cap ∧ cap ≤ 9223372036854775807
theorem GamV.below {w w' : World} {r : Rul} {g : Gam} {nv wv : Value} {pb cap : Nat} (h : GamV w r g nv pb cap wv) (hb : Below w.heap.size w w') : GamV w' r g nv pb cap wv := ⟨h.pls.below hb, h.win.below hb, h.num.below hb, h.cap⟩
theorem GamAt.toV {w : World} {t pb cap : Nat} {r : Rul} {g : Gam} {wv nv : Value} (h : GamAt w t pb r g cap wv nv) : GamV w r g nv pb cap wv := ⟨h.pls, h.win.mono fun _ _ => trivial, h.num.mono fun _ _ => trivial, h.cap⟩
theorem GamV.gamS {w : World} {pb cap : Nat} {r : Rul} {g : Gam} {wv nv : Value} (h : GamV w r g nv pb cap wv) :
    ∃ na nc wa wc, nv = .slice na r.nums.length nc ∧ wv = .slice wa g.win.length wc ∧ GamS (fun _ => True) w r g na r.nums.length nc (some ⟨pb, 0, none⟩) g.pls.length cap wa g.win.length wc := by
  have h1 := h.num
  have h2 := h.win
  obtain ⟨na, nc, e1, -, -⟩ := h1.form
  obtain ⟨wa, wc, e2, -, -⟩ := h2.form
  rw [ints_length] at e1 e2
  subst e1 e2
  exact ⟨na, nc, wa, wc, rfl, rfl, (h.pls.slN rfl h.cap).mono fun _ _ => trivial, h.pls.1, h2, h1, rfl, rfl, rfl⟩
theorem refOver_v (pb cap : Nat) (r : Rul) (g : Gam) (wv nv : Value) (w : World) (h : GamV w r g nv pb cap wv) :
    Calls Try.prog 23 #[.agg (gamA r g nv (.slice (some ⟨pb, 0, none⟩) g.pls.length cap) wv)] w fun e w' => e = .returned (.bool (!g.win.isEmpty)) ∧ Below w.heap.size w w' := by
  obtain ⟨na, nc, wa, wc, rfl, rfl, hG⟩ := h.gamS
  exact refOver_any r g na _ nc _ _ cap wa _ wc rfl w
theorem refBetter_v (pb cap : Nat) (r : Rul) (g : Gam) (wv nv : Value) (w : World) (h : GamV w r g nv pb cap wv) (hok : ∀ p ∈ g.pls, PlOk r p) (a b : Nat) (ha : a < g.pls.length) (hb : b < g.pls.length) :
    Calls Try.prog 45 #[.agg (gamA r g nv (.slice (some ⟨pb, 0, none⟩) g.pls.length cap) wv), .int .i64 a, .int .i64 b] w fun e w' => e = .returned (.bool (betterR r (plr g a) (plr g b))) ∧ Below w.heap.size w w' := by
  obtain ⟨na, nc, wa, wc, rfl, rfl, hG⟩ := h.gamS
  exact refBetter_any r g na _ nc _ _ cap wa _ wc w hG (fun p hp m hm => ⟨(hok p hp).mlo m hm, (hok p hp).mhi m hm⟩) a b ha hb
structure GamW (B : Nat) (w : World) (t pb : Nat) (r : Rul) (g : Gam) (cap : Nat) (wv nv : Value) : Prop where
  box : w.heap[t]? = some (.cells (gamA r g nv (.slice (some ⟨pb, 0, none⟩) g.pls.length cap) wv) 41 (0, 0))
  pls : PlsAt w pb g.pls
  num : Sl (fun q => ¬ TO t pb q ∧ q < B) w nv (ints r.nums)
  ne : t ≠ pb
  cap : g.pls.length ≤ cap ∧ cap ≤ 9223372036854775807
  tb : t < B ∧ pb < B
section
variable {B : Nat} {w w' : World} {t pb cap : Nat} {r : Rul} {g : Gam} {wv nv : Value}
theorem GamAt.toW (h : GamAt w t pb r g cap wv nv) : GamW w.heap.size w t pb r g cap wv nv := ⟨h.box, h.pls, h.num.lt, h.ne, h.cap, h.lt t (.inl rfl), h.lt pb (.inr rfl)⟩
theorem GamW.below (h : GamW B w t pb r g cap wv nv) (hb : Below B w w') : GamW B w' t pb r g cap wv nv :=
  ⟨(hb.block t h.tb.1).trans h.box, h.pls.keep (hb.block pb h.tb.2), h.num.keepB fun k hk _ => hb.block k hk.2, h.ne, h.cap, h.tb⟩
theorem GamW.at_ (h : GamW B w t pb r g cap wv nv) {j : Nat} {v : Value} (hj : (gamA r g nv (.slice (some ⟨pb, 0, none⟩) g.pls.length cap) wv)[j]? = some v) : w.cell? ⟨t, j, none⟩ = some v := by
  rw [cell_of_heap h.box]; exact hj
theorem GamW.free (h : GamW B w t pb r g cap wv nv) (j : Nat) : w.frozen? ⟨t, j, none⟩ = false := frozen_of_heap h.box
theorem GamW.setWin (h : GamW B w t pb r g cap wv nv) (x : Value) : GamW B (w.setCell ⟨t, 14, none⟩ x) t pb r g cap x nv :=
  ⟨by rw [heap_setCell_at h.box]; rfl, h.pls.other x h.ne, sl_set h.num x (fun q hq e => hq.1 (.inl e)), h.ne, h.cap, h.tb⟩
theorem GamW.toV (h : GamW B w t pb r g cap wv nv) {l : List Int} (hw : Sl (fun _ => True) w wv (ints l)) : GamV w r { g with win := l } nv pb cap wv := ⟨h.pls, hw, h.num.mono fun _ _ => trivial, h.cap⟩
end
structure NxAt (r : Rul) (g : Gam) (n p0 r0 j p rd : Nat) : Prop where
  pos : rd * n + p = r0 * n + p0 + j
  rdb : rd ≤ r0 + j
  pn : p < n
  mod : p = (p0 + j) % n
  eq : nextP r g n p0 r0 = if j = 0 then nextP r g n p rd else if isOutG r g p = true then nextP r g (n - j) p rd else (p, rd)
  all : ∀ i, 1 ≤ i → i < j → isOutG r g ((p0 + i) % n) = true
theorem NxAt.start {r : Rul} {g : Gam} {n p0 r0 : Nat} (h : p0 < n) : NxAt r g n p0 r0 0 p0 r0 :=
  ⟨by omega, by omega, h, by rw [Nat.add_zero, Nat.mod_eq_of_lt h], by rw [if_pos rfl], fun i h1 h2 => by omega⟩
theorem NxAt.step {r : Rul} {g : Gam} {n p0 r0 j p rd : Nat} (h : NxAt r g n p0 r0 j p rd) (hn : g.pls.length = n) (ho : j = 0 ∨ isOutG r g p = true) (hs : ∃ i, 1 ≤ i ∧ i ≤ n ∧ isOutG r g ((p0 + i) % n) = false) :
    j < n ∧ NxAt r g n p0 r0 (j + 1) (stepP n p rd).1 (stepP n p rd).2 := by
  have hsp := step_pos (rd := rd) h.pn
  have hall : ∀ i, 1 ≤ i → i < j + 1 → isOutG r g ((p0 + i) % n) = true := fun i h1 h2 => by
    by_cases e : i = j
    · subst e
      rcases ho with e | e
      · omega
      · rw [h.mod] at e; exact e
    · exact h.all i h1 (by omega)
  have hjn : j < n := by
    obtain ⟨i, h1, h2, h3⟩ := hs
    by_cases q : j < n
    · exact q
    · rw [hall i h1 (by omega)] at h3; cases h3
  have hrd : (stepP n p rd).2 ≤ rd + 1 := by unfold stepP; split <;> simp
  refine ⟨hjn, by rw [hsp.2.1, h.pos]; omega, by have := h.rdb; omega, hsp.1, by rw [hsp.2.2, h.mod, Nat.mod_add_mod]; rfl, ?_, hall⟩
  have e1 : nextP r g n p0 r0 = nextP r g (n - j) p rd := by
    rw [h.eq]
    rcases ho with e | e
    · subst e; rw [if_pos rfl, Nat.sub_zero]
    · rw [e]
      by_cases q : j = 0
      · rw [if_pos q, q, Nat.sub_zero]
      · rw [if_neg q, if_pos rfl]
  rw [e1, if_neg (by omega), show n - j = n - (j + 1) + 1 by omega]
  cases o : isOutG r g (stepP n p rd).1 with
  | true => rw [if_pos rfl]; exact some_step hn o
  | false => rw [if_neg (by simp)]; exact none_step hn o
theorem NxAt.done {r : Rul} {g : Gam} {n p0 r0 j p rd : Nat} (h : NxAt r g n p0 r0 j p rd) (hj : j ≠ 0) (ho : isOutG r g p = false) : nextP r g n p0 r0 = (p, rd) := by
  rw [h.eq, if_neg hj, ho]; simp
def bstTo (r : Rul) (g : Gam) (i m : Nat) : Bool := (List.range m).all fun k => !betterR r (plr g k) (plr g i)
def bstK (r : Rul) (g : Gam) (m : Nat) : List Int := ((List.range m).filter fun i => bstTo r g i g.pls.length).map fun (k : Nat) => (k : Int)
theorem bstTo_succ (r : Rul) (g : Gam) (i m : Nat) : bstTo r g i (m + 1) = (bstTo r g i m && !betterR r (plr g m) (plr g i)) := by
  unfold bstTo; rw [List.range_succ, List.all_append, List.all_cons, List.all_nil, Bool.and_true]
theorem bstK_succ (r : Rul) (g : Gam) (m : Nat) : bstK r g (m + 1) = bstK r g m ++ if bstTo r g m g.pls.length = true then [(m : Int)] else [] := by
  unfold bstK
  rw [List.range_succ, List.filter_append, List.map_append]
  congr 1
  rw [List.filter_cons, List.filter_nil]
  split <;> rfl
theorem bstK_all (r : Rul) (g : Gam) : bstK r g g.pls.length = bestR r g.pls := rfl
theorem bstK_len (r : Rul) (g : Gam) (m : Nat) : (bstK r g m).length ≤ m := by
  unfold bstK; rw [List.length_map]; exact Nat.le_trans (List.length_filter_le _ _) (by simp)
theorem GamAt.setHit {w : World} {t pb cap : Nat} {r : Rul} {g : Gam} {wv nv : Value} (h : GamAt w t pb r g cap wv nv) (h5 : g.hit.length = 5) {k : Nat} (hk : k < 5) (b : Bool) : GamAt (w.setCell ⟨t, 15 + k, none⟩ (.bool b)) t pb r { g with hit := g.hit.set k b } cap wv nv := by
  refine h.setT ?_ rfl rfl
  obtain ⟨rd, pl, da, pls, win, hit⟩ := g
  match hit, h5 with
  | [a, b, c, d, e], _ =>
    obtain rfl | rfl | rfl | rfl | rfl : k = 0 ∨ k = 1 ∨ k = 2 ∨ k = 3 ∨ k = 4 := by omega
    all_goals rfl
theorem below_rel {O O' : Nat → Prop} {B : Nat} {w a b : World} (hb : Below B w a) (hr : Rel O a O' b) (hO : ∀ q, O q → B ≤ q) (hB : B ≤ a.heap.size) : Below B w b :=
  ⟨hr.os.trans hb.os, hr.tape.trans hb.tape, hr.output.trans hb.output, Nat.le_trans hb.size hr.size, fun k hk => (hr.block k (Nat.lt_of_lt_of_le hk hB) fun e => by have := hO k e; omega).trans (hb.block k hk)⟩
theorem rel_below {O : Nat → Prop} {B : Nat} {w a b : World} (hr : Rel O w O a) (hb : Below B a b) (hB : w.heap.size ≤ B) (hw : ∀ k, O k → k < w.heap.size) : Rel O w O b :=
  ⟨hb.os.trans hr.os, hb.tape.trans hr.tape, hb.output.trans hr.output, Nat.le_trans hr.size hb.size, fun k hk hn => (hb.block k (Nat.lt_of_lt_of_le hk hB)).trans (hr.block k hk hn), fun _ h => .inl h, fun k hk => Nat.lt_of_lt_of_le (hw k hk) (Nat.le_trans hr.size hb.size)⟩
theorem bestG_ne {r : Rul} {l : List Plr} (h : 0 < l.length) : bestG r l ≠ [] := by
  obtain ⟨k, hk, hall⟩ := min_ex r l l.length (Nat.le_refl _) h
  intro e
  have : (k : Int) ∈ bestG r l := by
    unfold bestG
    refine List.mem_map.2 ⟨k, List.mem_filter.2 ⟨List.mem_range.2 hk, ?_⟩, rfl⟩
    rw [List.all_eq_true]
    intro j hj
    exact decide_eq_true (hall j (List.mem_range.1 hj))
  rw [e] at this; cases this
def ThrowPost (r : Rul) (g : Gam) (nv : Value) (w : World) (e : Ending) (w' : World) : Prop :=
  ∃ pb cap wv, e = .returned (.agg (gamA r g nv (.slice (some ⟨pb, 0, none⟩) g.pls.length cap) wv)) ∧ GamV w' r g nv pb cap wv ∧ Below w.heap.size w w' ∧ (g.win = [] → wv = .slice none 0 0) ∧ Sl (fun q => w.heap.size ≤ q) w' wv (ints g.win)
def BIff (b : Bool) (p : Prop) : Prop := b = true ↔ p
theorem BIff.mk {b : Bool} {p : Prop} (h : b = true ↔ p) : BIff b p := h
theorem BIff.yes {p : Prop} (h : BIff true p) : p := h.1 rfl
theorem BIff.no {p : Prop} (h : BIff false p) : ¬ p := fun e => by have := h.2 e; cases this
theorem BIff.t {p : Prop} (h : p) : BIff true p := ⟨fun _ => h, fun _ => rfl⟩
theorem BIff.f {p : Prop} (h : ¬ p) : BIff false p := ⟨fun e => (by cases e), fun e => (h e).elim⟩
theorem results_cell {P : Program} {fn : Func} {tmps : Array Value} {a : Nat} {t : TypeId} {p : Addr} {v : Value} {w : World} (h : fn.results = #[.cell a t]) (hv : tmps.getD a undef = .pointer (some p)) (hl : (loadVar t p).run P w = .ok v w) : (results fn tmps).run P w = .ok v w := by
  unfold results
  rw [h]
  simp only [Array.mapM_eq_mapM_toList, List.mapM_cons, List.mapM_nil, hv, asAddr, Sem.run_bind, Sem.run_pure]
  simp [Result.andThen_ok, hl]
theorem results_cell3 {P : Program} {fn : Func} {tmps : Array Value} {a b c : Nat} {t : TypeId} {p : Addr} {v vb vc : Value} {w : World} (h : fn.results = #[.cell a t, .tmp b, .tmp c]) (hv : tmps.getD a undef = .pointer (some p)) (hl : (loadVar t p).run P w = .ok v w) (hb : tmps.getD b undef = vb) (hc : tmps.getD c undef = vc) : (results fn tmps).run P w = .ok (.tuple #[v, vb, vc]) w := by
  unfold results
  rw [h]
  simp only [Array.mapM_eq_mapM_toList, List.mapM_cons, List.mapM_nil, hv, hb, hc, asAddr, Sem.run_bind, Sem.run_pure]
  simp [Result.andThen_ok, hl]
theorem gamA_one {r : Rul} {g : Gam} {nv pv wv : Value} (h1 : nv.oneCell' = true) (h2 : pv.oneCell' = true) (h3 : wv.oneCell' = true) : (gamA r g nv pv wv).all (·.oneCell') = true := by
  unfold gamA
  simp only [List.all_toArray, List.all_cons, List.all_nil, h1, h2, h3, Bool.and_true]; rfl
structure JThr (w0 : World) (r : Rul) (g : Gam) (nv : Value) (i : Nat) (L : Nat → Bool) (vs : Nat → Value) (W : World) : Prop where
  below : Below w0.heap.size w0 W
  res : L i = true → ∃ pb cap wv, vs i = .agg (gamA r g nv (.slice (some ⟨pb, 0, none⟩) g.pls.length cap) wv) ∧ GamV W r g nv pb cap wv ∧ (g.win = [] → wv = .slice none 0 0) ∧ Sl (fun q => w0.heap.size ≤ q) W wv (ints g.win)
theorem JThr.congr {w0 W : World} {r : Rul} {g : Gam} {nv : Value} {i : Nat} {L : Nat → Bool} {vs vs' : Nat → Value} (hc : ∀ j, L j = true → vs j = vs' j) (h : JThr w0 r g nv i L vs W) : JThr w0 r g nv i L vs' W :=
  ⟨h.below, fun hl => hc _ hl ▸ h.res hl⟩
theorem JThr.start {w0 : World} {r : Rul} {g : Gam} {nv : Value} {i : Nat} {vs : Nat → Value} : JThr w0 r g nv i (fun _ => false) vs w0.drew :=
  ⟨⟨rfl, rfl, rfl, Nat.le_refl _, fun _ _ => rfl⟩, fun h => by cases h⟩
theorem JThr.read {w0 W : World} {r : Rul} {g : Gam} {nv : Value} {i j : Nat} {L : Nat → Bool} {vs : Nat → Value} {v : Value} (h : JThr w0 r g nv i L vs W) (hne : i ≠ j) : JThr w0 r g nv i (setB L j) (updV vs j v) W := by
  refine ⟨h.below, ?_⟩
  rw [setB_ne hne, updV_ne hne]
  exact h.res
theorem JThr.call {w0 W W' : World} {r : Rul} {g : Gam} {nv v : Value} {i : Nat} {L : Nat → Bool} {vs : Nat → Value} {e : Ending} (h : JThr w0 r g nv i L vs W) (hp : ThrowPost r g nv W e W') (he : e = .returned v) : (∃ pb cap wv, v = .agg (gamA r g nv (.slice (some ⟨pb, 0, none⟩) g.pls.length cap) wv)) ∧ JThr w0 r g nv i (setB L i) (updV vs i v) W' := by
  obtain ⟨pb, cap, wv, h1, h2, h3, h4, h5⟩ := hp
  rw [h1] at he
  cases he
  refine ⟨⟨pb, cap, wv, rfl⟩, h.below.trans (h3.mono h.below.size), fun _ => ⟨pb, cap, wv, by rw [updV_eq], h2, h4, h5.mono fun q hq => Nat.le_trans h.below.size hq⟩⟩
def RefPlayPost (r : Rul) (nv : Value) (w : World) (x : Option Gam × Nat × Int) (e : Ending) (w' : World) : Prop :=
  ∃ gv, e = .returned (.tuple #[gv, .int .i64 x.2.1, .int .i64 x.2.2]) ∧ Below w.heap.size w w' ∧ ((x.1 = none ∧ gv = .agg #[.int .i64 0, .int .i64 0, .int .i64 0, .bool false, .bool false, .int .i64 0, .bool false, .slice none 0 0, .int .i64 0, .bool false, .int .i64 0, .int .i64 0, .int .i64 0, .slice none 0 0, .slice none 0 0, .bool false, .bool false, .bool false, .bool false, .bool false]) ∨
    ∃ g pb cap wv, x.1 = some g ∧ gv = .agg (gamA r g nv (.slice (some ⟨pb, 0, none⟩) g.pls.length cap) wv) ∧ GamV w' r g nv pb cap wv ∧ (g.win = [] → wv = .slice none 0 0))
end Go.Proofs.Ytnhggfnnolfcdaa

/- Chapter 4, the reference, in plain Lean: killer's hit, number by number. -/
namespace Go.Proofs.Ytnhggfnnolfcdaa
open Go.RowKit Go.Oche Go.Proofs
end Go.Proofs.Ytnhggfnnolfcdaa

/- An operation with a guard that lets it run, by a rule for the operation alone. -/
namespace Go.Oche
open Go Go.RowKit
theorem wpList_opOK_on {P : Program} {ops : Array Oper} {Q : Exit → Act → World → Prop} {o : Oper} {rest : List Oper} {a : Act} {w : World} {R : Value → World → Prop} (hw : Region.wanted o (yielded ops a.tmps) = true) (hg : opOK P o a w R)
    (hK : ∀ v w', R v w' → wpList P ops Q rest (a.put o.dst v) w') : wpList P ops Q (o :: rest) a w := by
  simp only [wpList, hw, if_true]
  exact .inl (wp_of_opOK hg fun v w' hr => hK v w' hr)
end Go.Oche
