/- The texts XH, in build order. -/
import Derived.Test.YtnhggfnnolfcdaaZaz
import Derived.Deep.DeepCutAuto
import Derived.Deep.CutRange

/- Chapter 4: GameHelps. -/
namespace Go.Proofs.Ytnhggfnnolfcdaa
open Go.RowKit Go.Oche Go.Proofs
theorem uses_mem {r : Rul} {g : Gam} {b : Int} (hb : okBed b = true) : b ∈ usesL r g 500 ↔ ¬ ((throwG r g (b.tdiv 100) (b.tmod 100)).win = (throwG r g 0 0).win ∧ (throwG r g (b.tdiv 100) (b.tmod 100)).pls = (throwG r g 0 0).pls) := by
  have hbd := okBed_bd hb
  have e : usesB r g b = true ↔ ¬ ((throwG r g (b.tdiv 100) (b.tmod 100)).win = (throwG r g 0 0).win ∧ (throwG r g (b.tdiv 100) (b.tmod 100)).pls = (throwG r g 0 0).pls) := by
    unfold usesB sameG
    rw [hb]
    simp only [Bool.true_and, Bool.not_eq_true', Bool.and_eq_false_iff, decide_eq_false_iff_not]
    constructor
    · rintro (h | h) ⟨h1, h2⟩
      · exact h h2
      · exact h h1
    · intro h
      by_cases h2 : (throwG r g (b.tdiv 100) (b.tmod 100)).pls = (throwG r g 0 0).pls
      · exact .inr fun h1 => h ⟨h1, h2⟩
      · exact .inl h2
  rw [← e]
  unfold usesL
  constructor
  · intro h
    obtain ⟨n, hn, rfl⟩ := List.mem_map.1 h
    exact (List.mem_filter.1 hn).2
  · intro h
    refine List.mem_map.2 ⟨b.toNat, List.mem_filter.2 ⟨List.mem_range.2 (by omega), ?_⟩, by omega⟩
    rw [Int.toNat_of_nonneg hbd.1]; exact h
theorem uses_pos {r : Rul} {g : Gam} {k : Nat} {x : Int} (h : x ∈ usesL r g k) : 1 ≤ x := by
  unfold usesL at h
  obtain ⟨n, hn, rfl⟩ := List.mem_map.1 h
  have h2 := (List.mem_filter.1 hn).2
  by_cases e : n = 0
  · subst e
    have : usesB r g ((0 : Nat) : Int) = false := by
      unfold usesB sameG
      simp
    rw [this] at h2; cases h2
  · omega
theorem uses_asc (r : Rul) (g : Gam) (k : Nat) : (usesL r g k).Pairwise (· < ·) := by
  unfold usesL
  rw [List.pairwise_map]
  exact ((List.pairwise_lt_range).filter _).imp fun h => by omega
theorem take_mem {l : List Int} {i : Nat} {x b : Int} (hi : l[i]? = some x) : decide (b ∈ l.take (i + 1)) = (decide (b ∈ l.take i) || (x == b)) := by
  rw [Bool.eq_iff_iff, Bool.or_eq_true, decide_eq_true_eq, decide_eq_true_eq, beq_iff_eq, List.take_add_one, hi, List.mem_append, Option.toList_some, List.mem_singleton]
  exact ⟨fun h => h.imp id Eq.symm, fun h => h.imp id Eq.symm⟩
theorem take_eqP {l l' : List Plr} {i : Nat} {x y : Plr} (hi : l[i]? = some x) (hi' : l'[i]? = some y) : (l.take (i + 1) = l'.take (i + 1)) ↔ (l.take i = l'.take i ∧ x = y) := by
  have h1 := (List.getElem?_eq_some_iff.1 hi).1
  have h2 := (List.getElem?_eq_some_iff.1 hi').1
  rw [List.take_add_one, List.take_add_one, hi, hi', Option.toList_some, Option.toList_some]
  constructor
  · intro h
    have := List.append_inj h (by rw [List.length_take, List.length_take]; omega)
    exact ⟨this.1, by simpa using this.2⟩
  · rintro ⟨h, rfl⟩; rw [h]
set_option maxRecDepth 100000 in
set_option maxHeartbeats 16000000 in
theorem gameHelps_any {S : Nat → Prop} (k p l f : Nat) (hk : k ≤ 255) (hp : p ≤ 255) (hl : l ≤ 255) (hf : f ≤ 255) (ys : List Nat) (hys : ∀ y ∈ ys, y ≤ 255) (z : Nat) (hz : z ≤ 65535) (bv : Value) (w : World) (hb : Sl S w bv (ys.map fun (y : Nat) => Value.int .u8 y)) :
    Calls Try.prog 8 #[.agg #[.int .u8 k, .int .u8 p, .int .u8 l, .int .u8 f], bv, .int .u16 z] w fun e w' => e = .returned (.bool true) ∧ Below w.heap.size w w' := by
  obtain ⟨r, hr⟩ : ∃ r, rulS k p l f = r := ⟨_, rfl⟩
  have hrc := rulS_check k p l f
  rw [hr] at hrc
  obtain ⟨D, hD⟩ : ∃ D, (dartsS r (ys.take 60)).length = D := ⟨_, rfl⟩
  have hD60 : D ≤ 60 := by rw [← hD]; unfold dartsS; rw [List.length_map]; have := playS_len r (ys.take 60) (initG r); have h2 : (ys.take 60).length ≤ 60 := by rw [List.length_take]; omega
                           omega
  obtain ⟨w0, hw0⟩ : ∃ w0, w.alloc (.cells #[.int .u8 k, .int .u8 p, .int .u8 l, .int .u8 f] 55) = w0 := ⟨_, rfl⟩
  have hb0 : Below w.heap.size w w0 := by rw [← hw0]; exact aB _ _
  have HPLAY := Lib.hid (play_r k p l f hk hp hl hf ys hys 60 (by decide) r hr D hD bv w0 (hb.below hb0))
  have hlast := games_last r (ys.take 60)
  have hgood := (playS_play (ys.take 60) 0 (initG r) (Good.init hrc)).2
  have hall := (playS_G hrc (l := ys.take 60) (by rw [List.length_take]; omega)).1
  have hmore := fun b => playG_more hrc (ys := ys.take 60) (by rw [List.length_take]; omega) b
  have hd64 := darts_i64 hrc (ys.take 60)
  have hdl0 : (playS r (initG r) (ys.take 60)).length = D := by rw [← hD]; simp [dartsS]
  rw [hdl0, Nat.zero_add] at hgood
  obtain ⟨GS, hGS⟩ : ∃ GS, gamesS r (ys.take 60) = GS := ⟨_, rfl⟩
  obtain ⟨DL, hDL⟩ : ∃ DL, dartsS r (ys.take 60) = DL := ⟨_, rfl⟩
  obtain ⟨gl, hgl⟩ : ∃ gl, lastS r (initG r) (ys.take 60) = gl := ⟨_, rfl⟩
  rw [hGS, hDL, hgl] at hlast
  rw [hgl] at hgood
  rw [hDL, hgl] at hall
  simp only [hDL, hgl] at hmore
  rw [hDL] at hd64
  rw [hGS] at HPLAY
  rw [hDL] at hD HPLAY
  rw [hD] at hlast
  simp only [hD] at hmore
  have HLAST := Lib.hid hlast
  have HMORE := Lib.hid hmore
  have HALL := Lib.hid hall
  have HGOOD := Lib.hid hgood
  have HD64 := Lib.hid hd64
  have HDL := Lib.hid hD
  have HRC := Lib.hid hrc
  have HB0 := Lib.hid hb0
  have HW0 := Lib.hid hw0
  clear hb hys hb0 hw0 hr hrc hk hp hl hf hD hGS hDL hgl hlast hmore hd64 hgood hall hdl0
  go_enter Try.func8, Try.ntmps8
  go_wp2_with fail
  rw [HW0.out]
  refine HPLAY.out.mono ?_
  rintro e w1 ⟨na, nl, nc, da, dc, sa, sc, rfl, hb1, hsn, hnl8, hsd, hst⟩
  obtain ⟨E, hE⟩ : ∃ E, D + 1 = E := ⟨_, rfl⟩
  rw [hE] at hst ⊢
  have hE61 : 1 ≤ E ∧ E ≤ 61 := by omega
  obtain ⟨b7, hb7⟩ : ∃ b, w1.heap.size = b := ⟨_, rfl⟩
  obtain ⟨n, hn⟩ : ∃ n, gl.pls.length = n := ⟨_, rfl⟩
  obtain ⟨m, hm⟩ : ∃ m, gl.win.length = m := ⟨_, rfl⟩
  obtain ⟨sb, so, pa, pc, wa, wc, rfl, hra, hpl, -, -⟩ := hst.at_ HLAST.out
  rw [hn] at hra hpl
  rw [hm] at hra
  have hnr : (n : Int) = r.players := by rw [← hn]; exact HGOOD.out.inv.len
  have hn8 : n ≤ 8 := by have := players_of HRC.out; omega
  obtain ⟨b11, hb11⟩ : ∃ b, b7 + 1 = b := ⟨_, rfl⟩
  obtain ⟨w2, hw2⟩ : ∃ w2, (w1.alloc (.cells #[.int .i64 r.kind, .int .i64 r.players, .int .i64 r.last, .bool r.bull, .bool r.jump, .int .i64 r.rounds, .bool r.cut, .slice na nl nc, .int .i64 r.lives, .bool r.own] 25)).alloc (.cells #[.int .i64 gl.round, .int .i64 gl.player, .int .i64 gl.darts, .slice pa n pc, .slice wa m wc] 34) = w2 := ⟨_, rfl⟩
  have hb2 : Below w1.heap.size w1 w2 := by rw [← hw2]; exact (aB _ _).alloc (by simp) _
  have KR : Hid (w2.heap[b7]? = some (.cells #[.int .i64 r.kind, .int .i64 r.players, .int .i64 r.last, .bool r.bull, .bool r.jump, .int .i64 r.rounds, .bool r.cut, .slice na nl nc, .int .i64 r.lives, .bool r.own] 25 (0, 0))) := Lib.hid (by rw [← hw2, ← hb7]; exact heap_old (World.alloc_heap_new _ _))
  have K11 : Hid (w2.heap[b11]? = some (.cells #[.int .i64 gl.round, .int .i64 gl.player, .int .i64 gl.darts, .slice pa n pc, .slice wa m wc] 34 (0, 0))) := Lib.hid (by rw [← hw2, ← hb11, ← hb7]; exact heap_two _ _ _)
  have HSN := Lib.hid (hsn.below hb2)
  have HSD := Lib.hid (hsd.below hb2)
  have HPL := Lib.hid (hpl.below hb2)
  have HB := Lib.hid (bThen HB0.out (bThen hb1 hb2))
  have HW2 := Lib.hid hw2
  have HB7 := Lib.hid hb7
  have HB11 := Lib.hid hb11
  have HN := Lib.hid hn
  have HM := Lib.hid hm
  have HE := Lib.hid hE
  have c0 : (w1.alloc (.cells #[.int .i64 r.kind, .int .i64 r.players, .int .i64 r.last, .bool r.bull, .bool r.jump, .int .i64 r.rounds, .bool r.cut, .slice na nl nc, .int .i64 r.lives, .bool r.own] 25)).cell? ⟨sb, so + D * 5 + 0, none⟩ = _ := bAt (aB _ _) (hra 0 _ rfl)
  have c1 : (w1.alloc (.cells #[.int .i64 r.kind, .int .i64 r.players, .int .i64 r.last, .bool r.bull, .bool r.jump, .int .i64 r.rounds, .bool r.cut, .slice na nl nc, .int .i64 r.lives, .bool r.own] 25)).cell? ⟨sb, so + D * 5 + 1, none⟩ = _ := bAt (aB _ _) (hra 1 _ rfl)
  have c2 : (w1.alloc (.cells #[.int .i64 r.kind, .int .i64 r.players, .int .i64 r.last, .bool r.bull, .bool r.jump, .int .i64 r.rounds, .bool r.cut, .slice na nl nc, .int .i64 r.lives, .bool r.own] 25)).cell? ⟨sb, so + D * 5 + 2, none⟩ = _ := bAt (aB _ _) (hra 2 _ rfl)
  have c3 : (w1.alloc (.cells #[.int .i64 r.kind, .int .i64 r.players, .int .i64 r.last, .bool r.bull, .bool r.jump, .int .i64 r.rounds, .bool r.cut, .slice na nl nc, .int .i64 r.lives, .bool r.own] 25)).cell? ⟨sb, so + D * 5 + 3, none⟩ = _ := bAt (aB _ _) (hra 3 _ rfl)
  have c4 : (w1.alloc (.cells #[.int .i64 r.kind, .int .i64 r.players, .int .i64 r.last, .bool r.bull, .bool r.jump, .int .i64 r.rounds, .bool r.cut, .slice na nl nc, .int .i64 r.lives, .bool r.own] 25)).cell? ⟨sb, so + D * 5 + 4, none⟩ = _ := bAt (aB _ _) (hra 4 _ rfl)
  simp only [Nat.add_zero] at c0
  have hE1 : (E : Int) - 1 = (D : Int) := by omega
  have hDE : D < E := by omega
  clear hb1 hst hsn hsd hb2 hw2 hb7 hb11 hpl hra HPLAY hE hn hm
  go_upto_region 5 with fail
  rw [HW2.out, HB7.out, HB11.out]
  clear c0 c1 c2 c3 c4
  go_wp2_with (refine wpList_opOK (o := ⟨some 42, Op.load 25 (.tmp 7), _, _, _, _⟩) (R := fun v w' => v = .agg #[.int .i64 r.kind, .int .i64 r.players, .int .i64 r.last, .bool r.bull, .bool r.jump, .int .i64 r.rounds, .bool r.cut, .slice na nl nc, .int .i64 r.lives, .bool r.own] ∧ w2 = w') rfl (opOK_load_row 25 (.tmp 7) rfl b7 #[.int .i64 r.kind, .int .i64 r.players, .int .i64 r.last, .bool r.bull, .bool r.jump, .int .i64 r.rounds, .bool r.cut, .slice na nl nc, .int .i64 r.lives, .bool r.own] rfl 25 (0, 0) KR.out _ Try.underlying25 rfl (by kernel_rfl) ⟨rfl, rfl⟩) ?_; rintro _ _ ⟨rfl, rfl⟩)
  refine (own_any r na nl nc w2 HSN.out (by omega)).mono ?_
  rintro e w3 ⟨vb, vd, rfl, hb3, hs3⟩
  replace KR := Lib.hid ((hb3.block _ (Array.getElem?_eq_some_iff.1 KR.out).1).trans KR.out)
  replace K11 := Lib.hid ((hb3.block _ (Array.getElem?_eq_some_iff.1 K11.out).1).trans K11.out)
  replace HSN := Lib.hid (HSN.out.below hb3)
  replace HSD := Lib.hid (HSD.out.below hb3)
  replace HPL := Lib.hid (HPL.out.below hb3)
  replace HB := Lib.hid (bThen HB.out hb3)
  have HV3 := Lib.hid hs3
  clear hb3 hs3
  go_wp2_with fail
  refine (copiedE_any DL D HDL.out _ w3 HSD.out (by omega)).mono ?_
  rintro e w4 ⟨g1, gc1, rfl, hb4, ho4⟩
  replace KR := Lib.hid ((hb4.block _ (Array.getElem?_eq_some_iff.1 KR.out).1).trans KR.out)
  replace K11 := Lib.hid ((hb4.block _ (Array.getElem?_eq_some_iff.1 K11.out).1).trans K11.out)
  replace HSN := Lib.hid (HSN.out.below hb4)
  replace HSD := Lib.hid (HSD.out.below hb4)
  replace HPL := Lib.hid (HPL.out.below hb4)
  replace HB := Lib.hid (bThen HB.out hb4)
  have HV4 := Lib.hid (HV3.out.below hb4)
  have HD4 := Lib.hid ((Sl.of_owns ho4).mono (S' := fun _ => True) fun _ _ => trivial)
  clear hb4 ho4
  go_wp2_with fail
  have hus := useful_any r vb nl vd (some ⟨g1, 0, none⟩) D gc1 DL HDL.out HD64.out w4 HV4.out HD4.out
  rw [HALL.out] at hus
  refine hus.mono ?_
  clear hus
  rintro e w5 ⟨hb5, hus5⟩
  replace KR := Lib.hid ((hb5.block _ (Array.getElem?_eq_some_iff.1 KR.out).1).trans KR.out)
  replace K11 := Lib.hid ((hb5.block _ (Array.getElem?_eq_some_iff.1 K11.out).1).trans K11.out)
  replace HSN := Lib.hid (HSN.out.below hb5)
  replace HSD := Lib.hid (HSD.out.below hb5)
  replace HPL := Lib.hid (HPL.out.below hb5)
  replace HB := Lib.hid (bThen HB.out hb5)
  clear hb5
  by_cases hm0 : m = 0
  · subst hm0
    have hw0 : gl.win = [] := List.eq_nil_of_length_eq_zero HM.out
    obtain ⟨UL, hUL⟩ : ∃ UL, usesL r gl 500 = UL := ⟨_, rfl⟩
    obtain ⟨ua, U, uc, rfl, hu5, hU⟩ : ∃ ua U uc, e = .returned (.tuple #[.slice ua U uc, .int .i64 0]) ∧ Sl (fun _ => True) w5 (.slice ua U uc) (ints UL) ∧ UL.length = U := by
      rcases hus5 with ⟨er, _, h, _⟩ | ⟨g', bv', h1, _, h3, h4⟩
      · rcases h with ⟨h, _⟩ | ⟨⟨g', h, hh⟩, _⟩
        · cases h
        · cases h; exact (hh hw0).elim
      · cases h1
        rw [hUL] at h4
        obtain ⟨ua, uc, e1, _, _⟩ := h4.form
        rw [ints_length] at e1
        subst e1
        exact ⟨ua, UL.length, uc, h3, h4.mono fun _ _ => trivial, rfl⟩
    have HU := Lib.hid hu5
    have HUN := Lib.hid hU
    have HULp : Hid (∀ x ∈ UL, 1 ≤ x) := Lib.hid fun x hx => uses_pos (by rw [hUL]; exact hx)
    have HULa : Hid (UL.Pairwise (· < ·)) := Lib.hid (by rw [← hUL]; exact uses_asc r gl 500)
    have hU500 : U ≤ 500 := by rw [← hU, ← hUL]; exact usesL_len r gl 500
    have HUL := Lib.hid hUL
    have HW0' := Lib.hid hw0
    have hlive := HGOOD.out.live hw0
    have hlz := hlive.pl
    have HLIVE := Lib.hid hlive
    obtain ⟨y8, hy8⟩ : ∃ y, z % 256 = y := ⟨_, rfl⟩
    have hy8b : y8 ≤ 255 := by omega
    have q1 : IntKind.u8.wrap (z : Int) = (y8 : Int) := by rw [IntKind.wrap_u8]; omega
    have s0 : w5.cell? ⟨b11, 0, none⟩ = _ := cell_of_heap (o := 0) K11.out
    have s1 : w5.cell? ⟨b11, 1, none⟩ = _ := cell_of_heap (o := 1) K11.out
    have s2 : w5.cell? ⟨b11, 2, none⟩ = _ := cell_of_heap (o := 2) K11.out
    have s3 : w5.cell? ⟨b11, 3, none⟩ = _ := cell_of_heap (o := 3) K11.out
    have s4 : w5.cell? ⟨b11, 4, none⟩ = _ := cell_of_heap (o := 4) K11.out
    simp only [List.getElem?_toArray, List.getElem?_cons_zero, List.getElem?_cons_succ] at s0 s1 s2 s3 s4
    clear hus5 hu5 hU hUL hw0 hlive hlz hy8
    go_wp2_with (refine wpList_opOK (o := ⟨some 63, Op.load 25 (.tmp 7), _, _, _, _⟩) (R := fun v w' => v = .agg #[.int .i64 r.kind, .int .i64 r.players, .int .i64 r.last, .bool r.bull, .bool r.jump, .int .i64 r.rounds, .bool r.cut, .slice na nl nc, .int .i64 r.lives, .bool r.own] ∧ w5 = w') rfl (opOK_load_row 25 (.tmp 7) rfl b7 #[.int .i64 r.kind, .int .i64 r.players, .int .i64 r.last, .bool r.bull, .bool r.jump, .int .i64 r.rounds, .bool r.cut, .slice na nl nc, .int .i64 r.lives, .bool r.own] rfl 25 (0, 0) KR.out _ Try.underlying25 rfl (by kernel_rfl) ⟨rfl, rfl⟩) ?_; rintro _ _ ⟨rfl, rfl⟩)
    refine (dart_any r gl (9 + 100 * (D : Nat)) (by omega) HLIVE.out (by have := HGOOD.out.rd; omega) y8 hy8b na nl nc pa n pc wa 0 wc HN.out w5 HPL.out HSN.out).mono ?_
    rintro e w6 ⟨rfl, hb6⟩
    replace KR := Lib.hid ((hb6.block _ (Array.getElem?_eq_some_iff.1 KR.out).1).trans KR.out)
    replace K11 := Lib.hid ((hb6.block _ (Array.getElem?_eq_some_iff.1 K11.out).1).trans K11.out)
    replace HSN := Lib.hid (HSN.out.below hb6)
    replace HSD := Lib.hid (HSD.out.below hb6)
    replace HPL := Lib.hid (HPL.out.below hb6)
    replace HB := Lib.hid (bThen HB.out hb6)
    replace HU := Lib.hid (HU.out.below hb6)
    clear hb6 s0 s1 s2 s3 s4
    obtain ⟨d0, hd0⟩ : ∃ d, dartS r gl y8 = d := ⟨_, rfl⟩
    have HD0 : Hid (okBed d0 = true) := Lib.hid (by rw [← hd0]; exact dartS_ok HLIVE.out y8)
    rw [hd0]
    clear hd0
    obtain ⟨c, hc⟩ : ∃ c, decide ((256 : Int) ≤ (z : Int)) = c := ⟨_, rfl⟩
    go_upto_if 69 with fail
    go_cut [14] from 70 to 80 (fun bv wx => ∃ b : Int, bv = .int .i64 b ∧ Hid (okBed b = true) ∧ wx = w6)
    case first =>
      cases c
      case true =>
        clear hc
        obtain ⟨z4, hz4⟩ : ∃ x, z % 4 = x := ⟨_, rfl⟩
        obtain ⟨zq, hzq⟩ : ∃ x, z / 4 = x := ⟨_, rfl⟩
        obtain ⟨zr, hzr⟩ : ∃ x, zq % 20 = x := ⟨_, rfl⟩
        have m1 : (z : Int).tmod 4 = (z4 : Int) := by have := tmod_nat z 4; rw [hz4] at this; simpa using this
        have m2 : (z : Int).tdiv 4 = (zq : Int) := by have := tdiv_nat z 4; rw [hzq] at this; simpa using this
        have m3 : (zq : Int).tmod 20 = (zr : Int) := by have := tmod_nat zq 20; rw [hzr] at this; simpa using this
        have z4b : z4 ≤ 3 := by omega
        have zrb : zr ≤ 19 := by omega
        have zqb : zq ≤ 16383 := by omega
        have HOKB : Hid (okBed (100 * (1 + (z4 : Int)) + 1 + (zr : Int)) = true) := Lib.hid (okBed_of (f := 1 + (z4 : Int)) (n := 1 + (zr : Int)) (by omega) (by omega) (by omega))
        clear hz4 hzq hzr
        go_wp2_with fail
        go_meet
        case rel => exact ⟨_, rfl, HOKB, rfl⟩
      case false =>
        go_wp2_with fail
        go_meet
        case rel => exact ⟨_, rfl, HD0, rfl⟩
    case rest =>
      obtain ⟨b, rfl, HOB, rfl⟩ := hcut
      obtain ⟨w6, rfl⟩ : ∃ w : World, w = wc := ⟨_, rfl⟩
      have hby := okBed_hit HOB.out
      obtain ⟨gy, hgy⟩ : ∃ g, throwG r gl (b.tdiv 100) (b.tmod 100) = g := ⟨_, rfl⟩
      obtain ⟨gz, hgz⟩ : ∃ g, throwG r gl 0 0 = g := ⟨_, rfl⟩
      have HPgy : Hid (playG r (DL ++ [b]) = (some gy, 0, 0)) := Lib.hid (by rw [HMORE.out, if_neg (by rw [HOB.out]; simp), if_neg (by simp [HW0'.out]), hgy])
      have HPgz : Hid (playG r (DL ++ [0]) = (some gz, 0, 0)) := Lib.hid (by rw [HMORE.out, if_neg (by decide), if_neg (by simp [HW0'.out]), ← hgz]; rfl)
      have HNgy : Hid (gy.pls.length = n) := Lib.hid (by rw [← hgy, throw_len HLIVE.out hby, HN.out])
      have HNgz : Hid (gz.pls.length = n) := Lib.hid (by rw [← hgz, throw_len HLIVE.out (.inl ⟨rfl, rfl⟩), HN.out])
      obtain ⟨my, hmy⟩ : ∃ m, gy.win.length = m := ⟨_, rfl⟩
      obtain ⟨mz, hmz⟩ : ∃ m, gz.win.length = m := ⟨_, rfl⟩
      have HMgy := Lib.hid hmy
      have HMgz := Lib.hid hmz
      have HMEM : Hid (b ∈ UL ↔ ¬ (gy.win = gz.win ∧ gy.pls = gz.pls)) := Lib.hid (by rw [← HUL.out, ← hgy, ← hgz]; exact uses_mem HOB.out)
      have H7Y : Hid (Sevens gy.pls) := Lib.hid (by rw [← hgy]; intro x hx; exact ((throw_thrown HLIVE.out hby).inv.each x hx).1.len)
      have H7Z : Hid (Sevens gz.pls) := Lib.hid (by rw [← hgz]; intro x hx; exact ((throw_thrown HLIVE.out (.inl ⟨rfl, rfl⟩)).inv.each x hx).1.len)
      clear hby hgy hgz hmy hmz
      go_wp2_with (refine wpList_opOK (o := ⟨some 82, Op.load 25 (.tmp 7), _, _, _, _⟩) (R := fun v w' => v = .agg #[.int .i64 r.kind, .int .i64 r.players, .int .i64 r.last, .bool r.bull, .bool r.jump, .int .i64 r.rounds, .bool r.cut, .slice na nl nc, .int .i64 r.lives, .bool r.own] ∧ w6 = w') rfl (opOK_load_row 25 (.tmp 7) rfl b7 #[.int .i64 r.kind, .int .i64 r.players, .int .i64 r.last, .bool r.bull, .bool r.jump, .int .i64 r.rounds, .bool r.cut, .slice na nl nc, .int .i64 r.lives, .bool r.own] rfl 25 (0, 0) KR.out _ Try.underlying25 rfl (by kernel_rfl) ⟨rfl, rfl⟩) ?_; rintro _ _ ⟨rfl, rfl⟩)
      refine (own_any r na nl nc w6 HSN.out (by omega)).mono ?_
      rintro e y1 ⟨vby, vdy, rfl, hb1y, hs1y⟩
      replace KR := Lib.hid ((hb1y.block _ (Array.getElem?_eq_some_iff.1 KR.out).1).trans KR.out)
      replace K11 := Lib.hid ((hb1y.block _ (Array.getElem?_eq_some_iff.1 K11.out).1).trans K11.out)
      replace HSN := Lib.hid (HSN.out.below hb1y)
      replace HSD := Lib.hid (HSD.out.below hb1y)
      replace HPL := Lib.hid (HPL.out.below hb1y)
      replace HU := Lib.hid (HU.out.below hb1y)
      replace HB := Lib.hid (bThen HB.out hb1y)
      have HVy := Lib.hid hs1y
      clear hb1y hs1y
      go_wp2_with fail
      refine (copiedE_any DL D HDL.out _ y1 HSD.out (by omega)).mono ?_
      rintro e y2 ⟨g1y, gcy, rfl, hb2y, ho2y⟩
      have HOy := Lib.hid ho2y
      have HBoy := Lib.hid hb2y
      clear hb2y ho2y
      go_wp2_with (at_builtin; refine wpList_append1 rfl (.tmp 85) (.tmp 87) 26 rfl y1.heap.size 63 (.int .i64 0) 8 Try.underlying26 info_bed rfl _ D _ rfl (HOy.out.alloc _) y2.heap.size 0 1 (.int .i64 b) rfl (cell_new _ _ _) rfl (by omega) (by decide) (by have := HBoy.out.size; simp; omega) ?_)
      intro g2y c2y y3 ho3y hg3y _
      have hb3y : Below y1.heap.size y1 y3 := (bThen HBoy.out (aB _ _)).trans (below_grownBy hg3y (by have := HBoy.out.size; simp; omega) fun q hq => (HOy.out.lt q hq).1)
      have HDy : Hid (Sl (fun _ => True) y3 (.slice (some ⟨g2y, 0, none⟩) E c2y) (ints (DL ++ [b]))) := Lib.hid (by
        have := (Sl.of_owns ho3y).mono (S' := fun _ => True) fun _ _ => trivial
        rw [HE.out] at this
        rw [ints_append]; exact this)
      replace KR := Lib.hid ((hb3y.block _ (Array.getElem?_eq_some_iff.1 KR.out).1).trans KR.out)
      replace K11 := Lib.hid ((hb3y.block _ (Array.getElem?_eq_some_iff.1 K11.out).1).trans K11.out)
      replace HSN := Lib.hid (HSN.out.below hb3y)
      replace HSD := Lib.hid (HSD.out.below hb3y)
      replace HPL := Lib.hid (HPL.out.below hb3y)
      replace HU := Lib.hid (HU.out.below hb3y)
      replace HB := Lib.hid (bThen HB.out hb3y)
      replace HVy := Lib.hid (HVy.out.below hb3y)
      have HLNy : Hid ((DL ++ [b]).length = E) := Lib.hid (by simp [HDL.out, HE.out])
      have H64y : Hid (∀ x ∈ DL ++ [b], -9223372036854775808 ≤ x ∧ x ≤ 9223372036854775807) := Lib.hid fun x hx => by
        rcases List.mem_append.1 hx with hx | hx
        · exact HD64.out x hx
        · rw [List.mem_singleton] at hx; have := okBed_bd HOB.out; omega
      clear ho3y hg3y hb3y HOy HBoy
      rw [HE.out]
      go_wp2_with fail
      refine (play_g r vby nl vdy (some ⟨g2y, 0, none⟩) E c2y (DL ++ [b]) gy n my HPgy.out HNgy.out HMgy.out HLNy.out H64y.out y3 HVy.out HDy.out).mono ?_
      rintro e y4 ⟨py, cy, wy, vy, rfl, hb4y, hsty⟩
      obtain ⟨y5, hw5y⟩ : ∃ x, y4.alloc (.cells #[.int .i64 gy.round, .int .i64 gy.player, .int .i64 gy.darts, .slice py n cy, .slice wy my vy] 34) = x := ⟨_, rfl⟩
      obtain ⟨b15, hb15⟩ : ∃ b, y4.heap.size = b := ⟨_, rfl⟩
      have hb5y : Below y3.heap.size y3 y5 := by rw [← hw5y]; exact bThen hb4y (aB _ _)
      have Kb15 : Hid (y5.heap[b15]? = some (.cells #[.int .i64 gy.round, .int .i64 gy.player, .int .i64 gy.darts, .slice py n cy, .slice wy my vy] 34 (0, 0))) := Lib.hid (by rw [← hw5y, ← hb15]; exact World.alloc_heap_new _ _)
      have hpty := StaV.parts (StV.keepS (w' := y5) (S' := fun _ => True) hsty fun q _ hq => ⟨by rw [← hw5y]; exact (aB _ _).block q hq, trivial⟩)
      have HPb15 := Lib.hid hpty.1
      have HXb15 := Lib.hid hpty.2.1
      replace KR := Lib.hid ((hb5y.block _ (Array.getElem?_eq_some_iff.1 KR.out).1).trans KR.out)
      replace K11 := Lib.hid ((hb5y.block _ (Array.getElem?_eq_some_iff.1 K11.out).1).trans K11.out)
      replace HSN := Lib.hid (HSN.out.below hb5y)
      replace HSD := Lib.hid (HSD.out.below hb5y)
      replace HPL := Lib.hid (HPL.out.below hb5y)
      replace HU := Lib.hid (HU.out.below hb5y)
      replace HB := Lib.hid (bThen HB.out hb5y)
      have HWb15 := Lib.hid hw5y
      have HSb15 := Lib.hid hb15
      clear hb4y hsty hw5y hb15 hb5y hpty HDy HVy HLNy H64y
      go_upto_region 12 with fail
      rw [HWb15.out, HSb15.out]
      go_wp2_with (refine wpList_opOK (o := ⟨some 94, Op.load 25 (.tmp 7), _, _, _, _⟩) (R := fun v w' => v = .agg #[.int .i64 r.kind, .int .i64 r.players, .int .i64 r.last, .bool r.bull, .bool r.jump, .int .i64 r.rounds, .bool r.cut, .slice na nl nc, .int .i64 r.lives, .bool r.own] ∧ y5 = w') rfl (opOK_load_row 25 (.tmp 7) rfl b7 #[.int .i64 r.kind, .int .i64 r.players, .int .i64 r.last, .bool r.bull, .bool r.jump, .int .i64 r.rounds, .bool r.cut, .slice na nl nc, .int .i64 r.lives, .bool r.own] rfl 25 (0, 0) KR.out _ Try.underlying25 rfl (by kernel_rfl) ⟨rfl, rfl⟩) ?_; rintro _ _ ⟨rfl, rfl⟩)
      refine (own_any r na nl nc y5 HSN.out (by omega)).mono ?_
      rintro e x1 ⟨vbx, vdx, rfl, hb1x, hs1x⟩
      replace KR := Lib.hid ((hb1x.block _ (Array.getElem?_eq_some_iff.1 KR.out).1).trans KR.out)
      replace K11 := Lib.hid ((hb1x.block _ (Array.getElem?_eq_some_iff.1 K11.out).1).trans K11.out)
      replace Kb15 := Lib.hid ((hb1x.block _ (Array.getElem?_eq_some_iff.1 Kb15.out).1).trans Kb15.out)
      replace HSN := Lib.hid (HSN.out.below hb1x)
      replace HSD := Lib.hid (HSD.out.below hb1x)
      replace HPL := Lib.hid (HPL.out.below hb1x)
      replace HU := Lib.hid (HU.out.below hb1x)
      replace HPb15 := Lib.hid (HPb15.out.below hb1x)
      replace HXb15 := Lib.hid (HXb15.out.below hb1x)
      replace HB := Lib.hid (bThen HB.out hb1x)
      have HVx := Lib.hid hs1x
      clear hb1x hs1x
      go_wp2_with fail
      refine (copiedE_any DL D HDL.out _ x1 HSD.out (by omega)).mono ?_
      rintro e x2 ⟨g1x, gcx, rfl, hb2x, ho2x⟩
      have HOx := Lib.hid ho2x
      have HBox := Lib.hid hb2x
      clear hb2x ho2x
      go_wp2_with (at_builtin; refine wpList_append1 rfl (.tmp 97) (.tmp 98) 26 rfl x1.heap.size 63 (.int .i64 0) 8 Try.underlying26 info_bed rfl _ D _ rfl (HOx.out.alloc _) x2.heap.size 0 1 (.int .i64 0) rfl (cell_new _ _ _) rfl (by omega) (by decide) (by have := HBox.out.size; simp; omega) ?_)
      intro g2x c2x x3 ho3x hg3x _
      have hb3x : Below x1.heap.size x1 x3 := (bThen HBox.out (aB _ _)).trans (below_grownBy hg3x (by have := HBox.out.size; simp; omega) fun q hq => (HOx.out.lt q hq).1)
      have HDx : Hid (Sl (fun _ => True) x3 (.slice (some ⟨g2x, 0, none⟩) E c2x) (ints (DL ++ [0]))) := Lib.hid (by
        have := (Sl.of_owns ho3x).mono (S' := fun _ => True) fun _ _ => trivial
        rw [HE.out] at this
        rw [ints_append]; exact this)
      replace KR := Lib.hid ((hb3x.block _ (Array.getElem?_eq_some_iff.1 KR.out).1).trans KR.out)
      replace K11 := Lib.hid ((hb3x.block _ (Array.getElem?_eq_some_iff.1 K11.out).1).trans K11.out)
      replace Kb15 := Lib.hid ((hb3x.block _ (Array.getElem?_eq_some_iff.1 Kb15.out).1).trans Kb15.out)
      replace HSN := Lib.hid (HSN.out.below hb3x)
      replace HSD := Lib.hid (HSD.out.below hb3x)
      replace HPL := Lib.hid (HPL.out.below hb3x)
      replace HU := Lib.hid (HU.out.below hb3x)
      replace HPb15 := Lib.hid (HPb15.out.below hb3x)
      replace HXb15 := Lib.hid (HXb15.out.below hb3x)
      replace HB := Lib.hid (bThen HB.out hb3x)
      replace HVx := Lib.hid (HVx.out.below hb3x)
      have HLNx : Hid ((DL ++ [0]).length = E) := Lib.hid (by simp [HDL.out, HE.out])
      have H64x : Hid (∀ x ∈ DL ++ [0], -9223372036854775808 ≤ x ∧ x ≤ 9223372036854775807) := Lib.hid fun x hx => by
        rcases List.mem_append.1 hx with hx | hx
        · exact HD64.out x hx
        · rw [List.mem_singleton] at hx; have := okBed_bd HOB.out; omega
      clear ho3x hg3x hb3x HOx HBox
      rw [HE.out]
      go_wp2_with fail
      refine (play_g r vbx nl vdx (some ⟨g2x, 0, none⟩) E c2x (DL ++ [0]) gz n mz HPgz.out HNgz.out HMgz.out HLNx.out H64x.out x3 HVx.out HDx.out).mono ?_
      rintro e x4 ⟨pz, cz, wz, vz, rfl, hb4x, hstx⟩
      obtain ⟨x5, hw5x⟩ : ∃ x, x4.alloc (.cells #[.int .i64 gz.round, .int .i64 gz.player, .int .i64 gz.darts, .slice pz n cz, .slice wz mz vz] 34) = x := ⟨_, rfl⟩
      obtain ⟨b18, hb18⟩ : ∃ b, x4.heap.size = b := ⟨_, rfl⟩
      have hb5x : Below x3.heap.size x3 x5 := by rw [← hw5x]; exact bThen hb4x (aB _ _)
      have Kb18 : Hid (x5.heap[b18]? = some (.cells #[.int .i64 gz.round, .int .i64 gz.player, .int .i64 gz.darts, .slice pz n cz, .slice wz mz vz] 34 (0, 0))) := Lib.hid (by rw [← hw5x, ← hb18]; exact World.alloc_heap_new _ _)
      have hptx := StaV.parts (StV.keepS (w' := x5) (S' := fun _ => True) hstx fun q _ hq => ⟨by rw [← hw5x]; exact (aB _ _).block q hq, trivial⟩)
      have HPb18 := Lib.hid hptx.1
      have HXb18 := Lib.hid hptx.2.1
      replace KR := Lib.hid ((hb5x.block _ (Array.getElem?_eq_some_iff.1 KR.out).1).trans KR.out)
      replace K11 := Lib.hid ((hb5x.block _ (Array.getElem?_eq_some_iff.1 K11.out).1).trans K11.out)
      replace Kb15 := Lib.hid ((hb5x.block _ (Array.getElem?_eq_some_iff.1 Kb15.out).1).trans Kb15.out)
      replace HSN := Lib.hid (HSN.out.below hb5x)
      replace HSD := Lib.hid (HSD.out.below hb5x)
      replace HPL := Lib.hid (HPL.out.below hb5x)
      replace HU := Lib.hid (HU.out.below hb5x)
      replace HPb15 := Lib.hid (HPb15.out.below hb5x)
      replace HXb15 := Lib.hid (HXb15.out.below hb5x)
      replace HB := Lib.hid (bThen HB.out hb5x)
      have HWb18 := Lib.hid hw5x
      have HSb18 := Lib.hid hb18
      clear hb4x hstx hw5x hb18 hb5x hptx HDx HVx HLNx H64x
      go_upto_region 13 with fail
      rw [HWb18.out, HSb18.out]
      have y3 : x5.cell? ⟨b15, 3, none⟩ = some (.slice py n cy) := by rw [cell_of_heap Kb15.out]; rfl
      have z3 : x5.cell? ⟨b18, 3, none⟩ = some (.slice pz n cz) := by rw [cell_of_heap Kb18.out]; rfl
      have r1 : x5.cell? ⟨b7, 1, none⟩ = some (.int .i64 r.players) := by rw [cell_of_heap KR.out]; rfl
      have f1 : ((n : Int) != r.players) = false := by rw [hnr]; simp
      go_wp2_with fail
      clear y3 z3 r1
      go_loopw [21, 22] (fun fv iv wr => ∃ i : Nat, i ≤ U ∧ iv = .int .i64 i ∧ fv = .bool (decide (b ∈ UL.take i)) ∧ Hid (Below x5.heap.size x5 wr)) (fun _ iv _ => U - (intOf iv).toNat)
      case atStart => exact ⟨0, by omega, by go_num, by simp, Lib.hid (Below.refl _ _)⟩
      case round =>
        obtain ⟨i, hi, rfl, rfl, HBi⟩ := hrel
        obtain ⟨wi, rfl⟩ : ∃ wi : World, wi = wr := ⟨_, rfl⟩
        obtain ⟨fb, hfb⟩ : ∃ fb, decide (b ∈ UL.take i) = fb := ⟨_, rfl⟩
        rw [hfb]
        by_cases hiU : i < U
        · have d1 : decide ((i : Int) < (U : Int)) = true := decide_eq_true (by omega)
          have d1n : decide (i < U) = true := decide_eq_true hiU
          have hil : i < UL.length := by rw [HUN.out]; exact hiU
          have hUi := HU.out.below HBi.out
          obtain ⟨ub, uo, rfl, -, hcx⟩ := hUi.cell hil
          obtain ⟨x, hx⟩ : ∃ x, UL[i] = x := ⟨_, rfl⟩
          have hxi : UL[i]? = some x := by rw [List.getElem?_eq_getElem hil, hx]
          have hx1 := HULp.out x (by rw [← hx]; exact List.getElem_mem hil)
          rw [hx] at hcx
          have htm := take_mem (b := b) hxi
          rw [hfb] at htm
          have v1 : decide (x < 1) = false := decide_eq_false (by omega)
          obtain ⟨eb, heb⟩ : ∃ eb, (x == b) = eb := ⟨_, rfl⟩
          rw [heb] at htm
          clear hfb
          by_cases hi0 : i = 0
          · have v2 : decide ((0 : Int) < (i : Int)) = false := decide_eq_false (by omega)
            clear hx hxi hx1 hil hUi
            cases fb
            · have HTM : Hid (decide (b ∈ UL.take (i + 1)) = eb) := Lib.hid (by rw [htm]; rfl)
              have HI0 := Lib.hid hi0
              clear htm hi0
              go_wp2_with fail
              refine wp_region_seq 21 [.is (.slice (some ⟨ub, uo, none⟩) U uc), .is (.int .i64 i), .is (.pointer (some ⟨ub, uo + i, none⟩)), .is (.int .i64 x), .is (.bool false), .is (.bool false), .is (.int .i64 i), .is (.bool false), .is (.bool false), .is undef, .is undef, .is undef, .is undef, .is undef, .is undef, .is undef, .is undef, .is undef, .is undef, .is (.bool false), .is (.bool false)] rfl mix (by kernel_rfl) (by kernel_rfl) ?seqm
              case seqm =>
                simp only [List.take_succ_cons, List.take_zero]
                iterate 7
                  refine seq_on (by rfl) (fun w3 hb3 _ => ?_) ?_
                  · have y1 := bAt hb3 hcx
                    simp [opOK, go_sem, y1, v1, hiU, Below.refl]
                    try exact rfl
                  simp only [Act.put, List.setIfInBounds_toArray, List.set_cons_succ, List.set_cons_zero]
                refine seq_on (by rfl) (fun w3 hb3 hH => ?_) ?_
                · have y1 := bAt hb3 hcx
                  simp [opOK, go_sem, HI0.out, Below.refl]
                simp only [Act.put, List.setIfInBounds_toArray, List.set_cons_succ, List.set_cons_zero]
                refine seq_on (by rfl) (fun w3 hb3 _ => ?_) ?_
                · have y1 := bAt hb3 hcx
                  simp [opOK, go_sem, Below.refl]
                  try exact rfl
                simp only [Act.put, List.setIfInBounds_toArray, List.set_cons_succ, List.set_cons_zero]
                iterate 10
                  refine seq_off (by rfl) ?_
                  simp only [Act.put, List.setIfInBounds_toArray, List.set_cons_succ, List.set_cons_zero]
                iterate 2
                  refine seq_on (by rfl) (fun w3 hb3 _ => ?_) ?_
                  · have y1 := bAt hb3 hcx
                    simp [opOK, go_sem, Below.refl]
                    try exact rfl
                  simp only [Act.put, List.setIfInBounds_toArray, List.set_cons_succ, List.set_cons_zero]
                refine seq_end fun w9 hb9 _ => ?_
                simp only [List.drop_succ_cons, List.drop_zero]
                have HBn := Lib.hid (HBi.out.trans (hb9.mono HBi.out.size))
                clear hb9 hcx
                go_wp2
                go_roundw
                case rel => exact ⟨i + 1, by omega, by go_num, by rw [HTM.out], HBn⟩
                case measure => simp [intOf]; omega
            · have HTM : Hid (decide (b ∈ UL.take (i + 1)) = true) := Lib.hid (by rw [htm]; rfl)
              have HI0 := Lib.hid hi0
              clear htm hi0
              go_wp2_with fail
              refine wp_region_seq 21 [.is (.slice (some ⟨ub, uo, none⟩) U uc), .is (.int .i64 i), .is (.pointer (some ⟨ub, uo + i, none⟩)), .is (.int .i64 x), .is (.bool false), .is (.bool false), .is (.int .i64 i), .is (.bool false), .is (.bool false), .is undef, .is undef, .is undef, .is undef, .is undef, .is undef, .is undef, .is undef, .is undef, .is undef, .is (.bool false), .is (.bool false)] rfl mix (by kernel_rfl) (by kernel_rfl) ?seqm
              case seqm =>
                simp only [List.take_succ_cons, List.take_zero]
                iterate 7
                  refine seq_on (by rfl) (fun w3 hb3 _ => ?_) ?_
                  · have y1 := bAt hb3 hcx
                    simp [opOK, go_sem, y1, v1, hiU, Below.refl]
                    try exact rfl
                  simp only [Act.put, List.setIfInBounds_toArray, List.set_cons_succ, List.set_cons_zero]
                refine seq_on (by rfl) (fun w3 hb3 hH => ?_) ?_
                · have y1 := bAt hb3 hcx
                  simp [opOK, go_sem, HI0.out, Below.refl]
                simp only [Act.put, List.setIfInBounds_toArray, List.set_cons_succ, List.set_cons_zero]
                refine seq_on (by rfl) (fun w3 hb3 _ => ?_) ?_
                · have y1 := bAt hb3 hcx
                  simp [opOK, go_sem, Below.refl]
                  try exact rfl
                simp only [Act.put, List.setIfInBounds_toArray, List.set_cons_succ, List.set_cons_zero]
                iterate 10
                  refine seq_off (by rfl) ?_
                  simp only [Act.put, List.setIfInBounds_toArray, List.set_cons_succ, List.set_cons_zero]
                iterate 2
                  refine seq_on (by rfl) (fun w3 hb3 _ => ?_) ?_
                  · have y1 := bAt hb3 hcx
                    simp [opOK, go_sem, Below.refl]
                    try exact rfl
                  simp only [Act.put, List.setIfInBounds_toArray, List.set_cons_succ, List.set_cons_zero]
                refine seq_end fun w9 hb9 _ => ?_
                simp only [List.drop_succ_cons, List.drop_zero]
                have HBn := Lib.hid (HBi.out.trans (hb9.mono HBi.out.size))
                clear hb9 hcx
                go_wp2
                go_roundw
                case rel => exact ⟨i + 1, by omega, by go_num, by rw [HTM.out], HBn⟩
                case measure => simp [intOf]; omega
          · have v2 : decide ((0 : Int) < (i : Int)) = true := decide_eq_true (by omega)
            obtain ⟨j, hj⟩ : ∃ j, i - 1 = j := ⟨_, rfl⟩
            have v3 : IntKind.i64.wrap ((i : Int) - 1) = (j : Int) := by rw [wrap_small _ (by omega) (by omega)]; omega
            have hjU : j < U := by omega
            have hjl : j < UL.length := by rw [HUN.out]; exact hjU
            obtain ⟨ub', uo', e0, -, hcx2⟩ := hUi.cell hjl
            cases e0
            obtain ⟨x2, hx2⟩ : ∃ x, UL[j] = x := ⟨_, rfl⟩
            rw [hx2] at hcx2
            have hlt : x2 < x := by
              rw [← hx, ← hx2]
              exact (List.pairwise_iff_getElem.1 HULa.out) j i hjl hil (by omega)
            have v4 : decide (x ≤ x2) = false := decide_eq_false (by omega)
            clear hx hxi hx1 hil hUi hjl hx2 hlt hj
            cases fb
            · have HTM : Hid (decide (b ∈ UL.take (i + 1)) = eb) := Lib.hid (by rw [htm]; rfl)
              have HI0 := Lib.hid hi0
              clear htm hi0
              go_wp2_with fail
              refine wp_region_seq 21 [.is (.slice (some ⟨ub, uo, none⟩) U uc), .is (.int .i64 i), .is (.pointer (some ⟨ub, uo + i, none⟩)), .is (.int .i64 x), .is (.bool false), .is (.bool false), .is (.int .i64 i), .is (.bool true), .is (.bool true), .is (.slice (some ⟨ub, uo, none⟩) U uc), .is (.int .i64 i), .is (.pointer (some ⟨ub, uo + i, none⟩)), .is (.int .i64 x), .is (.slice (some ⟨ub, uo, none⟩) U uc), .is (.int .i64 i), .is (.int .i64 j), .is (.pointer (some ⟨ub, uo + j, none⟩)), .is (.int .i64 x2), .is (.bool false), .is (.bool false), .is (.bool false)] rfl mix (by kernel_rfl) (by kernel_rfl) ?seqm
              case seqm =>
                simp only [List.take_succ_cons, List.take_zero]
                iterate 7
                  refine seq_on (by rfl) (fun w3 hb3 _ => ?_) ?_
                  · have y1 := bAt hb3 hcx
                    have y2 := bAt hb3 hcx2
                    simp [opOK, go_sem, y1, v1, hiU, Below.refl]
                    try exact rfl
                  simp only [Act.put, List.setIfInBounds_toArray, List.set_cons_succ, List.set_cons_zero]
                refine seq_on (by rfl) (fun w3 hb3 hH => ?_) ?_
                · have y1 := bAt hb3 hcx
                  have y2 := bAt hb3 hcx2
                  have h0 := HI0.out
                  simp [opOK, go_sem, Below.refl]; omega
                simp only [Act.put, List.setIfInBounds_toArray, List.set_cons_succ, List.set_cons_zero]
                iterate 13
                  refine seq_on (by rfl) (fun w3 hb3 _ => ?_) ?_
                  · have y1 := bAt hb3 hcx
                    have y2 := bAt hb3 hcx2
                    simp [opOK, go_sem, y1, hiU, y2, v3, v4, hjU, Below.refl]
                    try exact rfl
                  simp only [Act.put, List.setIfInBounds_toArray, List.set_cons_succ, List.set_cons_zero]
                refine seq_end fun w9 hb9 _ => ?_
                simp only [List.drop_succ_cons, List.drop_zero]
                have HBn := Lib.hid (HBi.out.trans (hb9.mono HBi.out.size))
                clear hb9 hcx hcx2
                go_wp2
                go_roundw
                case rel => exact ⟨i + 1, by omega, by go_num, by rw [HTM.out], HBn⟩
                case measure => simp [intOf]; omega
            · have HTM : Hid (decide (b ∈ UL.take (i + 1)) = true) := Lib.hid (by rw [htm]; rfl)
              have HI0 := Lib.hid hi0
              clear htm hi0
              go_wp2_with fail
              refine wp_region_seq 21 [.is (.slice (some ⟨ub, uo, none⟩) U uc), .is (.int .i64 i), .is (.pointer (some ⟨ub, uo + i, none⟩)), .is (.int .i64 x), .is (.bool false), .is (.bool false), .is (.int .i64 i), .is (.bool true), .is (.bool true), .is (.slice (some ⟨ub, uo, none⟩) U uc), .is (.int .i64 i), .is (.pointer (some ⟨ub, uo + i, none⟩)), .is (.int .i64 x), .is (.slice (some ⟨ub, uo, none⟩) U uc), .is (.int .i64 i), .is (.int .i64 j), .is (.pointer (some ⟨ub, uo + j, none⟩)), .is (.int .i64 x2), .is (.bool false), .is (.bool false), .is (.bool false)] rfl mix (by kernel_rfl) (by kernel_rfl) ?seqm
              case seqm =>
                simp only [List.take_succ_cons, List.take_zero]
                iterate 7
                  refine seq_on (by rfl) (fun w3 hb3 _ => ?_) ?_
                  · have y1 := bAt hb3 hcx
                    have y2 := bAt hb3 hcx2
                    simp [opOK, go_sem, y1, v1, hiU, Below.refl]
                    try exact rfl
                  simp only [Act.put, List.setIfInBounds_toArray, List.set_cons_succ, List.set_cons_zero]
                refine seq_on (by rfl) (fun w3 hb3 hH => ?_) ?_
                · have y1 := bAt hb3 hcx
                  have y2 := bAt hb3 hcx2
                  have h0 := HI0.out
                  simp [opOK, go_sem, Below.refl]; omega
                simp only [Act.put, List.setIfInBounds_toArray, List.set_cons_succ, List.set_cons_zero]
                iterate 13
                  refine seq_on (by rfl) (fun w3 hb3 _ => ?_) ?_
                  · have y1 := bAt hb3 hcx
                    have y2 := bAt hb3 hcx2
                    simp [opOK, go_sem, y1, hiU, y2, v3, v4, hjU, Below.refl]
                    try exact rfl
                  simp only [Act.put, List.setIfInBounds_toArray, List.set_cons_succ, List.set_cons_zero]
                refine seq_end fun w9 hb9 _ => ?_
                simp only [List.drop_succ_cons, List.drop_zero]
                have HBn := Lib.hid (HBi.out.trans (hb9.mono HBi.out.size))
                clear hb9 hcx hcx2
                go_wp2
                go_roundw
                case rel => exact ⟨i + 1, by omega, by go_num, by rw [HTM.out], HBn⟩
                case measure => simp [intOf]; omega
        · obtain rfl : i = U := by omega
          have d1 : decide ((i : Int) < (i : Int)) = false := decide_eq_false (by omega)
          have HFB : Hid (decide (b ∈ UL) = fb) := Lib.hid (by rw [List.take_of_length_le (by rw [HUN.out]; exact Nat.le_refl _)] at hfb; exact hfb)
          clear hfb
          have ky := (HBi.out.block _ (Array.getElem?_eq_some_iff.1 Kb15.out).1).trans Kb15.out
          have kz := (HBi.out.block _ (Array.getElem?_eq_some_iff.1 Kb18.out).1).trans Kb18.out
          have y4 : wi.cell? ⟨b15, 4, none⟩ = some (.slice wy my vy) := by rw [cell_of_heap ky]; rfl
          have z4 : wi.cell? ⟨b18, 4, none⟩ = some (.slice wz mz vz) := by rw [cell_of_heap kz]; rfl
          clear ky kz
          go_wp2_with fail
          refine (ints_any gy.win gz.win _ _ wi (HXb15.out.below HBi.out) (HXb18.out.below HBi.out)).mono ?_
          rintro e w7 ⟨rfl, hb7⟩
          have HB7' := Lib.hid (HBi.out.trans (hb7.mono HBi.out.size))
          clear hb7 y4 z4
          go_wp2_with fail
          go_loopw [23, 24] (fun ov iv wr => ∃ j : Nat, j ≤ n ∧ iv = .int .i64 j ∧ ov = .bool (!decide (gy.win = gz.win ∧ gy.pls.take j = gz.pls.take j)) ∧ Hid (Below x5.heap.size x5 wr)) (fun _ iv _ => n - (intOf iv).toNat)
          case atStart => exact ⟨0, by omega, by go_num, by simp, HB7'⟩
          case round =>
            clear HBi
            obtain ⟨i, hi, rfl, rfl, HBi⟩ := hrel
            obtain ⟨wi, rfl⟩ : ∃ wi : World, wi = wr := ⟨_, rfl⟩
            have ky := (HBi.out.block _ (Array.getElem?_eq_some_iff.1 Kb15.out).1).trans Kb15.out
            have kz := (HBi.out.block _ (Array.getElem?_eq_some_iff.1 Kb18.out).1).trans Kb18.out
            have kr := (HBi.out.block _ (Array.getElem?_eq_some_iff.1 KR.out).1).trans KR.out
            have y3 : wi.cell? ⟨b15, 3, none⟩ = some (.slice py n cy) := by rw [cell_of_heap ky]; rfl
            have z3 : wi.cell? ⟨b18, 3, none⟩ = some (.slice pz n cz) := by rw [cell_of_heap kz]; rfl
            have r1 : wi.cell? ⟨b7, 1, none⟩ = some (.int .i64 r.players) := by rw [cell_of_heap kr]; rfl
            clear ky kz kr
            obtain ⟨ob, hob⟩ : ∃ ob, (!decide (gy.win = gz.win ∧ gy.pls.take i = gz.pls.take i)) = ob := ⟨_, rfl⟩
            rw [hob]
            by_cases hin : i < n
            · have d2 : decide ((i : Int) < r.players) = true := decide_eq_true (by omega)
              have hiy : i < gy.pls.length := by rw [HNgy.out]; exact hin
              have hiz : i < gz.pls.length := by rw [HNgz.out]; exact hin
              obtain ⟨yb, yo, rfl, hcy⟩ := slN_cell9 (HPb15.out.below HBi.out) hiy
              obtain ⟨zb, zo, rfl, hcz⟩ := slN_cell9 (HPb18.out.below HBi.out) hiz
              rw [plr_at hiy] at hcy
              rw [plr_at hiz] at hcz
              have h7y : (plr gy i).mks.length = 7 := by have := H7Y.out _ (List.getElem_mem hiy); rw [plr_at hiy] at this; exact this
              have h7z : (plr gz i).mks.length = 7 := by have := H7Z.out _ (List.getElem_mem hiz); rw [plr_at hiz] at this; exact this
              have htp := take_eqP (i := i) (l := gy.pls) (l' := gz.pls) (x := plr gy i) (y := plr gz i) (by rw [List.getElem?_eq_getElem hiy, plr_at hiy]) (by rw [List.getElem?_eq_getElem hiz, plr_at hiz])
              obtain ⟨nb, hnb⟩ : ∃ nb, (!decide (plr gy i = plr gz i)) = nb := ⟨_, rfl⟩
              have htp2 : (!decide (gy.win = gz.win ∧ gy.pls.take (i + 1) = gz.pls.take (i + 1))) = (ob || nb) := by
                rw [← hob, ← hnb, Bool.eq_iff_iff]
                simp only [Bool.not_eq_true', decide_eq_false_iff_not, Bool.or_eq_true, htp]
                constructor
                · intro h
                  by_cases h2 : plr gy i = plr gz i
                  · exact .inl fun h3 => h ⟨h3.1, h3.2, h2⟩
                  · exact .inr h2
                · rintro (h | h) ⟨h1, h2, h3⟩
                  · exact h ⟨h1, h2⟩
                  · exact h h3
              have HCY := Lib.hid hcy
              have HCZ := Lib.hid hcz
              have HNB := Lib.hid hnb
              clear hcy hcz hob htp hnb hiy hiz
              cases ob
              · have HTP : Hid ((!decide (gy.win = gz.win ∧ gy.pls.take (i + 1) = gz.pls.take (i + 1))) = nb) := Lib.hid (by rw [htp2]; rfl)
                clear htp2
                go_wp2_with fail
                refine wp_region_seq 15 [.is (.bool false), .is (.bool false), .is (.pointer (some ⟨b15, 3, none⟩)), .is (.slice (some ⟨yb, yo, none⟩) n cy), .is (.int .i64 i), .is (.pointer (some ⟨yb, yo + i * 9, none⟩)), .is (plrV (plr gy i)), .is (.pointer (some ⟨b18, 3, none⟩)), .is (.slice (some ⟨zb, zo, none⟩) n cz), .is (.int .i64 i), .is (.pointer (some ⟨zb, zo + i * 9, none⟩)), .is (plrV (plr gz i)), .is (.bool nb), .is (.bool nb), .is (.bool nb)] rfl mix (by kernel_rfl) (by kernel_rfl) ?seqm
                case seqm =>
                  simp only [List.take_succ_cons, List.take_zero]
                  iterate 6
                    refine seq_on (by rfl) (fun w3 hb3 _ => ?_) ?_
                    · have a3 := bAt hb3 y3
                      have b3 := bAt hb3 z3
                      simp [opOK, go_sem, a3, hin, Below.refl]
                      try exact rfl
                    simp only [Act.put, List.setIfInBounds_toArray, List.set_cons_succ, List.set_cons_zero]
                  refine seq_on (by rfl) (fun w3 hb3 hH => ?_) ?_
                  · have a3 := bAt hb3 y3
                    have b3 := bAt hb3 z3
                    exact opOK_load_plr9 (.tmp 183) rfl yb (yo + i * 9) (plr gy i) h7y (by simp [Act.eval]) (fun j y hy => bAt hb3 (HCY.out j y hy)) ⟨rfl, Below.refl _ _⟩
                  simp only [Act.put, List.setIfInBounds_toArray, List.set_cons_succ, List.set_cons_zero]
                  iterate 4
                    refine seq_on (by rfl) (fun w3 hb3 _ => ?_) ?_
                    · have a3 := bAt hb3 y3
                      have b3 := bAt hb3 z3
                      simp [opOK, go_sem, b3, hin, Below.refl]
                      try exact rfl
                    simp only [Act.put, List.setIfInBounds_toArray, List.set_cons_succ, List.set_cons_zero]
                  refine seq_on (by rfl) (fun w3 hb3 hH => ?_) ?_
                  · have a3 := bAt hb3 y3
                    have b3 := bAt hb3 z3
                    exact opOK_load_plr9 (.tmp 188) rfl zb (zo + i * 9) (plr gz i) h7z (by simp [Act.eval]) (fun j y hy => bAt hb3 (HCZ.out j y hy)) ⟨rfl, Below.refl _ _⟩
                  simp only [Act.put, List.setIfInBounds_toArray, List.set_cons_succ, List.set_cons_zero]
                  refine seq_on (by rfl) (fun w3 hb3 hH => ?_) ?_
                  · have a3 := bAt hb3 y3
                    have b3 := bAt hb3 z3
                    exact opOK_neq_plr (.tmp 184) (.tmp 189) _ rfl (plr gy i) (plr gz i) h7y h7z (by simp [Act.eval]) (by simp [Act.eval]) ⟨by rw [HNB.out], Below.refl _ _⟩
                  simp only [Act.put, List.setIfInBounds_toArray, List.set_cons_succ, List.set_cons_zero]
                  iterate 2
                    refine seq_on (by rfl) (fun w3 hb3 _ => ?_) ?_
                    · have a3 := bAt hb3 y3
                      have b3 := bAt hb3 z3
                      simp [opOK, go_sem, Below.refl]
                      try exact rfl
                    simp only [Act.put, List.setIfInBounds_toArray, List.set_cons_succ, List.set_cons_zero]
                  refine seq_end fun w9 hb9 _ => ?_
                  simp only [List.drop_succ_cons, List.drop_zero]
                  have HBn := Lib.hid (HBi.out.trans (hb9.mono HBi.out.size))
                  clear hb9 y3 z3 r1
                  go_wp2
                  go_roundw
                  case rel => exact ⟨i + 1, by omega, by go_num, by rw [HTP.out], HBn⟩
                  case measure => simp [intOf]; omega
              · have HTP : Hid ((!decide (gy.win = gz.win ∧ gy.pls.take (i + 1) = gz.pls.take (i + 1))) = true) := Lib.hid (by rw [htp2]; rfl)
                clear htp2
                go_wp2_with fail
                refine wp_region_seq 15 [.is (.bool true), .is (.bool true), .is undef, .is undef, .is undef, .is undef, .is undef, .is undef, .is undef, .is undef, .is undef, .is undef, .is undef, .is (.bool true), .is (.bool true)] rfl mix (by kernel_rfl) (by kernel_rfl) ?seqm
                case seqm =>
                  simp only [List.take_succ_cons, List.take_zero]
                  iterate 2
                    refine seq_on (by rfl) (fun w3 hb3 _ => ?_) ?_
                    · have a3 := bAt hb3 y3
                      have b3 := bAt hb3 z3
                      simp [opOK, go_sem, Below.refl]
                      try exact rfl
                    simp only [Act.put, List.setIfInBounds_toArray, List.set_cons_succ, List.set_cons_zero]
                  iterate 11
                    refine seq_off (by rfl) ?_
                    simp only [Act.put, List.setIfInBounds_toArray, List.set_cons_succ, List.set_cons_zero]
                  iterate 2
                    refine seq_on (by rfl) (fun w3 hb3 _ => ?_) ?_
                    · have a3 := bAt hb3 y3
                      have b3 := bAt hb3 z3
                      simp [opOK, go_sem, Below.refl]
                      try exact rfl
                    simp only [Act.put, List.setIfInBounds_toArray, List.set_cons_succ, List.set_cons_zero]
                  refine seq_end fun w9 hb9 _ => ?_
                  simp only [List.drop_succ_cons, List.drop_zero]
                  have HBn := Lib.hid (HBi.out.trans (hb9.mono HBi.out.size))
                  clear hb9 y3 z3 r1
                  go_wp2
                  go_roundw
                  case rel => exact ⟨i + 1, by omega, by go_num, by rw [HTP.out], HBn⟩
                  case measure => simp [intOf]; omega
            · obtain rfl : i = n := by omega
              have d2 : decide ((i : Int) < r.players) = false := decide_eq_false (by omega)
              have hofb : ob = fb := by
                rw [← hob, ← HFB.out, List.take_of_length_le (by rw [HNgy.out]; exact Nat.le_refl _), List.take_of_length_le (by rw [HNgz.out]; exact Nat.le_refl _), Bool.eq_iff_iff, decide_eq_true_eq, HMEM.out]
                simp only [Bool.not_eq_true', decide_eq_false_iff_not]
              subst hofb
              clear hob
              have HBZ := Lib.hid (bThen HB.out HBi.out)
              cases ob
              all_goals
                go_wp2_with fail
                refine (known_any wi).mono ?_
                rintro e w9 ⟨rfl, hb9⟩
                have HB9 := Lib.hid (bThen HBZ.out hb9)
                clear hb9 y3 z3 r1
                go_wp2
                go_ret
                exact ⟨rfl, HB9.out⟩
  · have hw0 : gl.win ≠ [] := fun e => hm0 (by rw [← HM.out, e]; rfl)
    obtain rfl : e = .returned (.tuple #[.slice none 0 0, .int .i64 9]) := by
      rcases hus5 with ⟨er, _, h, he⟩ | ⟨g', bv', h1, h2, h3, h4⟩
      · rcases h with ⟨h, _⟩ | ⟨⟨g', h, hh⟩, rfl⟩
        · cases h
        · exact he
      · cases h1; exact (hw0 h2).elim
    have h4 : w5.cell? ⟨b11, 4, none⟩ = some (.slice wa m wc) := by rw [cell_of_heap K11.out]; rfl
    have t0 : decide ((0 : Int) < (m : Int)) = true := decide_eq_true (by omega)
    have t0n : decide (0 < m) = true := decide_eq_true (by omega)
    clear hus5 hw0
    go_wp2_with fail
    refine (known_any w5).mono ?_
    rintro e w9 ⟨rfl, hb9⟩
    have HB9 := Lib.hid (bThen HB.out hb9)
    clear hb9 h4
    go_wp2
    go_ret
    exact ⟨rfl, HB9.out⟩
end Go.Proofs.Ytnhggfnnolfcdaa
