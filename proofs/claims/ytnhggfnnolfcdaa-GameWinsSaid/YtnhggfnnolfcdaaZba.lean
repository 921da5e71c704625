/- The texts XW, in build order. -/
import Derived.Test.YtnhggfnnolfcdaaZaz
import Derived.Deep.DeepCutAuto
import Derived.Deep.CutRange

/- Chapter 4: GameWins. -/
namespace Go.Proofs.Ytnhggfnnolfcdaa
open Go.RowKit Go.Oche Go.Proofs
def seenA (l : List Int) : Array Value := #[.bool (seenB l 0), .bool (seenB l 1), .bool (seenB l 2), .bool (seenB l 3), .bool (seenB l 4), .bool (seenB l 5), .bool (seenB l 6), .bool (seenB l 7)]
theorem seenA_at {l : List Int} {p : Nat} (h : p < 8) : (seenA l)[p]? = some (.bool (seenB l p)) := by
  rcases (show p = 0 ∨ p = 1 ∨ p = 2 ∨ p = 3 ∨ p = 4 ∨ p = 5 ∨ p = 6 ∨ p = 7 by omega) with rfl | rfl | rfl | rfl | rfl | rfl | rfl | rfl <;> rfl
theorem seenA_set {l : List Int} {p : Nat} (h : p < 8) : (seenA l).setIfInBounds p (.bool true) = seenA (l ++ [(p : Int)]) := by
  unfold seenA
  simp only [seenB_snoc]
  rcases (show p = 0 ∨ p = 1 ∨ p = 2 ∨ p = 3 ∨ p = 4 ∨ p = 5 ∨ p = 6 ∨ p = 7 by omega) with rfl | rfl | rfl | rfl | rfl | rfl | rfl | rfl <;> simp
theorem plrRow_oneW (p : Plr) : (plrRow p).toArray.all (·.oneCell') = true := by
  rw [Array.all_eq_true']
  intro x hx
  have hx' : x ∈ plrRow p := by simpa using hx
  unfold plrRow at hx'
  rcases List.mem_cons.1 hx' with rfl | hx'
  · rfl
  rcases List.mem_append.1 hx' with hx' | hx'
  · obtain ⟨z, _, rfl⟩ := List.mem_map.1 hx'; rfl
  · rw [List.mem_singleton] at hx'; subst hx'; rfl
theorem plrRow_sizeW {p : Plr} (h : p.mks.length = 7) : (plrRow p).toArray.size = 9 := by rw [List.size_toArray, plrRow_len h]
theorem orBit : ∀ t : Fin 32, ∀ q : Fin 5, bits .or .i64 ((t.val : Nat) : Int) (wrap64 (2 ^ q.val)) = ((t.val ||| 2 ^ q.val : Nat) : Int) := by decide +kernel
theorem andBit : ∀ t : Fin 32, bits .and .i64 ((t.val : Nat) : Int) 14 = ((t.val &&& 14 : Nat) : Int) := by decide +kernel
theorem alike_same {S S' : Nat → Prop} (xs : List Int) (va vb : Value) (w : World) (hs : Sl S w va (ints xs)) (hs' : Sl S' w vb (ints xs)) :
    Calls Try.prog 15 #[va, vb] w fun e w' => e = .returned (.bool true) ∧ Below w.heap.size w w' := by
  have := ints_any xs xs va vb w hs hs'
  rwa [decide_eq_true (rfl : xs = xs)] at this
set_option maxRecDepth 100000 in
set_option maxHeartbeats 16000000 in
theorem gameWins_any {S : Nat → Prop} (k p l f : Nat) (hk : k ≤ 255) (hp : p ≤ 255) (hl : l ≤ 255) (hf : f ≤ 255) (ys : List Nat) (hys : ∀ y ∈ ys, y ≤ 255) (bv : Value) (w : World) (hb : Sl S w bv (ys.map fun (y : Nat) => Value.int .u8 y)) :
    Calls Try.prog 7 #[.agg #[.int .u8 k, .int .u8 p, .int .u8 l, .int .u8 f], bv] w fun e w' => e = .returned (.bool true) ∧ Below w.heap.size w w' := by
  obtain ⟨r, hr⟩ : ∃ r, rulS k p l f = r := ⟨_, rfl⟩
  have hrc := rulS_check k p l f
  have hr4 : r.players ≤ 4 := by rw [← hr, rulS_players]; omega
  rw [hr] at hrc
  obtain ⟨D, hD⟩ : ∃ D, (dartsS r (ys.take 90)).length = D := ⟨_, rfl⟩
  have hD90 : D ≤ 90 := by rw [← hD]; unfold dartsS; rw [List.length_map]; have := playS_len r (ys.take 90) (initG r); have h2 : (ys.take 90).length ≤ 90 := by rw [List.length_take]; omega
                           omega
  obtain ⟨w0, hw0⟩ : ∃ w0, w.alloc (.cells #[.int .u8 k, .int .u8 p, .int .u8 l, .int .u8 f] 55) = w0 := ⟨_, rfl⟩
  have hb0 : Below w.heap.size w w0 := by rw [← hw0]; exact aB _ _
  have HPLAY := Lib.hid (play_r k p l f hk hp hl hf ys hys 90 (by decide) r hr D hD bv w0 (hb.below hb0))
  have hlast := games_last r (ys.take 90)
  have hgood := (playS_play (ys.take 90) 0 (initG r) (Good.init hrc)).2
  have hall := (playS_G hrc (l := ys.take 90) (by rw [List.length_take]; omega)).1
  have hwon := games_won hrc (ys.take 90)
  have hd64 := darts_i64 hrc (ys.take 90)
  have hdok : ∀ b ∈ dartsS r (ys.take 90), okBed b = true := playS_ok (ys.take 90) 0 (initG r) (Good.init hrc)
  have hdl0 : (playS r (initG r) (ys.take 90)).length = D := by rw [← hD]; simp [dartsS]
  rw [hdl0, Nat.zero_add] at hgood
  obtain ⟨GS, hGS⟩ : ∃ GS, gamesS r (ys.take 90) = GS := ⟨_, rfl⟩
  obtain ⟨DL, hDL⟩ : ∃ DL, dartsS r (ys.take 90) = DL := ⟨_, rfl⟩
  obtain ⟨gl, hgl⟩ : ∃ gl, lastS r (initG r) (ys.take 90) = gl := ⟨_, rfl⟩
  rw [hGS, hDL, hgl] at hlast
  rw [hgl] at hgood
  rw [hDL, hgl] at hall hwon
  rw [hDL] at hd64 hdok
  rw [hGS] at HPLAY
  rw [hDL] at hD HPLAY
  rw [hD] at hlast
  have htn := (games_turn hrc (ys.take 90) D gl (by rw [hGS]; exact hlast)).over
  have HTN := Lib.hid htn
  have HRK := Lib.hid (rank_ok hwon.2.asc hwon.2.mem (r := r))
  have HLAST := Lib.hid hlast
  have HALL := Lib.hid hall
  have HGOOD := Lib.hid hgood
  have HWON := Lib.hid hwon
  have HD64 := Lib.hid hd64
  have HDOK := Lib.hid hdok
  have HDL := Lib.hid hD
  have HRC := Lib.hid hrc
  have HB0 := Lib.hid hb0
  have HW0 := Lib.hid hw0
  clear hb hys hb0 hw0 hr hrc hk hp hl hf hD hGS hDL hgl hlast hd64 hgood hall hdl0 hwon hdok htn
  go_enter Try.func7, Try.ntmps7
  go_wp2_with fail
  rw [HW0.out]
  refine HPLAY.out.mono ?_
  rintro e w1 ⟨na, nl, nc, da, dc, sa, sc, rfl, hb1, hsn, hnl8, hsd, hst⟩
  obtain ⟨E, hE⟩ : ∃ E, D + 1 = E := ⟨_, rfl⟩
  rw [hE] at hst ⊢
  have hE91 : 1 ≤ E ∧ E ≤ 91 := by omega
  obtain ⟨b5, hb5⟩ : ∃ b, w1.heap.size = b := ⟨_, rfl⟩
  obtain ⟨n, hn⟩ : ∃ n, gl.pls.length = n := ⟨_, rfl⟩
  obtain ⟨m, hm⟩ : ∃ m, gl.win.length = m := ⟨_, rfl⟩
  obtain ⟨sb, so, pa, pc, wa, wc, rfl, hra, hpl, h7, hwn⟩ := hst.at_ HLAST.out
  rw [hn] at hra hpl
  rw [hm] at hra hwn
  have hnr : (n : Int) = r.players := by rw [← hn]; exact HGOOD.out.inv.len
  have hn4 : 1 ≤ n ∧ n ≤ 4 := by have := players_of HRC.out; omega
  obtain ⟨b9, hb9⟩ : ∃ b, b5 + 1 = b := ⟨_, rfl⟩
  obtain ⟨w2, hw2⟩ : ∃ w2, (w1.alloc (.cells #[.int .i64 r.kind, .int .i64 r.players, .int .i64 r.last, .bool r.bull, .bool r.jump, .int .i64 r.rounds, .bool r.cut, .slice na nl nc, .int .i64 r.lives, .bool r.own] 25)).alloc (.cells #[.int .i64 gl.round, .int .i64 gl.player, .int .i64 gl.darts, .slice pa n pc, .slice wa m wc] 34) = w2 := ⟨_, rfl⟩
  have hb2 : Below w1.heap.size w1 w2 := by rw [← hw2]; exact (aB _ _).alloc (by simp) _
  have KR : Hid (w2.heap[b5]? = some (.cells #[.int .i64 r.kind, .int .i64 r.players, .int .i64 r.last, .bool r.bull, .bool r.jump, .int .i64 r.rounds, .bool r.cut, .slice na nl nc, .int .i64 r.lives, .bool r.own] 25 (0, 0))) := Lib.hid (by rw [← hw2, ← hb5]; exact heap_old (World.alloc_heap_new _ _))
  have K9 : Hid (w2.heap[b9]? = some (.cells #[.int .i64 gl.round, .int .i64 gl.player, .int .i64 gl.darts, .slice pa n pc, .slice wa m wc] 34 (0, 0))) := Lib.hid (by rw [← hw2, ← hb9, ← hb5]; exact heap_two _ _ _)
  have HSN := Lib.hid (hsn.below hb2)
  have HSD := Lib.hid (hsd.below hb2)
  have HPL := Lib.hid (hpl.below hb2)
  have HWN := Lib.hid (hwn.below hb2)
  have HB := Lib.hid (bThen HB0.out (bThen hb1 hb2))
  have HW2 := Lib.hid hw2
  have HB5 := Lib.hid hb5
  have HB9 := Lib.hid hb9
  have HN := Lib.hid hn
  have HM := Lib.hid hm
  have HE := Lib.hid hE
  have H7 := Lib.hid h7
  have c0 : (w1.alloc (.cells #[.int .i64 r.kind, .int .i64 r.players, .int .i64 r.last, .bool r.bull, .bool r.jump, .int .i64 r.rounds, .bool r.cut, .slice na nl nc, .int .i64 r.lives, .bool r.own] 25)).cell? ⟨sb, so + D * 5 + 0, none⟩ = _ := bAt (aB _ _) (hra 0 _ rfl)
  have c1 : (w1.alloc (.cells #[.int .i64 r.kind, .int .i64 r.players, .int .i64 r.last, .bool r.bull, .bool r.jump, .int .i64 r.rounds, .bool r.cut, .slice na nl nc, .int .i64 r.lives, .bool r.own] 25)).cell? ⟨sb, so + D * 5 + 1, none⟩ = _ := bAt (aB _ _) (hra 1 _ rfl)
  have c2 : (w1.alloc (.cells #[.int .i64 r.kind, .int .i64 r.players, .int .i64 r.last, .bool r.bull, .bool r.jump, .int .i64 r.rounds, .bool r.cut, .slice na nl nc, .int .i64 r.lives, .bool r.own] 25)).cell? ⟨sb, so + D * 5 + 2, none⟩ = _ := bAt (aB _ _) (hra 2 _ rfl)
  have c3 : (w1.alloc (.cells #[.int .i64 r.kind, .int .i64 r.players, .int .i64 r.last, .bool r.bull, .bool r.jump, .int .i64 r.rounds, .bool r.cut, .slice na nl nc, .int .i64 r.lives, .bool r.own] 25)).cell? ⟨sb, so + D * 5 + 3, none⟩ = _ := bAt (aB _ _) (hra 3 _ rfl)
  have c4 : (w1.alloc (.cells #[.int .i64 r.kind, .int .i64 r.players, .int .i64 r.last, .bool r.bull, .bool r.jump, .int .i64 r.rounds, .bool r.cut, .slice na nl nc, .int .i64 r.lives, .bool r.own] 25)).cell? ⟨sb, so + D * 5 + 4, none⟩ = _ := bAt (aB _ _) (hra 4 _ rfl)
  simp only [Nat.add_zero] at c0
  have hE1 : (E : Int) - 1 = (D : Int) := by omega
  have hDE : D < E := by omega
  clear hb1 hst hsn hsd hb2 hw2 hb5 hb9 hpl hra HPLAY hE hn hm h7 hwn
  go_upto_region 5 with fail
  rw [HW2.out, HB5.out, HB9.out]
  clear c0 c1 c2 c3 c4
  go_wp2_with (refine wpList_opOK (o := ⟨some 39, Op.load 25 (.tmp 5), _, _, _, _⟩) (R := fun v w' => v = .agg #[.int .i64 r.kind, .int .i64 r.players, .int .i64 r.last, .bool r.bull, .bool r.jump, .int .i64 r.rounds, .bool r.cut, .slice na nl nc, .int .i64 r.lives, .bool r.own] ∧ w2 = w') rfl (opOK_load_row 25 (.tmp 5) rfl b5 #[.int .i64 r.kind, .int .i64 r.players, .int .i64 r.last, .bool r.bull, .bool r.jump, .int .i64 r.rounds, .bool r.cut, .slice na nl nc, .int .i64 r.lives, .bool r.own] rfl 25 (0, 0) KR.out _ Try.underlying25 rfl (by kernel_rfl) ⟨rfl, rfl⟩) ?_; rintro _ _ ⟨rfl, rfl⟩)
  refine (own_any r na nl nc w2 HSN.out (by omega)).mono ?_
  rintro e w3 ⟨vb, vd, rfl, hb3, hs3⟩
  replace KR := Lib.hid ((hb3.block _ (Array.getElem?_eq_some_iff.1 KR.out).1).trans KR.out)
  replace K9 := Lib.hid ((hb3.block _ (Array.getElem?_eq_some_iff.1 K9.out).1).trans K9.out)
  replace HSN := Lib.hid (HSN.out.below hb3)
  replace HSD := Lib.hid (HSD.out.below hb3)
  replace HPL := Lib.hid (HPL.out.below hb3)
  replace HWN := Lib.hid (HWN.out.below hb3)
  replace HB := Lib.hid (bThen HB.out hb3)
  have HV3 := Lib.hid hs3
  clear hb3 hs3
  go_wp2_with fail
  refine (copiedE_any DL D HDL.out _ w3 HSD.out (by omega)).mono ?_
  rintro e w4 ⟨g1, gc1, rfl, hb4, ho4⟩
  replace KR := Lib.hid ((hb4.block _ (Array.getElem?_eq_some_iff.1 KR.out).1).trans KR.out)
  replace K9 := Lib.hid ((hb4.block _ (Array.getElem?_eq_some_iff.1 K9.out).1).trans K9.out)
  replace HSN := Lib.hid (HSN.out.below hb4)
  replace HSD := Lib.hid (HSD.out.below hb4)
  replace HPL := Lib.hid (HPL.out.below hb4)
  replace HWN := Lib.hid (HWN.out.below hb4)
  replace HB := Lib.hid (bThen HB.out hb4)
  have HV4 := Lib.hid (HV3.out.below hb4)
  have HD4 := Lib.hid ((Sl.of_owns ho4).mono (S' := fun _ => True) fun _ _ => trivial)
  clear hb4 ho4 HV3
  go_wp2_with fail
  refine (rank_k r vb nl vd (some ⟨g1, 0, none⟩) D gc1 DL gl HALL.out HDL.out HD64.out w4 HV4.out HD4.out).mono ?_
  rintro e w5 ⟨gv, rfl, hb5, hgv⟩
  replace KR := Lib.hid ((hb5.block _ (Array.getElem?_eq_some_iff.1 KR.out).1).trans KR.out)
  replace K9 := Lib.hid ((hb5.block _ (Array.getElem?_eq_some_iff.1 K9.out).1).trans K9.out)
  replace HSN := Lib.hid (HSN.out.below hb5)
  replace HSD := Lib.hid (HSD.out.below hb5)
  replace HPL := Lib.hid (HPL.out.below hb5)
  replace HWN := Lib.hid (HWN.out.below hb5)
  replace HB := Lib.hid (bThen HB.out hb5)
  obtain ⟨gs, hgs⟩ : ∃ gs, rankG r gl = gs := ⟨_, rfl⟩
  have hrk := HRK.out
  rw [hgs, HN.out] at hrk
  rw [hgs] at hgv
  obtain ⟨G, hG⟩ : ∃ G, gs.length = G := ⟨_, rfl⟩
  obtain ⟨ga, gc, rfl, -, -⟩ := hgv.form
  rw [hG] at hgv ⊢
  have hGm : G ≤ 9223372036854775807 := by obtain ⟨_, _, e, h1, h2⟩ := hgv.form; unfold maxLen at h2; rw [hG] at h1; omega
  have hG1 : 1 ≤ G := by
    have h0 := hrk.all 0 (by omega)
    rw [← hG]
    cases gs with
    | nil => simp at h0
    | cons a l => simp
  have HRKG := Lib.hid hrk
  have HGV := Lib.hid hgv
  have HGN := Lib.hid hG
  have HGS := Lib.hid hgs
  obtain ⟨b12, hb12⟩ : ∃ b, w5.heap.size = b := ⟨_, rfl⟩
  obtain ⟨w6, hw6⟩ : ∃ w6, w5.alloc (.cells #[.bool false, .bool false, .bool false, .bool false, .bool false, .bool false, .bool false, .bool false] 65) = w6 := ⟨_, rfl⟩
  have K12 : Hid (w6.heap[b12]? = some (.cells (seenA []) 65 (0, 0))) := Lib.hid (by rw [← hw6, ← hb12]; exact World.alloc_heap_new _ _)
  have HBA : Hid (Below w5.heap.size w5 w6) := Lib.hid (by rw [← hw6]; exact aB _ _)
  have HW6 := Lib.hid hw6
  have HB12 := Lib.hid hb12
  clear hb5 hgv hrk hgs hG hw6 hb12 HRK HV4 HD4
  have g1n : decide ((G : Int) < 1) = false := decide_eq_false (by omega)
  go_upto_region 9 with fail
  rw [HW6.out, HB12.out]
  go_wp2_with fail
  go_loopw [13] (fun iv wr => ∃ i : Nat, i ≤ G ∧ iv = .int .i64 i ∧ Hid (wr.heap[b12]? = some (.cells (seenA ((gs.take i).flatten)) 65 (0, 0))) ∧ Hid (Below w5.heap.size w5 wr)) (fun iv _ => G - (intOf iv).toNat)
  case atStart => exact ⟨0, by omega, by go_num, K12, HBA⟩
  case round =>
    obtain ⟨i, hi, rfl, KS, HBi⟩ := hrel
    obtain ⟨wi, rfl⟩ : ∃ wi : World, wi = wr := ⟨_, rfl⟩
    by_cases hiG : i < G
    · have d1 : decide ((i : Int) < (G : Int)) = true := decide_eq_true (by omega)
      have d1n : decide (i < G) = true := decide_eq_true hiG
      have hil : i < gs.length := by rw [HGN.out]; exact hiG
      obtain ⟨gb, go, u, rfl, -, hcu, hsu⟩ := HGV.out.cell hil
      obtain ⟨gi, hgi⟩ : ∃ gi, gs[i] = gi := ⟨_, rfl⟩
      rw [hgi] at hsu
      obtain ⟨L, hL⟩ : ∃ L, gi.length = L := ⟨_, rfl⟩
      obtain ⟨ua, uc, rfl, -, -⟩ := hsu.form
      rw [ints_length, hL] at hsu hcu
      have hLm : L ≤ 9223372036854775807 := by have := hsu.len; rw [ints_length, hL] at this; unfold maxLen at this; omega
      have hL1 : 1 ≤ L := by
        have := HRKG.out.ne gi (by rw [← hgi]; exact List.getElem_mem hil)
        rw [← hL]; cases gi with
        | nil => exact (this rfl).elim
        | cons a l => simp
      have hfr : ∀ k (h : k < gi.length), gi[k] ∉ (gs.take i).flatten ++ gi.take k ∧ 0 ≤ gi[k] ∧ (gi[k]).toNat < n ∧ ∀ j, j + 1 = k → gi.getD j 0 < gi[k] := fun k h => by
        subst hgi
        refine ⟨HRKG.out.fresh hil h, (HRKG.out.in_ hil h).1, (HRKG.out.in_ hil h).2, fun j hj => ?_⟩
        subst hj
        have := HRKG.out.up hil h
        rw [getD_of (by omega)]
        exact this
      have htk : (gs.take (i + 1)).flatten = (gs.take i).flatten ++ gi := by
        rw [List.take_add_one, List.getElem?_eq_getElem hil, hgi]; simp
      have HFR := Lib.hid hfr
      have HTK := Lib.hid htk
      have HSU := Lib.hid hsu
      have HCU := Lib.hid hcu
      have HL := Lib.hid hL
      clear hcu hsu hL hfr htk hgi hil
      go_wp2_with fail
      go_loopw [14] (fun kv wr => ∃ k : Nat, k ≤ L ∧ kv = .int .i64 k ∧ Hid (wr.heap[b12]? = some (.cells (seenA ((gs.take i).flatten ++ gi.take k)) 65 (0, 0))) ∧ Hid (Below w5.heap.size w5 wr)) (fun kv _ => L - (intOf kv).toNat)
      case atStart => exact ⟨0, by omega, by go_num, Lib.hid (by rw [List.take_zero, List.append_nil]; exact KS.out), HBi⟩
      case round =>
        clear KS HBi
        obtain ⟨k, hk, rfl, KS, HBi⟩ := hrel
        obtain ⟨wi, rfl⟩ : ∃ wi : World, wi = wr := ⟨_, rfl⟩
        have cu := bAt HBi.out HCU.out
        by_cases hkL : k < L
        · have d2 : decide ((k : Int) < (L : Int)) = true := decide_eq_true (by omega)
          have d2n : decide (k < L) = true := decide_eq_true hkL
          have hkl : k < gi.length := by rw [HL.out]; exact hkL
          obtain ⟨f1, f2, f3, f4⟩ := HFR.out k hkl
          obtain ⟨ub, uo, rfl, -, hcx⟩ := (HSU.out.below HBi.out).cell hkl
          have hgx : gi.take (k + 1) = gi.take k ++ [gi[k]] := by rw [List.take_add_one, List.getElem?_eq_getElem hkl]; rfl
          obtain ⟨pn, hpn⟩ : ∃ pn : Nat, gi[k] = (pn : Int) := ⟨(gi[k]).toNat, by omega⟩
          rw [hpn] at f1 f3 hcx hgx
          have hp4 : pn < n := by simpa using f3
          have hp8 : pn < 8 := by omega
          have hp8i : (pn : Int) < 8 := by omega
          have kr := (HBi.out.block _ (Array.getElem?_eq_some_iff.1 KR.out).1).trans KR.out
          have r1 : wi.cell? ⟨b5, 1, none⟩ = some (.int .i64 r.players) := by rw [cell_of_heap kr]; rfl
          have sb' : seenB ((gs.take i).flatten ++ gi.take k) pn = false := by unfold seenB; exact decide_eq_false f1
          have cs : wi.cell? ⟨b12, pn, none⟩ = some (.bool false) := by rw [cell_of_heap KS.out, seenA_at hp8, sb']
          have fs : wi.frozen? ⟨b12, pn, none⟩ = false := frozen_of_heap KS.out
          have v1 : decide ((pn : Int) < 0) = false := decide_eq_false (by omega)
          have v2 : decide (r.players ≤ (pn : Int)) = false := decide_eq_false (by omega)
          obtain ⟨w7, hw7⟩ : ∃ x, wi.setCell ⟨b12, pn, none⟩ (.bool true) = x := ⟨_, rfl⟩
          have KS7 : Hid (w7.heap[b12]? = some (.cells (seenA ((gs.take i).flatten ++ gi.take (k + 1))) 65 (0, 0))) := Lib.hid (by
            rw [← hw7, heap_setCell_at KS.out, seenA_set hp8, hgx, List.append_assoc])
          have HB7 : Hid (Below w5.heap.size w5 w7) := Lib.hid (by rw [← hw7]; exact HBi.out.setCell (by rw [HB12.out]; exact Nat.le_refl _) _)
          have HW7 := Lib.hid hw7
          clear hgx sb' hw7 kr f1 f3
          by_cases hk0 : k = 0
          · have v3 : decide ((0 : Int) < (k : Int)) = false := decide_eq_false (by omega)
            have v3n : decide (0 < k) = false := decide_eq_false (by omega)
            clear f4 hk0 hpn
            go_wp2_with fail
            rw [HW7.out]
            clear r1 cs fs cu hcx
            go_wp2
            go_roundw
            case rel => exact ⟨k + 1, by omega, by go_num, KS7, HB7⟩
            case measure => simp [intOf]; omega
          · have v3 : decide ((0 : Int) < (k : Int)) = true := decide_eq_true (by omega)
            have v3n : decide (0 < k) = true := decide_eq_true (by omega)
            obtain ⟨j, hj⟩ : ∃ j, k - 1 = j := ⟨_, rfl⟩
            have hjk : j + 1 = k := by omega
            have hjl : j < gi.length := by omega
            have hjL : j < L := by omega
            have f5 := f4 j hjk
            obtain ⟨ub', uo', e0, -, hcx2⟩ := (HSU.out.below HBi.out).cell hjl
            cases e0
            obtain ⟨y, hy⟩ : ∃ y, gi[j] = y := ⟨_, rfl⟩
            rw [getD_of hjl] at f5
            rw [hy] at hcx2 f5
            rw [hpn] at f5
            have v4 : decide ((pn : Int) ≤ y) = false := decide_eq_false (by omega)
            have v5 : (k : Int) - 1 = (j : Int) := by omega
            clear f4 hk0 hpn hy f5 hjl hj
            go_wp2_with fail
            rw [HW7.out]
            clear r1 cs fs cu hcx hcx2
            go_wp2
            go_roundw
            case rel => exact ⟨k + 1, by omega, by go_num, KS7, HB7⟩
            case measure => simp [intOf]; omega
        · obtain rfl : k = L := by omega
          have d2 : decide ((k : Int) < (k : Int)) = false := decide_eq_false (by omega)
          have d3 : decide ((k : Int) < 1) = false := decide_eq_false (by omega)
          have KS7 : Hid (wi.heap[b12]? = some (.cells (seenA ((gs.take (i + 1)).flatten)) 65 (0, 0))) := Lib.hid (by
            rw [HTK.out]
            have := KS.out
            rw [List.take_of_length_le (l := gi) (by rw [HL.out]; exact Nat.le_refl _)] at this
            exact this)
          go_wp2
          go_roundw
          case rel => exact ⟨i + 1, by omega, by go_num, KS7, HBi⟩
          case measure => simp [intOf]; omega
    · obtain rfl : i = G := by omega
      have d1 : decide ((i : Int) < (i : Int)) = false := decide_eq_false (by omega)
      have KS7 : Hid (wi.heap[b12]? = some (.cells (seenA gs.flatten) 65 (0, 0))) := Lib.hid (by
        have := KS.out
        rw [List.take_of_length_le (by rw [HGN.out]; exact Nat.le_refl _)] at this
        exact this)
      have KR7 := Lib.hid ((HBi.out.block _ (Array.getElem?_eq_some_iff.1 KR.out).1).trans KR.out)
      have K97 := Lib.hid ((HBi.out.block _ (Array.getElem?_eq_some_iff.1 K9.out).1).trans K9.out)
      clear KS
      go_wp2_with fail
      go_loopw [16] (fun iv wr => ∃ j : Nat, j ≤ n ∧ iv = .int .i64 j ∧ Hid (wr = wi)) (fun iv _ => n - (intOf iv).toNat)
      case atStart => exact ⟨0, by omega, by go_num, Lib.hid rfl⟩
      case round =>
        obtain ⟨j, hj, rfl, HWR⟩ := hrel
        obtain ⟨wj, rfl⟩ : ∃ wj : World, wj = wr := ⟨_, rfl⟩
        have r1 : wj.cell? ⟨b5, 1, none⟩ = some (.int .i64 r.players) := by rw [HWR.out, cell_of_heap KR7.out]; rfl
        by_cases hjn : j < n
        · have d2 : decide ((j : Int) < r.players) = true := decide_eq_true (by omega)
          have hj8 : j < 8 := by omega
          have hj8i : (j : Int) < 8 := by omega
          have sb' : seenB gs.flatten j = true := by unfold seenB; exact decide_eq_true (HRKG.out.all j hjn)
          have cs : wj.cell? ⟨b12, j, none⟩ = some (.bool true) := by rw [HWR.out, cell_of_heap KS7.out, seenA_at hj8, sb']
          clear sb'
          go_wp2
          go_roundw
          case rel => exact ⟨j + 1, by omega, by go_num, HWR⟩
          case measure => simp [intOf]; omega
        · obtain rfl : j = n := by omega
          obtain ⟨n, rfl⟩ : ∃ x : Nat, x = j := ⟨_, rfl⟩
          have d2 : decide ((n : Int) < r.players) = false := decide_eq_false (by omega)
          obtain rfl : wj = wi := HWR.out
          have s4 : wj.cell? ⟨b9, 4, none⟩ = some (.slice wa m wc) := by rw [cell_of_heap K97.out]; rfl
          by_cases hm0 : m = 0
          · subst hm0
            go_wp2_with fail
            refine (known_any wj).mono ?_
            rintro e w9 ⟨rfl, hb9⟩
            have HB9 := Lib.hid (bThen (bThen HB.out HBi.out) hb9)
            clear hb9 r1 s4
            go_wp2
            go_ret
            exact ⟨rfl, HB9.out⟩
          · have m0 : ((m : Int) == 0) = false := by simp; omega
            have m0n : (m == 0) = false := by simp; omega
            have hw0 : gl.win ≠ [] := fun e => hm0 (by rw [← HM.out, e]; rfl)
            obtain ⟨rst, hrst⟩ := rank_first (r := r) hw0
            rw [HGS.out] at hrst
            have h0l : 0 < gs.length := by rw [HGN.out]; omega
            obtain ⟨gb, go, u, rfl, -, hcu0, hsu0⟩ := (HGV.out.below HBi.out).cell h0l
            have hg0 : gs[0] = gl.win := by simp [hrst]
            rw [hg0] at hsu0
            obtain ⟨ua, uc, rfl, -, -⟩ := hsu0.form
            rw [ints_length, HM.out] at hsu0 hcu0
            simp only [Nat.add_zero] at hcu0
            have HU0 := Lib.hid hsu0
            have HWNj := Lib.hid (HWN.out.below HBi.out)
            have r0 : wj.cell? ⟨b5, 0, none⟩ = some (.int .i64 r.kind) := by rw [cell_of_heap KR7.out]; rfl
            have hone : (r.kind = 1 ∨ r.kind = 4) → m = 1 := fun h => by rw [← HM.out]; exact HWON.out.2.one h hw0
            have hdr := (HTN.out hw0).2
            have hHG1 : 0 < i := by omega
            have hHG1i : (0 : Int) < i := by omega
            have HBJ := Lib.hid (bThen HB.out HBi.out)
            have HONE := Lib.hid hone
            have HW0' := Lib.hid hw0
            have HDR := Lib.hid hdr
            have HNR := Lib.hid hnr
            clear hsu0 hg0 hrst h0l hone hw0 hdr hnr
            go_upto_region 28 with fail
            go_cut [156] from 134 to 155 (fun cv wx => cv = .bool false ∧ Below wj.heap.size wj wx)
            case first =>
              by_cases k1 : r.kind = 1
              · have e1 : (r.kind == 1) = true := by rw [k1]; rfl
                have m1a : ((m : Int) != 1) = false := by rw [HONE.out (.inl k1)]; rfl
                have m1b : (m != 1) = false := by rw [HONE.out (.inl k1)]; rfl
                have e4 : True := trivial
                clear k1
                refine wp_region_seq 23 [.is (.slice (some ⟨gb, go, none⟩) i gc), .is (.pointer (some ⟨gb, go, none⟩)), .is (.slice ua m uc), .is (.pointer (some ⟨b9, 4, none⟩)), .is (.slice wa m wc), .is (.bool true), .is (.bool false), .is (.bool false), .is (.pointer (some ⟨b5, 0, none⟩)), .is (.int .i64 r.kind), .is (.bool true), .is (.bool true), .is undef, .is undef, .is undef, .is (.bool true), .is (.bool true), .is (.pointer (some ⟨b9, 4, none⟩)), .is (.slice wa m wc), .is (.int .i64 m), .is (.bool false), .is (.bool false), .is (.bool false)] rfl mix (by kernel_rfl) (by kernel_rfl) ?seqm
                case seqm =>
                  simp only [List.take_succ_cons, List.take_zero]
                  iterate 5
                    refine seq_on (by rfl) (fun w3 hb3 _ => ?_) ?_
                    · have y1 := bAt hb3 hcu0
                      have y2 := bAt hb3 s4
                      have y3 := bAt hb3 r0
                      simp [opOK, go_sem, y1, y2, hHG1, Below.refl]
                      try exact rfl
                    simp only [Act.put, List.setIfInBounds_toArray, List.set_cons_succ, List.set_cons_zero]
                  refine seq_on (by rfl) (fun w3 hb3 hH => ?_) ?_
                  · have y1 := bAt hb3 hcu0
                    have y2 := bAt hb3 s4
                    have y3 := bAt hb3 r0
                    refine opOK_call (f := 15) (args := #[.slice ua m uc, .slice wa m wc]) (by simp [go_sem]) ?_
                    exact (alike_same gl.win _ _ w3 (HU0.out.below hb3) (HWNj.out.below hb3)).mono fun e W' ⟨he, hb⟩ => ⟨_, he, rfl, hb⟩
                  simp only [Act.put, List.setIfInBounds_toArray, List.set_cons_succ, List.set_cons_zero]
                  iterate 6
                    refine seq_on (by rfl) (fun w3 hb3 _ => ?_) ?_
                    · have y1 := bAt hb3 hcu0
                      have y2 := bAt hb3 s4
                      have y3 := bAt hb3 r0
                      simp [opOK, go_sem, y3, e1, Below.refl]
                      try exact rfl
                    simp only [Act.put, List.setIfInBounds_toArray, List.set_cons_succ, List.set_cons_zero]
                  iterate 3
                    refine seq_off (by rfl) ?_
                    simp only [Act.put, List.setIfInBounds_toArray, List.set_cons_succ, List.set_cons_zero]
                  iterate 8
                    refine seq_on (by rfl) (fun w3 hb3 _ => ?_) ?_
                    · have y1 := bAt hb3 hcu0
                      have y2 := bAt hb3 s4
                      have y3 := bAt hb3 r0
                      simp [opOK, go_sem, y2, m1a, Below.refl]
                      try exact rfl
                    simp only [Act.put, List.setIfInBounds_toArray, List.set_cons_succ, List.set_cons_zero]
                  refine seq_end fun w7 hb7 _ => ?_
                  simp only [List.drop_succ_cons, List.drop_zero]
                  go_wp2_with fail
                  go_meet
                  case rel => exact ⟨rfl, hb7⟩
              · have e1 : (r.kind == 1) = false := by simpa using k1
                clear k1
                by_cases k4 : r.kind = 4
                · have e4 : (r.kind == 4) = true := by rw [k4]; rfl
                  have m1a : ((m : Int) != 1) = false := by rw [HONE.out (.inr k4)]; rfl
                  have m1b : (m != 1) = false := by rw [HONE.out (.inr k4)]; rfl
                  clear k4
                  refine wp_region_seq 23 [.is (.slice (some ⟨gb, go, none⟩) i gc), .is (.pointer (some ⟨gb, go, none⟩)), .is (.slice ua m uc), .is (.pointer (some ⟨b9, 4, none⟩)), .is (.slice wa m wc), .is (.bool true), .is (.bool false), .is (.bool false), .is (.pointer (some ⟨b5, 0, none⟩)), .is (.int .i64 r.kind), .is (.bool false), .is (.bool false), .is (.pointer (some ⟨b5, 0, none⟩)), .is (.int .i64 r.kind), .is (.bool true), .is (.bool true), .is (.bool true), .is (.pointer (some ⟨b9, 4, none⟩)), .is (.slice wa m wc), .is (.int .i64 m), .is (.bool false), .is (.bool false), .is (.bool false)] rfl mix (by kernel_rfl) (by kernel_rfl) ?seqm
                  case seqm =>
                    simp only [List.take_succ_cons, List.take_zero]
                    iterate 5
                      refine seq_on (by rfl) (fun w3 hb3 _ => ?_) ?_
                      · have y1 := bAt hb3 hcu0
                        have y2 := bAt hb3 s4
                        have y3 := bAt hb3 r0
                        simp [opOK, go_sem, y1, y2, hHG1, Below.refl]
                        try exact rfl
                      simp only [Act.put, List.setIfInBounds_toArray, List.set_cons_succ, List.set_cons_zero]
                    refine seq_on (by rfl) (fun w3 hb3 hH => ?_) ?_
                    · have y1 := bAt hb3 hcu0
                      have y2 := bAt hb3 s4
                      have y3 := bAt hb3 r0
                      refine opOK_call (f := 15) (args := #[.slice ua m uc, .slice wa m wc]) (by simp [go_sem]) ?_
                      exact (alike_same gl.win _ _ w3 (HU0.out.below hb3) (HWNj.out.below hb3)).mono fun e W' ⟨he, hb⟩ => ⟨_, he, rfl, hb⟩
                    simp only [Act.put, List.setIfInBounds_toArray, List.set_cons_succ, List.set_cons_zero]
                    iterate 17
                      refine seq_on (by rfl) (fun w3 hb3 _ => ?_) ?_
                      · have y1 := bAt hb3 hcu0
                        have y2 := bAt hb3 s4
                        have y3 := bAt hb3 r0
                        simp [opOK, go_sem, y2, y3, e1, e4, m1a, Below.refl]
                        try exact rfl
                      simp only [Act.put, List.setIfInBounds_toArray, List.set_cons_succ, List.set_cons_zero]
                    refine seq_end fun w7 hb7 _ => ?_
                    simp only [List.drop_succ_cons, List.drop_zero]
                    go_wp2_with fail
                    go_meet
                    case rel => exact ⟨rfl, hb7⟩
                · have e4 : (r.kind == 4) = false := by simpa using k4
                  clear k4
                  refine wp_region_seq 23 [.is (.slice (some ⟨gb, go, none⟩) i gc), .is (.pointer (some ⟨gb, go, none⟩)), .is (.slice ua m uc), .is (.pointer (some ⟨b9, 4, none⟩)), .is (.slice wa m wc), .is (.bool true), .is (.bool false), .is (.bool false), .is (.pointer (some ⟨b5, 0, none⟩)), .is (.int .i64 r.kind), .is (.bool false), .is (.bool false), .is (.pointer (some ⟨b5, 0, none⟩)), .is (.int .i64 r.kind), .is (.bool false), .is (.bool false), .is (.bool false), .is undef, .is undef, .is undef, .is undef, .is (.bool false), .is (.bool false)] rfl mix (by kernel_rfl) (by kernel_rfl) ?seqm
                  case seqm =>
                    simp only [List.take_succ_cons, List.take_zero]
                    iterate 5
                      refine seq_on (by rfl) (fun w3 hb3 _ => ?_) ?_
                      · have y1 := bAt hb3 hcu0
                        have y2 := bAt hb3 s4
                        have y3 := bAt hb3 r0
                        simp [opOK, go_sem, y1, y2, hHG1, Below.refl]
                        try exact rfl
                      simp only [Act.put, List.setIfInBounds_toArray, List.set_cons_succ, List.set_cons_zero]
                    refine seq_on (by rfl) (fun w3 hb3 hH => ?_) ?_
                    · have y1 := bAt hb3 hcu0
                      have y2 := bAt hb3 s4
                      have y3 := bAt hb3 r0
                      refine opOK_call (f := 15) (args := #[.slice ua m uc, .slice wa m wc]) (by simp [go_sem]) ?_
                      exact (alike_same gl.win _ _ w3 (HU0.out.below hb3) (HWNj.out.below hb3)).mono fun e W' ⟨he, hb⟩ => ⟨_, he, rfl, hb⟩
                    simp only [Act.put, List.setIfInBounds_toArray, List.set_cons_succ, List.set_cons_zero]
                    iterate 11
                      refine seq_on (by rfl) (fun w3 hb3 _ => ?_) ?_
                      · have y1 := bAt hb3 hcu0
                        have y2 := bAt hb3 s4
                        have y3 := bAt hb3 r0
                        simp [opOK, go_sem, y3, e1, e4, Below.refl]
                        try exact rfl
                      simp only [Act.put, List.setIfInBounds_toArray, List.set_cons_succ, List.set_cons_zero]
                    iterate 4
                      refine seq_off (by rfl) ?_
                      simp only [Act.put, List.setIfInBounds_toArray, List.set_cons_succ, List.set_cons_zero]
                    iterate 2
                      refine seq_on (by rfl) (fun w3 hb3 _ => ?_) ?_
                      · have y1 := bAt hb3 hcu0
                        have y2 := bAt hb3 s4
                        have y3 := bAt hb3 r0
                        simp [opOK, go_sem, Below.refl]
                        try exact rfl
                      simp only [Act.put, List.setIfInBounds_toArray, List.set_cons_succ, List.set_cons_zero]
                    refine seq_end fun w7 hb7 _ => ?_
                    simp only [List.drop_succ_cons, List.drop_zero]
                    go_wp2_with fail
                    go_meet
                    case rel => exact ⟨rfl, hb7⟩
            case rest =>
              obtain ⟨rfl, hbc⟩ := hcut
              obtain ⟨w7, rfl⟩ : ∃ x : World, x = wc := ⟨_, rfl⟩
              have hb7 := HBi.out.trans (hbc.mono HBi.out.size)
              have KR8 := Lib.hid ((hbc.block _ (Array.getElem?_eq_some_iff.1 KR7.out).1).trans KR7.out)
              have K98 := Lib.hid ((hbc.block _ (Array.getElem?_eq_some_iff.1 K97.out).1).trans K97.out)
              have HSD8 := Lib.hid (HSD.out.below hb7)
              have HPL8 := Lib.hid (HPL.out.below hb7)
              have HWN8 := Lib.hid (HWN.out.below hb7)
              have HB8 := Lib.hid (bThen HB.out hb7)
              have zD : IntKind.i64.wrap ((D : Int) - 1) = (D : Int) - 1 := wrap_small _ (by omega) (by omega)
              clear hbc hb7 s4 r0 r1 hcu0 HWR
              go_wp2_with fail
              go_loopw [17, 18] (fun tv iv wr => ∃ j : Nat, j ≤ D ∧ j ≤ gl.darts ∧ iv = .int .i64 ((D : Int) - 1 - (j : Int)) ∧ tv = .int .i64 (thr gl.round DL j : Nat) ∧ Hid (Below w7.heap.size w7 wr)) (fun _ iv _ => (intOf iv + 1).toNat)
              case atStart => exact ⟨0, by omega, by omega, by simp, by simp [thr], Lib.hid (Below.refl _ _)⟩
              case round =>
                obtain ⟨j, hj1, hj2, rfl, rfl, HBk⟩ := hrel
                obtain ⟨wk, rfl⟩ : ∃ wk : World, wk = wr := ⟨_, rfl⟩
                have hDl := HDL.out
                have s2 : wk.cell? ⟨b9, 2, none⟩ = some (.int .i64 gl.darts) := by rw [cell_of_heap ((HBk.out.block _ (Array.getElem?_eq_some_iff.1 K98.out).1).trans K98.out)]; rfl
                obtain ⟨df, hdf⟩ : ∃ df : Int, (D : Int) - (gl.darts : Int) = df := ⟨_, rfl⟩
                obtain ⟨ei, hei⟩ : ∃ ei : Int, (D : Int) - 1 - (j : Int) = ei := ⟨_, rfl⟩
                have zd : IntKind.i64.wrap ((D : Int) - (gl.darts : Int)) = df := by rw [← hdf]; exact wrap_small _ (by have := HDR.out; omega) (by have := HDR.out; omega)
                rw [hei]
                have HDF := Lib.hid hdf
                have HEI := Lib.hid hei
                clear hdf hei hDl
                go_upto_region 32 with fail
                go_cut [170] from 160 to 170 (fun cv wx => cv = .bool (decide (j < D ∧ j < gl.darts)) ∧ Hid (wx = wk))
                case first =>
                  by_cases h1 : j < D
                  · have q1 : decide ((0 : Int) ≤ ei) = true := decide_eq_true (by have := HEI.out; have := HDF.out; omega)
                    by_cases h2 : j < gl.darts
                    · have q2 : decide (df ≤ ei) = true := decide_eq_true (by have := HEI.out; have := HDF.out; omega)
                      have q3 : decide (j < D ∧ j < gl.darts) = true := decide_eq_true ⟨h1, h2⟩
                      clear h1 h2
                      go_wp2
                      go_meet
                      case rel => exact ⟨by rw [q3], Lib.hid rfl⟩
                    · have q2 : decide (df ≤ ei) = false := decide_eq_false (by have := HEI.out; have := HDF.out; omega)
                      have q3 : decide (j < D ∧ j < gl.darts) = false := decide_eq_false (by omega)
                      clear h1 h2
                      go_wp2
                      go_meet
                      case rel => exact ⟨by rw [q3], Lib.hid rfl⟩
                  · have q1 : decide ((0 : Int) ≤ ei) = false := decide_eq_false (by have := HEI.out; have := HDF.out; omega)
                    have q3 : decide (j < D ∧ j < gl.darts) = false := decide_eq_false (by omega)
                    clear h1
                    go_wp2
                    go_meet
                    case rel => exact ⟨by rw [q3], Lib.hid rfl⟩
                case rest =>
                  obtain ⟨rfl, hwx⟩ := hcut
                  obtain rfl := hwx.out
                  obtain ⟨wk, rfl⟩ : ∃ x : World, x = wc := ⟨_, rfl⟩
                  clear hwx s2 zd
                  by_cases hjj : j < D ∧ j < gl.darts
                  · have q3 : decide (j < D ∧ j < gl.darts) = true := decide_eq_true hjj
                    obtain ⟨e, he⟩ : ∃ e : Nat, ei = (e : Int) := ⟨D - 1 - j, by have := HEI.out; omega⟩
                    have hei := HEI.out
                    rw [he, q3]
                    have heD : e < D := by omega
                    have hej : e = D - 1 - j := by omega
                    clear hei
                    have hDl := HDL.out
                    obtain ⟨db, dx, rfl, -, hcb⟩ := (HSD8.out.below HBk.out).cell (show e < DL.length by rw [hDl]; exact heD)
                    obtain ⟨b, hb⟩ : ∃ b, DL[e]'(by rw [hDl]; exact heD) = b := ⟨_, rfl⟩
                    rw [hb] at hcb
                    have hbm : b ∈ DL := by rw [← hb]; exact List.getElem_mem _
                    have hbk := okBed_hit (HDOK.out b hbm)
                    have hgd : DL.getD (DL.length - 1 - j) 0 = b := by rw [hDl, ← hej, getD_of (by rw [hDl]; exact heD)]; exact hb
                    obtain ⟨tb, htb⟩ : ∃ tb, b.tmod 100 = tb := ⟨_, rfl⟩
                    obtain ⟨tq, htq⟩ : ∃ tq : Nat, b.tdiv 100 = (tq : Int) := ⟨(b.tdiv 100).toNat, by have := hbk.f; omega⟩
                    have htb2 : 0 ≤ tb ∧ tb ≤ 25 := by rw [← htb]; exact hbk.n
                    have htq2 : tq < 5 := by have := hbk.f; rw [htq] at this; omega
                    have x1 : IntKind.i64.wrap tb = tb := wrap_small _ (by omega) (by omega)
                    have x2 : IntKind.i64.wrap ((gl.round : Int) + 1) = (gl.round : Int) + 1 := wrap_small _ (by omega) (by have := HGOOD.out.rd; omega)
                    have x3 : IntKind.i64.wrap (tq : Int) = (tq : Int) := wrap_small _ (by omega) (by omega)
                    have x4 : IntKind.i64.wrap ((e : Int) - 1) = (e : Int) - 1 := wrap_small _ (by omega) (by omega)
                    obtain ⟨eb, heb2⟩ : ∃ eb, decide (tb = (gl.round : Int) + 1) = eb := ⟨_, rfl⟩
                    have heb : (tb == (gl.round : Int) + 1) = eb := by rw [← heb2]; rfl
                    have s0 : wk.cell? ⟨b9, 0, none⟩ = some (.int .i64 gl.round) := by rw [cell_of_heap ((HBk.out.block _ (Array.getElem?_eq_some_iff.1 K98.out).1).trans K98.out)]; rfl
                    have hthr : thr gl.round DL (j + 1) = if eb = true then thr gl.round DL j ||| 2 ^ tq else thr gl.round DL j := by
                      rw [thr, hgd, htb, htq, ← heb2, Int.toNat_natCast]
                      simp only [decide_eq_true_eq]
                    have hej2 : (e : Int) - 1 = (D : Int) - 1 - ((j + 1 : Nat) : Int) := by omega
                    have HEJ := Lib.hid hej2
                    have HTHR := Lib.hid hthr
                    have ht32 : thr gl.round DL j < 32 := thr_lt HDOK.out j
                    obtain ⟨t0, ht0⟩ : ∃ t0, thr gl.round DL j = t0 := ⟨_, rfl⟩
                    rw [ht0] at ht32 ⊢
                    have HT0 := Lib.hid ht0
                    have HEE := Lib.hid he
                    have HJJ := Lib.hid hjj
                    have HJ1 := Lib.hid hj1
                    clear hthr hej2 hbk hbm hgd hb hej he HEI HDF hjj hj1 hj2 q3 hDl ht0
                    go_upto_region 34 with fail
                    refine wp_region_seq 9 [.is (.slice (some ⟨db, dx, none⟩) D dc), .is (.int .i64 e), .is (.pointer (some ⟨db, dx + e, none⟩)), .is (.int .i64 b), .is (.int .i64 tb), .is (.pointer (some ⟨b9, 0, none⟩)), .is (.int .i64 gl.round), .is (.int .i64 ((gl.round : Int) + 1)), .is (.bool eb)] rfl mix (by kernel_rfl) (by kernel_rfl) ?seqm
                    case seqm =>
                      simp only [List.take_succ_cons, List.take_zero]
                      iterate 9
                        refine seq_on (by rfl) (fun w3 hb3 _ => ?_) ?_
                        · have y1 := bAt hb3 hcb
                          have y2 := bAt hb3 s0
                          simp [opOK, go_sem, y1, y2, htb, x2, heb, heD, Below.refl]
                          try exact rfl
                        simp only [Act.put, List.setIfInBounds_toArray, List.set_cons_succ, List.set_cons_zero]
                      refine seq_end fun w9 hb9 _ => ?_
                      simp only [List.drop_succ_cons, List.drop_zero]
                      have HB9 := Lib.hid (HBk.out.trans (hb9.mono HBk.out.size))
                      have hcb9 := bAt hb9 hcb
                      clear hb9 s0 hcb heb
                      cases eb with
                      | true =>
                        clear heb2 x1 x2
                        go_wp2_with fail
                        go_roundw
                        case rel =>
                          refine ⟨j + 1, HJJ.out.1, HJJ.out.2, by rw [HEJ.out], ?_, HB9⟩
                          rw [HTHR.out, if_pos rfl, HT0.out]
                          exact congrArg (Value.int .i64) (orBit ⟨t0, ht32⟩ ⟨tq, htq2⟩)
                        case measure => have := HEE.out; simp [intOf]; omega
                      | false =>
                        clear heb2 x1 x2 hcb9
                        go_wp2
                        go_roundw
                        case rel => exact ⟨j + 1, HJJ.out.1, HJJ.out.2, by rw [HEJ.out], by rw [HTHR.out, if_neg (by decide), HT0.out], HB9⟩
                        case measure => have := HEE.out; simp [intOf]; omega
                  · have q3 : decide (j < D ∧ j < gl.darts) = false := decide_eq_false hjj
                    rw [q3]
                    have hDl := HDL.out
                    have hJ : ∀ i, i < gl.darts → i < DL.length → i < j := fun i h1 h2 => by rw [hDl] at h2; omega
                    have HB9 := Lib.hid (bThen HB8.out HBk.out)
                    have HJ := Lib.hid hJ
                    have hKR := (HBk.out.block _ (Array.getElem?_eq_some_iff.1 KR8.out).1).trans KR8.out
                    have hK9 := (HBk.out.block _ (Array.getElem?_eq_some_iff.1 K98.out).1).trans K98.out
                    have s3 : wk.cell? ⟨b9, 3, none⟩ = some (.slice pa n pc) := by rw [cell_of_heap hK9]; rfl
                    have s4 : wk.cell? ⟨b9, 4, none⟩ = some (.slice wa m wc) := by rw [cell_of_heap hK9]; rfl
                    have hm0' : 0 < gl.win.length := by rw [HM.out]; omega
                    obtain ⟨wb, wo, rfl, -, hcw⟩ := (HWN8.out.below HBk.out).cell hm0'
                    obtain ⟨X, hX⟩ : ∃ X, gl.win[0] = X := ⟨_, rfl⟩
                    rw [hX] at hcw
                    have hXm : X ∈ gl.win := by rw [← hX]; exact List.getElem_mem _
                    have hXn := HWON.out.2.mem X hXm
                    obtain ⟨xp, hxp⟩ : ∃ xp : Nat, X = (xp : Int) := ⟨X.toNat, by omega⟩
                    rw [hxp] at hcw hXn
                    have hxn : xp < gl.pls.length := by simpa using hXn.2
                    have hxn2 : xp < n := by rw [← HN.out]; exact hxn
                    obtain ⟨pb, po, rfl, hcp⟩ := slN_cell9 (HPL8.out.below HBk.out) hxn
                    rw [plr_at hxn] at hcp
                    have HCP := Lib.hid hcp
                    have HP7 := Lib.hid (by have := H7.out _ (List.getElem_mem hxn); rw [plr_at hxn] at this; exact this : (plr gl xp).mks.length = 7)
                    have HXM := Lib.hid hXm
                    have HXP := Lib.hid hxp
                    have hmi : (0 : Int) < (m : Int) := by omega
                    have hmn : 0 < m := by omega
                    have HPLk := Lib.hid (HPL8.out.below HBk.out)
                    have HKR := Lib.hid hKR
                    have HK9 := Lib.hid hK9
                    simp only [Nat.add_zero] at hcw
                    clear hcp hXm hxp hXn hX hJ hKR hK9 hm0' hjj q3 HEI HDF
                    go_upto_region 36 with fail
                    refine wp_region_seqV 10 ((fun v => v = .pointer (some ⟨b9, 3, none⟩)) :: (fun v => v = .slice (some ⟨pb, po, none⟩) n pc) :: (fun v => v = .pointer (some ⟨b9, 4, none⟩)) :: (fun v => v = .slice (some ⟨wb, wo, none⟩) m wc) :: (fun v => v = .pointer (some ⟨wb, wo, none⟩)) :: (fun v => v = .int .i64 xp) :: (fun v => v = .pointer (some ⟨pb, po + xp * 9, none⟩)) :: (fun v => v = plrV (plr gl xp)) :: (fun v => ∃ q, v = .pointer (some ⟨q, 0, none⟩)) :: (fun _ => True) :: []) (JBox2 wk 8 100 9 101 62 62 #[.int .i64 0, .int .i64 0, .int .i64 0, .int .i64 0, .int .i64 0, .int .i64 0, .int .i64 0, .int .i64 0, .bool false] (plrRow (plr gl xp)).toArray #[.int .i64 0, .int .i64 0, .int .i64 0, .int .i64 0, .int .i64 0, .int .i64 0, .int .i64 0, .int .i64 0, .bool false] #[.int .i64 0, .int .i64 0, .int .i64 0, .int .i64 0, .int .i64 0, .int .i64 0, .int .i64 0, .int .i64 0, .bool false]) rfl mix (by kernel_rfl) (by kernel_rfl) (fun _ _ _ _ hc h => h.congr hc) (fun _ => .start) ?_
                    simp only [List.take_succ_cons, List.take_zero]
                    iterate 7
                      refine sv_rd rfl (fun _ _ _ h => h.read (by simp) (by simp) (by simp) (by simp)) (fun u1 L1 vs1 hvs1 hL1 hJ1 => ?_) ?_
                      · have y1 := bAt hJ1.below s3
                        have y2 := bAt hJ1.below s4
                        have y3 := bAt hJ1.below hcw
                        simp [opOK, go_sem, y1, y2, y3, hmn, hxn2]
                      simp only [Act.put, List.setIfInBounds_toArray, List.set_cons_succ, List.set_cons_zero, List.nil_append, List.cons_append]
                    refine sv_rd rfl (fun _ _ _ h => h.read (by simp) (by simp) (by simp) (by simp)) (fun u1 L1 vs1 hvs1 hL1 hJ1 => ?_) ?_
                    · exact opOK_load_plr9 (.tmp 197) rfl pb (po + xp * 9) (plr gl xp) HP7.out (by simp [Act.eval]) (fun j y hy => bAt hJ1.below (HCP.out j y hy)) ⟨rfl, rfl⟩
                    simp only [Act.put, List.setIfInBounds_toArray, List.set_cons_succ, List.set_cons_zero, List.nil_append, List.cons_append]
                    refine sv_new ⟨_, 0, rfl⟩ rfl (fun u1 L1 vs1 hvs1 hL1 hJ1 hd => ?_) ?_
                    · exact opOK_val (v := .pointer (some ⟨u1.heap.size, 0, none⟩)) (w' := u1.alloc (.cells #[.int .i64 0, .int .i64 0, .int .i64 0, .int .i64 0, .int .i64 0, .int .i64 0, .int .i64 0, .int .i64 0, .bool false] 62)) (by kernel_rfl) ⟨⟨_, rfl⟩, hJ1.mkA hL1 (by decide) (by decide) (by decide)⟩
                    rintro _ ⟨qa, rfl⟩
                    simp only [Act.put, List.setIfInBounds_toArray, List.set_cons_succ, List.set_cons_zero, List.nil_append, List.cons_append]
                    refine sv_new ⟨undef, trivial⟩ rfl (fun u1 L1 vs1 hvs1 hL1 hJ1 hd => ?_) ?_
                    · have hl := hd ⟨8, .data⟩ (by simp) rfl
                      obtain ⟨pq, e1, e2, e3⟩ := hJ1.a hl
                      rw [hvs1 8 _ rfl] at e1
                      cases e1
                      exact opOK_store_row 62 (.tmp 19) (.tmp 198) rfl qa (plrRow (plr gl xp)).toArray (by simp [Act.eval]) (by simp [Act.eval, plrV]) 62 _ e3 (by rw [plrRow_sizeW HP7.out]; exact size_plr) (by rw [plrRow_sizeW HP7.out]; split <;> first | exact plrRow_sizeW HP7.out | rfl) (plrRow_oneW (plr gl xp)) ⟨trivial, hJ1.stA hl (hvs1 8 _ rfl) (by decide) (by decide) (by decide)⟩
                    rintro _ -
                    simp only [Act.put, List.nil_append, List.cons_append]
                    refine sv_end fun vs9 w9 hvs9 hJ9 => ?_
                    simp only [List.drop_succ_cons, List.drop_zero]
                    obtain ⟨qa', ea, la, kq⟩ := hJ9.a (by decide)
                    rw [hvs9 8 _ rfl] at ea
                    cases ea
                    rw [if_pos (by decide)] at kq
                    obtain ⟨pi0, hpw⟩ : ∃ x, (plr gl xp).pts = x := ⟨_, rfl⟩
                    have hq0 : w9.cell? ⟨qa, 0, none⟩ = some (.int .i64 pi0) := by rw [cell_of_heap kq, ← hpw]; rfl
                    have hKR := (hJ9.below.block _ (Array.getElem?_eq_some_iff.1 HKR.out).1).trans HKR.out
                    have hK9 := (hJ9.below.block _ (Array.getElem?_eq_some_iff.1 HK9.out).1).trans HK9.out
                    have HPW := Lib.hid hpw
                    have HB10 := Lib.hid (bThen HB9.out hJ9.below)
                    have HPL9 := Lib.hid (HPLk.out.below hJ9.below)
                    have r0 : w9.cell? ⟨b5, 0, none⟩ = some (.int .i64 r.kind) := by rw [cell_of_heap hKR]; rfl
                    have r1 : w9.cell? ⟨b5, 1, none⟩ = some (.int .i64 r.players) := by rw [cell_of_heap hKR]; rfl
                    have r6 : w9.cell? ⟨b5, 6, none⟩ = some (.bool r.cut) := by rw [cell_of_heap hKR]; rfl
                    have t3 : w9.cell? ⟨b9, 3, none⟩ = some (.slice (some ⟨pb, po, none⟩) n pc) := by rw [cell_of_heap hK9]; rfl
                    have ht32 : thr gl.round DL j < 32 := thr_lt HDOK.out j
                    obtain ⟨t0, ht0⟩ : ∃ t0, thr gl.round DL j = t0 := ⟨_, rfl⟩
                    rw [ht0] at ht32 ⊢
                    have HT0 := Lib.hid ht0
                    clear ht0 hpw hKR hK9 hJ9 hvs9 la kq s3 s4 hcw
                    go_wp2_with fail
                    go_loopw [20] (fun iv wr => ∃ i : Nat, i ≤ n ∧ iv = .int .i64 i ∧ Hid (Below w9.heap.size w9 wr)) (fun iv _ => n - (intOf iv).toNat)
                    case atStart => exact ⟨0, by omega, by go_num, Lib.hid (Below.refl _ _)⟩
                    case round =>
                      obtain ⟨c, hc, rfl, HBi5⟩ := hrel
                      obtain ⟨wi, rfl⟩ : ∃ wi : World, wi = wr := ⟨_, rfl⟩
                      have q0 := bAt HBi5.out hq0
                      have v0 := bAt HBi5.out r0
                      have v1 := bAt HBi5.out r1
                      have v6 := bAt HBi5.out r6
                      have v3 := bAt HBi5.out t3
                      by_cases hcn : c < n
                      · have d2 : decide ((c : Int) < r.players) = true := decide_eq_true (by have := HNR.out; omega)
                        have hcn2 : c < gl.pls.length := by rw [HN.out]; exact hcn
                        obtain ⟨pb', po', e0, hcp⟩ := slN_cell9 (HPL9.out.below HBi5.out) hcn2
                        cases e0
                        rw [plr_at hcn2] at hcp
                        obtain ⟨py, hpy⟩ : ∃ x, (plr gl c).pts = x := ⟨_, rfl⟩
                        have p0 : wi.cell? ⟨pb, po + c * 9, none⟩ = some (.int .i64 py) := by have := hcp 0 _ rfl; rw [hpy] at this; exact this
                        have HPY := Lib.hid hpy
                        have hci : (c : Int) < (n : Int) := by omega
                        clear hcp hpy q0 v0 v1 v6 v3
                        have q0 := bAt HBi5.out hq0
                        have v1 := bAt HBi5.out r1
                        go_upto_region 40 with fail
                        have v6 := bAt HBi5.out r6
                        have v3 := bAt HBi5.out t3
                        clear v1
                        go_cut [21] from 205 to 233 (fun cv wx => ∃ mv, cv = .bool mv ∧ (mv = true → (pi0 < py ∧ r.cut = false) ∨ (py < pi0 ∧ r.cut = true)) ∧ Below wi.heap.size wi wx)
                        case first =>
                          by_cases g1 : pi0 < py
                          · have f1 : decide (pi0 < py) = true := decide_eq_true g1
                            have f2 : decide (py < pi0) = false := decide_eq_false (by omega)
                            obtain ⟨bc, hbc⟩ : ∃ x, r.cut = x := ⟨_, rfl⟩
                            rw [hbc] at v6
                            have HBC := Lib.hid hbc
                            clear hbc
                            cases bc with
                            | false =>
                              refine wp_region_seq 30 [.is (.pointer (some ⟨b9, 3, none⟩)), .is (.slice (some ⟨pb, po, none⟩) n pc), .is (.int .i64 c), .is (.pointer (some ⟨pb, po + c * 9, none⟩)), .is (.pointer (some ⟨pb, po + c * 9, none⟩)), .is (.int .i64 py), .is (.pointer (some ⟨qa, 0, none⟩)), .is (.int .i64 pi0), .is (.bool true), .is (.bool true), .is (.pointer (some ⟨b5, 6, none⟩)), .is (.bool false), .is (.bool true), .is (.bool true), .is (.bool true), .is undef, .is undef, .is undef, .is undef, .is undef, .is undef, .is undef, .is undef, .is undef, .is undef, .is undef, .is undef, .is undef, .is (.bool true), .is (.bool true)] rfl mix (by kernel_rfl) (by kernel_rfl) ?seqm
                              case seqm =>
                                simp only [List.take_succ_cons, List.take_zero]
                                iterate 15
                                  refine seq_on (by rfl) (fun w3 hb3 _ => ?_) ?_
                                  · have y1 := bAt hb3 v3
                                    have y2 := bAt hb3 p0
                                    have y3 := bAt hb3 q0
                                    have y4 := bAt hb3 v6
                                    simp [opOK, go_sem, y1, y2, y3, y4, f1, hci, Below.refl]
                                    try exact rfl
                                  simp only [Act.put, List.setIfInBounds_toArray, List.set_cons_succ, List.set_cons_zero]
                                iterate 13
                                  refine seq_off (by rfl) ?_
                                  simp only [Act.put, List.setIfInBounds_toArray, List.set_cons_succ, List.set_cons_zero]
                                iterate 2
                                  refine seq_on (by rfl) (fun w3 hb3 _ => ?_) ?_
                                  · have y1 := bAt hb3 v3
                                    have y2 := bAt hb3 p0
                                    have y3 := bAt hb3 q0
                                    have y4 := bAt hb3 v6
                                    simp [opOK, go_sem, Below.refl]
                                    try exact rfl
                                  simp only [Act.put, List.setIfInBounds_toArray, List.set_cons_succ, List.set_cons_zero]
                                refine seq_end fun w10 hb10 _ => ?_
                                simp only [List.drop_succ_cons, List.drop_zero]
                                clear f1 f2
                                go_wp2_with fail
                                go_meet
                                case rel => exact ⟨_, rfl, fun _ => .inl ⟨g1, HBC.out⟩, hb10⟩
                            | true =>
                              refine wp_region_seq 30 [.is (.pointer (some ⟨b9, 3, none⟩)), .is (.slice (some ⟨pb, po, none⟩) n pc), .is (.int .i64 c), .is (.pointer (some ⟨pb, po + c * 9, none⟩)), .is (.pointer (some ⟨pb, po + c * 9, none⟩)), .is (.int .i64 py), .is (.pointer (some ⟨qa, 0, none⟩)), .is (.int .i64 pi0), .is (.bool true), .is (.bool true), .is (.pointer (some ⟨b5, 6, none⟩)), .is (.bool true), .is (.bool false), .is (.bool false), .is (.bool false), .is (.pointer (some ⟨b9, 3, none⟩)), .is (.slice (some ⟨pb, po, none⟩) n pc), .is (.int .i64 c), .is (.pointer (some ⟨pb, po + c * 9, none⟩)), .is (.pointer (some ⟨pb, po + c * 9, none⟩)), .is (.int .i64 py), .is (.pointer (some ⟨qa, 0, none⟩)), .is (.int .i64 pi0), .is (.bool false), .is (.bool false), .is undef, .is undef, .is (.bool false), .is (.bool false), .is (.bool false)] rfl mix (by kernel_rfl) (by kernel_rfl) ?seqm
                              case seqm =>
                                simp only [List.take_succ_cons, List.take_zero]
                                iterate 25
                                  refine seq_on (by rfl) (fun w3 hb3 _ => ?_) ?_
                                  · have y1 := bAt hb3 v3
                                    have y2 := bAt hb3 p0
                                    have y3 := bAt hb3 q0
                                    have y4 := bAt hb3 v6
                                    simp [opOK, go_sem, y1, y2, y3, y4, f1, f2, hci, Below.refl]
                                    try exact rfl
                                  simp only [Act.put, List.setIfInBounds_toArray, List.set_cons_succ, List.set_cons_zero]
                                iterate 2
                                  refine seq_off (by rfl) ?_
                                  simp only [Act.put, List.setIfInBounds_toArray, List.set_cons_succ, List.set_cons_zero]
                                iterate 3
                                  refine seq_on (by rfl) (fun w3 hb3 _ => ?_) ?_
                                  · have y1 := bAt hb3 v3
                                    have y2 := bAt hb3 p0
                                    have y3 := bAt hb3 q0
                                    have y4 := bAt hb3 v6
                                    simp [opOK, go_sem, Below.refl]
                                    try exact rfl
                                  simp only [Act.put, List.setIfInBounds_toArray, List.set_cons_succ, List.set_cons_zero]
                                refine seq_end fun w10 hb10 _ => ?_
                                simp only [List.drop_succ_cons, List.drop_zero]
                                clear f1 f2
                                go_wp2_with fail
                                go_meet
                                case rel => exact ⟨_, rfl, fun h => (by cases h), hb10⟩
                          · have f1 : decide (pi0 < py) = false := decide_eq_false g1
                            by_cases g2 : py < pi0
                            · have f2 : decide (py < pi0) = true := decide_eq_true g2
                              obtain ⟨bc, hbc⟩ : ∃ x, r.cut = x := ⟨_, rfl⟩
                              rw [hbc] at v6
                              have HBC := Lib.hid hbc
                              clear hbc
                              refine wp_region_seq 30 [.is (.pointer (some ⟨b9, 3, none⟩)), .is (.slice (some ⟨pb, po, none⟩) n pc), .is (.int .i64 c), .is (.pointer (some ⟨pb, po + c * 9, none⟩)), .is (.pointer (some ⟨pb, po + c * 9, none⟩)), .is (.int .i64 py), .is (.pointer (some ⟨qa, 0, none⟩)), .is (.int .i64 pi0), .is (.bool false), .is (.bool false), .is undef, .is undef, .is undef, .is (.bool false), .is (.bool false), .is (.pointer (some ⟨b9, 3, none⟩)), .is (.slice (some ⟨pb, po, none⟩) n pc), .is (.int .i64 c), .is (.pointer (some ⟨pb, po + c * 9, none⟩)), .is (.pointer (some ⟨pb, po + c * 9, none⟩)), .is (.int .i64 py), .is (.pointer (some ⟨qa, 0, none⟩)), .is (.int .i64 pi0), .is (.bool true), .is (.bool true), .is (.pointer (some ⟨b5, 6, none⟩)), .is (.bool bc), .is (.bool bc), .is (.bool bc), .is (.bool bc)] rfl mix (by kernel_rfl) (by kernel_rfl) ?seqm
                              case seqm =>
                                simp only [List.take_succ_cons, List.take_zero]
                                iterate 10
                                  refine seq_on (by rfl) (fun w3 hb3 _ => ?_) ?_
                                  · have y1 := bAt hb3 v3
                                    have y2 := bAt hb3 p0
                                    have y3 := bAt hb3 q0
                                    have y4 := bAt hb3 v6
                                    simp [opOK, go_sem, y1, y2, y3, f1, hci, Below.refl]
                                    try exact rfl
                                  simp only [Act.put, List.setIfInBounds_toArray, List.set_cons_succ, List.set_cons_zero]
                                iterate 3
                                  refine seq_off (by rfl) ?_
                                  simp only [Act.put, List.setIfInBounds_toArray, List.set_cons_succ, List.set_cons_zero]
                                iterate 17
                                  refine seq_on (by rfl) (fun w3 hb3 _ => ?_) ?_
                                  · have y1 := bAt hb3 v3
                                    have y2 := bAt hb3 p0
                                    have y3 := bAt hb3 q0
                                    have y4 := bAt hb3 v6
                                    simp [opOK, go_sem, y1, y2, y3, y4, f2, hci, Below.refl]
                                    try exact rfl
                                  simp only [Act.put, List.setIfInBounds_toArray, List.set_cons_succ, List.set_cons_zero]
                                refine seq_end fun w10 hb10 _ => ?_
                                simp only [List.drop_succ_cons, List.drop_zero]
                                clear f1 f2
                                go_wp2_with fail
                                go_meet
                                case rel => exact ⟨_, rfl, fun h => .inr ⟨g2, by rw [HBC.out]; exact h⟩, hb10⟩
                            · have f2 : decide (py < pi0) = false := decide_eq_false g2
                              refine wp_region_seq 30 [.is (.pointer (some ⟨b9, 3, none⟩)), .is (.slice (some ⟨pb, po, none⟩) n pc), .is (.int .i64 c), .is (.pointer (some ⟨pb, po + c * 9, none⟩)), .is (.pointer (some ⟨pb, po + c * 9, none⟩)), .is (.int .i64 py), .is (.pointer (some ⟨qa, 0, none⟩)), .is (.int .i64 pi0), .is (.bool false), .is (.bool false), .is undef, .is undef, .is undef, .is (.bool false), .is (.bool false), .is (.pointer (some ⟨b9, 3, none⟩)), .is (.slice (some ⟨pb, po, none⟩) n pc), .is (.int .i64 c), .is (.pointer (some ⟨pb, po + c * 9, none⟩)), .is (.pointer (some ⟨pb, po + c * 9, none⟩)), .is (.int .i64 py), .is (.pointer (some ⟨qa, 0, none⟩)), .is (.int .i64 pi0), .is (.bool false), .is (.bool false), .is undef, .is undef, .is (.bool false), .is (.bool false), .is (.bool false)] rfl mix (by kernel_rfl) (by kernel_rfl) ?seqm
                              case seqm =>
                                simp only [List.take_succ_cons, List.take_zero]
                                iterate 10
                                  refine seq_on (by rfl) (fun w3 hb3 _ => ?_) ?_
                                  · have y1 := bAt hb3 v3
                                    have y2 := bAt hb3 p0
                                    have y3 := bAt hb3 q0
                                    have y4 := bAt hb3 v6
                                    simp [opOK, go_sem, y1, y2, y3, f1, hci, Below.refl]
                                    try exact rfl
                                  simp only [Act.put, List.setIfInBounds_toArray, List.set_cons_succ, List.set_cons_zero]
                                iterate 3
                                  refine seq_off (by rfl) ?_
                                  simp only [Act.put, List.setIfInBounds_toArray, List.set_cons_succ, List.set_cons_zero]
                                iterate 12
                                  refine seq_on (by rfl) (fun w3 hb3 _ => ?_) ?_
                                  · have y1 := bAt hb3 v3
                                    have y2 := bAt hb3 p0
                                    have y3 := bAt hb3 q0
                                    have y4 := bAt hb3 v6
                                    simp [opOK, go_sem, y1, y2, y3, f2, hci, Below.refl]
                                    try exact rfl
                                  simp only [Act.put, List.setIfInBounds_toArray, List.set_cons_succ, List.set_cons_zero]
                                iterate 2
                                  refine seq_off (by rfl) ?_
                                  simp only [Act.put, List.setIfInBounds_toArray, List.set_cons_succ, List.set_cons_zero]
                                iterate 3
                                  refine seq_on (by rfl) (fun w3 hb3 _ => ?_) ?_
                                  · have y1 := bAt hb3 v3
                                    have y2 := bAt hb3 p0
                                    have y3 := bAt hb3 q0
                                    have y4 := bAt hb3 v6
                                    simp [opOK, go_sem, Below.refl]
                                    try exact rfl
                                  simp only [Act.put, List.setIfInBounds_toArray, List.set_cons_succ, List.set_cons_zero]
                                refine seq_end fun w10 hb10 _ => ?_
                                simp only [List.drop_succ_cons, List.drop_zero]
                                clear f1 f2
                                go_wp2_with fail
                                go_meet
                                case rel => exact ⟨_, rfl, fun h => (by cases h), hb10⟩
                        case rest =>
                          obtain ⟨mv, rfl, hmv, hbx⟩ := hcut
                          obtain ⟨wx, rfl⟩ : ∃ x : World, x = wc := ⟨_, rfl⟩
                          have HBx := Lib.hid (HBi5.out.trans (hbx.mono HBi5.out.size))
                          have v0 := bAt HBx.out r0
                          clear hbx q0 v6 v3 p0
                          cases mv with
                          | false =>
                            clear hmv v0
                            go_wp2
                            go_roundw
                            case rel => exact ⟨c + 1, by omega, by go_num, HBx⟩
                            case measure => simp [intOf]; omega
                          | true =>
                            have hmt := more_three (r := r) (J := j) HWON.out.2 HWON.out.1 HDOK.out HJ.out HXM.out hcn2 (by
                              rw [HXP.out, Int.toNat_natCast, HPW.out, HPY.out]; exact hmv rfl)
                            rw [HT0.out] at hmt
                            have k3 : (r.kind != 3) = false := by rw [hmt.1]; rfl
                            have k14 : bits .and .i64 (t0 : Int) 14 = 14 := by
                              have := andBit ⟨t0, ht32⟩
                              rw [this]; exact congrArg _ hmt.2
                            clear hmv hmt
                            go_wp2
                            go_roundw
                            case rel => exact ⟨c + 1, by omega, by go_num, HBx⟩
                            case measure => simp [intOf]; omega
                      · obtain rfl : c = n := by omega
                        have d2 : decide ((c : Int) < r.players) = false := decide_eq_false (by have := HNR.out; omega)
                        clear q0 v0 v6 v3
                        go_wp2_with fail
                        refine (known_any wi).mono ?_
                        rintro e w11 ⟨rfl, hb11⟩
                        have HB11 := Lib.hid (bThen (bThen HB10.out HBi5.out) hb11)
                        clear hb11 v1
                        go_wp2
                        go_ret
                        exact ⟨rfl, HB11.out⟩
end Go.Proofs.Ytnhggfnnolfcdaa
