/- The texts XS, in build order. -/
import Derived.Test.YtnhggfnnolfcdaaZaz

/- Chapter 4: GameSteps. -/
namespace Go.Proofs.Ytnhggfnnolfcdaa
open Go.RowKit Go.Oche Go.Proofs
theorem plrRow_one (p : Plr) : (plrRow p).toArray.all (·.oneCell') = true := by
  rw [Array.all_eq_true']
  intro x hx
  have hx' : x ∈ plrRow p := by simpa using hx
  unfold plrRow at hx'
  rcases List.mem_cons.1 hx' with rfl | hx'
  · rfl
  rcases List.mem_append.1 hx' with hx' | hx'
  · obtain ⟨z, _, rfl⟩ := List.mem_map.1 hx'; rfl
  · rw [List.mem_singleton] at hx'; subst hx'; rfl
theorem plrRow_size {p : Plr} (h : p.mks.length = 7) : (plrRow p).toArray.size = 9 := by rw [List.size_toArray, plrRow_len h]
theorem eq7 (a0 a1 a2 a3 a4 a5 a6 : Int) (w : World) : (Op.equalIn 10000 60 (.agg #[.int .i64 a0, .int .i64 a1, .int .i64 a2, .int .i64 a3, .int .i64 a4, .int .i64 a5, .int .i64 a6]) (.agg #[.int .i64 a0, .int .i64 a1, .int .i64 a2, .int .i64 a3, .int .i64 a4, .int .i64 a5, .int .i64 a6])).run Try.prog w = .ok true w := by
  have h3 : (Try.prog.info? 3).isSome = true := by kernel_rfl
  obtain ⟨i, hi⟩ := Option.isSome_iff_exists.1 h3
  have := run_eq_ints 9998 hi (by kernel_rfl) Try.underlying3 [a0, a1, a2, a3, a4, a5, a6] [a0, a1, a2, a3, a4, a5, a6] rfl (t := 60) Try.underlying60 w
  simpa using this
set_option maxRecDepth 100000 in
set_option maxHeartbeats 16000000 in
theorem gameSteps_any {S : Nat → Prop} (k p l f : Nat) (hk : k ≤ 255) (hp : p ≤ 255) (hl : l ≤ 255) (hf : f ≤ 255) (ys : List Nat) (hys : ∀ y ∈ ys, y ≤ 255) (bv : Value) (w : World) (hb : Sl S w bv (ys.map fun (y : Nat) => Value.int .u8 y)) :
    Calls Try.prog 5 #[.agg #[.int .u8 k, .int .u8 p, .int .u8 l, .int .u8 f], bv] w fun e w' => e = .returned (.bool true) ∧ Below w.heap.size w w' := by
  obtain ⟨r, hr⟩ : ∃ r, rulS k p l f = r := ⟨_, rfl⟩
  have hrc := rulS_check k p l f
  rw [hr] at hrc
  obtain ⟨D, hD⟩ : ∃ D, (dartsS r (ys.take 60)).length = D := ⟨_, rfl⟩
  have hD60 : D ≤ 60 := by rw [← hD]; unfold dartsS; rw [List.length_map]; have := playS_len r (ys.take 60) (initG r); have h2 : (ys.take 60).length ≤ 60 := by rw [List.length_take]; omega
                           omega
  obtain ⟨w0, hw0⟩ : ∃ w0, w.alloc (.cells #[.int .u8 k, .int .u8 p, .int .u8 l, .int .u8 f] 55) = w0 := ⟨_, rfl⟩
  have hb0 : Below w.heap.size w w0 := by rw [← hw0]; exact aB _ _
  have HPL := Lib.hid (play_r k p l f hk hp hl hf ys hys 60 (by decide) r hr D hD bv w0 (hb.below hb0))
  have HGL : Hid ((gamesS r (ys.take 60)).length = D + 1) := Lib.hid (by rw [games_len, hD])
  have hlast := games_last r (ys.take 60)
  have hmore := playG_more hrc (ys := ys.take 60) (by rw [List.length_take]; omega) 0
  have hd64 := darts_i64 hrc (ys.take 60)
  obtain ⟨GS, hGS⟩ : ∃ GS, gamesS r (ys.take 60) = GS := ⟨_, rfl⟩
  obtain ⟨DL, hDL⟩ : ∃ DL, dartsS r (ys.take 60) = DL := ⟨_, rfl⟩
  obtain ⟨gl, hgl⟩ : ∃ gl, lastS r (initG r) (ys.take 60) = gl := ⟨_, rfl⟩
  have HTN : Hid (∀ (i : Nat) (a b : Gam), GS[i]? = some a → GS[i + 1]? = some b → Inv r (9 + 100 * i) a ∧ Inv r (9 + 100 * (i + 1)) b ∧ ∀ k, k < a.pls.length → StepOk r (k = a.player) (plr a k) (plr b k)) := Lib.hid (by rw [← hGS]; exact games_step hrc (ys.take 60))
  rw [hGS, hDL, hgl] at hlast
  rw [hDL, hgl] at hmore
  rw [hDL] at hd64
  rw [hGS] at HGL HPL
  rw [hDL] at hD HPL
  rw [hD] at hlast hmore
  have HLAST := Lib.hid hlast
  have HMORE := Lib.hid hmore
  have HD64 := Lib.hid hd64
  have HDL := Lib.hid hD
  have HRC := Lib.hid hrc
  have HB0 := Lib.hid hb0
  have HW0 := Lib.hid hw0
  clear hb hys hb0 hw0 hr hrc hk hp hl hf hD hGS hDL hgl hlast hmore hd64
  go_enter Try.func5, Try.ntmps5
  go_wp2_with fail
  rw [HW0.out]
  refine HPL.out.mono ?_
  rintro e w1 ⟨na, nl, nc, da, dc, sa, sc, rfl, hb1, hsn, hnl8, hsd, hst⟩
  obtain ⟨E, hE⟩ : ∃ E, D + 1 = E := ⟨_, rfl⟩
  rw [hE] at hst HGL ⊢
  have hE61 : 1 ≤ E ∧ E ≤ 61 := by omega
  obtain ⟨b5, hb5⟩ : ∃ b, w1.heap.size = b := ⟨_, rfl⟩
  obtain ⟨w2, hw2⟩ : ∃ w2, w1.alloc (.cells #[.int .i64 r.kind, .int .i64 r.players, .int .i64 r.last, .bool r.bull, .bool r.jump, .int .i64 r.rounds, .bool r.cut, .slice na nl nc, .int .i64 r.lives, .bool r.own] 25) = w2 := ⟨_, rfl⟩
  have hb2 : Below w1.heap.size w1 w2 := by rw [← hw2]; exact aB _ _
  have KR : Hid (w2.heap[b5]? = some (.cells #[.int .i64 r.kind, .int .i64 r.players, .int .i64 r.last, .bool r.bull, .bool r.jump, .int .i64 r.rounds, .bool r.cut, .slice na nl nc, .int .i64 r.lives, .bool r.own] 25 (0, 0))) := Lib.hid (by rw [← hw2, ← hb5]; exact World.alloc_heap_new _ _)
  have HST := Lib.hid (hst.below hb2)
  have HSN := Lib.hid (hsn.below hb2)
  have HSD := Lib.hid (hsd.below hb2)
  have HB2 := Lib.hid (bThen HB0.out (bThen hb1 hb2))
  have HW2 := Lib.hid hw2
  have HB5 := Lib.hid hb5
  have HE := Lib.hid hE
  clear hb1 hst hsn hsd hb2 hw2 hb5 HPL hE
  go_wp2_with fail
  rw [HW2.out, HB5.out]
  go_loopw [9] (fun iv wr => ∃ i : Nat, i ≤ D ∧ iv = .int .i64 i ∧ Hid (Below w2.heap.size w2 wr)) (fun iv _ => D - (intOf iv).toNat)
  case atStart => exact ⟨0, by omega, by go_num, Lib.hid (Below.refl _ _)⟩
  case round =>
    obtain ⟨i, hi, rfl, HB⟩ := hrel
    obtain ⟨wo, rfl⟩ : ∃ wo : World, wo = wr := ⟨_, rfl⟩
    by_cases hlt : i < D
    · have d1 : decide ((i : Int) < (D : Int)) = true := decide_eq_true (by omega)
      have d1n : decide (i < D) = true := decide_eq_true hlt
      have hi1 : i < GS.length := by rw [HGL.out]; have := HE.out; omega
      have hi2 : i + 1 < GS.length := by rw [HGL.out]; have := HE.out; omega
      obtain ⟨a, ha⟩ : ∃ a, GS[i] = a := ⟨_, rfl⟩
      obtain ⟨b, hb⟩ : ∃ b, GS[i + 1] = b := ⟨_, rfl⟩
      have hai : GS[i]? = some a := by rw [List.getElem?_eq_getElem hi1, ha]
      have hbi : GS[i + 1]? = some b := by rw [List.getElem?_eq_getElem hi2, hb]
      obtain ⟨hia, hib, hstep⟩ := HTN.out i a b hai hbi
      have hsto := HST.out.below HB.out
      obtain ⟨sb, so, pa, pc, wa, wc, rfl, hra, hpa, h7a, -⟩ := hsto.at_ hai
      obtain ⟨sb', so', pb, pd, wb, wd, e0, hrb, hpb, h7b, -⟩ := hsto.at_ hbi
      cases e0
      obtain ⟨n, hn⟩ : ∃ n, a.pls.length = n := ⟨_, rfl⟩
      have hnb : b.pls.length = n := by have h1 := hia.len; have h2 := hib.len; omega
      obtain ⟨m, hm⟩ : ∃ m, a.win.length = m := ⟨_, rfl⟩
      obtain ⟨m2, hm2⟩ : ∃ m, b.win.length = m := ⟨_, rfl⟩
      rw [hn] at hpa hra
      rw [hm] at hra
      rw [hnb] at hpb hrb
      rw [hm2] at hrb
      have hn8 := players_of HRC.out
      have hnr : (n : Int) = r.players := by rw [← hn]; exact hia.len
      have z1 : IntKind.i64.wrap ((i : Int) + 1) = (i : Int) + 1 := wrap_small _ (by omega) (by omega)
      have x1 : i < E := by have := HE.out; omega
      have x2 : (i : Int) + 1 < (E : Int) := by have := HE.out; omega
      have x2b : (0 : Int) ≤ (i : Int) + 1 := by omega
      have HRA := Lib.hid hra
      have HRB := Lib.hid hrb
      have HPA := Lib.hid hpa
      have HPB := Lib.hid hpb
      have HINV := Lib.hid (And.intro hia hib)
      have HSTEP := Lib.hid hstep
      have H7 := Lib.hid (And.intro h7a h7b)
      have HN := Lib.hid (And.intro hn hnb)
      clear hra hrb hpa hpb hia hib hstep h7a h7b hn hnb hm hm2 hai hbi ha hb hi1 hi2 hsto
      go_upto_region 7 with fail
      refine wp_region_seqV 13 ((fun v => v = .slice (some ⟨sb, so, none⟩) E sc) :: (fun v => v = .int .i64 i) :: (fun v => v = .pointer (some ⟨sb, so + i * 5, none⟩)) :: (fun v => v = .agg #[.int .i64 a.round, .int .i64 a.player, .int .i64 a.darts, .slice pa n pc, .slice wa m wc]) :: (fun v => v = .slice (some ⟨sb, so, none⟩) E sc) :: (fun v => v = .int .i64 i) :: (fun v => v = .int .i64 ((i : Int) + 1)) :: (fun v => v = .pointer (some ⟨sb, so + (i + 1) * 5, none⟩)) :: (fun v => v = .agg #[.int .i64 b.round, .int .i64 b.player, .int .i64 b.darts, .slice pb n pd, .slice wb m2 wd]) :: (fun v => ∃ q, v = .pointer (some ⟨q, 0, none⟩)) :: (fun v => ∃ q, v = .pointer (some ⟨q, 0, none⟩)) :: (fun _ => True) :: (fun _ => True) :: []) (JBox2 wo 9 10 11 12 34 34 #[.int .i64 0, .int .i64 0, .int .i64 0, .slice none 0 0, .slice none 0 0] #[.int .i64 a.round, .int .i64 a.player, .int .i64 a.darts, .slice pa n pc, .slice wa m wc] #[.int .i64 0, .int .i64 0, .int .i64 0, .slice none 0 0, .slice none 0 0] #[.int .i64 b.round, .int .i64 b.player, .int .i64 b.darts, .slice pb n pd, .slice wb m2 wd]) rfl mix (by kernel_rfl) (by kernel_rfl) (fun _ _ _ _ hc h => h.congr hc) (fun _ => .start) ?_
      simp only [List.take_succ_cons, List.take_zero]
      iterate 2
        refine sv_rd rfl (fun _ _ _ h => h.read (by simp) (by simp) (by simp) (by simp)) (fun u1 L1 vs1 hvs1 hL1 hJ1 => ?_) ?_
        · simp [opOK, go_sem]
        simp only [Act.put, List.setIfInBounds_toArray, List.set_cons_succ, List.set_cons_zero, List.nil_append, List.cons_append]
      refine sv_rd rfl (fun _ _ _ h => h.read (by simp) (by simp) (by simp) (by simp)) (fun u1 L1 vs1 hvs1 hL1 hJ1 => ?_) ?_
      · simp [opOK, go_sem, x1]
      simp only [Act.put, List.setIfInBounds_toArray, List.set_cons_succ, List.set_cons_zero, List.nil_append, List.cons_append]
      refine sv_rd rfl (fun _ _ _ h => h.read (by simp) (by simp) (by simp) (by simp)) (fun u1 L1 vs1 hvs1 hL1 hJ1 => ?_) ?_
      · exact opOK_load_agg 34 (.tmp 38) rfl sb (so + i * 5) #[.int .i64 a.round, .int .i64 a.player, .int .i64 a.darts, .slice pa n pc, .slice wa m wc].toList (by simp [Act.eval]) (fun j x hx => bAt hJ1.below (HRA.out j x hx)) _ Try.underlying34 rfl (by kernel_rfl) ⟨rfl, rfl⟩
      simp only [Act.put, List.setIfInBounds_toArray, List.set_cons_succ, List.set_cons_zero, List.nil_append, List.cons_append]
      iterate 2
        refine sv_rd rfl (fun _ _ _ h => h.read (by simp) (by simp) (by simp) (by simp)) (fun u1 L1 vs1 hvs1 hL1 hJ1 => ?_) ?_
        · simp [opOK, go_sem]
        simp only [Act.put, List.setIfInBounds_toArray, List.set_cons_succ, List.set_cons_zero, List.nil_append, List.cons_append]
      refine sv_rd rfl (fun _ _ _ h => h.read (by simp) (by simp) (by simp) (by simp)) (fun u1 L1 vs1 hvs1 hL1 hJ1 => ?_) ?_
      · simp [opOK, go_sem, z1]
      simp only [Act.put, List.setIfInBounds_toArray, List.set_cons_succ, List.set_cons_zero, List.nil_append, List.cons_append]
      refine sv_rd rfl (fun _ _ _ h => h.read (by simp) (by simp) (by simp) (by simp)) (fun u1 L1 vs1 hvs1 hL1 hJ1 => ?_) ?_
      · simp [opOK, go_sem, x2, x2b]
      simp only [Act.put, List.setIfInBounds_toArray, List.set_cons_succ, List.set_cons_zero, List.nil_append, List.cons_append]
      refine sv_rd rfl (fun _ _ _ h => h.read (by simp) (by simp) (by simp) (by simp)) (fun u1 L1 vs1 hvs1 hL1 hJ1 => ?_) ?_
      · exact opOK_load_agg 34 (.tmp 43) rfl sb (so + (i + 1) * 5) #[.int .i64 b.round, .int .i64 b.player, .int .i64 b.darts, .slice pb n pd, .slice wb m2 wd].toList (by simp [Act.eval]) (fun j x hx => bAt hJ1.below (HRB.out j x hx)) _ Try.underlying34 rfl (by kernel_rfl) ⟨rfl, rfl⟩
      simp only [Act.put, List.setIfInBounds_toArray, List.set_cons_succ, List.set_cons_zero, List.nil_append, List.cons_append]
      refine sv_new ⟨_, 0, rfl⟩ rfl (fun u1 L1 vs1 hvs1 hL1 hJ1 hd => ?_) ?_
      · exact opOK_val (v := .pointer (some ⟨u1.heap.size, 0, none⟩)) (w' := u1.alloc (.cells #[.int .i64 0, .int .i64 0, .int .i64 0, .slice none 0 0, .slice none 0 0] 34)) (by kernel_rfl) ⟨⟨_, rfl⟩, hJ1.mkA hL1 (by decide) (by decide) (by decide)⟩
      rintro _ ⟨qa, rfl⟩
      simp only [Act.put, List.setIfInBounds_toArray, List.set_cons_succ, List.set_cons_zero, List.nil_append, List.cons_append]
      refine sv_new ⟨_, 0, rfl⟩ rfl (fun u1 L1 vs1 hvs1 hL1 hJ1 hd => ?_) ?_
      · exact opOK_val (v := .pointer (some ⟨u1.heap.size, 0, none⟩)) (w' := u1.alloc (.cells #[.int .i64 0, .int .i64 0, .int .i64 0, .slice none 0 0, .slice none 0 0] 34)) (by kernel_rfl) ⟨⟨_, rfl⟩, hJ1.mkB hL1 (by decide) (by decide) (by decide)⟩
      rintro _ ⟨qb, rfl⟩
      simp only [Act.put, List.setIfInBounds_toArray, List.set_cons_succ, List.set_cons_zero, List.nil_append, List.cons_append]
      refine sv_new ⟨undef, trivial⟩ rfl (fun u1 L1 vs1 hvs1 hL1 hJ1 hd => ?_) ?_
      · have hl := hd ⟨9, .data⟩ (by simp) rfl
        obtain ⟨pq, e1, e2, e3⟩ := hJ1.a hl
        rw [hvs1 9 _ rfl] at e1
        cases e1
        exact opOK_store_row 34 (.tmp 10) (.tmp 39) rfl qa #[.int .i64 a.round, .int .i64 a.player, .int .i64 a.darts, .slice pa n pc, .slice wa m wc] (by simp [Act.eval]) (by simp [Act.eval, plrV]) 34 _ e3 (by kernel_rfl) (by split <;> rfl) (by simp [Value.oneCell']) ⟨trivial, hJ1.stA hl (hvs1 9 _ rfl) (by decide) (by decide) (by decide)⟩
      rintro _ -
      simp only [Act.put, List.setIfInBounds_toArray, List.set_cons_succ, List.set_cons_zero, List.nil_append, List.cons_append]
      refine sv_new ⟨undef, trivial⟩ rfl (fun u1 L1 vs1 hvs1 hL1 hJ1 hd => ?_) ?_
      · have hl := hd ⟨10, .data⟩ (by simp) rfl
        obtain ⟨pq, e1, e2, e3⟩ := hJ1.b hl
        rw [hvs1 10 _ rfl] at e1
        cases e1
        exact opOK_store_row 34 (.tmp 11) (.tmp 44) rfl qb #[.int .i64 b.round, .int .i64 b.player, .int .i64 b.darts, .slice pb n pd, .slice wb m2 wd] (by simp [Act.eval]) (by simp [Act.eval, plrV]) 34 _ e3 (by kernel_rfl) (by split <;> rfl) (by simp [Value.oneCell']) ⟨trivial, hJ1.stB hl (hvs1 10 _ rfl) (by decide) (by decide) (by decide)⟩
      rintro _ -
      simp only [Act.put, List.setIfInBounds_toArray, List.set_cons_succ, List.set_cons_zero, List.nil_append, List.cons_append]
      refine sv_end fun vs7 w7 hvs7 hJ7 => ?_
      simp only [List.drop_succ_cons, List.drop_zero]
      obtain ⟨qa', ea, la, ka⟩ := hJ7.a (by decide)
      obtain ⟨qb', eb, lb, kb⟩ := hJ7.b (by decide)
      rw [hvs7 9 _ rfl] at ea
      rw [hvs7 10 _ rfl] at eb
      cases ea
      cases eb
      rw [if_pos (by decide)] at ka kb
      have HA7' := Lib.hid ka
      have HB7' := Lib.hid kb
      have HPA7 := Lib.hid (HPA.out.below hJ7.below)
      have HPB7 := Lib.hid (HPB.out.below hJ7.below)
      have HBW7 := Lib.hid (HB.out.trans (hJ7.below.mono HB.out.size))
      have hnn : (n != n) = false := by simp
      clear hJ7 hvs7 la lb ka kb
      have t3 : w7.cell? ⟨qa, 3, none⟩ = some (.slice pa n pc) := by rw [cell_of_heap HA7'.out]; rfl
      have t4 : w7.cell? ⟨qb, 3, none⟩ = some (.slice pb n pd) := by rw [cell_of_heap HB7'.out]; rfl
      go_wp2_with fail
      clear t3 t4
      go_loopw [12] (fun kv wr => ∃ k : Nat, k ≤ n ∧ kv = .int .i64 k ∧ Hid (Below w7.heap.size w7 wr)) (fun kv _ => n - (intOf kv).toNat)
      case atStart => exact ⟨0, by omega, by go_num, Lib.hid (Below.refl _ _)⟩
      case round =>
        obtain ⟨k, hk, rfl, HBi⟩ := hrel
        obtain ⟨wi, rfl⟩ : ∃ wi : World, wi = wr := ⟨_, rfl⟩
        have ka := (HBi.out.block _ (Array.getElem?_eq_some_iff.1 HA7'.out).1).trans HA7'.out
        have kb := (HBi.out.block _ (Array.getElem?_eq_some_iff.1 HB7'.out).1).trans HB7'.out
        have a3 : wi.cell? ⟨qa, 3, none⟩ = some (.slice pa n pc) := by rw [cell_of_heap ka]; rfl
        have b3 : wi.cell? ⟨qb, 3, none⟩ = some (.slice pb n pd) := by rw [cell_of_heap kb]; rfl
        have KA := Lib.hid ka
        have KB := Lib.hid kb
        clear ka kb
        by_cases hkn : k < n
        · have d2 : decide ((k : Int) < (n : Int)) = true := decide_eq_true (by omega)
          have d2n : decide (k < n) = true := decide_eq_true hkn
          have ha9 : k < a.pls.length := by rw [HN.out.1]; exact hkn
          have hb9 : k < b.pls.length := by rw [HN.out.2]; exact hkn
          obtain ⟨ab, ao, rfl, hca⟩ := slN_cell9 (HPA7.out.below HBi.out) ha9
          obtain ⟨bb, bo, rfl, hcb⟩ := slN_cell9 (HPB7.out.below HBi.out) hb9
          rw [plr_at ha9] at hca
          rw [plr_at hb9] at hcb
          have HCA := Lib.hid hca
          have HCB := Lib.hid hcb
          have HA7 := Lib.hid (by have := H7.out.1 _ (List.getElem_mem ha9); rw [plr_at ha9] at this; exact this : (plr a k).mks.length = 7)
          have HB7 := Lib.hid (by have := H7.out.2 _ (List.getElem_mem hb9); rw [plr_at hb9] at this; exact this : (plr b k).mks.length = 7)
          have HSO := Lib.hid (HSTEP.out k ha9)
          have x3 : k < n := hkn
          clear hca hcb
          go_upto_region 13 with fail
          refine wp_region_seqV 14 ((fun v => v = .pointer (some ⟨qa, 3, none⟩)) :: (fun v => v = .slice (some ⟨ab, ao, none⟩) n pc) :: (fun v => v = .int .i64 k) :: (fun v => v = .pointer (some ⟨ab, ao + k * 9, none⟩)) :: (fun v => v = plrV (plr a k)) :: (fun v => v = .pointer (some ⟨qb, 3, none⟩)) :: (fun v => v = .slice (some ⟨bb, bo, none⟩) n pd) :: (fun v => v = .int .i64 k) :: (fun v => v = .pointer (some ⟨bb, bo + k * 9, none⟩)) :: (fun v => v = plrV (plr b k)) :: (fun v => ∃ q, v = .pointer (some ⟨q, 0, none⟩)) :: (fun v => ∃ q, v = .pointer (some ⟨q, 0, none⟩)) :: (fun _ => True) :: (fun _ => True) :: []) (JBox2 wi 10 11 12 13 62 62 #[.int .i64 0, .int .i64 0, .int .i64 0, .int .i64 0, .int .i64 0, .int .i64 0, .int .i64 0, .int .i64 0, .bool false] (plrRow (plr a k)).toArray #[.int .i64 0, .int .i64 0, .int .i64 0, .int .i64 0, .int .i64 0, .int .i64 0, .int .i64 0, .int .i64 0, .bool false] (plrRow (plr b k)).toArray) rfl mix (by kernel_rfl) (by kernel_rfl) (fun _ _ _ _ hc h => h.congr hc) (fun _ => .start) ?_
          simp only [List.take_succ_cons, List.take_zero]
          iterate 4
            refine sv_rd rfl (fun _ _ _ h => h.read (by simp) (by simp) (by simp) (by simp)) (fun u1 L1 vs1 hvs1 hL1 hJ1 => ?_) ?_
            · have y1 := bAt hJ1.below a3
              have y2 := bAt hJ1.below b3
              simp [opOK, go_sem, y1, y2, x3]
            simp only [Act.put, List.setIfInBounds_toArray, List.set_cons_succ, List.set_cons_zero, List.nil_append, List.cons_append]
          refine sv_rd rfl (fun _ _ _ h => h.read (by simp) (by simp) (by simp) (by simp)) (fun u1 L1 vs1 hvs1 hL1 hJ1 => ?_) ?_
          · exact opOK_load_plr9 (.tmp 62) rfl ab (ao + k * 9) (plr a k) HA7.out (by simp [Act.eval]) (fun j y hy => bAt hJ1.below (HCA.out j y hy)) ⟨rfl, rfl⟩
          simp only [Act.put, List.setIfInBounds_toArray, List.set_cons_succ, List.set_cons_zero, List.nil_append, List.cons_append]
          iterate 4
            refine sv_rd rfl (fun _ _ _ h => h.read (by simp) (by simp) (by simp) (by simp)) (fun u1 L1 vs1 hvs1 hL1 hJ1 => ?_) ?_
            · have y1 := bAt hJ1.below a3
              have y2 := bAt hJ1.below b3
              simp [opOK, go_sem, y1, y2, x3]
            simp only [Act.put, List.setIfInBounds_toArray, List.set_cons_succ, List.set_cons_zero, List.nil_append, List.cons_append]
          refine sv_rd rfl (fun _ _ _ h => h.read (by simp) (by simp) (by simp) (by simp)) (fun u1 L1 vs1 hvs1 hL1 hJ1 => ?_) ?_
          · exact opOK_load_plr9 (.tmp 67) rfl bb (bo + k * 9) (plr b k) HB7.out (by simp [Act.eval]) (fun j y hy => bAt hJ1.below (HCB.out j y hy)) ⟨rfl, rfl⟩
          simp only [Act.put, List.setIfInBounds_toArray, List.set_cons_succ, List.set_cons_zero, List.nil_append, List.cons_append]
          refine sv_new ⟨_, 0, rfl⟩ rfl (fun u1 L1 vs1 hvs1 hL1 hJ1 hd => ?_) ?_
          · exact opOK_val (v := .pointer (some ⟨u1.heap.size, 0, none⟩)) (w' := u1.alloc (.cells #[.int .i64 0, .int .i64 0, .int .i64 0, .int .i64 0, .int .i64 0, .int .i64 0, .int .i64 0, .int .i64 0, .bool false] 62)) (by kernel_rfl) ⟨⟨_, rfl⟩, hJ1.mkA hL1 (by decide) (by decide) (by decide)⟩
          rintro _ ⟨xa, rfl⟩
          simp only [Act.put, List.setIfInBounds_toArray, List.set_cons_succ, List.set_cons_zero, List.nil_append, List.cons_append]
          refine sv_new ⟨_, 0, rfl⟩ rfl (fun u1 L1 vs1 hvs1 hL1 hJ1 hd => ?_) ?_
          · exact opOK_val (v := .pointer (some ⟨u1.heap.size, 0, none⟩)) (w' := u1.alloc (.cells #[.int .i64 0, .int .i64 0, .int .i64 0, .int .i64 0, .int .i64 0, .int .i64 0, .int .i64 0, .int .i64 0, .bool false] 62)) (by kernel_rfl) ⟨⟨_, rfl⟩, hJ1.mkB hL1 (by decide) (by decide) (by decide)⟩
          rintro _ ⟨xb, rfl⟩
          simp only [Act.put, List.setIfInBounds_toArray, List.set_cons_succ, List.set_cons_zero, List.nil_append, List.cons_append]
          refine sv_new ⟨undef, trivial⟩ rfl (fun u1 L1 vs1 hvs1 hL1 hJ1 hd => ?_) ?_
          · have hl := hd ⟨10, .data⟩ (by simp) rfl
            obtain ⟨pq, e1, e2, e3⟩ := hJ1.a hl
            rw [hvs1 10 _ rfl] at e1
            cases e1
            exact opOK_store_row 62 (.tmp 13) (.tmp 63) rfl xa (plrRow (plr a k)).toArray (by simp [Act.eval]) (by simp [Act.eval, plrV]) 62 _ e3 (by rw [plrRow_size HA7.out]; exact size_plr) (by rw [plrRow_size HA7.out]; split <;> first | exact plrRow_size HA7.out | rfl) (plrRow_one (plr a k)) ⟨trivial, hJ1.stA hl (hvs1 10 _ rfl) (by decide) (by decide) (by decide)⟩
          rintro _ -
          simp only [Act.put, List.setIfInBounds_toArray, List.set_cons_succ, List.set_cons_zero, List.nil_append, List.cons_append]
          refine sv_new ⟨undef, trivial⟩ rfl (fun u1 L1 vs1 hvs1 hL1 hJ1 hd => ?_) ?_
          · have hl := hd ⟨11, .data⟩ (by simp) rfl
            obtain ⟨pq, e1, e2, e3⟩ := hJ1.b hl
            rw [hvs1 11 _ rfl] at e1
            cases e1
            exact opOK_store_row 62 (.tmp 14) (.tmp 68) rfl xb (plrRow (plr b k)).toArray (by simp [Act.eval]) (by simp [Act.eval, plrV]) 62 _ e3 (by rw [plrRow_size HB7.out]; exact size_plr) (by rw [plrRow_size HB7.out]; split <;> first | exact plrRow_size HB7.out | rfl) (plrRow_one (plr b k)) ⟨trivial, hJ1.stB hl (hvs1 11 _ rfl) (by decide) (by decide) (by decide)⟩
          rintro _ -
          simp only [Act.put, List.setIfInBounds_toArray, List.set_cons_succ, List.set_cons_zero, List.nil_append, List.cons_append]
          refine sv_end fun vs8 w8 hvs8 hJ8 => ?_
          simp only [List.drop_succ_cons, List.drop_zero]
          obtain ⟨xa', ea, la, kxa⟩ := hJ8.a (by decide)
          obtain ⟨xb', eb, lb, kxb⟩ := hJ8.b (by decide)
          rw [hvs8 10 _ rfl] at ea
          rw [hvs8 11 _ rfl] at eb
          cases ea
          cases eb
          rw [if_pos (by decide)] at kxa kxb
          have kx : ∀ j, w8.cell? ⟨xa, j, none⟩ = (plrRow (plr a k)).toArray[j]? := fun j => cell_of_heap (o := j) kxa
          have ky : ∀ j, w8.cell? ⟨xb, j, none⟩ = (plrRow (plr b k)).toArray[j]? := fun j => cell_of_heap (o := j) kxb
          have HB8 := Lib.hid (HBi.out.trans (hJ8.below.mono HBi.out.size))
          have hka := (hJ8.below.block _ (Array.getElem?_eq_some_iff.1 KA.out).1).trans KA.out
          have hw8 : Below w2.heap.size w2 w8 := HBW7.out.trans (HB8.out.mono HBW7.out.size)
          have hkr := (hw8.block _ (Array.getElem?_eq_some_iff.1 KR.out).1).trans KR.out
          have r0 : w8.cell? ⟨b5, 0, none⟩ = some (.int .i64 r.kind) := by rw [cell_of_heap hkr]; rfl
          have r6 : w8.cell? ⟨b5, 6, none⟩ = some (.bool r.cut) := by rw [cell_of_heap hkr]; rfl
          have a1 : w8.cell? ⟨qa, 1, none⟩ = some (.int .i64 a.player) := by rw [cell_of_heap hka]; rfl
          have hso := HSO.out
          have hpa := (HINV.out.1.each _ (plr_mem ha9)).1
          have hpb := (HINV.out.2.each _ (plr_mem hb9)).1
          have hbx := (HINV.out.1.each _ (plr_mem ha9)).2
          have hby := (HINV.out.2.each _ (plr_mem hb9)).2
          have hA7 := HA7.out
          have hB7 := HB7.out
          obtain ⟨x, hx⟩ : ∃ x, plr a k = x := ⟨_, rfl⟩
          obtain ⟨y, hy⟩ : ∃ y, plr b k = y := ⟨_, rfl⟩
          rw [hx] at kx hso hpa hbx hA7
          rw [hy] at ky hso hpb hby hB7
          clear hJ8 hvs8 la lb kxa kxb hka hw8 hkr HCA HCB HA7 HB7 HSO hx hy KA KB a3 b3
          obtain ⟨P, xm, K1⟩ := x
          obtain ⟨Q, ym, K2⟩ := y
          obtain ⟨m0, m1, m2, m3, m4, m5, m6, rfl⟩ := list_seven hA7
          obtain ⟨n0, n1, n2, n3, n4, n5, n6, rfl⟩ := list_seven hB7
          have hmb : ∀ j : Nat, j < 7 → ([m0, m1, m2, m3, m4, m5, m6] : List Int).getD j 0 ≤ ([n0, n1, n2, n3, n4, n5, n6] : List Int).getD j 0 ∧ ([n0, n1, n2, n3, n4, n5, n6] : List Int).getD j 0 ≤ 3 := fun j hj => hso.marks j hj
          have hmx : ∀ j : Nat, j < 7 → w8.cell? ⟨xa, 1 + j, none⟩ = some (.int .i64 (([m0, m1, m2, m3, m4, m5, m6] : List Int).getD j 0)) := fun j hj => by
            rw [kx]
            rcases (show j = 0 ∨ j = 1 ∨ j = 2 ∨ j = 3 ∨ j = 4 ∨ j = 5 ∨ j = 6 by omega) with rfl | rfl | rfl | rfl | rfl | rfl | rfl <;> rfl
          have hmy : ∀ j : Nat, j < 7 → w8.cell? ⟨xb, 1 + j, none⟩ = some (.int .i64 (([n0, n1, n2, n3, n4, n5, n6] : List Int).getD j 0)) := fun j hj => by
            rw [ky]
            rcases (show j = 0 ∨ j = 1 ∨ j = 2 ∨ j = 3 ∨ j = 4 ∨ j = 5 ∨ j = 6 by omega) with rfl | rfl | rfl | rfl | rfl | rfl | rfl <;> rfl
          have HMB := Lib.hid hmb
          have HMX := Lib.hid hmx
          have HMY := Lib.hid hmy
          clear hmb hmx hmy
          have p0 := kx 0
          have q0 := ky 0
          have p1 := kx 1
          have q1 := ky 1
          have p2 := kx 2
          have q2 := ky 2
          have p3 := kx 3
          have q3 := ky 3
          have p4 := kx 4
          have q4 := ky 4
          have p5 := kx 5
          have q5 := ky 5
          have p6 := kx 6
          have q6 := ky 6
          have p7 := kx 7
          have q7 := ky 7
          have p8 := kx 8
          have q8 := ky 8
          simp only [plrRow, List.map_cons, List.map_nil, List.cons_append, List.nil_append, List.getElem?_toArray, List.getElem?_cons_zero, List.getElem?_cons_succ] at p0 p1 p2 p3 p4 p5 p6 p7 p8 q0 q1 q2 q3 q4 q5 q6 q7 q8
          have hP0 : 0 ≤ P ∧ P ≤ 9 + 100 * (i : Nat) := ⟨hpa.nn, hbx⟩
          have zP : IntKind.i64.wrap (P - 1) = P - 1 := wrap_small _ (by omega) (by omega)
          clear kx ky hA7 hB7
          have key : (r.kind = 4 ∧ Q ≤ P ∧ P - 1 ≤ Q ∧ 0 ≤ Q ∨ r.kind ≠ 4 ∧ P ≤ Q ∧ K1 = false ∧ K2 = false) := by
            by_cases k4 : r.kind = 4
            · exact .inl ⟨k4, hso.lives k4⟩
            · exact .inr ⟨k4, hso.more k4, hpa.kn k4, hpb.kn k4⟩
          have hkill := hso.kill
          have hoth := hso.other
          dsimp only at hkill hoth
          clear hpa hpb hbx hby hso
          rcases key with ⟨k4, l1, l2, l3⟩ | ⟨k4, l1, rfl, rfl⟩
          · have e4 : (r.kind == 4) = true := by rw [k4]; rfl
            have e4n : (r.kind != 4) = false := by rw [k4]; rfl
            have u1 : decide (P < Q) = false := decide_eq_false (by omega)
            have u2 : decide (Q < P - 1) = false := decide_eq_false (by omega)
            have u3 : decide (Q < 0) = false := decide_eq_false (by omega)
            clear k4
            by_cases hkp : k = a.player
            · have f1 : ((k : Int) != (a.player : Int)) = false := by simp; omega
              have f1n : (k != a.player) = false := by simp; omega
              clear hoth hkp
              cases K1
              · go_wp2_with fail
                clear p0 p1 p2 p3 p4 p5 p6 p7 p8 q0 q1 q2 q3 q4 q5 q6 q7 q8 r0 r6 a1
                go_loopw [15] (fun jv wr => ∃ j : Nat, j ≤ 7 ∧ jv = .int .i64 j ∧ Hid (Below w8.heap.size w8 wr)) (fun jv _ => 7 - (intOf jv).toNat)
                case atStart => exact ⟨0, by omega, by go_num, Lib.hid (Below.refl _ _)⟩
                case round =>
                  obtain ⟨j, hj, rfl, HBj⟩ := hrel
                  obtain ⟨wj, rfl⟩ : ∃ wj : World, wj = wr := ⟨_, rfl⟩
                  by_cases hj7 : j < 7
                  · have d3 : decide ((j : Int) < 7) = true := decide_eq_true (by omega)
                    have d3n : decide (j < 7) = true := decide_eq_true hj7
                    have hj7i : (j : Int) < 7 := by omega
                    have cx := bAt HBj.out (HMX.out j hj7)
                    have cy := bAt HBj.out (HMY.out j hj7)
                    have hb := HMB.out j hj7
                    generalize List.getD [m0, m1, m2, m3, m4, m5, m6] j 0 = mx at cx hb
                    generalize List.getD [n0, n1, n2, n3, n4, n5, n6] j 0 = my at cy hb
                    have v1 : decide (my < mx) = false := decide_eq_false (by omega)
                    have v2 : decide (3 < my) = false := decide_eq_false (by omega)
                    go_wp2_with fail
                    refine wp_region_seq 16 [.is (.int .i64 j), .is (.pointer (some ⟨xb, 1, none⟩)), .is (.pointer (some ⟨xb, 1 + j, none⟩)), .is (.int .i64 my), .is (.int .i64 j), .is (.pointer (some ⟨xa, 1, none⟩)), .is (.pointer (some ⟨xa, 1 + j, none⟩)), .is (.int .i64 mx), .is (.bool false), .is (.bool false), .is (.int .i64 j), .is (.pointer (some ⟨xb, 1, none⟩)), .is (.pointer (some ⟨xb, 1 + j, none⟩)), .is (.int .i64 my), .is (.bool false), .is (.bool false)] rfl mix (by kernel_rfl) (by kernel_rfl) ?seqm
                    case seqm =>
                      simp only [List.take_succ_cons, List.take_zero]
                      iterate 16
                        refine seq_on (by rfl) (fun w3 hb3 _ => ?_) ?_
                        · have y1 := bAt hb3 cx
                          have y2 := bAt hb3 cy
                          simp [opOK, go_sem, y1, y2, hj7i, hj7, v1, v2, Below.refl]
                          try exact rfl
                        simp only [Act.put, List.setIfInBounds_toArray, List.set_cons_succ, List.set_cons_zero]
                      refine seq_end fun w9 hb9 _ => ?_
                      simp only [List.drop_succ_cons, List.drop_zero]
                      have HB9 := Lib.hid (HBj.out.trans (hb9.mono HBj.out.size))
                      clear hb9 cx cy
                      go_wp2
                      go_roundw
                      case rel => exact ⟨j + 1, by omega, by go_num, HB9⟩
                      case measure => simp [intOf]; omega
                  · obtain rfl : j = 7 := by omega
                    have HB9 := Lib.hid (HB8.out.trans (HBj.out.mono HB8.out.size))
                    go_wp2
                    go_roundw
                    case rel => first | exact ⟨k + 1, by omega, by go_num, HB9⟩ | ((repeat apply Exists.intro); exact ⟨⟨k + 1, by omega, by go_num, HB9⟩, rfl⟩)
                    case measure => simp [intOf]; omega
              · obtain rfl : K2 = true := hkill rfl
                go_wp2_with fail
                clear p0 p1 p2 p3 p4 p5 p6 p7 p8 q0 q1 q2 q3 q4 q5 q6 q7 q8 r0 r6 a1
                go_loopw [15] (fun jv wr => ∃ j : Nat, j ≤ 7 ∧ jv = .int .i64 j ∧ Hid (Below w8.heap.size w8 wr)) (fun jv _ => 7 - (intOf jv).toNat)
                case atStart => exact ⟨0, by omega, by go_num, Lib.hid (Below.refl _ _)⟩
                case round =>
                  obtain ⟨j, hj, rfl, HBj⟩ := hrel
                  obtain ⟨wj, rfl⟩ : ∃ wj : World, wj = wr := ⟨_, rfl⟩
                  by_cases hj7 : j < 7
                  · have d3 : decide ((j : Int) < 7) = true := decide_eq_true (by omega)
                    have d3n : decide (j < 7) = true := decide_eq_true hj7
                    have hj7i : (j : Int) < 7 := by omega
                    have cx := bAt HBj.out (HMX.out j hj7)
                    have cy := bAt HBj.out (HMY.out j hj7)
                    have hb := HMB.out j hj7
                    generalize List.getD [m0, m1, m2, m3, m4, m5, m6] j 0 = mx at cx hb
                    generalize List.getD [n0, n1, n2, n3, n4, n5, n6] j 0 = my at cy hb
                    have v1 : decide (my < mx) = false := decide_eq_false (by omega)
                    have v2 : decide (3 < my) = false := decide_eq_false (by omega)
                    go_wp2_with fail
                    refine wp_region_seq 16 [.is (.int .i64 j), .is (.pointer (some ⟨xb, 1, none⟩)), .is (.pointer (some ⟨xb, 1 + j, none⟩)), .is (.int .i64 my), .is (.int .i64 j), .is (.pointer (some ⟨xa, 1, none⟩)), .is (.pointer (some ⟨xa, 1 + j, none⟩)), .is (.int .i64 mx), .is (.bool false), .is (.bool false), .is (.int .i64 j), .is (.pointer (some ⟨xb, 1, none⟩)), .is (.pointer (some ⟨xb, 1 + j, none⟩)), .is (.int .i64 my), .is (.bool false), .is (.bool false)] rfl mix (by kernel_rfl) (by kernel_rfl) ?seqm
                    case seqm =>
                      simp only [List.take_succ_cons, List.take_zero]
                      iterate 16
                        refine seq_on (by rfl) (fun w3 hb3 _ => ?_) ?_
                        · have y1 := bAt hb3 cx
                          have y2 := bAt hb3 cy
                          simp [opOK, go_sem, y1, y2, hj7i, hj7, v1, v2, Below.refl]
                          try exact rfl
                        simp only [Act.put, List.setIfInBounds_toArray, List.set_cons_succ, List.set_cons_zero]
                      refine seq_end fun w9 hb9 _ => ?_
                      simp only [List.drop_succ_cons, List.drop_zero]
                      have HB9 := Lib.hid (HBj.out.trans (hb9.mono HBj.out.size))
                      clear hb9 cx cy
                      go_wp2
                      go_roundw
                      case rel => exact ⟨j + 1, by omega, by go_num, HB9⟩
                      case measure => simp [intOf]; omega
                  · obtain rfl : j = 7 := by omega
                    have HB9 := Lib.hid (HB8.out.trans (HBj.out.mono HB8.out.size))
                    go_wp2
                    go_roundw
                    case rel => first | exact ⟨k + 1, by omega, by go_num, HB9⟩ | ((repeat apply Exists.intro); exact ⟨⟨k + 1, by omega, by go_num, HB9⟩, rfl⟩)
                    case measure => simp [intOf]; omega
            · have f1 : ((k : Int) != (a.player : Int)) = true := by simp; omega
              have f1n : (k != a.player) = true := by simp; omega
              obtain ⟨o1, o2, o3⟩ := hoth hkp
              simp only [List.cons.injEq, and_true] at o1
              obtain ⟨rfl, rfl, rfl, rfl, rfl, rfl, rfl⟩ := o1
              subst o2
              clear o3 hkill hkp
              cases K2
              all_goals
                go_wp2_with fail
                rw [eq7]
                simp only [Result.andThen_ok, Bool.not_true]
                go_wp2_with fail
                clear p0 p1 p2 p3 p4 p5 p6 p7 p8 q0 q1 q2 q3 q4 q5 q6 q7 q8 r0 r6 a1
                go_loopw [15] (fun jv wr => ∃ j : Nat, j ≤ 7 ∧ jv = .int .i64 j ∧ Hid (Below w8.heap.size w8 wr)) (fun jv _ => 7 - (intOf jv).toNat)
                case atStart => exact ⟨0, by omega, by go_num, Lib.hid (Below.refl _ _)⟩
                case round =>
                  obtain ⟨j, hj, rfl, HBj⟩ := hrel
                  obtain ⟨wj, rfl⟩ : ∃ wj : World, wj = wr := ⟨_, rfl⟩
                  by_cases hj7 : j < 7
                  · have d3 : decide ((j : Int) < 7) = true := decide_eq_true (by omega)
                    have d3n : decide (j < 7) = true := decide_eq_true hj7
                    have hj7i : (j : Int) < 7 := by omega
                    have cx := bAt HBj.out (HMX.out j hj7)
                    have cy := bAt HBj.out (HMY.out j hj7)
                    have hb := HMB.out j hj7
                    generalize List.getD [n0, n1, n2, n3, n4, n5, n6] j 0 = mx at cx cy hb
                    have v1 : decide (mx < mx) = false := decide_eq_false (by omega)
                    have v2 : decide (3 < mx) = false := decide_eq_false (by omega)
                    go_wp2_with fail
                    refine wp_region_seq 16 [.is (.int .i64 j), .is (.pointer (some ⟨xb, 1, none⟩)), .is (.pointer (some ⟨xb, 1 + j, none⟩)), .is (.int .i64 mx), .is (.int .i64 j), .is (.pointer (some ⟨xa, 1, none⟩)), .is (.pointer (some ⟨xa, 1 + j, none⟩)), .is (.int .i64 mx), .is (.bool false), .is (.bool false), .is (.int .i64 j), .is (.pointer (some ⟨xb, 1, none⟩)), .is (.pointer (some ⟨xb, 1 + j, none⟩)), .is (.int .i64 mx), .is (.bool false), .is (.bool false)] rfl mix (by kernel_rfl) (by kernel_rfl) ?seqm
                    case seqm =>
                      simp only [List.take_succ_cons, List.take_zero]
                      iterate 16
                        refine seq_on (by rfl) (fun w3 hb3 _ => ?_) ?_
                        · have y1 := bAt hb3 cx
                          have y2 := bAt hb3 cy
                          simp [opOK, go_sem, y1, y2, hj7i, hj7, v1, v2, Below.refl]
                          try exact rfl
                        simp only [Act.put, List.setIfInBounds_toArray, List.set_cons_succ, List.set_cons_zero]
                      refine seq_end fun w9 hb9 _ => ?_
                      simp only [List.drop_succ_cons, List.drop_zero]
                      have HB9 := Lib.hid (HBj.out.trans (hb9.mono HBj.out.size))
                      clear hb9 cx cy
                      go_wp2
                      go_roundw
                      case rel => exact ⟨j + 1, by omega, by go_num, HB9⟩
                      case measure => simp [intOf]; omega
                  · obtain rfl : j = 7 := by omega
                    have HB9 := Lib.hid (HB8.out.trans (HBj.out.mono HB8.out.size))
                    go_wp2
                    go_roundw
                    case rel => first | exact ⟨k + 1, by omega, by go_num, HB9⟩ | ((repeat apply Exists.intro); exact ⟨⟨k + 1, by omega, by go_num, HB9⟩, rfl⟩)
                    case measure => simp [intOf]; omega
          · have e4 : (r.kind == 4) = false := by simpa using k4
            have e4n : (r.kind != 4) = true := by simpa using k4
            have u1 : decide (Q < P) = false := decide_eq_false (by omega)
            clear k4
            by_cases hkp : k = a.player
            · have f1 : ((k : Int) != (a.player : Int)) = false := by simp; omega
              have f1n : (k != a.player) = false := by simp; omega
              clear hoth hkp
              go_wp2_with fail
              clear p0 p1 p2 p3 p4 p5 p6 p7 p8 q0 q1 q2 q3 q4 q5 q6 q7 q8 r0 r6 a1
              go_loopw [15] (fun jv wr => ∃ j : Nat, j ≤ 7 ∧ jv = .int .i64 j ∧ Hid (Below w8.heap.size w8 wr)) (fun jv _ => 7 - (intOf jv).toNat)
              case atStart => exact ⟨0, by omega, by go_num, Lib.hid (Below.refl _ _)⟩
              case round =>
                obtain ⟨j, hj, rfl, HBj⟩ := hrel
                obtain ⟨wj, rfl⟩ : ∃ wj : World, wj = wr := ⟨_, rfl⟩
                by_cases hj7 : j < 7
                · have d3 : decide ((j : Int) < 7) = true := decide_eq_true (by omega)
                  have d3n : decide (j < 7) = true := decide_eq_true hj7
                  have hj7i : (j : Int) < 7 := by omega
                  have cx := bAt HBj.out (HMX.out j hj7)
                  have cy := bAt HBj.out (HMY.out j hj7)
                  have hb := HMB.out j hj7
                  generalize List.getD [m0, m1, m2, m3, m4, m5, m6] j 0 = mx at cx hb
                  generalize List.getD [n0, n1, n2, n3, n4, n5, n6] j 0 = my at cy hb
                  have v1 : decide (my < mx) = false := decide_eq_false (by omega)
                  have v2 : decide (3 < my) = false := decide_eq_false (by omega)
                  go_wp2_with fail
                  refine wp_region_seq 16 [.is (.int .i64 j), .is (.pointer (some ⟨xb, 1, none⟩)), .is (.pointer (some ⟨xb, 1 + j, none⟩)), .is (.int .i64 my), .is (.int .i64 j), .is (.pointer (some ⟨xa, 1, none⟩)), .is (.pointer (some ⟨xa, 1 + j, none⟩)), .is (.int .i64 mx), .is (.bool false), .is (.bool false), .is (.int .i64 j), .is (.pointer (some ⟨xb, 1, none⟩)), .is (.pointer (some ⟨xb, 1 + j, none⟩)), .is (.int .i64 my), .is (.bool false), .is (.bool false)] rfl mix (by kernel_rfl) (by kernel_rfl) ?seqm
                  case seqm =>
                    simp only [List.take_succ_cons, List.take_zero]
                    iterate 16
                      refine seq_on (by rfl) (fun w3 hb3 _ => ?_) ?_
                      · have y1 := bAt hb3 cx
                        have y2 := bAt hb3 cy
                        simp [opOK, go_sem, y1, y2, hj7i, hj7, v1, v2, Below.refl]
                        try exact rfl
                      simp only [Act.put, List.setIfInBounds_toArray, List.set_cons_succ, List.set_cons_zero]
                    refine seq_end fun w9 hb9 _ => ?_
                    simp only [List.drop_succ_cons, List.drop_zero]
                    have HB9 := Lib.hid (HBj.out.trans (hb9.mono HBj.out.size))
                    clear hb9 cx cy
                    go_wp2
                    go_roundw
                    case rel => exact ⟨j + 1, by omega, by go_num, HB9⟩
                    case measure => simp [intOf]; omega
                · obtain rfl : j = 7 := by omega
                  have HB9 := Lib.hid (HB8.out.trans (HBj.out.mono HB8.out.size))
                  go_wp2
                  go_roundw
                  case rel => first | exact ⟨k + 1, by omega, by go_num, HB9⟩ | ((repeat apply Exists.intro); exact ⟨⟨k + 1, by omega, by go_num, HB9⟩, rfl⟩)
                  case measure => simp [intOf]; omega
            · have f1 : ((k : Int) != (a.player : Int)) = true := by simp; omega
              have f1n : (k != a.player) = true := by simp; omega
              obtain ⟨o1, -, o3⟩ := hoth hkp
              simp only [List.cons.injEq, and_true] at o1
              obtain ⟨rfl, rfl, rfl, rfl, rfl, rfl, rfl⟩ := o1
              clear hkill hkp
              obtain ⟨b1, hb1⟩ : ∃ b1, decide (P < Q) = b1 := ⟨_, rfl⟩
              cases b1
              · go_wp2_with fail
                rw [eq7]
                simp only [Result.andThen_ok, Bool.not_true]
                go_wp2_with fail
                clear p0 p1 p2 p3 p4 p5 p6 p7 p8 q0 q1 q2 q3 q4 q5 q6 q7 q8 r0 r6 a1
                go_loopw [15] (fun jv wr => ∃ j : Nat, j ≤ 7 ∧ jv = .int .i64 j ∧ Hid (Below w8.heap.size w8 wr)) (fun jv _ => 7 - (intOf jv).toNat)
                case atStart => exact ⟨0, by omega, by go_num, Lib.hid (Below.refl _ _)⟩
                case round =>
                  obtain ⟨j, hj, rfl, HBj⟩ := hrel
                  obtain ⟨wj, rfl⟩ : ∃ wj : World, wj = wr := ⟨_, rfl⟩
                  by_cases hj7 : j < 7
                  · have d3 : decide ((j : Int) < 7) = true := decide_eq_true (by omega)
                    have d3n : decide (j < 7) = true := decide_eq_true hj7
                    have hj7i : (j : Int) < 7 := by omega
                    have cx := bAt HBj.out (HMX.out j hj7)
                    have cy := bAt HBj.out (HMY.out j hj7)
                    have hb := HMB.out j hj7
                    generalize List.getD [n0, n1, n2, n3, n4, n5, n6] j 0 = mx at cx cy hb
                    have v1 : decide (mx < mx) = false := decide_eq_false (by omega)
                    have v2 : decide (3 < mx) = false := decide_eq_false (by omega)
                    go_wp2_with fail
                    refine wp_region_seq 16 [.is (.int .i64 j), .is (.pointer (some ⟨xb, 1, none⟩)), .is (.pointer (some ⟨xb, 1 + j, none⟩)), .is (.int .i64 mx), .is (.int .i64 j), .is (.pointer (some ⟨xa, 1, none⟩)), .is (.pointer (some ⟨xa, 1 + j, none⟩)), .is (.int .i64 mx), .is (.bool false), .is (.bool false), .is (.int .i64 j), .is (.pointer (some ⟨xb, 1, none⟩)), .is (.pointer (some ⟨xb, 1 + j, none⟩)), .is (.int .i64 mx), .is (.bool false), .is (.bool false)] rfl mix (by kernel_rfl) (by kernel_rfl) ?seqm
                    case seqm =>
                      simp only [List.take_succ_cons, List.take_zero]
                      iterate 16
                        refine seq_on (by rfl) (fun w3 hb3 _ => ?_) ?_
                        · have y1 := bAt hb3 cx
                          have y2 := bAt hb3 cy
                          simp [opOK, go_sem, y1, y2, hj7i, hj7, v1, v2, Below.refl]
                          try exact rfl
                        simp only [Act.put, List.setIfInBounds_toArray, List.set_cons_succ, List.set_cons_zero]
                      refine seq_end fun w9 hb9 _ => ?_
                      simp only [List.drop_succ_cons, List.drop_zero]
                      have HB9 := Lib.hid (HBj.out.trans (hb9.mono HBj.out.size))
                      clear hb9 cx cy
                      go_wp2
                      go_roundw
                      case rel => exact ⟨j + 1, by omega, by go_num, HB9⟩
                      case measure => simp [intOf]; omega
                  · obtain rfl : j = 7 := by omega
                    have HB9 := Lib.hid (HB8.out.trans (HBj.out.mono HB8.out.size))
                    go_wp2
                    go_roundw
                    case rel => first | exact ⟨k + 1, by omega, by go_num, HB9⟩ | ((repeat apply Exists.intro); exact ⟨⟨k + 1, by omega, by go_num, HB9⟩, rfl⟩)
                    case measure => simp [intOf]; omega
              · have hcut : r.cut = true := o3 (by simpa using hb1)
                rw [hcut] at r6
                clear hcut o3
                go_wp2_with fail
                rw [eq7]
                simp only [Result.andThen_ok, Bool.not_true]
                go_wp2_with fail
                clear p0 p1 p2 p3 p4 p5 p6 p7 p8 q0 q1 q2 q3 q4 q5 q6 q7 q8 r0 r6 a1
                go_loopw [15] (fun jv wr => ∃ j : Nat, j ≤ 7 ∧ jv = .int .i64 j ∧ Hid (Below w8.heap.size w8 wr)) (fun jv _ => 7 - (intOf jv).toNat)
                case atStart => exact ⟨0, by omega, by go_num, Lib.hid (Below.refl _ _)⟩
                case round =>
                  obtain ⟨j, hj, rfl, HBj⟩ := hrel
                  obtain ⟨wj, rfl⟩ : ∃ wj : World, wj = wr := ⟨_, rfl⟩
                  by_cases hj7 : j < 7
                  · have d3 : decide ((j : Int) < 7) = true := decide_eq_true (by omega)
                    have d3n : decide (j < 7) = true := decide_eq_true hj7
                    have hj7i : (j : Int) < 7 := by omega
                    have cx := bAt HBj.out (HMX.out j hj7)
                    have cy := bAt HBj.out (HMY.out j hj7)
                    have hb := HMB.out j hj7
                    generalize List.getD [n0, n1, n2, n3, n4, n5, n6] j 0 = mx at cx cy hb
                    have v1 : decide (mx < mx) = false := decide_eq_false (by omega)
                    have v2 : decide (3 < mx) = false := decide_eq_false (by omega)
                    go_wp2_with fail
                    refine wp_region_seq 16 [.is (.int .i64 j), .is (.pointer (some ⟨xb, 1, none⟩)), .is (.pointer (some ⟨xb, 1 + j, none⟩)), .is (.int .i64 mx), .is (.int .i64 j), .is (.pointer (some ⟨xa, 1, none⟩)), .is (.pointer (some ⟨xa, 1 + j, none⟩)), .is (.int .i64 mx), .is (.bool false), .is (.bool false), .is (.int .i64 j), .is (.pointer (some ⟨xb, 1, none⟩)), .is (.pointer (some ⟨xb, 1 + j, none⟩)), .is (.int .i64 mx), .is (.bool false), .is (.bool false)] rfl mix (by kernel_rfl) (by kernel_rfl) ?seqm
                    case seqm =>
                      simp only [List.take_succ_cons, List.take_zero]
                      iterate 16
                        refine seq_on (by rfl) (fun w3 hb3 _ => ?_) ?_
                        · have y1 := bAt hb3 cx
                          have y2 := bAt hb3 cy
                          simp [opOK, go_sem, y1, y2, hj7i, hj7, v1, v2, Below.refl]
                          try exact rfl
                        simp only [Act.put, List.setIfInBounds_toArray, List.set_cons_succ, List.set_cons_zero]
                      refine seq_end fun w9 hb9 _ => ?_
                      simp only [List.drop_succ_cons, List.drop_zero]
                      have HB9 := Lib.hid (HBj.out.trans (hb9.mono HBj.out.size))
                      clear hb9 cx cy
                      go_wp2
                      go_roundw
                      case rel => exact ⟨j + 1, by omega, by go_num, HB9⟩
                      case measure => simp [intOf]; omega
                  · obtain rfl : j = 7 := by omega
                    have HB9 := Lib.hid (HB8.out.trans (HBj.out.mono HB8.out.size))
                    go_wp2
                    go_roundw
                    case rel => first | exact ⟨k + 1, by omega, by go_num, HB9⟩ | ((repeat apply Exists.intro); exact ⟨⟨k + 1, by omega, by go_num, HB9⟩, rfl⟩)
                    case measure => simp [intOf]; omega
        · obtain rfl : k = n := by omega
          have d2 : decide ((k : Int) < (k : Int)) = false := decide_eq_false (by omega)
          have HBX := Lib.hid (HBW7.out.trans (HBi.out.mono HBW7.out.size))
          clear a3 b3
          have a3 : wi.cell? ⟨qa, 3, none⟩ = some (.slice pa k pc) := by rw [cell_of_heap KA.out]; rfl
          go_wp2
          go_roundw
          case rel => exact ⟨i + 1, by omega, by go_num, HBX⟩
          case measure => simp [intOf]; omega
    · obtain rfl : i = D := by omega
      have d1 : decide ((i : Int) < (i : Int)) = false := decide_eq_false (by omega)
      have hsto := HST.out.below HB.out
      obtain ⟨sb, so, pa, pc, wa, wc, rfl, hra, -, -, -⟩ := hsto.at_ HLAST.out
      obtain ⟨n, hn⟩ : ∃ n, gl.pls.length = n := ⟨_, rfl⟩
      obtain ⟨m, hm⟩ : ∃ m, gl.win.length = m := ⟨_, rfl⟩
      rw [hn, hm] at hra
      have x1 : i < E := by have := HE.out; omega
      obtain ⟨b16, hb16⟩ : ∃ b, wo.heap.size = b := ⟨_, rfl⟩
      obtain ⟨w3, hw3⟩ : ∃ w3, wo.alloc (.cells #[.int .i64 gl.round, .int .i64 gl.player, .int .i64 gl.darts, .slice pa n pc, .slice wa m wc] 34) = w3 := ⟨_, rfl⟩
      have hb3 : Below wo.heap.size wo w3 := by rw [← hw3]; exact aB _ _
      have k3 : w3.heap[b16]? = some (.cells #[.int .i64 gl.round, .int .i64 gl.player, .int .i64 gl.darts, .slice pa n pc, .slice wa m wc] 34 (0, 0)) := by rw [← hw3, ← hb16]; exact World.alloc_heap_new _ _
      have hbw := HB.out.trans (hb3.mono HB.out.size)
      have KR3 := Lib.hid ((hbw.block _ (Array.getElem?_eq_some_iff.1 KR.out).1).trans KR.out)
      have HSN3 := Lib.hid (HSN.out.below hbw)
      have HSD3 := Lib.hid (HSD.out.below hbw)
      have HB3 := Lib.hid (bThen HB2.out hbw)
      have c0 := hra 0 _ rfl
      have c1 := hra 1 _ rfl
      have c2 := hra 2 _ rfl
      have c3 := hra 3 _ rfl
      have c4 := hra 4 _ rfl
      simp only [Nat.add_zero] at c0
      have K3 := Lib.hid k3
      have HW3 := Lib.hid hw3
      have HB16 := Lib.hid hb16
      have HM := Lib.hid hm
      clear hra hb3 k3 hw3 hbw hb16 hn hm hsto
      go_upto_region 24 with fail
      rw [HW3.out, HB16.out]
      clear c0 c1 c2 c3 c4
      go_wp2_with (refine wpList_opOK (o := ⟨some 169, Op.load 25 (.tmp 5), _, _, _, _⟩) (R := fun v w' => v = .agg #[.int .i64 r.kind, .int .i64 r.players, .int .i64 r.last, .bool r.bull, .bool r.jump, .int .i64 r.rounds, .bool r.cut, .slice na nl nc, .int .i64 r.lives, .bool r.own] ∧ w3 = w') rfl (opOK_load_row 25 (.tmp 5) rfl b5 #[.int .i64 r.kind, .int .i64 r.players, .int .i64 r.last, .bool r.bull, .bool r.jump, .int .i64 r.rounds, .bool r.cut, .slice na nl nc, .int .i64 r.lives, .bool r.own] rfl 25 (0, 0) KR3.out _ Try.underlying25 rfl (by kernel_rfl) ⟨rfl, rfl⟩) ?_; rintro _ _ ⟨rfl, rfl⟩)
      refine (own_any r na nl nc w3 HSN3.out (by omega)).mono ?_
      rintro e w4 ⟨vb, vd, rfl, hb4, hs4⟩
      have K4 := Lib.hid ((hb4.block _ (Array.getElem?_eq_some_iff.1 K3.out).1).trans K3.out)
      have HSD4 := Lib.hid (HSD3.out.below hb4)
      have HN4 := Lib.hid hs4
      have HB4 := Lib.hid (bThen HB3.out hb4)
      clear hb4 hs4
      go_wp2_with fail
      refine (copiedE_any DL i HDL.out _ w4 HSD4.out (by omega)).mono ?_
      rintro e w5 ⟨g1, c1, rfl, hb5, ho5⟩
      have HO5 := Lib.hid ho5
      have HB5' := Lib.hid hb5
      clear hb5 ho5
      go_wp2_with (at_builtin; refine wpList_append1 rfl (.tmp 172) (.tmp 173) 26 rfl w4.heap.size 63 (.int .i64 0) 8 Try.underlying26 info_bed rfl _ i _ rfl (HO5.out.alloc _) w5.heap.size 0 1 (.int .i64 0) rfl (cell_new _ _ _) rfl (by omega) (by decide) (by have := HB5'.out.size; simp; omega) ?_)
      intro g2 c2 w6 ho6 hg6 _
      have hb6 : Below w4.heap.size w4 w6 := (bThen HB5'.out (aB _ _)).trans (below_grownBy hg6 (by have := HB5'.out.size; simp; omega) fun q hq => (HO5.out.lt q hq).1)
      have HD6 : Hid (Sl (fun _ => True) w6 (.slice (some ⟨g2, 0, none⟩) (i + 1) c2) (ints (DL ++ [0]))) := Lib.hid (by
        have := (Sl.of_owns ho6).mono (S' := fun _ => True) fun _ _ => trivial
        rw [ints_append]; exact this)
      have K6 := Lib.hid ((hb6.block _ (Array.getElem?_eq_some_iff.1 K4.out).1).trans K4.out)
      have HN6 := Lib.hid (HN4.out.below hb6)
      have HB6 := Lib.hid (bThen HB4.out hb6)
      have HLN : Hid ((DL ++ [0]).length = i + 1) := Lib.hid (by simp [HDL.out])
      have H64 : Hid (∀ b ∈ DL ++ [0], -9223372036854775808 ≤ b ∧ b ≤ 9223372036854775807) := Lib.hid fun b hb => by
        rcases List.mem_append.1 hb with hb | hb
        · exact HD64.out b hb
        · rw [List.mem_singleton] at hb; omega
      clear ho6 hg6 hb6 HO5 HB5'
      by_cases hm0 : m = 0
      · subst hm0
        have hw0 : gl.win = [] := List.eq_nil_of_length_eq_zero HM.out
        have hx : playG r (DL ++ [0]) = (some (throwG r gl (Int.tdiv 0 100) (Int.tmod 0 100)), 0, 0) := by rw [HMORE.out, if_neg (by decide), if_neg (by simp [hw0])]
        go_wp2_with fail
        refine (play_st r vb nl vd (some ⟨g2, 0, none⟩) (i + 1) c2 (DL ++ [0]) _ hx HLN.out H64.out w6 HN6.out HD6.out).mono ?_
        rintro e w7 ⟨rd, pl, dd, pa2, n2, pc2, wa2, m2, wc2, rfl, hb7, -⟩
        have h4 : (w7.alloc (.cells #[.int .i64 rd, .int .i64 pl, .int .i64 dd, .slice pa2 n2 pc2, .slice wa2 m2 wc2] 34)).cell? ⟨b16, 4, none⟩ = some (.slice wa 0 wc) := by
          rw [cell_of_heap ((bThen hb7 (aB _ _)).block _ (Array.getElem?_eq_some_iff.1 K6.out).1 |>.trans K6.out)]; rfl
        have HB7 := Lib.hid (bThen HB6.out (bThen hb7 (aB w7 (.cells #[.int .i64 rd, .int .i64 pl, .int .i64 dd, .slice pa2 n2 pc2, .slice wa2 m2 wc2] 34))))
        clear hb7 hx hw0
        go_wp2_with fail
        refine (known_any _).mono ?_
        rintro e w9 ⟨rfl, hb9⟩
        have HB9 := Lib.hid (bThen HB7.out hb9)
        clear hb9 h4
        go_wp2
        go_ret
        exact ⟨rfl, HB9.out⟩
      · have hw0 : gl.win ≠ [] := fun e => hm0 (by rw [← HM.out, e]; rfl)
        have hx : playG r (DL ++ [0]) = (none, i, 9) := by rw [HMORE.out, if_neg (by decide), if_pos hw0]
        have t0 : decide ((0 : Int) < (m : Int)) = true := decide_eq_true (by omega)
        have t0n : decide (0 < m) = true := decide_eq_true (by omega)
        go_wp2_with fail
        refine (play_st r vb nl vd (some ⟨g2, 0, none⟩) (i + 1) c2 (DL ++ [0]) _ hx HLN.out H64.out w6 HN6.out HD6.out).mono ?_
        rintro e w7 ⟨rd, pl, dd, pa2, n2, pc2, wa2, m2, wc2, rfl, hb7, -⟩
        have h4 : (w7.alloc (.cells #[.int .i64 rd, .int .i64 pl, .int .i64 dd, .slice pa2 n2 pc2, .slice wa2 m2 wc2] 34)).cell? ⟨b16, 4, none⟩ = some (.slice wa m wc) := by
          rw [cell_of_heap ((bThen hb7 (aB _ _)).block _ (Array.getElem?_eq_some_iff.1 K6.out).1 |>.trans K6.out)]; rfl
        have HB7 := Lib.hid (bThen HB6.out (bThen hb7 (aB w7 (.cells #[.int .i64 rd, .int .i64 pl, .int .i64 dd, .slice pa2 n2 pc2, .slice wa2 m2 wc2] 34))))
        clear hb7 hx hw0
        go_wp2_with fail
        refine (known_any _).mono ?_
        rintro e w9 ⟨rfl, hb9⟩
        have HB9 := Lib.hid (bThen HB7.out hb9)
        clear hb9 h4
        go_wp2
        go_ret
        exact ⟨rfl, HB9.out⟩
end Go.Proofs.Ytnhggfnnolfcdaa
