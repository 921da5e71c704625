/- The texts OF, in build order. -/
import Derived.Test.YtcnofoopdghjiaaZar

/- Chapter 2, law OutFound: the walk. (Printed by gen_OF.py.) -/
namespace Go.Proofs.Ytcnofoopdghjiaa
open Go.RowKit Go.Oche Go.Proofs

theorem count_one {P : List Int} : ∀ {L : List (List Int)}, L.Pairwise wLt → P ∈ L → L.count P = 1
  | [], _, h => by simp at h
  | A :: L, hp, h => by
    rw [List.pairwise_cons] at hp
    rw [List.count_cons]
    by_cases e : A = P
    · subst e
      have : L.count A = 0 := List.count_eq_zero.2 fun hm => wLt_ne (hp.1 A hm) rfl
      rw [this]; simp
    · have hm : P ∈ L := by
        rcases List.mem_cons.1 h with h | h
        · exact absurd h.symm e
        · exact h
      rw [count_one hp.2 hm]
      simp [e]
theorem count_take {P : List Int} {L : List (List Int)} {k : Nat} (hk : k < L.length) : (L.take (k + 1)).count P = (L.take k).count P + if L[k] = P then 1 else 0 := by
  rw [List.take_succ_eq_append_getElem hk, List.count_append, List.count_singleton]
  simp only [beq_iff_eq]
theorem lopens_q (g b : Int) (o : Bool) (ho : Hid (opensG g b = o)) (w : World) (h : I64 b) (hg : gateOk g = true) : Calls Try.prog 40 #[.int .i64 g, .int .i64 b] w fun e w' => e = .returned (.bool o) ∧ w' = w :=
  (lopens_any g b w h hg).mono fun _ _ h => ⟨by rw [h.1, ho.out], h.2.symm⟩
theorem lworth_q (b : Int) (q : Int) (hq : Hid (worth b = q)) (w : World) (hb : bedOk b = true) : Calls Try.prog 41 #[.int .i64 b] w fun e w' => e = .returned (.int .i64 q) ∧ w' = w :=
  (lworth_any b w (bedOk_i64 hb) (wrap_worth' hb)).mono fun _ _ h => ⟨by rw [h.1, hq.out], h.2.symm⟩
/-- A bed before a way. -/
theorem runs_cons {g : Int} {sc : Nat} {x : Int} {P : List Int} (hx : bedOk x = true) (hr : runs g sc P) (h : aftR ((sc : Int) + worth x) x g = sc) : runs g ((sc : Int) + worth x) (x :: P) := by
  have hw := worth_bd hx
  have e : (sc : Int) + worth x - worth x = sc := by omega
  refine ⟨by omega, ?_, by rw [e]; exact hr⟩
  unfold aftR at h
  split at h
  · assumption
  · omega

set_option maxRecDepth 100000 in
set_option maxHeartbeats 8000000 in
theorem OutFound_any {S S' : Nat → Prop} (bs : List Int) (g d : Int) (xb : List Int) (v vb : Value) (w : World) (hs : Sl S w v (ints bs)) (hx : Sl S' w vb (xb.map (Value.int .u8))) (hi : ∀ b ∈ bs, I64 b) (hxr : ∀ b ∈ xb, 0 ≤ b ∧ b ≤ 255) :
    Calls Try.prog 8 #[.agg #[v, .int .i64 g, .int .i64 d], vb] w fun e w' => e = .returned (.bool true) ∧ Below w.heap.size w w' := by
  obtain ⟨a, cap, rfl, _, h3⟩ := hs.form
  obtain ⟨ab, capb, rfl, _, h3b⟩ := hx.form
  simp only [ints_length, List.length_map] at *
  unfold maxLen at h3 h3b
  obtain ⟨w0, hw0⟩ : ∃ w0, w0 = w.alloc (.cells #[.slice a bs.length cap, .int .i64 g, .int .i64 d] 25) := ⟨_, rfl⟩
  have hb0 : Below w.heap.size w w0 := by rw [hw0]; exact aB _ _
  have h2 : w0.heap[w.heap.size]? = some (.cells #[.slice a bs.length cap, .int .i64 g, .int .i64 d] 25 (0, 0)) := by rw [hw0]; exact World.alloc_heap_new _ _
  have x0 : w0.cell? ⟨w.heap.size, 0, none⟩ = some (.slice a bs.length cap) := by rw [cell_of_heap h2]; rfl
  have x1 : w0.cell? ⟨w.heap.size, 1, none⟩ = some (.int .i64 g) := by rw [cell_of_heap h2]; rfl
  have x2 : w0.cell? ⟨w.heap.size, 2, none⟩ = some (.int .i64 d) := by rw [cell_of_heap h2]; rfl
  have HS := Lib.hid (hs.below hb0)
  have HX := Lib.hid (hx.below hb0)
  have HI := Lib.hid hi
  have HXR := Lib.hid hxr
  have HW := Lib.hid hw0
  have HB0 := Lib.hid hb0
  clear hs hi hw0 h2 hb0 hx hxr
  obtain ⟨r, hr⟩ : ∃ b, rulesOk bs g d = b := ⟨_, rfl⟩
  have HR := Lib.hid hr
  clear hr
  obtain ⟨lg, hlg⟩ : ∃ b, decide ((12 : Int) < (xb.length : Int)) = b := ⟨_, rfl⟩
  go_enter Try.func8, Try.ntmps8
  go_wp2_with fail
  rw [← HW.out]
  refine (sound_r bs g d _ HR _ _ HS.out HI.out).mono ?_
  rintro e w1 ⟨rfl, hb1⟩
  replace x0 := bAt hb1 x0
  replace x1 := bAt hb1 x1
  replace x2 := bAt hb1 x2
  replace HS := Lib.hid (HS.out.below hb1)
  replace HX := Lib.hid (HX.out.below hb1)
  have HB1 := Lib.hid (bThen HB0.out hb1)
  clear hb1
  cases r
  · go_wp2_with fail
    refine (known_any _).mono ?_
    rintro e w2 ⟨rfl, hb2⟩
    have HB2 := Lib.hid (bThen HB1.out hb2)
    clear hb2
    go_wp2
    go_ret
    exact ⟨rfl, HB2.out⟩
  · cases lg
    · obtain ⟨q1, q2, q3, q4⟩ := rulesOk_spec HR.out
      obtain ⟨d, rfl⟩ : ∃ n : Nat, d = (n : Int) := ⟨d.toNat, by omega⟩
      have hd9 : d ≤ 9 := by omega
      have hd1 : 1 ≤ d := by omega
      have HG := Lib.hid q2
      have BO := Lib.hid (bedsOk_spec q1)
      have hbl : bs.length ≤ 82 := (bedsOk_spec q1).2.2.2
      have hbp : 0 < bs.length := (bedsOk_spec q1).2.2.1
      have HLE : Hid (bs.length ≤ 85) := Lib.hid (by omega)
      have hxl : xb.length ≤ 12 := by simp at hlg; omega
      clear q1 q2 q3 q4
      obtain ⟨w2, hw2⟩ : ∃ w2, w2 = w1.alloc (.cells #[] 61) := ⟨_, rfl⟩
      have hb2 : Below w1.heap.size w1 w2 := by rw [hw2]; exact aB _ _
      replace x0 := bAt hb2 x0
      replace x1 := bAt hb2 x1
      replace x2 := bAt hb2 x2
      replace HS := Lib.hid (HS.out.below hb2)
      replace HX := Lib.hid (HX.out.below hb2)
      have HB2 := Lib.hid (bThen HB1.out hb2)
      have HW2 := Lib.hid hw2
      obtain ⟨b0, hb00⟩ : ∃ b, b = w1.heap.size := ⟨_, rfl⟩
      have HBQ := Lib.hid hb00
      clear hw2 hb2 hb00
      go_wp2_with fail
      rw [← HW2.out, ← HBQ.out]
      go_loopw [5, 6, 7] (fun wy sv i wr => ∃ (k sc : Nat) (P : List Int) (bP cP : Nat), k ≤ xb.length ∧ i = .int .i64 k ∧ sv = .int .i64 sc ∧ wy = .slice (some ⟨bP, 0, none⟩) P.length cP ∧ sc ≤ 1001 ∧ P.length ≤ d ∧ P.length ≤ cP ∧ Hid ((∀ b ∈ P, b ∈ bs) ∧ runs g sc P) ∧ Hid (Sl (fun _ => True) wr (.slice (some ⟨bP, 0, none⟩) P.length cP) (ints P)) ∧ Below w2.heap.size w2 wr) (fun _ _ i _ => xb.length - (intOf i).toNat)
      case atStart => exact ⟨0, 0, [], b0, 0, by omega, rfl, rfl, rfl, by omega, by simp, by simp, Lib.hid ⟨by simp, rfl⟩, Lib.hid ⟨some ⟨b0, 0, none⟩, 0, rfl, Nat.le_refl _, Nat.zero_le _, fun i x hx => by simp at hx⟩, Below.refl _ _⟩
      case round =>
        obtain ⟨k, sc, P, bP, cP, hk, rfl, rfl, rfl, hsc, hPd, hPc, HP, HPS, hb⟩ := hrel
        obtain ⟨wo, rfl⟩ : ∃ wo : World, wo = wr := ⟨_, rfl⟩
        replace x0 := bAt hb x0
        replace x1 := bAt hb x1
        replace x2 := bAt hb x2
        replace HS := Lib.hid (HS.out.below hb)
        replace HX := Lib.hid (HX.out.below hb)
        have HBO := Lib.hid hb
        clear hb
        by_cases hlt : k < xb.length
        · by_cases hPl : P.length < d
          · have e1 : decide (P.length < d) = true := by simp [hPl]
            as_aux_lemma =>
              have hik : (k : Int) < (xb.length : Int) := by omega
              obtain ⟨bb, ob, eab, _, z2⟩ := HX.out.cellU hlt
              cases eab
              obtain ⟨xv, hxv⟩ : ∃ x, xb[k] = x := ⟨_, rfl⟩
              have hxr : 0 ≤ xv ∧ xv ≤ 255 := hxv ▸ HXR.out _ (List.getElem_mem hlt)
              rw [hxv] at z2
              obtain ⟨pm, hpm⟩ : ∃ p : Nat, xv.tmod (bs.length : Int) = p := ⟨(xv.tmod (bs.length : Int)).toNat, by have := Int.tmod_nonneg (bs.length : Int) hxr.1; omega⟩
              have hpl : pm < bs.length := by have := Int.tmod_lt_of_pos xv (show (0 : Int) < (bs.length : Int) by omega); omega
              have hpm2 : xv % (bs.length : Int) = (pm : Int) := by rw [← Int.tmod_eq_emod_of_nonneg hxr.1]; exact hpm
              have hwx : IntKind.i64.wrap xv = xv := wrap_small _ (by omega) (by omega)
              have hwp : IntKind.i64.wrap (pm : Int) = (pm : Int) := wrap_small _ (by omega) (by omega)
              have hip : (pm : Int) < (bs.length : Int) := by omega
              have hnz : ((bs.length : Int) == 0) = false := beq_eq_false_iff_ne.2 (by omega)
              have hnil : ¬ bs = [] := fun e => by rw [e] at hbp; simp at hbp
              have hnz2 : ¬ (bs.length : Int) = 0 := by omega
              obtain ⟨ba, oa, eaa, _, z3⟩ := HS.out.cell hpl
              cases eaa
              obtain ⟨x, hx⟩ : ∃ x, bs[pm] = x := ⟨_, rfl⟩
              rw [hx] at z3
              have hxo : bedOk x = true := hx ▸ BO.out.1 _ (List.getElem_mem hpl)
              have HXM : Hid (x ∈ bs) := Lib.hid (hx ▸ List.getElem_mem hpl)
              obtain ⟨q, hq⟩ : ∃ q : Nat, worth x = q := ⟨(worth x).toNat, by have := worth_bd hxo; omega⟩
              have hq2 : 1 ≤ q ∧ q ≤ 100 := by have := worth_bd hxo; omega
              obtain ⟨tt, htt⟩ : ∃ t : Nat, t = sc + q := ⟨_, rfl⟩
              have htb : tt ≤ 1101 := by omega
              have hws : IntKind.i64.wrap ((sc : Int) + (q : Int)) = (tt : Int) := by rw [wrap_small _ (by omega) (by omega)]; omega
              obtain ⟨lf, hlf⟩ : ∃ l, aftR (tt : Int) x g = l := ⟨_, rfl⟩
              obtain ⟨o, ho⟩ : ∃ o, opensG g x = o := ⟨_, rfl⟩
              have HXO := Lib.hid hxo
              have LW := Lib.hid hq
              have LF := Lib.hid hlf
              have OG := Lib.hid ho
              have HTT := Lib.hid htt
              clear hxv hx hxo hq htt hlf ho hxr
              go_wp2_with fail
              go_quiet (fail)
              by_cases hP0 : P.length = 0
              · have e2 : (P.length == 0) = true := beq_iff_eq.2 hP0
                have e2i : ((P.length : Int) == 0) = true := beq_iff_eq.2 (by omega)
                clear hP0
                cases o
                · go_wp2_with fail
                  go_quiet ((first | (go_at_call 40; exact quiet_more (lopens_q _ _ _ OG _ (bedOk_i64 HXO.out) HG.out)) | (go_at_call 41; exact quiet_more (lworth_q _ _ LW _ HXO.out)) | (go_at_call 39; exact quiet_more (hit_q _ _ _ _ LF _ HXO.out (by omega) (by omega) HG.out))))
                  go_wp2_with fail
                  go_roundw
                  case rel => exact ⟨k + 1, sc, P, bP, cP, by omega, by go_num, rfl, rfl, hsc, hPd, hPc, HP, Lib.hid (HPS.out.below (bDrew _ _)), bThen HBO.out (bDrew _ _)⟩
                  case measure => simp [intOf]; omega
                · by_cases h1 : 1001 < tt
                  · have e3 : decide ((1001 : Int) < (tt : Int)) = true := decide_eq_true (by omega)
                    have e3n : decide (1001 < tt) = true := decide_eq_true (by omega)
                    go_wp2_with fail
                    go_quiet ((first | (go_at_call 40; exact quiet_more (lopens_q _ _ _ OG _ (bedOk_i64 HXO.out) HG.out)) | (go_at_call 41; exact quiet_more (lworth_q _ _ LW _ HXO.out)) | (go_at_call 39; exact quiet_more (hit_q _ _ _ _ LF _ HXO.out (by omega) (by omega) HG.out))))
                    go_wp2_with fail
                    go_roundw
                    case rel => exact ⟨k + 1, sc, P, bP, cP, by omega, by go_num, rfl, rfl, hsc, hPd, hPc, HP, Lib.hid (HPS.out.below (bDrew _ _)), bThen HBO.out (bDrew _ _)⟩
                    case measure => simp [intOf]; omega
                  · have e3 : decide ((1001 : Int) < (tt : Int)) = false := decide_eq_false (by omega)
                    have e3n : decide (1001 < tt) = false := decide_eq_false (by omega)
                    by_cases h2 : lf = sc
                    · have e4 : (lf != (sc : Int)) = false := by simp [h2]
                      have HLS := Lib.hid h2
                      clear h2
                      go_wp2_with fail
                      go_quiet ((first | (go_at_call 40; exact quiet_more (lopens_q _ _ _ OG _ (bedOk_i64 HXO.out) HG.out)) | (go_at_call 41; exact quiet_more (lworth_q _ _ LW _ HXO.out)) | (go_at_call 39; exact quiet_more (hit_q _ _ _ _ LF _ HXO.out (by omega) (by omega) HG.out))))
                      generalize hwd : World.drewN _ _ = wd
                      have hbd : Below wo.heap.size wo wd := by rw [← hwd]; exact bThen (bDrew _ _) (bDrew _ _)
                      have HPD := Lib.hid (HPS.out.below hbd)
                      have hlit : AccAt wd.heap.size (wd.alloc (.cells #[.int .i64 x] 61)) (.slice (some ⟨wd.heap.size, 0, none⟩) 1 1) [.int .i64 x] := .inr ⟨by simp, World.ownsRow_lit wd #[.int .i64 x] 1 (Nat.le_refl _) (by unfold maxLen; omega) rfl⟩
                      obtain ⟨v', W', hrun, hacc, _, hbn, _, _⟩ := acc_append hlit (by simp) ⟨bP, 0, none⟩ P.length cP (ints P) (by simp) (by omega) (noSpot (HPD.out.below (aB wd _))) ints_one (by simp)
                      have hbw : Below wo.heap.size wo W' := bThen hbd ((aB wd _).trans hbn)
                      obtain ⟨b', c', rfl⟩ := hacc.form
                      have hsl := hacc.sl.mono (S' := fun _ => True) (fun _ _ => trivial)
                      obtain ⟨_, _, esl, hcap, _⟩ := hsl
                      cases esl
                      have hsl := hacc.sl.mono (S' := fun _ => True) (fun _ _ => trivial)
                      simp only [List.length_append, List.length_cons, List.length_nil, ints_length, Nat.zero_add] at hsl hcap hrun
                      have HSL : Hid (Sl (fun _ => True) W' (.slice (some ⟨b', 0, none⟩) (1 + P.length) c') (ints (x :: P))) := Lib.hid hsl
                      have HRUN := Lib.hid hrun
                      have HBN := Lib.hid (bThen HBO.out hbw)
                      have HP2 : Hid ((∀ b ∈ x :: P, b ∈ bs) ∧ runs g ((sc + q : Nat) : Int) (x :: P)) := Lib.hid (by
                        have ht := HTT.out
                        have e : ((sc + q : Nat) : Int) = (sc : Int) + worth x := by rw [LW.out]; omega
                        refine ⟨fun b hb => ?_, ?_⟩
                        · rcases List.mem_cons.1 hb with rfl | hb
                          · exact HXM.out
                          · exact HP.out.1 b hb
                        · rw [e]
                          refine runs_cons HXO.out HP.out.2 ?_
                          rw [← e, ← ht, LF.out, HLS.out])
                      have htt2 : sc + q ≤ 1001 := by have := HTT.out; omega
                      clear hwd hbd hlit hacc hbn hbw hsl hrun x0 x1 x2 z2 z3 hws
                      go_wp2_with (refine wpList_opOK rfl (opOK_append_run (v1 := .slice (some ⟨wd.heap.size, 0, none⟩) 1 1) (v2 := .slice (some ⟨bP, 0, none⟩) P.length cP) (R := fun v'' W'' => v'' = .slice (some ⟨b', 0, none⟩) (1 + P.length) c' ∧ W' = W'') (.tmp 87) (.tmp 88) 22 rfl rfl rfl HRUN.out ⟨rfl, rfl⟩) ?_; rintro _ _ ⟨rfl, rfl⟩)
                      refine (lworth_any x _ (bedOk_i64 HXO.out) (wrap_worth' HXO.out)).mono ?_
                      rintro e w' ⟨rfl, rfl⟩
                      rw [LW.out]
                      go_wp2_with fail
                      go_roundw
                      case rel => exact ⟨k + 1, sc + q, x :: P, b', c', by omega, by go_num, by go_num, by rw [List.length_cons, Nat.add_comm], htt2, by rw [List.length_cons]; omega, by rw [List.length_cons]; omega, HP2, by rw [List.length_cons, Nat.add_comm]; exact HSL, HBN.out⟩
                      case measure => simp [intOf]; omega
                    · have e4 : (lf != (sc : Int)) = true := by simp [h2]
                      clear h2
                      go_wp2_with fail
                      go_quiet ((first | (go_at_call 40; exact quiet_more (lopens_q _ _ _ OG _ (bedOk_i64 HXO.out) HG.out)) | (go_at_call 41; exact quiet_more (lworth_q _ _ LW _ HXO.out)) | (go_at_call 39; exact quiet_more (hit_q _ _ _ _ LF _ HXO.out (by omega) (by omega) HG.out))))
                      go_wp2_with fail
                      go_roundw
                      case rel => exact ⟨k + 1, sc, P, bP, cP, by omega, by go_num, rfl, rfl, hsc, hPd, hPc, HP, Lib.hid (HPS.out.below (bDrew _ _)), bThen HBO.out (bDrew _ _)⟩
                      case measure => simp [intOf]; omega
              · have e2 : (P.length == 0) = false := by simp [hP0]
                have e2i : ((P.length : Int) == 0) = false := beq_eq_false_iff_ne.2 (by omega)
                clear hP0
                by_cases h1 : 1001 < tt
                · have e3 : decide ((1001 : Int) < (tt : Int)) = true := decide_eq_true (by omega)
                  have e3n : decide (1001 < tt) = true := decide_eq_true (by omega)
                  go_wp2_with fail
                  go_quiet ((first | (go_at_call 40; exact quiet_more (lopens_q _ _ _ OG _ (bedOk_i64 HXO.out) HG.out)) | (go_at_call 41; exact quiet_more (lworth_q _ _ LW _ HXO.out)) | (go_at_call 39; exact quiet_more (hit_q _ _ _ _ LF _ HXO.out (by omega) (by omega) HG.out))))
                  go_wp2_with fail
                  go_roundw
                  case rel => exact ⟨k + 1, sc, P, bP, cP, by omega, by go_num, rfl, rfl, hsc, hPd, hPc, HP, Lib.hid (HPS.out.below (bDrew _ _)), bThen HBO.out (bDrew _ _)⟩
                  case measure => simp [intOf]; omega
                · have e3 : decide ((1001 : Int) < (tt : Int)) = false := decide_eq_false (by omega)
                  have e3n : decide (1001 < tt) = false := decide_eq_false (by omega)
                  by_cases h2 : lf = sc
                  · have e4 : (lf != (sc : Int)) = false := by simp [h2]
                    have HLS := Lib.hid h2
                    clear h2
                    go_wp2_with fail
                    go_quiet ((first | (go_at_call 40; exact quiet_more (lopens_q _ _ _ OG _ (bedOk_i64 HXO.out) HG.out)) | (go_at_call 41; exact quiet_more (lworth_q _ _ LW _ HXO.out)) | (go_at_call 39; exact quiet_more (hit_q _ _ _ _ LF _ HXO.out (by omega) (by omega) HG.out))))
                    generalize hwd : World.drewN _ _ = wd
                    have hbd : Below wo.heap.size wo wd := by rw [← hwd]; exact bThen (bDrew _ _) (bDrew _ _)
                    have HPD := Lib.hid (HPS.out.below hbd)
                    have hlit : AccAt wd.heap.size (wd.alloc (.cells #[.int .i64 x] 61)) (.slice (some ⟨wd.heap.size, 0, none⟩) 1 1) [.int .i64 x] := .inr ⟨by simp, World.ownsRow_lit wd #[.int .i64 x] 1 (Nat.le_refl _) (by unfold maxLen; omega) rfl⟩
                    obtain ⟨v', W', hrun, hacc, _, hbn, _, _⟩ := acc_append hlit (by simp) ⟨bP, 0, none⟩ P.length cP (ints P) (by simp) (by omega) (noSpot (HPD.out.below (aB wd _))) ints_one (by simp)
                    have hbw : Below wo.heap.size wo W' := bThen hbd ((aB wd _).trans hbn)
                    obtain ⟨b', c', rfl⟩ := hacc.form
                    have hsl := hacc.sl.mono (S' := fun _ => True) (fun _ _ => trivial)
                    obtain ⟨_, _, esl, hcap, _⟩ := hsl
                    cases esl
                    have hsl := hacc.sl.mono (S' := fun _ => True) (fun _ _ => trivial)
                    simp only [List.length_append, List.length_cons, List.length_nil, ints_length, Nat.zero_add] at hsl hcap hrun
                    have HSL : Hid (Sl (fun _ => True) W' (.slice (some ⟨b', 0, none⟩) (1 + P.length) c') (ints (x :: P))) := Lib.hid hsl
                    have HRUN := Lib.hid hrun
                    have HBN := Lib.hid (bThen HBO.out hbw)
                    have HP2 : Hid ((∀ b ∈ x :: P, b ∈ bs) ∧ runs g ((sc + q : Nat) : Int) (x :: P)) := Lib.hid (by
                      have ht := HTT.out
                      have e : ((sc + q : Nat) : Int) = (sc : Int) + worth x := by rw [LW.out]; omega
                      refine ⟨fun b hb => ?_, ?_⟩
                      · rcases List.mem_cons.1 hb with rfl | hb
                        · exact HXM.out
                        · exact HP.out.1 b hb
                      · rw [e]
                        refine runs_cons HXO.out HP.out.2 ?_
                        rw [← e, ← ht, LF.out, HLS.out])
                    have htt2 : sc + q ≤ 1001 := by have := HTT.out; omega
                    clear hwd hbd hlit hacc hbn hbw hsl hrun x0 x1 x2 z2 z3 hws
                    go_wp2_with (refine wpList_opOK rfl (opOK_append_run (v1 := .slice (some ⟨wd.heap.size, 0, none⟩) 1 1) (v2 := .slice (some ⟨bP, 0, none⟩) P.length cP) (R := fun v'' W'' => v'' = .slice (some ⟨b', 0, none⟩) (1 + P.length) c' ∧ W' = W'') (.tmp 87) (.tmp 88) 22 rfl rfl rfl HRUN.out ⟨rfl, rfl⟩) ?_; rintro _ _ ⟨rfl, rfl⟩)
                    refine (lworth_any x _ (bedOk_i64 HXO.out) (wrap_worth' HXO.out)).mono ?_
                    rintro e w' ⟨rfl, rfl⟩
                    rw [LW.out]
                    go_wp2_with fail
                    go_roundw
                    case rel => exact ⟨k + 1, sc + q, x :: P, b', c', by omega, by go_num, by go_num, by rw [List.length_cons, Nat.add_comm], htt2, by rw [List.length_cons]; omega, by rw [List.length_cons]; omega, HP2, by rw [List.length_cons, Nat.add_comm]; exact HSL, HBN.out⟩
                    case measure => simp [intOf]; omega
                  · have e4 : (lf != (sc : Int)) = true := by simp [h2]
                    clear h2
                    go_wp2_with fail
                    go_quiet ((first | (go_at_call 40; exact quiet_more (lopens_q _ _ _ OG _ (bedOk_i64 HXO.out) HG.out)) | (go_at_call 41; exact quiet_more (lworth_q _ _ LW _ HXO.out)) | (go_at_call 39; exact quiet_more (hit_q _ _ _ _ LF _ HXO.out (by omega) (by omega) HG.out))))
                    go_wp2_with fail
                    go_roundw
                    case rel => exact ⟨k + 1, sc, P, bP, cP, by omega, by go_num, rfl, rfl, hsc, hPd, hPc, HP, Lib.hid (HPS.out.below (bDrew _ _)), bThen HBO.out (bDrew _ _)⟩
                    case measure => simp [intOf]; omega
          · have e1 : decide (P.length < d) = false := by simp [hPl]
            by_cases hP0 : P.length = 0
            · have e2 : (P.length == 0) = true := beq_iff_eq.2 hP0
              have e2i : ((P.length : Int) == 0) = true := beq_iff_eq.2 (by omega)
              clear hP0
              go_wp2_with fail
              refine (known_any _).mono ?_
              rintro e w99 ⟨rfl, hb99⟩
              have HB99 := Lib.hid (bThen HB2.out (bThen HBO.out hb99))
              clear hb99
              go_wp2
              go_ret
              exact ⟨rfl, HB99.out⟩
            · as_aux_lemma =>
              have e2 : (P.length == 0) = false := by simp [hP0]
              have e2i : ((P.length : Int) == 0) = false := beq_eq_false_iff_ne.2 (by omega)
              have HBW := Lib.hid (bThen HB2.out HBO.out)
              have hs1 : 1 ≤ sc := by
                have h := HP.out.2
                cases P with
                | nil => exact absurd rfl hP0
                | cons b P => have := h.1; omega
              have FA := ways_facts HR.out hs1 hsc
              obtain ⟨L, hL⟩ : ∃ L, outAll g bs sc d = L := ⟨_, rfl⟩
              obtain ⟨we, hwe⟩ : ∃ x, waysErr bs g d sc = x := ⟨_, rfl⟩
              obtain ⟨wl, hwl⟩ : ∃ x, waysRes bs g d sc = x := ⟨_, rfl⟩
              rw [hL, hwe, hwl] at FA
              obtain ⟨f1, f2, _, _, _, _, f7, f8⟩ := FA
              have F1 := Lib.hid f1
              have F2 := Lib.hid f2
              have HWE := Lib.hid hwe
              have HWL := Lib.hid hwl
              have N1 : Hid (numOf bs g d sc = (L.length : Int) ∧ scoreErr bs g d sc = 0) := Lib.hid ⟨f7, f8⟩
              have hPL : P ∈ L := hL ▸ mem_outAll.2 ⟨by omega, hPd, HP.out.1, HP.out.2⟩
              have HPL := Lib.hid hPL
              have hLp : 0 < L.length := List.length_pos_iff.2 (fun e => by rw [e] at hPL; simp at hPL)
              have LP : Hid (L.Pairwise wLt) := Lib.hid (hL ▸ outAll_pairwise (beds_pairwise BO.out.2.1) sc d)
              obtain ⟨fa, hfa⟩ : ∃ x, fewTo g bs sc = x := ⟨_, rfl⟩
              have FA1 : Hid (fewL bs g d sc = fa ∧ mostErr bs g d sc = 0) := Lib.hid (by
                have e := mostErr_ok (s := sc) HR.out hsc
                exact ⟨by rw [fewL, if_pos e, Int.toNat_natCast, hfa], e⟩)
              have FAL : Hid (fa.length = sc + 1) := Lib.hid (by rw [← hfa, fewTo_length])
              have FAA : Hid (∀ k (h : k < fa.length), fa[k] = fewAt g bs k) := Lib.hid (by intro k h; subst hfa; exact fewTo_get h)
              obtain ⟨fs, hfs⟩ : ∃ x, fewAt g bs sc = x := ⟨_, rfl⟩
              have hfs2 : 1 ≤ fs ∧ fs ≤ (P.length : Int) := by
                have hne : outL g bs P.length sc ≠ [] := fun e => by
                  have := mem_outL.2 ⟨rfl, HP.out.1, HP.out.2⟩
                  rw [e] at this; simp at this
                have h1 := fewAt_le BO.out.1 hne
                have h2 := fewAt_pos BO.out.1 (by omega) h1.1
                rw [hfs] at h1 h2
                exact ⟨h2, h1.2⟩
              have HFS := Lib.hid hfs
              obtain ⟨ca, hca⟩ : ∃ x, bogTo (cnts g bs d sc) d sc = x := ⟨_, rfl⟩
              have CA : Hid (bogL bs g d sc = ca ∧ mostErr bs g d sc = 0) := Lib.hid (by
                have e := mostErr_ok (s := sc) HR.out hsc
                exact ⟨by rw [bogL, if_pos e, Int.toNat_natCast, Int.toNat_natCast, hca], e⟩)
              have hcal : ca.length ≤ sc := by rw [← hca]; exact bogTo_length _ _ _
              have CAN : Hid (∀ x ∈ ca, x ≠ (sc : Int)) := Lib.hid (fun x hx e => by
                rw [← hca] at hx
                obtain ⟨q, k1, k2, k3⟩ := (bogey_iff BO.out.1).1 hx
                have : ((q + 1 : Nat) : Int) = sc := by omega
                rw [this, hL] at k2
                rw [k2] at hLp; simp at hLp)
              clear f1 f2 f7 f8 hwe hwl hPL hL hfa hfs hca hP0
              go_wp2_with fail
              refine (rules_any bs g _ _ _ HS.out HLE.out).mono ?_
              rintro e w21 ⟨v21, rfl, hb21, hv21⟩
              have HU := Lib.hid hv21
              clear hv21
              replace x0 := bAt hb21 x0
              replace x1 := bAt hb21 x1
              replace x2 := bAt hb21 x2
              replace HS := Lib.hid (HS.out.below hb21)
              replace HPS := Lib.hid (HPS.out.below hb21)
              have HB21 := Lib.hid (bThen HBW.out hb21)
              clear hb21
              go_wp2_with fail
              refine (waysF_any bs g d sc _ _ HU.out HI.out).mono ?_
              rintro e w22 ⟨l22, rfl, hb22, hl22⟩
              rw [HWE.out]
              rw [HWL.out] at hl22
              obtain ⟨al, cl, rfl, hcl0, hcl⟩ := Rows2.form hl22
              have HL := Lib.hid hl22
              clear hl22 HU
              replace x0 := bAt hb22 x0
              replace x1 := bAt hb22 x1
              replace x2 := bAt hb22 x2
              replace HS := Lib.hid (HS.out.below hb22)
              replace HPS := Lib.hid (HPS.out.below hb22)
              have HB22 := Lib.hid (bThen HB21.out hb22)
              clear hb22
              go_wp2_with fail
              refine (rules_any bs g _ _ _ HS.out HLE.out).mono ?_
              rintro e w23 ⟨v23, rfl, hb23, hv23⟩
              have HU := Lib.hid hv23
              clear hv23
              replace x0 := bAt hb23 x0
              replace x1 := bAt hb23 x1
              replace x2 := bAt hb23 x2
              replace HS := Lib.hid (HS.out.below hb23)
              replace HPS := Lib.hid (HPS.out.below hb23)
              replace HL := Lib.hid (HL.out.below hb23)
              have HB23 := Lib.hid (bThen HB22.out hb23)
              clear hb23
              go_wp2_with fail
              refine (number_r bs g d sc _ N1 _ _ HU.out HI.out).mono ?_
              rintro e w24 ⟨rfl, hb24⟩
              clear HU
              replace x0 := bAt hb24 x0
              replace x1 := bAt hb24 x1
              replace x2 := bAt hb24 x2
              replace HS := Lib.hid (HS.out.below hb24)
              replace HPS := Lib.hid (HPS.out.below hb24)
              replace HL := Lib.hid (HL.out.below hb24)
              have HB24 := Lib.hid (bThen HB23.out hb24)
              clear hb24
              go_wp2_with fail
              refine (rules_any bs g _ _ _ HS.out HLE.out).mono ?_
              rintro e w25 ⟨v25, rfl, hb25, hv25⟩
              have HU := Lib.hid hv25
              clear hv25
              replace x0 := bAt hb25 x0
              replace x1 := bAt hb25 x1
              replace x2 := bAt hb25 x2
              replace HS := Lib.hid (HS.out.below hb25)
              replace HPS := Lib.hid (HPS.out.below hb25)
              replace HL := Lib.hid (HL.out.below hb25)
              have HB25 := Lib.hid (bThen HB24.out hb25)
              clear hb25
              go_wp2_with fail
              refine (fewest_r bs g d sc fa FA1 _ _ HU.out HI.out).mono ?_
              rintro e w26 ⟨a1, c1, rfl, hb26, hl26⟩
              rw [FAL.out] at hl26
              rw [FAL.out]
              have HFA := Lib.hid hl26
              clear HU hl26
              replace x0 := bAt hb26 x0
              replace x1 := bAt hb26 x1
              replace x2 := bAt hb26 x2
              replace HS := Lib.hid (HS.out.below hb26)
              replace HPS := Lib.hid (HPS.out.below hb26)
              replace HL := Lib.hid (HL.out.below hb26)
              have HB26 := Lib.hid (bThen HB25.out hb26)
              clear hb26
              go_wp2_with fail
              refine (rules_any bs g _ _ _ HS.out HLE.out).mono ?_
              rintro e w27 ⟨v27, rfl, hb27, hv27⟩
              have HU := Lib.hid hv27
              clear hv27
              replace x0 := bAt hb27 x0
              replace x1 := bAt hb27 x1
              replace x2 := bAt hb27 x2
              replace HS := Lib.hid (HS.out.below hb27)
              replace HPS := Lib.hid (HPS.out.below hb27)
              replace HL := Lib.hid (HL.out.below hb27)
              replace HFA := Lib.hid (HFA.out.below hb27)
              have HB27 := Lib.hid (bThen HB26.out hb27)
              clear hb27
              go_wp2_with fail
              refine (bogeys_r bs g d sc ca CA _ _ HU.out HI.out).mono ?_
              rintro e w28 ⟨a3, c3, rfl, hb28, hl28⟩
              have HCA := Lib.hid hl28
              clear HU hl28
              replace x0 := bAt hb28 x0
              replace x1 := bAt hb28 x1
              replace x2 := bAt hb28 x2
              replace HS := Lib.hid (HS.out.below hb28)
              replace HPS := Lib.hid (HPS.out.below hb28)
              replace HL := Lib.hid (HL.out.below hb28)
              replace HFA := Lib.hid (HFA.out.below hb28)
              have HB28 := Lib.hid (bThen HB27.out hb28)
              clear hb28
              have e3 : decide ((L.length : Int) < 1) = false := decide_eq_false (by omega)
              have e4 : decide (fs < 1) = false := decide_eq_false (by omega)
              have e5 : decide ((P.length : Int) < fs) = false := decide_eq_false (by omega)
              have e6 : decide (sc < ca.length) = false := decide_eq_false (by omega)
              have hisc : (sc : Int) < (sc : Int) + 1 := by omega
              obtain ⟨b1, o1, ea1, _, z1⟩ := HFA.out.cell (show sc < fa.length by have := FAL.out; omega)
              cases ea1
              rw [FAA.out sc (by have := FAL.out; omega), HFS.out] at z1
              clear x0 x1 x2 HS
              by_cases hc0 : ca.length = 0
              · have e7 : decide (0 < ca.length) = false := decide_eq_false (by omega)
                have e7i : decide ((0 : Int) < (ca.length : Int)) = false := decide_eq_false (by omega)
                clear hc0
                by_cases h3 : 3000 < L.length
                · have ef1 : we = 5 := by rw [F1.out, rWaysE, if_neg (by omega), if_pos h3]
                  clear F1
                  subst ef1
                  have e8 : decide (3000 < L.length) = true := by simp [h3]
                  have e8i : decide ((3000 : Int) < (L.length : Int)) = true := decide_eq_true (by omega)
                  go_wp2_with fail
                  refine (known_any _).mono ?_
                  rintro e w99 ⟨rfl, hb99⟩
                  have HB99 := Lib.hid (bThen HB28.out hb99)
                  clear hb99
                  go_wp2
                  go_ret
                  exact ⟨rfl, HB99.out⟩
                · have ef1 : we = 0 := by rw [F1.out, rWaysE, if_neg (by omega), if_neg h3]
                  clear F1
                  subst ef1
                  have ef2 : L = wl := by rw [F2.out, rWaysR, if_neg (by omega), if_neg h3]
                  clear F2
                  subst ef2
                  clear HFA HCA
                  go_wp2_with fail
                  go_loopw [17, 18] (fun c i wr => ∃ (k n : Nat), k ≤ L.length ∧ i = .int .i64 k ∧ c = .int .i64 n ∧ n ≤ k ∧ Hid (n = (L.take k).count P) ∧ Below w28.heap.size w28 wr) (fun _ i _ => L.length - (intOf i).toNat)
                  case atStart => exact ⟨0, 0, by omega, rfl, rfl, by omega, Lib.hid (by simp), Below.refl _ _⟩
                  case round =>
                    obtain ⟨k, n, hk, rfl, rfl, hnk, CN, hb⟩ := hrel
                    obtain ⟨wo, rfl⟩ : ∃ wo : World, wo = wr := ⟨_, rfl⟩
                    replace HL := Lib.hid (HL.out.below hb)
                    replace HPS := Lib.hid (HPS.out.below hb)
                    have HBA := Lib.hid hb
                    clear hb
                    by_cases hlk : k < L.length
                    · have hik : (k : Int) < (L.length : Int) := by omega
                      obtain ⟨bl, ol, ra, rc, hal, _, z1, s1⟩ := Rows2.cell HL.out hlk
                      cases hal
                      obtain ⟨A, hA⟩ : ∃ A, L[k] = A := ⟨_, rfl⟩
                      rw [hA] at z1 s1
                      have HA := Lib.hid s1
                      have CT : Hid ((L.take (k + 1)).count P = n + if A = P then 1 else 0) := Lib.hid (by rw [count_take hlk, ← CN.out, hA])
                      clear s1 hA
                      obtain ⟨lb, hlb⟩ : ∃ x, (A.length == P.length) = x := ⟨_, rfl⟩
                      have hlbi : ((A.length : Int) == (P.length : Int)) = lb := by rw [← hlb, Bool.eq_iff_iff]; simp only [beq_iff_eq]; omega
                      have LB : Hid (lb = true ↔ A.length = P.length) := Lib.hid (by rw [← hlb]; simp)
                      go_wp2_with fail
                      go_loopw [19, 20] (fun sm i wr => ∃ (j : Nat) (b : Bool), j ≤ P.length ∧ i = .int .i64 j ∧ sm = .bool b ∧ Hid (b = true ↔ A.length = P.length ∧ A.take j = P.take j) ∧ Below wo.heap.size wo wr) (fun _ i _ => P.length - (intOf i).toNat)
                      case atStart => exact ⟨0, _, by omega, rfl, rfl, Lib.hid (by rw [LB.out]; simp), Below.refl _ _⟩
                      case round =>
                        obtain ⟨j, b, hj, rfl, rfl, SM, hb⟩ := hrel
                        replace z1 := bAt hb z1
                        replace HL := Lib.hid (HL.out.below hb)
                        replace HPS := Lib.hid (HPS.out.below hb)
                        replace HA := Lib.hid (HA.out.below hb)
                        have HBB := Lib.hid hb
                        clear hb hlb hlbi
                        by_cases hlj : j < P.length
                        · cases b
                          · have CF : Hid ((L.take (k + 1)).count P = n) := Lib.hid (by
                              rw [CT.out, if_neg (fun e => by have := SM.out.2 ⟨by rw [e], by rw [e]⟩; cases this), Nat.add_zero])
                            go_wp2_with fail
                            go_roundw
                            case rel => exact ⟨k + 1, n, by omega, by go_num, rfl, by omega, Lib.hid CF.out.symm, bThen HBA.out HBB.out⟩
                            case measure => simp [intOf]; omega
                          · obtain ⟨sl1, sl2⟩ := SM.out.1 rfl
                            have hja : j < A.length := by omega
                            have hia : (j : Int) < (A.length : Int) := by omega
                            have hip : (j : Int) < (P.length : Int) := by omega
                            obtain ⟨b5, o5, e5, _, c5⟩ := HA.out.cell hja
                            cases e5
                            obtain ⟨b6, o6, e6, _, c6⟩ := HPS.out.cell hlj
                            cases e6
                            simp only [Nat.zero_add] at c6
                            obtain ⟨x, hx⟩ : ∃ x, A[j] = x := ⟨_, rfl⟩
                            obtain ⟨y, hy⟩ : ∃ y, P[j] = y := ⟨_, rfl⟩
                            rw [hx] at c5
                            rw [hy] at c6
                            obtain ⟨q, hq⟩ : ∃ q, (x == y) = q := ⟨_, rfl⟩
                            have SM2 : Hid (q = true ↔ A.length = P.length ∧ A.take (j + 1) = P.take (j + 1)) := Lib.hid (by
                              rw [List.take_succ_eq_append_getElem hja, List.take_succ_eq_append_getElem hlj, sl2, hx, hy, ← hq]
                              simp [sl1])
                            clear hx hy sl1 sl2
                            go_wp2_with fail
                            go_quiet (fail)
                            go_wp2_with fail
                            go_roundw
                            case rel => exact ⟨j + 1, q, by omega, by go_num, rfl, SM2, ⟨HBB.out.os, HBB.out.tape, HBB.out.output, HBB.out.size, HBB.out.block⟩⟩
                            case measure => simp [intOf]; omega
                        · obtain rfl : j = P.length := by omega
                          cases b
                          · have CF : Hid ((L.take (k + 1)).count P = n) := Lib.hid (by
                              rw [CT.out, if_neg (fun e => by have := SM.out.2 ⟨by rw [e], by rw [e]⟩; cases this), Nat.add_zero])
                            go_wp2_with fail
                            go_roundw
                            case rel => exact ⟨k + 1, n, by omega, by go_num, rfl, by omega, Lib.hid CF.out.symm, bThen HBA.out HBB.out⟩
                            case measure => simp [intOf]; omega
                          · have CF : Hid ((L.take (k + 1)).count P = n + 1) := Lib.hid (by
                              obtain ⟨s1, s2⟩ := SM.out.1 rfl
                              have e : A = P := by rw [List.take_of_length_le (Nat.le_of_eq s1), List.take_length] at s2; exact s2
                              rw [CT.out, if_pos e])
                            go_wp2_with fail
                            go_roundw
                            case rel => exact ⟨k + 1, n + 1, by omega, by go_num, by go_num, by omega, Lib.hid CF.out.symm, bThen HBA.out HBB.out⟩
                            case measure => simp [intOf]; omega
                    · obtain rfl : k = L.length := by omega
                      obtain rfl : n = 1 := by rw [CN.out, List.take_length]; exact count_one LP.out HPL.out
                      go_wp2_with fail
                      refine (known_any _).mono ?_
                      rintro e w99 ⟨rfl, hb99⟩
                      have HB99 := Lib.hid (bThen HB28.out (bThen HBA.out hb99))
                      clear hb99
                      go_wp2
                      go_ret
                      exact ⟨rfl, HB99.out⟩
              · have e7 : decide (0 < ca.length) = true := decide_eq_true (by omega)
                have e7i : decide ((0 : Int) < (ca.length : Int)) = true := decide_eq_true (by omega)
                obtain ⟨cp, hcp⟩ : ∃ p, p + 1 = ca.length := ⟨ca.length - 1, by omega⟩
                have hcpl : cp < ca.length := by omega
                have hci : (cp : Int) < (ca.length : Int) := by omega
                have hcw : IntKind.i64.wrap ((ca.length : Int) - 1) = (cp : Int) := by rw [wrap_small _ (by omega) (by omega)]; omega
                have hcs : (ca.length : Int) - 1 = (cp : Int) := by omega
                obtain ⟨b3, o3, ea3, _, z3⟩ := HCA.out.cell hcpl
                cases ea3
                obtain ⟨y, hy⟩ : ∃ y, ca[cp] = y := ⟨_, rfl⟩
                have hyn : y ≠ (sc : Int) := hy ▸ CAN.out _ (List.getElem_mem hcpl)
                rw [hy] at z3
                have e9 : (y == (sc : Int)) = false := beq_eq_false_iff_ne.2 hyn
                clear hcp hy hyn hc0
                by_cases h3 : 3000 < L.length
                · have ef1 : we = 5 := by rw [F1.out, rWaysE, if_neg (by omega), if_pos h3]
                  clear F1
                  subst ef1
                  have e8 : decide (3000 < L.length) = true := by simp [h3]
                  have e8i : decide ((3000 : Int) < (L.length : Int)) = true := decide_eq_true (by omega)
                  go_wp2_with fail
                  refine (known_any _).mono ?_
                  rintro e w99 ⟨rfl, hb99⟩
                  have HB99 := Lib.hid (bThen HB28.out hb99)
                  clear hb99
                  go_wp2
                  go_ret
                  exact ⟨rfl, HB99.out⟩
                · have ef1 : we = 0 := by rw [F1.out, rWaysE, if_neg (by omega), if_neg h3]
                  clear F1
                  subst ef1
                  have ef2 : L = wl := by rw [F2.out, rWaysR, if_neg (by omega), if_neg h3]
                  clear F2
                  subst ef2
                  clear HFA HCA
                  go_wp2_with fail
                  go_loopw [17, 18] (fun c i wr => ∃ (k n : Nat), k ≤ L.length ∧ i = .int .i64 k ∧ c = .int .i64 n ∧ n ≤ k ∧ Hid (n = (L.take k).count P) ∧ Below w28.heap.size w28 wr) (fun _ i _ => L.length - (intOf i).toNat)
                  case atStart => exact ⟨0, 0, by omega, rfl, rfl, by omega, Lib.hid (by simp), Below.refl _ _⟩
                  case round =>
                    obtain ⟨k, n, hk, rfl, rfl, hnk, CN, hb⟩ := hrel
                    obtain ⟨wo, rfl⟩ : ∃ wo : World, wo = wr := ⟨_, rfl⟩
                    replace HL := Lib.hid (HL.out.below hb)
                    replace HPS := Lib.hid (HPS.out.below hb)
                    have HBA := Lib.hid hb
                    clear hb
                    by_cases hlk : k < L.length
                    · have hik : (k : Int) < (L.length : Int) := by omega
                      obtain ⟨bl, ol, ra, rc, hal, _, z1, s1⟩ := Rows2.cell HL.out hlk
                      cases hal
                      obtain ⟨A, hA⟩ : ∃ A, L[k] = A := ⟨_, rfl⟩
                      rw [hA] at z1 s1
                      have HA := Lib.hid s1
                      have CT : Hid ((L.take (k + 1)).count P = n + if A = P then 1 else 0) := Lib.hid (by rw [count_take hlk, ← CN.out, hA])
                      clear s1 hA
                      obtain ⟨lb, hlb⟩ : ∃ x, (A.length == P.length) = x := ⟨_, rfl⟩
                      have hlbi : ((A.length : Int) == (P.length : Int)) = lb := by rw [← hlb, Bool.eq_iff_iff]; simp only [beq_iff_eq]; omega
                      have LB : Hid (lb = true ↔ A.length = P.length) := Lib.hid (by rw [← hlb]; simp)
                      go_wp2_with fail
                      go_loopw [19, 20] (fun sm i wr => ∃ (j : Nat) (b : Bool), j ≤ P.length ∧ i = .int .i64 j ∧ sm = .bool b ∧ Hid (b = true ↔ A.length = P.length ∧ A.take j = P.take j) ∧ Below wo.heap.size wo wr) (fun _ i _ => P.length - (intOf i).toNat)
                      case atStart => exact ⟨0, _, by omega, rfl, rfl, Lib.hid (by rw [LB.out]; simp), Below.refl _ _⟩
                      case round =>
                        obtain ⟨j, b, hj, rfl, rfl, SM, hb⟩ := hrel
                        replace z1 := bAt hb z1
                        replace HL := Lib.hid (HL.out.below hb)
                        replace HPS := Lib.hid (HPS.out.below hb)
                        replace HA := Lib.hid (HA.out.below hb)
                        have HBB := Lib.hid hb
                        clear hb hlb hlbi
                        by_cases hlj : j < P.length
                        · cases b
                          · have CF : Hid ((L.take (k + 1)).count P = n) := Lib.hid (by
                              rw [CT.out, if_neg (fun e => by have := SM.out.2 ⟨by rw [e], by rw [e]⟩; cases this), Nat.add_zero])
                            go_wp2_with fail
                            go_roundw
                            case rel => exact ⟨k + 1, n, by omega, by go_num, rfl, by omega, Lib.hid CF.out.symm, bThen HBA.out HBB.out⟩
                            case measure => simp [intOf]; omega
                          · obtain ⟨sl1, sl2⟩ := SM.out.1 rfl
                            have hja : j < A.length := by omega
                            have hia : (j : Int) < (A.length : Int) := by omega
                            have hip : (j : Int) < (P.length : Int) := by omega
                            obtain ⟨b5, o5, e5, _, c5⟩ := HA.out.cell hja
                            cases e5
                            obtain ⟨b6, o6, e6, _, c6⟩ := HPS.out.cell hlj
                            cases e6
                            simp only [Nat.zero_add] at c6
                            obtain ⟨x, hx⟩ : ∃ x, A[j] = x := ⟨_, rfl⟩
                            obtain ⟨y, hy⟩ : ∃ y, P[j] = y := ⟨_, rfl⟩
                            rw [hx] at c5
                            rw [hy] at c6
                            obtain ⟨q, hq⟩ : ∃ q, (x == y) = q := ⟨_, rfl⟩
                            have SM2 : Hid (q = true ↔ A.length = P.length ∧ A.take (j + 1) = P.take (j + 1)) := Lib.hid (by
                              rw [List.take_succ_eq_append_getElem hja, List.take_succ_eq_append_getElem hlj, sl2, hx, hy, ← hq]
                              simp [sl1])
                            clear hx hy sl1 sl2
                            go_wp2_with fail
                            go_quiet (fail)
                            go_wp2_with fail
                            go_roundw
                            case rel => exact ⟨j + 1, q, by omega, by go_num, rfl, SM2, ⟨HBB.out.os, HBB.out.tape, HBB.out.output, HBB.out.size, HBB.out.block⟩⟩
                            case measure => simp [intOf]; omega
                        · obtain rfl : j = P.length := by omega
                          cases b
                          · have CF : Hid ((L.take (k + 1)).count P = n) := Lib.hid (by
                              rw [CT.out, if_neg (fun e => by have := SM.out.2 ⟨by rw [e], by rw [e]⟩; cases this), Nat.add_zero])
                            go_wp2_with fail
                            go_roundw
                            case rel => exact ⟨k + 1, n, by omega, by go_num, rfl, by omega, Lib.hid CF.out.symm, bThen HBA.out HBB.out⟩
                            case measure => simp [intOf]; omega
                          · have CF : Hid ((L.take (k + 1)).count P = n + 1) := Lib.hid (by
                              obtain ⟨s1, s2⟩ := SM.out.1 rfl
                              have e : A = P := by rw [List.take_of_length_le (Nat.le_of_eq s1), List.take_length] at s2; exact s2
                              rw [CT.out, if_pos e])
                            go_wp2_with fail
                            go_roundw
                            case rel => exact ⟨k + 1, n + 1, by omega, by go_num, by go_num, by omega, Lib.hid CF.out.symm, bThen HBA.out HBB.out⟩
                            case measure => simp [intOf]; omega
                    · obtain rfl : k = L.length := by omega
                      obtain rfl : n = 1 := by rw [CN.out, List.take_length]; exact count_one LP.out HPL.out
                      go_wp2_with fail
                      refine (known_any _).mono ?_
                      rintro e w99 ⟨rfl, hb99⟩
                      have HB99 := Lib.hid (bThen HB28.out (bThen HBA.out hb99))
                      clear hb99
                      go_wp2
                      go_ret
                      exact ⟨rfl, HB99.out⟩
        · obtain rfl : k = xb.length := by omega
          by_cases hP0 : P.length = 0
          · have e2 : (P.length == 0) = true := beq_iff_eq.2 hP0
            have e2i : ((P.length : Int) == 0) = true := beq_iff_eq.2 (by omega)
            clear hP0
            go_wp2_with fail
            refine (known_any _).mono ?_
            rintro e w99 ⟨rfl, hb99⟩
            have HB99 := Lib.hid (bThen HB2.out (bThen HBO.out hb99))
            clear hb99
            go_wp2
            go_ret
            exact ⟨rfl, HB99.out⟩
          · as_aux_lemma =>
            have e2 : (P.length == 0) = false := by simp [hP0]
            have e2i : ((P.length : Int) == 0) = false := beq_eq_false_iff_ne.2 (by omega)
            have HBW := Lib.hid (bThen HB2.out HBO.out)
            have hs1 : 1 ≤ sc := by
              have h := HP.out.2
              cases P with
              | nil => exact absurd rfl hP0
              | cons b P => have := h.1; omega
            have FA := ways_facts HR.out hs1 hsc
            obtain ⟨L, hL⟩ : ∃ L, outAll g bs sc d = L := ⟨_, rfl⟩
            obtain ⟨we, hwe⟩ : ∃ x, waysErr bs g d sc = x := ⟨_, rfl⟩
            obtain ⟨wl, hwl⟩ : ∃ x, waysRes bs g d sc = x := ⟨_, rfl⟩
            rw [hL, hwe, hwl] at FA
            obtain ⟨f1, f2, _, _, _, _, f7, f8⟩ := FA
            have F1 := Lib.hid f1
            have F2 := Lib.hid f2
            have HWE := Lib.hid hwe
            have HWL := Lib.hid hwl
            have N1 : Hid (numOf bs g d sc = (L.length : Int) ∧ scoreErr bs g d sc = 0) := Lib.hid ⟨f7, f8⟩
            have hPL : P ∈ L := hL ▸ mem_outAll.2 ⟨by omega, hPd, HP.out.1, HP.out.2⟩
            have HPL := Lib.hid hPL
            have hLp : 0 < L.length := List.length_pos_iff.2 (fun e => by rw [e] at hPL; simp at hPL)
            have LP : Hid (L.Pairwise wLt) := Lib.hid (hL ▸ outAll_pairwise (beds_pairwise BO.out.2.1) sc d)
            obtain ⟨fa, hfa⟩ : ∃ x, fewTo g bs sc = x := ⟨_, rfl⟩
            have FA1 : Hid (fewL bs g d sc = fa ∧ mostErr bs g d sc = 0) := Lib.hid (by
              have e := mostErr_ok (s := sc) HR.out hsc
              exact ⟨by rw [fewL, if_pos e, Int.toNat_natCast, hfa], e⟩)
            have FAL : Hid (fa.length = sc + 1) := Lib.hid (by rw [← hfa, fewTo_length])
            have FAA : Hid (∀ k (h : k < fa.length), fa[k] = fewAt g bs k) := Lib.hid (by intro k h; subst hfa; exact fewTo_get h)
            obtain ⟨fs, hfs⟩ : ∃ x, fewAt g bs sc = x := ⟨_, rfl⟩
            have hfs2 : 1 ≤ fs ∧ fs ≤ (P.length : Int) := by
              have hne : outL g bs P.length sc ≠ [] := fun e => by
                have := mem_outL.2 ⟨rfl, HP.out.1, HP.out.2⟩
                rw [e] at this; simp at this
              have h1 := fewAt_le BO.out.1 hne
              have h2 := fewAt_pos BO.out.1 (by omega) h1.1
              rw [hfs] at h1 h2
              exact ⟨h2, h1.2⟩
            have HFS := Lib.hid hfs
            obtain ⟨ca, hca⟩ : ∃ x, bogTo (cnts g bs d sc) d sc = x := ⟨_, rfl⟩
            have CA : Hid (bogL bs g d sc = ca ∧ mostErr bs g d sc = 0) := Lib.hid (by
              have e := mostErr_ok (s := sc) HR.out hsc
              exact ⟨by rw [bogL, if_pos e, Int.toNat_natCast, Int.toNat_natCast, hca], e⟩)
            have hcal : ca.length ≤ sc := by rw [← hca]; exact bogTo_length _ _ _
            have CAN : Hid (∀ x ∈ ca, x ≠ (sc : Int)) := Lib.hid (fun x hx e => by
              rw [← hca] at hx
              obtain ⟨q, k1, k2, k3⟩ := (bogey_iff BO.out.1).1 hx
              have : ((q + 1 : Nat) : Int) = sc := by omega
              rw [this, hL] at k2
              rw [k2] at hLp; simp at hLp)
            clear f1 f2 f7 f8 hwe hwl hPL hL hfa hfs hca hP0
            go_wp2_with fail
            refine (rules_any bs g _ _ _ HS.out HLE.out).mono ?_
            rintro e w21 ⟨v21, rfl, hb21, hv21⟩
            have HU := Lib.hid hv21
            clear hv21
            replace x0 := bAt hb21 x0
            replace x1 := bAt hb21 x1
            replace x2 := bAt hb21 x2
            replace HS := Lib.hid (HS.out.below hb21)
            replace HPS := Lib.hid (HPS.out.below hb21)
            have HB21 := Lib.hid (bThen HBW.out hb21)
            clear hb21
            go_wp2_with fail
            refine (waysF_any bs g d sc _ _ HU.out HI.out).mono ?_
            rintro e w22 ⟨l22, rfl, hb22, hl22⟩
            rw [HWE.out]
            rw [HWL.out] at hl22
            obtain ⟨al, cl, rfl, hcl0, hcl⟩ := Rows2.form hl22
            have HL := Lib.hid hl22
            clear hl22 HU
            replace x0 := bAt hb22 x0
            replace x1 := bAt hb22 x1
            replace x2 := bAt hb22 x2
            replace HS := Lib.hid (HS.out.below hb22)
            replace HPS := Lib.hid (HPS.out.below hb22)
            have HB22 := Lib.hid (bThen HB21.out hb22)
            clear hb22
            go_wp2_with fail
            refine (rules_any bs g _ _ _ HS.out HLE.out).mono ?_
            rintro e w23 ⟨v23, rfl, hb23, hv23⟩
            have HU := Lib.hid hv23
            clear hv23
            replace x0 := bAt hb23 x0
            replace x1 := bAt hb23 x1
            replace x2 := bAt hb23 x2
            replace HS := Lib.hid (HS.out.below hb23)
            replace HPS := Lib.hid (HPS.out.below hb23)
            replace HL := Lib.hid (HL.out.below hb23)
            have HB23 := Lib.hid (bThen HB22.out hb23)
            clear hb23
            go_wp2_with fail
            refine (number_r bs g d sc _ N1 _ _ HU.out HI.out).mono ?_
            rintro e w24 ⟨rfl, hb24⟩
            clear HU
            replace x0 := bAt hb24 x0
            replace x1 := bAt hb24 x1
            replace x2 := bAt hb24 x2
            replace HS := Lib.hid (HS.out.below hb24)
            replace HPS := Lib.hid (HPS.out.below hb24)
            replace HL := Lib.hid (HL.out.below hb24)
            have HB24 := Lib.hid (bThen HB23.out hb24)
            clear hb24
            go_wp2_with fail
            refine (rules_any bs g _ _ _ HS.out HLE.out).mono ?_
            rintro e w25 ⟨v25, rfl, hb25, hv25⟩
            have HU := Lib.hid hv25
            clear hv25
            replace x0 := bAt hb25 x0
            replace x1 := bAt hb25 x1
            replace x2 := bAt hb25 x2
            replace HS := Lib.hid (HS.out.below hb25)
            replace HPS := Lib.hid (HPS.out.below hb25)
            replace HL := Lib.hid (HL.out.below hb25)
            have HB25 := Lib.hid (bThen HB24.out hb25)
            clear hb25
            go_wp2_with fail
            refine (fewest_r bs g d sc fa FA1 _ _ HU.out HI.out).mono ?_
            rintro e w26 ⟨a1, c1, rfl, hb26, hl26⟩
            rw [FAL.out] at hl26
            rw [FAL.out]
            have HFA := Lib.hid hl26
            clear HU hl26
            replace x0 := bAt hb26 x0
            replace x1 := bAt hb26 x1
            replace x2 := bAt hb26 x2
            replace HS := Lib.hid (HS.out.below hb26)
            replace HPS := Lib.hid (HPS.out.below hb26)
            replace HL := Lib.hid (HL.out.below hb26)
            have HB26 := Lib.hid (bThen HB25.out hb26)
            clear hb26
            go_wp2_with fail
            refine (rules_any bs g _ _ _ HS.out HLE.out).mono ?_
            rintro e w27 ⟨v27, rfl, hb27, hv27⟩
            have HU := Lib.hid hv27
            clear hv27
            replace x0 := bAt hb27 x0
            replace x1 := bAt hb27 x1
            replace x2 := bAt hb27 x2
            replace HS := Lib.hid (HS.out.below hb27)
            replace HPS := Lib.hid (HPS.out.below hb27)
            replace HL := Lib.hid (HL.out.below hb27)
            replace HFA := Lib.hid (HFA.out.below hb27)
            have HB27 := Lib.hid (bThen HB26.out hb27)
            clear hb27
            go_wp2_with fail
            refine (bogeys_r bs g d sc ca CA _ _ HU.out HI.out).mono ?_
            rintro e w28 ⟨a3, c3, rfl, hb28, hl28⟩
            have HCA := Lib.hid hl28
            clear HU hl28
            replace x0 := bAt hb28 x0
            replace x1 := bAt hb28 x1
            replace x2 := bAt hb28 x2
            replace HS := Lib.hid (HS.out.below hb28)
            replace HPS := Lib.hid (HPS.out.below hb28)
            replace HL := Lib.hid (HL.out.below hb28)
            replace HFA := Lib.hid (HFA.out.below hb28)
            have HB28 := Lib.hid (bThen HB27.out hb28)
            clear hb28
            have e3 : decide ((L.length : Int) < 1) = false := decide_eq_false (by omega)
            have e4 : decide (fs < 1) = false := decide_eq_false (by omega)
            have e5 : decide ((P.length : Int) < fs) = false := decide_eq_false (by omega)
            have e6 : decide (sc < ca.length) = false := decide_eq_false (by omega)
            have hisc : (sc : Int) < (sc : Int) + 1 := by omega
            obtain ⟨b1, o1, ea1, _, z1⟩ := HFA.out.cell (show sc < fa.length by have := FAL.out; omega)
            cases ea1
            rw [FAA.out sc (by have := FAL.out; omega), HFS.out] at z1
            clear x0 x1 x2 HS
            by_cases hc0 : ca.length = 0
            · have e7 : decide (0 < ca.length) = false := decide_eq_false (by omega)
              have e7i : decide ((0 : Int) < (ca.length : Int)) = false := decide_eq_false (by omega)
              clear hc0
              by_cases h3 : 3000 < L.length
              · have ef1 : we = 5 := by rw [F1.out, rWaysE, if_neg (by omega), if_pos h3]
                clear F1
                subst ef1
                have e8 : decide (3000 < L.length) = true := by simp [h3]
                have e8i : decide ((3000 : Int) < (L.length : Int)) = true := decide_eq_true (by omega)
                go_wp2_with fail
                refine (known_any _).mono ?_
                rintro e w99 ⟨rfl, hb99⟩
                have HB99 := Lib.hid (bThen HB28.out hb99)
                clear hb99
                go_wp2
                go_ret
                exact ⟨rfl, HB99.out⟩
              · have ef1 : we = 0 := by rw [F1.out, rWaysE, if_neg (by omega), if_neg h3]
                clear F1
                subst ef1
                have ef2 : L = wl := by rw [F2.out, rWaysR, if_neg (by omega), if_neg h3]
                clear F2
                subst ef2
                clear HFA HCA
                go_wp2_with fail
                go_loopw [17, 18] (fun c i wr => ∃ (k n : Nat), k ≤ L.length ∧ i = .int .i64 k ∧ c = .int .i64 n ∧ n ≤ k ∧ Hid (n = (L.take k).count P) ∧ Below w28.heap.size w28 wr) (fun _ i _ => L.length - (intOf i).toNat)
                case atStart => exact ⟨0, 0, by omega, rfl, rfl, by omega, Lib.hid (by simp), Below.refl _ _⟩
                case round =>
                  obtain ⟨k, n, hk, rfl, rfl, hnk, CN, hb⟩ := hrel
                  obtain ⟨wo, rfl⟩ : ∃ wo : World, wo = wr := ⟨_, rfl⟩
                  replace HL := Lib.hid (HL.out.below hb)
                  replace HPS := Lib.hid (HPS.out.below hb)
                  have HBA := Lib.hid hb
                  clear hb
                  by_cases hlk : k < L.length
                  · have hik : (k : Int) < (L.length : Int) := by omega
                    obtain ⟨bl, ol, ra, rc, hal, _, z1, s1⟩ := Rows2.cell HL.out hlk
                    cases hal
                    obtain ⟨A, hA⟩ : ∃ A, L[k] = A := ⟨_, rfl⟩
                    rw [hA] at z1 s1
                    have HA := Lib.hid s1
                    have CT : Hid ((L.take (k + 1)).count P = n + if A = P then 1 else 0) := Lib.hid (by rw [count_take hlk, ← CN.out, hA])
                    clear s1 hA
                    obtain ⟨lb, hlb⟩ : ∃ x, (A.length == P.length) = x := ⟨_, rfl⟩
                    have hlbi : ((A.length : Int) == (P.length : Int)) = lb := by rw [← hlb, Bool.eq_iff_iff]; simp only [beq_iff_eq]; omega
                    have LB : Hid (lb = true ↔ A.length = P.length) := Lib.hid (by rw [← hlb]; simp)
                    go_wp2_with fail
                    go_loopw [19, 20] (fun sm i wr => ∃ (j : Nat) (b : Bool), j ≤ P.length ∧ i = .int .i64 j ∧ sm = .bool b ∧ Hid (b = true ↔ A.length = P.length ∧ A.take j = P.take j) ∧ Below wo.heap.size wo wr) (fun _ i _ => P.length - (intOf i).toNat)
                    case atStart => exact ⟨0, _, by omega, rfl, rfl, Lib.hid (by rw [LB.out]; simp), Below.refl _ _⟩
                    case round =>
                      obtain ⟨j, b, hj, rfl, rfl, SM, hb⟩ := hrel
                      replace z1 := bAt hb z1
                      replace HL := Lib.hid (HL.out.below hb)
                      replace HPS := Lib.hid (HPS.out.below hb)
                      replace HA := Lib.hid (HA.out.below hb)
                      have HBB := Lib.hid hb
                      clear hb hlb hlbi
                      by_cases hlj : j < P.length
                      · cases b
                        · have CF : Hid ((L.take (k + 1)).count P = n) := Lib.hid (by
                            rw [CT.out, if_neg (fun e => by have := SM.out.2 ⟨by rw [e], by rw [e]⟩; cases this), Nat.add_zero])
                          go_wp2_with fail
                          go_roundw
                          case rel => exact ⟨k + 1, n, by omega, by go_num, rfl, by omega, Lib.hid CF.out.symm, bThen HBA.out HBB.out⟩
                          case measure => simp [intOf]; omega
                        · obtain ⟨sl1, sl2⟩ := SM.out.1 rfl
                          have hja : j < A.length := by omega
                          have hia : (j : Int) < (A.length : Int) := by omega
                          have hip : (j : Int) < (P.length : Int) := by omega
                          obtain ⟨b5, o5, e5, _, c5⟩ := HA.out.cell hja
                          cases e5
                          obtain ⟨b6, o6, e6, _, c6⟩ := HPS.out.cell hlj
                          cases e6
                          simp only [Nat.zero_add] at c6
                          obtain ⟨x, hx⟩ : ∃ x, A[j] = x := ⟨_, rfl⟩
                          obtain ⟨y, hy⟩ : ∃ y, P[j] = y := ⟨_, rfl⟩
                          rw [hx] at c5
                          rw [hy] at c6
                          obtain ⟨q, hq⟩ : ∃ q, (x == y) = q := ⟨_, rfl⟩
                          have SM2 : Hid (q = true ↔ A.length = P.length ∧ A.take (j + 1) = P.take (j + 1)) := Lib.hid (by
                            rw [List.take_succ_eq_append_getElem hja, List.take_succ_eq_append_getElem hlj, sl2, hx, hy, ← hq]
                            simp [sl1])
                          clear hx hy sl1 sl2
                          go_wp2_with fail
                          go_quiet (fail)
                          go_wp2_with fail
                          go_roundw
                          case rel => exact ⟨j + 1, q, by omega, by go_num, rfl, SM2, ⟨HBB.out.os, HBB.out.tape, HBB.out.output, HBB.out.size, HBB.out.block⟩⟩
                          case measure => simp [intOf]; omega
                      · obtain rfl : j = P.length := by omega
                        cases b
                        · have CF : Hid ((L.take (k + 1)).count P = n) := Lib.hid (by
                            rw [CT.out, if_neg (fun e => by have := SM.out.2 ⟨by rw [e], by rw [e]⟩; cases this), Nat.add_zero])
                          go_wp2_with fail
                          go_roundw
                          case rel => exact ⟨k + 1, n, by omega, by go_num, rfl, by omega, Lib.hid CF.out.symm, bThen HBA.out HBB.out⟩
                          case measure => simp [intOf]; omega
                        · have CF : Hid ((L.take (k + 1)).count P = n + 1) := Lib.hid (by
                            obtain ⟨s1, s2⟩ := SM.out.1 rfl
                            have e : A = P := by rw [List.take_of_length_le (Nat.le_of_eq s1), List.take_length] at s2; exact s2
                            rw [CT.out, if_pos e])
                          go_wp2_with fail
                          go_roundw
                          case rel => exact ⟨k + 1, n + 1, by omega, by go_num, by go_num, by omega, Lib.hid CF.out.symm, bThen HBA.out HBB.out⟩
                          case measure => simp [intOf]; omega
                  · obtain rfl : k = L.length := by omega
                    obtain rfl : n = 1 := by rw [CN.out, List.take_length]; exact count_one LP.out HPL.out
                    go_wp2_with fail
                    refine (known_any _).mono ?_
                    rintro e w99 ⟨rfl, hb99⟩
                    have HB99 := Lib.hid (bThen HB28.out (bThen HBA.out hb99))
                    clear hb99
                    go_wp2
                    go_ret
                    exact ⟨rfl, HB99.out⟩
            · have e7 : decide (0 < ca.length) = true := decide_eq_true (by omega)
              have e7i : decide ((0 : Int) < (ca.length : Int)) = true := decide_eq_true (by omega)
              obtain ⟨cp, hcp⟩ : ∃ p, p + 1 = ca.length := ⟨ca.length - 1, by omega⟩
              have hcpl : cp < ca.length := by omega
              have hci : (cp : Int) < (ca.length : Int) := by omega
              have hcw : IntKind.i64.wrap ((ca.length : Int) - 1) = (cp : Int) := by rw [wrap_small _ (by omega) (by omega)]; omega
              have hcs : (ca.length : Int) - 1 = (cp : Int) := by omega
              obtain ⟨b3, o3, ea3, _, z3⟩ := HCA.out.cell hcpl
              cases ea3
              obtain ⟨y, hy⟩ : ∃ y, ca[cp] = y := ⟨_, rfl⟩
              have hyn : y ≠ (sc : Int) := hy ▸ CAN.out _ (List.getElem_mem hcpl)
              rw [hy] at z3
              have e9 : (y == (sc : Int)) = false := beq_eq_false_iff_ne.2 hyn
              clear hcp hy hyn hc0
              by_cases h3 : 3000 < L.length
              · have ef1 : we = 5 := by rw [F1.out, rWaysE, if_neg (by omega), if_pos h3]
                clear F1
                subst ef1
                have e8 : decide (3000 < L.length) = true := by simp [h3]
                have e8i : decide ((3000 : Int) < (L.length : Int)) = true := decide_eq_true (by omega)
                go_wp2_with fail
                refine (known_any _).mono ?_
                rintro e w99 ⟨rfl, hb99⟩
                have HB99 := Lib.hid (bThen HB28.out hb99)
                clear hb99
                go_wp2
                go_ret
                exact ⟨rfl, HB99.out⟩
              · have ef1 : we = 0 := by rw [F1.out, rWaysE, if_neg (by omega), if_neg h3]
                clear F1
                subst ef1
                have ef2 : L = wl := by rw [F2.out, rWaysR, if_neg (by omega), if_neg h3]
                clear F2
                subst ef2
                clear HFA HCA
                go_wp2_with fail
                go_loopw [17, 18] (fun c i wr => ∃ (k n : Nat), k ≤ L.length ∧ i = .int .i64 k ∧ c = .int .i64 n ∧ n ≤ k ∧ Hid (n = (L.take k).count P) ∧ Below w28.heap.size w28 wr) (fun _ i _ => L.length - (intOf i).toNat)
                case atStart => exact ⟨0, 0, by omega, rfl, rfl, by omega, Lib.hid (by simp), Below.refl _ _⟩
                case round =>
                  obtain ⟨k, n, hk, rfl, rfl, hnk, CN, hb⟩ := hrel
                  obtain ⟨wo, rfl⟩ : ∃ wo : World, wo = wr := ⟨_, rfl⟩
                  replace HL := Lib.hid (HL.out.below hb)
                  replace HPS := Lib.hid (HPS.out.below hb)
                  have HBA := Lib.hid hb
                  clear hb
                  by_cases hlk : k < L.length
                  · have hik : (k : Int) < (L.length : Int) := by omega
                    obtain ⟨bl, ol, ra, rc, hal, _, z1, s1⟩ := Rows2.cell HL.out hlk
                    cases hal
                    obtain ⟨A, hA⟩ : ∃ A, L[k] = A := ⟨_, rfl⟩
                    rw [hA] at z1 s1
                    have HA := Lib.hid s1
                    have CT : Hid ((L.take (k + 1)).count P = n + if A = P then 1 else 0) := Lib.hid (by rw [count_take hlk, ← CN.out, hA])
                    clear s1 hA
                    obtain ⟨lb, hlb⟩ : ∃ x, (A.length == P.length) = x := ⟨_, rfl⟩
                    have hlbi : ((A.length : Int) == (P.length : Int)) = lb := by rw [← hlb, Bool.eq_iff_iff]; simp only [beq_iff_eq]; omega
                    have LB : Hid (lb = true ↔ A.length = P.length) := Lib.hid (by rw [← hlb]; simp)
                    go_wp2_with fail
                    go_loopw [19, 20] (fun sm i wr => ∃ (j : Nat) (b : Bool), j ≤ P.length ∧ i = .int .i64 j ∧ sm = .bool b ∧ Hid (b = true ↔ A.length = P.length ∧ A.take j = P.take j) ∧ Below wo.heap.size wo wr) (fun _ i _ => P.length - (intOf i).toNat)
                    case atStart => exact ⟨0, _, by omega, rfl, rfl, Lib.hid (by rw [LB.out]; simp), Below.refl _ _⟩
                    case round =>
                      obtain ⟨j, b, hj, rfl, rfl, SM, hb⟩ := hrel
                      replace z1 := bAt hb z1
                      replace HL := Lib.hid (HL.out.below hb)
                      replace HPS := Lib.hid (HPS.out.below hb)
                      replace HA := Lib.hid (HA.out.below hb)
                      have HBB := Lib.hid hb
                      clear hb hlb hlbi
                      by_cases hlj : j < P.length
                      · cases b
                        · have CF : Hid ((L.take (k + 1)).count P = n) := Lib.hid (by
                            rw [CT.out, if_neg (fun e => by have := SM.out.2 ⟨by rw [e], by rw [e]⟩; cases this), Nat.add_zero])
                          go_wp2_with fail
                          go_roundw
                          case rel => exact ⟨k + 1, n, by omega, by go_num, rfl, by omega, Lib.hid CF.out.symm, bThen HBA.out HBB.out⟩
                          case measure => simp [intOf]; omega
                        · obtain ⟨sl1, sl2⟩ := SM.out.1 rfl
                          have hja : j < A.length := by omega
                          have hia : (j : Int) < (A.length : Int) := by omega
                          have hip : (j : Int) < (P.length : Int) := by omega
                          obtain ⟨b5, o5, e5, _, c5⟩ := HA.out.cell hja
                          cases e5
                          obtain ⟨b6, o6, e6, _, c6⟩ := HPS.out.cell hlj
                          cases e6
                          simp only [Nat.zero_add] at c6
                          obtain ⟨x, hx⟩ : ∃ x, A[j] = x := ⟨_, rfl⟩
                          obtain ⟨y, hy⟩ : ∃ y, P[j] = y := ⟨_, rfl⟩
                          rw [hx] at c5
                          rw [hy] at c6
                          obtain ⟨q, hq⟩ : ∃ q, (x == y) = q := ⟨_, rfl⟩
                          have SM2 : Hid (q = true ↔ A.length = P.length ∧ A.take (j + 1) = P.take (j + 1)) := Lib.hid (by
                            rw [List.take_succ_eq_append_getElem hja, List.take_succ_eq_append_getElem hlj, sl2, hx, hy, ← hq]
                            simp [sl1])
                          clear hx hy sl1 sl2
                          go_wp2_with fail
                          go_quiet (fail)
                          go_wp2_with fail
                          go_roundw
                          case rel => exact ⟨j + 1, q, by omega, by go_num, rfl, SM2, ⟨HBB.out.os, HBB.out.tape, HBB.out.output, HBB.out.size, HBB.out.block⟩⟩
                          case measure => simp [intOf]; omega
                      · obtain rfl : j = P.length := by omega
                        cases b
                        · have CF : Hid ((L.take (k + 1)).count P = n) := Lib.hid (by
                            rw [CT.out, if_neg (fun e => by have := SM.out.2 ⟨by rw [e], by rw [e]⟩; cases this), Nat.add_zero])
                          go_wp2_with fail
                          go_roundw
                          case rel => exact ⟨k + 1, n, by omega, by go_num, rfl, by omega, Lib.hid CF.out.symm, bThen HBA.out HBB.out⟩
                          case measure => simp [intOf]; omega
                        · have CF : Hid ((L.take (k + 1)).count P = n + 1) := Lib.hid (by
                            obtain ⟨s1, s2⟩ := SM.out.1 rfl
                            have e : A = P := by rw [List.take_of_length_le (Nat.le_of_eq s1), List.take_length] at s2; exact s2
                            rw [CT.out, if_pos e])
                          go_wp2_with fail
                          go_roundw
                          case rel => exact ⟨k + 1, n + 1, by omega, by go_num, by go_num, by omega, Lib.hid CF.out.symm, bThen HBA.out HBB.out⟩
                          case measure => simp [intOf]; omega
                  · obtain rfl : k = L.length := by omega
                    obtain rfl : n = 1 := by rw [CN.out, List.take_length]; exact count_one LP.out HPL.out
                    go_wp2_with fail
                    refine (known_any _).mono ?_
                    rintro e w99 ⟨rfl, hb99⟩
                    have HB99 := Lib.hid (bThen HB28.out (bThen HBA.out hb99))
                    clear hb99
                    go_wp2
                    go_ret
                    exact ⟨rfl, HB99.out⟩
    · go_wp2_with fail
      refine (known_any _).mono ?_
      rintro e w2 ⟨rfl, hb2⟩
      have HB2 := Lib.hid (bThen HB1.out hb2)
      clear hb2
      go_wp2
      go_ret
      exact ⟨rfl, HB2.out⟩
end Go.Proofs.Ytcnofoopdghjiaa
