/- The texts OE, in build order. -/
import Derived.Test.YtcnofoopdghjiaaZaq

/- Chapter 2, law OutEnds: the walk. (Printed by gen_OE.py.) -/
namespace Go.Proofs.Ytcnofoopdghjiaa
open Go.RowKit Go.Oche Go.Proofs

/-- A call that leaves the world, behind regions that drew. -/
theorem quiet_more {P : Program} {f : FuncId} {args : Array Value} {w : World} {a n : Nat} {v : Value} (h : Calls P f args (w.drewN (a + n)) fun e w' => e = .returned v ∧ w' = w.drewN (a + n)) :
    Calls P f args (w.drewN (a + n)) fun e w' => e = .returned v ∧ ∃ m, w' = w.drewN (a + m) := h.mono fun _ _ h => ⟨h.1, n, h.2⟩
theorem runs_drop {g lf : Int} {A : List Int} {j : Nat} (h : runs g lf (A.drop j)) (hj : j < A.length) : 0 < lf ∧ aftOk g lf A[j] = true ∧ runs g (lf - worth A[j]) (A.drop (j + 1)) := by
  rw [List.drop_eq_getElem_cons hj] at h
  exact h
theorem runs_end {g lf : Int} {A : List Int} (h : runs g lf (A.drop A.length)) : lf = 0 := by
  rw [List.drop_length] at h
  exact h
theorem lex_drop {A B : List Int} {j : Nat} (h : lexB (B.drop j) (A.drop j)) (hj : j < A.length) : ∃ hb : j < B.length, B[j] < A[j] ∨ (B[j] = A[j] ∧ lexB (B.drop (j + 1)) (A.drop (j + 1))) := by
  rw [List.drop_eq_getElem_cons hj] at h
  by_cases hb : j < B.length
  · rw [List.drop_eq_getElem_cons hb] at h
    exact ⟨hb, h⟩
  · rw [List.drop_eq_nil_of_le (by omega)] at h
    exact h.elim
theorem lex_end {A B : List Int} (h : lexB B (A.drop A.length)) : False := by
  rw [List.drop_length] at h
  cases B <;> exact h
theorem ways_next {L : List (List Int)} (h : L.Pairwise wLt) {q p : Nat} (hp : p + 1 = q) (hq : q < L.length) : wLt (L[p]'(by omega)) L[q] :=
  List.pairwise_iff_getElem.1 h p q (by omega) hq (by omega)
theorem take_mem_succ {A : List Int} {m : Nat} (hm : m < A.length) (y : Int) : decide (y ∈ A.take (m + 1)) = (decide (y ∈ A.take m) || (A[m] == y)) := by
  rw [List.take_succ_eq_append_getElem hm, Bool.eq_iff_iff]
  simp only [decide_eq_true_eq, Bool.or_eq_true, beq_iff_eq, List.mem_append, List.mem_singleton]
  exact ⟨fun h => h.imp id Eq.symm, fun h => h.imp id Eq.symm⟩

set_option maxRecDepth 100000 in
set_option maxHeartbeats 8000000 in
theorem OutEnds_any {S : Nat → Prop} (bs : List Int) (g d sc : Int) (v : Value) (w : World) (hs : Sl S w v (ints bs)) (hi : ∀ b ∈ bs, I64 b) (hsc : 0 ≤ sc ∧ sc ≤ 65535) :
    Calls Try.prog 7 #[.agg #[v, .int .i64 g, .int .i64 d], .int .u16 sc] w fun e w' => e = .returned (.bool true) ∧ Below w.heap.size w w' := by
  obtain ⟨a, cap, rfl, _, h3⟩ := hs.form
  simp only [ints_length] at *
  unfold maxLen at h3
  obtain ⟨w0, hw0⟩ : ∃ w0, w0 = w.alloc (.cells #[.slice a bs.length cap, .int .i64 g, .int .i64 d] 25) := ⟨_, rfl⟩
  have hb0 : Below w.heap.size w w0 := by rw [hw0]; exact aB _ _
  have h2 : w0.heap[w.heap.size]? = some (.cells #[.slice a bs.length cap, .int .i64 g, .int .i64 d] 25 (0, 0)) := by rw [hw0]; exact World.alloc_heap_new _ _
  have x0 : w0.cell? ⟨w.heap.size, 0, none⟩ = some (.slice a bs.length cap) := by rw [cell_of_heap h2]; rfl
  have x1 : w0.cell? ⟨w.heap.size, 1, none⟩ = some (.int .i64 g) := by rw [cell_of_heap h2]; rfl
  have x2 : w0.cell? ⟨w.heap.size, 2, none⟩ = some (.int .i64 d) := by rw [cell_of_heap h2]; rfl
  have HS := Lib.hid (hs.below hb0)
  have HI := Lib.hid hi
  have HW := Lib.hid hw0
  have HB0 := Lib.hid hb0
  clear hs hi hw0 h2 hb0
  obtain ⟨m, hm, hm2⟩ : ∃ m : Nat, sc.tmod 1001 = m ∧ m < 1001 := ⟨(sc.tmod 1001).toNat, by have := Int.tmod_nonneg 1001 hsc.1; have := Int.tmod_lt_of_pos sc (show (0 : Int) < 1001 by decide); omega, by have := Int.tmod_nonneg 1001 hsc.1; have := Int.tmod_lt_of_pos sc (show (0 : Int) < 1001 by decide); omega⟩
  have hw1 : IntKind.i64.wrap sc = sc := wrap_small _ (by omega) (by omega)
  have hw2 : IntKind.i64.wrap (m : Int) = m := wrap_small _ (by omega) (by omega)
  obtain ⟨s, hs⟩ : ∃ s : Nat, s = m + 1 := ⟨_, rfl⟩
  have hw3 : IntKind.i64.wrap (1 + (m : Int)) = (s : Int) := by rw [wrap_small _ (by omega) (by omega)]; omega
  have hsb : 1 ≤ s ∧ s ≤ 1001 := by omega
  clear hsc hs
  obtain ⟨r, hr⟩ : ∃ b, rulesOk bs g d = b := ⟨_, rfl⟩
  have HR := Lib.hid hr
  clear hr
  go_enter Try.func7, Try.ntmps7
  go_wp2_with fail
  rw [← HW.out]
  refine (sound_r bs g d _ HR _ _ HS.out HI.out).mono ?_
  rintro e w1 ⟨rfl, hb1⟩
  replace x0 := bAt hb1 x0
  replace x1 := bAt hb1 x1
  replace x2 := bAt hb1 x2
  replace HS := Lib.hid (HS.out.below hb1)
  have HB1 := Lib.hid (bThen HB0.out hb1)
  clear hb1
  cases r
  · go_wp2_with fail
    refine (known_any _).mono ?_
    rintro e w2 ⟨rfl, hb2⟩
    have HB2 := Lib.hid (bThen HB1.out hb2)
    clear hb2
    go_wp2
    go_ret
    exact ⟨rfl, HB2.out⟩
  · obtain ⟨q1, q2, q3, q4⟩ := rulesOk_spec HR.out
    obtain ⟨d, rfl⟩ : ∃ n : Nat, d = (n : Int) := ⟨d.toNat, by omega⟩
    have hd9 : d ≤ 9 := by omega
    have HG := Lib.hid q2
    have BO := Lib.hid (bedsOk_spec q1)
    have HLE : Hid (bs.length ≤ 85) := Lib.hid (by have := (bedsOk_spec q1).2.2.2; omega)
    clear q1 q2 q3 q4
    have FA := ways_facts HR.out hsb.1 hsb.2
    obtain ⟨L, hL⟩ : ∃ L, outAll g bs s d = L := ⟨_, rfl⟩
    obtain ⟨we, hwe⟩ : ∃ x, waysErr bs g d s = x := ⟨_, rfl⟩
    obtain ⟨wl, hwl⟩ : ∃ x, waysRes bs g d s = x := ⟨_, rfl⟩
    obtain ⟨fe, hfe⟩ : ∃ x, firstErr bs g d s = x := ⟨_, rfl⟩
    obtain ⟨fr, hfr⟩ : ∃ x, firstRes bs g d s = x := ⟨_, rfl⟩
    rw [hL, hwe, hwl, hfe, hfr] at FA
    obtain ⟨f1, f2, f3, f4, _, _, f7, f8⟩ := FA
    have F1 := Lib.hid f1
    have F2 := Lib.hid f2
    have F3 := Lib.hid f3
    have F4 := Lib.hid f4
    have F7 := Lib.hid f7
    have F8 := Lib.hid f8
    have HWE := Lib.hid hwe
    have HWL := Lib.hid hwl
    have HFE := Lib.hid hfe
    have HFR := Lib.hid hfr
    have LM : Hid (∀ l ∈ L, 1 ≤ l.length ∧ l.length ≤ d ∧ (∀ b ∈ l, b ∈ bs) ∧ runs g s l) := Lib.hid (fun l hl => mem_outAll.1 (hL ▸ hl))
    have LP : Hid (L.Pairwise wLt) := Lib.hid (hL ▸ outAll_pairwise (beds_pairwise BO.out.2.1) s d)
    have LFO : Hid (∀ b ∈ forcedTo g bs d s bs.length, ∀ l ∈ L, b ∈ l) := Lib.hid (fun b hb l hl => forced_mem BO.out.1 hb (hL ▸ hl))
    clear f1 f2 f3 f4 f7 f8 hL hwe hwl hfe hfr
    go_wp2_with fail
    refine (rules_any bs g d _ _ HS.out HLE.out).mono ?_
    rintro e w2 ⟨v2, rfl, hb2, hv2⟩
    have HV1 := Lib.hid hv2
    clear hv2
    replace x0 := bAt hb2 x0
    replace x1 := bAt hb2 x1
    replace x2 := bAt hb2 x2
    replace HS := Lib.hid (HS.out.below hb2)
    have HB2 := Lib.hid (bThen HB1.out hb2)
    clear hb2
    go_wp2_with fail
    refine (waysF_any bs g d s _ _ HV1.out HI.out).mono ?_
    rintro e w3 ⟨l3, rfl, hb3, hl3⟩
    rw [HWE.out]
    rw [HWL.out] at hl3
    obtain ⟨al, cl, rfl, hcl0, hcl⟩ := Rows2.form hl3
    have HL := Lib.hid hl3
    have HCL := Lib.hid hcl0
    clear hl3 hcl0
    replace x0 := bAt hb3 x0
    replace x1 := bAt hb3 x1
    replace x2 := bAt hb3 x2
    replace HS := Lib.hid (HS.out.below hb3)
    have HB3 := Lib.hid (bThen HB2.out hb3)
    clear hb3
    go_wp2_with fail
    refine (rules_any bs g d _ _ HS.out HLE.out).mono ?_
    rintro e w4 ⟨v4, rfl, hb4, hv4⟩
    have HV2 := Lib.hid hv4
    clear hv4
    replace x0 := bAt hb4 x0
    replace x1 := bAt hb4 x1
    replace x2 := bAt hb4 x2
    replace HS := Lib.hid (HS.out.below hb4)
    replace HL := Lib.hid (HL.out.below hb4)
    have HB4 := Lib.hid (bThen HB3.out hb4)
    clear hb4
    go_wp2_with fail
    refine (number_any bs g d s _ _ HV2.out HI.out).mono ?_
    rintro e w5 ⟨rfl, hb5⟩
    rw [F7.out, F8.out]
    replace x0 := bAt hb5 x0
    replace x1 := bAt hb5 x1
    replace x2 := bAt hb5 x2
    replace HS := Lib.hid (HS.out.below hb5)
    replace HL := Lib.hid (HL.out.below hb5)
    replace HV2 := Lib.hid (HV2.out.below hb5)
    have HB5 := Lib.hid (bThen HB4.out hb5)
    clear hb5
    go_wp2_with fail
    refine (rules_any bs g d _ _ HS.out HLE.out).mono ?_
    rintro e w6 ⟨v6, rfl, hb6, hv6⟩
    have HV3 := Lib.hid hv6
    clear hv6
    replace x0 := bAt hb6 x0
    replace x1 := bAt hb6 x1
    replace x2 := bAt hb6 x2
    replace HS := Lib.hid (HS.out.below hb6)
    replace HL := Lib.hid (HL.out.below hb6)
    have HB6 := Lib.hid (bThen HB5.out hb6)
    clear hb6
    go_wp2_with fail
    refine (firstF_any bs g d s _ _ HV3.out HI.out).mono ?_
    rintro e w7 ⟨l7, rfl, hb7, hl7⟩
    rw [HFE.out]
    rw [HFR.out] at hl7
    obtain ⟨af, cf, rfl, _, hcf⟩ := hl7.form
    simp only [ints_length] at *
    have HF := Lib.hid hl7
    clear hl7
    replace x0 := bAt hb7 x0
    replace x1 := bAt hb7 x1
    replace x2 := bAt hb7 x2
    replace HS := Lib.hid (HS.out.below hb7)
    replace HL := Lib.hid (HL.out.below hb7)
    have HB7 := Lib.hid (bThen HB6.out hb7)
    clear hb7
    by_cases hz : L.length = 0
    · obtain rfl : L = [] := List.eq_nil_of_length_eq_zero hz
      have ef0 : we = 7 := F1.out
      clear F1
      subst ef0
      have ef1 : wl = [] := F2.out
      clear F2
      subst ef1
      have ef2 : fe = 7 := F3.out
      clear F3
      subst ef2
      have ef3 : fr = [] := F4.out
      clear F4
      subst ef3
      simp only [List.length_nil] at *
      clear hz
      go_wp2_with fail
      refine (known_any _).mono ?_
      rintro e w8 ⟨rfl, hb8⟩
      have HB8 := Lib.hid (bThen HB7.out hb8)
      clear hb8
      go_wp2
      go_ret
      exact ⟨rfl, HB8.out⟩
    · by_cases hz2 : 3000 < L.length
      · obtain ⟨l0, rest, hlr⟩ : ∃ l0 rest, L = l0 :: rest := by
          cases L with
          | nil => exact absurd rfl hz
          | cons l0 rest => exact ⟨l0, rest, rfl⟩
        have ef0 : we = 5 := by rw [F1.out, rWaysE, if_neg hz, if_pos hz2]
        clear F1
        subst ef0
        have ef1 : wl = [] := by rw [F2.out, rWaysR, if_neg hz, if_pos hz2]
        clear F2
        subst ef1
        have ef2 : fe = 0 := by rw [F3.out, hlr]; rfl
        clear F3
        subst ef2
        simp only [List.length_nil] at *
        clear hlr hz
        have g0 : ((L.length : Int) == 0) = false := beq_eq_false_iff_ne.2 (by omega)
        have g1 : decide ((3000 : Int) < (L.length : Int)) = true := by simp; omega
        have g2 : decide ((0 : Int) < (L.length : Int)) = true := by simp; omega
        have g1n : decide (3000 < L.length) = true := by simp; omega
        have g2n : decide (0 < L.length) = true := by simp; omega
        go_wp2_with fail
        refine (known_any _).mono ?_
        rintro e w8 ⟨rfl, hb8⟩
        have HB8 := Lib.hid (bThen HB7.out hb8)
        clear hb8
        go_wp2
        go_ret
        exact ⟨rfl, HB8.out⟩
      · have hL0 : 0 < L.length := by omega
        have ef0 : we = 0 := by rw [F1.out, rWaysE, if_neg hz, if_neg hz2]
        clear F1
        subst ef0
        have ef1 : L = wl := by rw [F2.out, rWaysR, if_neg hz, if_neg hz2]
        clear F2
        subst ef1
        have ef2 : fe = 0 := by rw [F3.out]; cases L with | nil => exact absurd rfl hz | cons l0 rest => rfl
        clear F3
        subst ef2
        have ef3 : fr = L[0] := by rw [F4.out]; cases L with | nil => exact absurd rfl hz | cons l0 rest => rfl
        clear F4
        subst ef3
        have hL3 : L.length ≤ 3000 := by omega
        clear hz hz2
        have g0 : ((L.length : Int) == 0) = false := beq_eq_false_iff_ne.2 (by omega)
        have g1 : decide ((3000 : Int) < (L.length : Int)) = false := by simp; omega
        have g2 : decide ((0 : Int) < (L.length : Int)) = true := by simp; omega
        obtain ⟨fo, hfo⟩ : ∃ x, forcedL bs g d s = x := ⟨_, rfl⟩
        have FE0 : Hid (forcedErr bs g d s = 0) := Lib.hid (by rw [forcedErr, if_pos F8.out, F7.out, if_neg (by omega)])
        have LFF : Hid (∀ b ∈ fo, ∀ l ∈ L, b ∈ l) := Lib.hid (by
          have e : forcedL bs g d s = forcedTo g bs d s bs.length := by rw [forcedL, if_pos FE0.out]; rfl
          rw [← hfo, e]; exact LFO.out)
        have HFO := Lib.hid hfo
        clear hfo
        go_wp2_with fail
        refine (rules_any bs g d _ _ HS.out HLE.out).mono ?_
        rintro e w8 ⟨v8, rfl, hb8, hv8⟩
        have HV4 := Lib.hid hv8
        clear hv8
        replace x0 := bAt hb8 x0
        replace x1 := bAt hb8 x1
        replace x2 := bAt hb8 x2
        replace HS := Lib.hid (HS.out.below hb8)
        replace HL := Lib.hid (HL.out.below hb8)
        replace HF := Lib.hid (HF.out.below hb8)
        have HB8 := Lib.hid (bThen HB7.out hb8)
        clear hb8
        go_wp2_with fail
        refine (forced_any bs g d s _ _ HV4.out HI.out).mono ?_
        rintro e w9 ⟨l9, rfl, hb9, hl9⟩
        rw [FE0.out]
        rw [HFO.out] at hl9
        obtain ⟨ao, co, rfl, hco0, hco⟩ := hl9.form
        unfold maxLen at hco
        simp only [ints_length] at *
        have HO := Lib.hid hl9
        clear hl9
        replace x0 := bAt hb9 x0
        replace x1 := bAt hb9 x1
        replace x2 := bAt hb9 x2
        replace HS := Lib.hid (HS.out.below hb9)
        replace HL := Lib.hid (HL.out.below hb9)
        replace HF := Lib.hid (HF.out.below hb9)
        have HB9 := Lib.hid (bThen HB8.out hb9)
        clear hb9
        obtain ⟨bl, ol, ra0, rc0, hal, _, z0, _⟩ := Rows2.cell HL.out hL0
        cases hal
        simp only [Nat.add_zero] at z0
        clear x0 HS
        go_wp2_with fail
        go_loopw [14] (fun k wr => ∃ q : Nat, q ≤ L.length ∧ k = .int .i64 q ∧ Below w9.heap.size w9 wr) (fun k _ => L.length - (intOf k).toNat)
        case atStart => exact ⟨0, by omega, rfl, Below.refl _ _⟩
        case round =>
          obtain ⟨q, hq, rfl, hb⟩ := hrel
          replace x1 := bAt hb x1
          replace x2 := bAt hb x2
          replace HL := Lib.hid (HL.out.below hb)
          replace HF := Lib.hid (HF.out.below hb)
          replace HO := Lib.hid (HO.out.below hb)
          obtain ⟨wo, rfl⟩ : ∃ wo : World, wo = wr := ⟨_, rfl⟩
          have HBO := Lib.hid hb
          have HB1 := Lib.hid (bThen HB9.out hb)
          clear hb z0
          by_cases hlt : q < L.length
          · have hiq : (q : Int) < (L.length : Int) := by omega
            obtain ⟨A, hA⟩ : ∃ A, L[q] = A := ⟨_, rfl⟩
            obtain ⟨bl1, ol1, ra, rc, hal1, _, z1, s1⟩ := Rows2.cell HL.out hlt
            cases hal1
            rw [hA] at z1 s1
            have HA := Lib.hid s1
            have AL : Hid (A ∈ L) := Lib.hid (hA ▸ List.getElem_mem hlt)
            have ARU : Hid (runs g s A) := Lib.hid (LM.out A AL.out).2.2.2
            have ABS : Hid (∀ b ∈ A, bedOk b = true) := Lib.hid (fun b hb => BO.out.1 b ((LM.out A AL.out).2.2.1 b hb))
            have al1 : 1 ≤ A.length := (LM.out A AL.out).1
            have al2 : A.length ≤ d := (LM.out A AL.out).2.1
            have HAQ := Lib.hid hA
            clear hA s1
            have a1 : decide ((A.length : Int) < 1) = false := by simp; omega
            have a2 : decide (d < A.length) = false := by simp; omega
            by_cases hq0 : q = 0
            · as_aux_lemma =>
              obtain rfl := hq0
              simp only [Nat.add_zero] at z1
              go_wp2_with fail
              go_quiet (fail)
              go_wp2_with fail
              go_quiet (fail)
              go_wp2_with fail
              go_loopw [15, 16, 17] (fun l gr i wr => ∃ (j : Nat) (lf : Int) (gb : Bool), j ≤ A.length ∧ i = .int .i64 j ∧ l = .int .i64 lf ∧ gr = .bool gb ∧ 0 ≤ lf ∧ lf ≤ s ∧ Hid (runs g lf (A.drop j)) ∧ Hid (gb = false → False) ∧ Below wo.heap.size wo wr) (fun _ _ i _ => A.length - (intOf i).toNat)
              case atStart => exact ⟨0, s, true, by omega, rfl, rfl, rfl, by omega, by omega, Lib.hid ARU.out, Lib.hid (fun h => by cases h), ⟨rfl, rfl, rfl, Nat.le_refl _, fun _ _ => rfl⟩⟩
              case round =>
                obtain ⟨j, lf, gb, hj, rfl, rfl, rfl, hl0, hl1, RU, GR, hb2⟩ := hrel
                replace x1 := bAt hb2 x1
                replace x2 := bAt hb2 x2
                replace z1 := bAt hb2 z1
                replace HL := Lib.hid (HL.out.below hb2)
                replace HF := Lib.hid (HF.out.below hb2)
                replace HO := Lib.hid (HO.out.below hb2)
                replace HA := Lib.hid (HA.out.below hb2)
                obtain ⟨wp, rfl⟩ : ∃ wp : World, wp = wr := ⟨_, rfl⟩
                have HB2 := Lib.hid hb2
                clear hb2
                by_cases hlj : j < A.length
                · have hij : (j : Int) < (A.length : Int) := by omega
                  obtain ⟨x, hx⟩ : ∃ x, A[j] = x := ⟨_, rfl⟩
                  obtain ⟨b5, o5, e5, _, c5⟩ := HA.out.cell hlj
                  cases e5
                  rw [hx] at c5
                  have hxo : bedOk x = true := hx ▸ ABS.out _ (List.getElem_mem hlj)
                  obtain ⟨r1, r2, r3⟩ := runs_drop RU.out hlj
                  rw [hx] at r2 r3
                  obtain ⟨ln, hln⟩ : ∃ ln, lf - worth x = ln := ⟨_, rfl⟩
                  have LF : Hid (aftR lf x g = ln) := Lib.hid (by rw [aftR, if_pos r2, hln])
                  have ln0 : 0 ≤ ln := hln ▸ aftOk_bd r2
                  have ln1 : ln ≤ s := by have := worth_bd hxo; omega
                  rw [hln] at r3
                  have RU2 := Lib.hid r3
                  have HXO := Lib.hid hxo
                  have HXA := Lib.hid hx
                  have d1 : decide (lf ≤ 0) = false := by simp; omega
                  clear r2 r3 hln hx hxo
                  as_aux_lemma =>
                  obtain rfl : gb = true := by
                    cases gb
                    · exact (GR.out rfl).elim
                    · rfl
                  obtain ⟨b6, o6, e6, _, c6⟩ := HF.out.cell (show j < (L[0]).length by rw [HAQ.out]; exact hlj)
                  cases e6
                  simp only [HAQ.out, HXA.out] at c6
                  have hlj0 : j < (L[0]).length := by rw [HAQ.out]; exact hlj
                  have hij0 : (j : Int) < ((L[0]).length : Int) := by omega
                  go_wp2_with fail
                  go_quiet (fail)
                  go_wp2_with fail
                  go_quiet ((go_at_call 39; exact quiet_more (hit_q _ _ _ _ LF _ HXO.out (by omega) (by omega) HG.out)))
                  go_wp2_with fail
                  go_quiet (fail)
                  go_wp2_with fail
                  go_roundw
                  case rel => exact ⟨j + 1, ln, true, by omega, by go_num, rfl, rfl, ln0, ln1, RU2, Lib.hid (fun h => by cases h), ⟨HB2.out.os, HB2.out.tape, HB2.out.output, HB2.out.size, HB2.out.block⟩⟩
                  case measure => simp [intOf]; omega
                · obtain rfl : j = A.length := by omega
                  obtain rfl : lf = 0 := runs_end RU.out
                  obtain rfl : gb = true := by
                    cases gb
                    · exact (GR.out rfl).elim
                    · rfl
                  as_aux_lemma =>
                    go_wp2_with fail
                    go_loopw [18] (fun i wr => ∃ f : Nat, f ≤ fo.length ∧ i = .int .i64 f ∧ Below wp.heap.size wp wr) (fun i _ => fo.length - (intOf i).toNat)
                    case atStart => exact ⟨0, by omega, rfl, Below.refl _ _⟩
                    case round =>
                      obtain ⟨f, hf, rfl, hb3⟩ := hrel
                      replace x1 := bAt hb3 x1
                      replace x2 := bAt hb3 x2
                      replace z1 := bAt hb3 z1
                      replace HL := Lib.hid (HL.out.below hb3)
                      replace HF := Lib.hid (HF.out.below hb3)
                      replace HO := Lib.hid (HO.out.below hb3)
                      replace HA := Lib.hid (HA.out.below hb3)
                      obtain ⟨wq, rfl⟩ : ∃ wq : World, wq = wr := ⟨_, rfl⟩
                      have HB3 := Lib.hid (bThen HB2.out hb3)
                      have HBP := Lib.hid hb3
                      clear hb3
                      by_cases hlf : f < fo.length
                      · have hif : (f : Int) < (fo.length : Int) := by omega
                        obtain ⟨y, hy⟩ : ∃ y, fo[f] = y := ⟨_, rfl⟩
                        have HY : Hid (y ∈ A) := Lib.hid (LFF.out y (hy ▸ List.getElem_mem hlf) A AL.out)
                        have HYF := Lib.hid hy
                        clear hy
                        go_wp2_with fail
                        go_loopw [19, 20] (fun th m wr => ∃ (mm : Nat) (tb : Bool), mm ≤ A.length ∧ m = .int .i64 mm ∧ th = .bool tb ∧ Hid (decide (y ∈ A.take mm) = tb) ∧ Below wq.heap.size wq wr) (fun _ m _ => A.length - (intOf m).toNat)
                        case atStart => exact ⟨0, false, by omega, rfl, rfl, Lib.hid (by simp), Below.refl _ _⟩
                        case round =>
                          obtain ⟨mm, tb, hmm, rfl, rfl, TB, hb4⟩ := hrel
                          replace x1 := bAt hb4 x1
                          replace x2 := bAt hb4 x2
                          replace z1 := bAt hb4 z1
                          replace HL := Lib.hid (HL.out.below hb4)
                          replace HF := Lib.hid (HF.out.below hb4)
                          replace HO := Lib.hid (HO.out.below hb4)
                          replace HA := Lib.hid (HA.out.below hb4)
                          have HB4 := Lib.hid hb4
                          clear hb4
                          by_cases hlm : mm < A.length
                          · have him : (mm : Int) < (A.length : Int) := by omega
                            obtain ⟨b5, o5, e5, _, c5⟩ := HA.out.cell hlm
                            cases e5
                            obtain ⟨b6, o6, e6, _, c6⟩ := HO.out.cell hlf
                            cases e6
                            rw [HYF.out] at c6
                            obtain ⟨x, hx⟩ : ∃ x, A[mm] = x := ⟨_, rfl⟩
                            rw [hx] at c5
                            have TS : Hid (decide (y ∈ A.take (mm + 1)) = (tb || (x == y))) := Lib.hid (by rw [take_mem_succ hlm, TB.out, hx])
                            clear hx
                            cases tb
                            · by_cases hxy : x = y
                              · have g0 : (x == y) = true := by simp [hxy]
                                have HXY := Lib.hid hxy
                                clear hxy
                                go_wp2_with fail
                                go_quiet (fail)
                                go_wp2_with fail
                                go_roundw
                                case rel => exact ⟨mm + 1, true, by omega, by go_num, rfl, Lib.hid (by rw [TS.out, HXY.out]; simp), ⟨HB4.out.os, HB4.out.tape, HB4.out.output, HB4.out.size, HB4.out.block⟩⟩
                                case measure => simp [intOf]; omega
                              · have g0 : (x == y) = false := by simp [hxy]
                                have HXY := Lib.hid hxy
                                clear hxy
                                go_wp2_with fail
                                go_quiet (fail)
                                go_wp2_with fail
                                go_roundw
                                case rel => exact ⟨mm + 1, false, by omega, by go_num, rfl, Lib.hid (by rw [TS.out]; simp [HXY.out]), ⟨HB4.out.os, HB4.out.tape, HB4.out.output, HB4.out.size, HB4.out.block⟩⟩
                                case measure => simp [intOf]; omega
                            · go_wp2_with fail
                              go_quiet (fail)
                              go_wp2_with fail
                              go_roundw
                              case rel => exact ⟨mm + 1, true, by omega, by go_num, rfl, Lib.hid (by rw [TS.out]; rfl), ⟨HB4.out.os, HB4.out.tape, HB4.out.output, HB4.out.size, HB4.out.block⟩⟩
                              case measure => simp [intOf]; omega
                          · obtain rfl : mm = A.length := by omega
                            obtain rfl : tb = true := by rw [← TB.out, List.take_length]; exact decide_eq_true HY.out
                            go_wp2_with fail
                            go_roundw
                            case rel => exact ⟨f + 1, by omega, by go_num, bThen HBP.out HB4.out⟩
                            case measure => simp [intOf]; omega
                      · obtain rfl : f = fo.length := by omega
                        go_wp2_with fail
                        go_roundw
                        case rel => exact ⟨0 + 1, by omega, by go_num, bThen HBO.out HB3.out⟩
                        case measure => simp [intOf]; omega
            · as_aux_lemma =>
              obtain ⟨p, hp⟩ : ∃ p, p + 1 = q := ⟨q - 1, by omega⟩
              have hwq : IntKind.i64.wrap ((q : Int) - 1) = (p : Int) := by rw [wrap_small _ (by omega) (by omega)]; omega
              have hip : (p : Int) < (L.length : Int) := by omega
              have hlp : p < L.length := by omega
              obtain ⟨B, hB⟩ : ∃ B, L[p] = B := ⟨_, rfl⟩
              obtain ⟨bl2, ol2, rb, rd, hal2, _, z2, s2⟩ := Rows2.cell HL.out hlp
              cases hal2
              rw [hB] at z2 s2
              have HB := Lib.hid s2
              have HBP := Lib.hid hB
              have WL : Hid (wLt B A) := Lib.hid (by have := ways_next LP.out hp hlt; rw [hB, HAQ.out] at this; exact this)
              have hba : B.length ≤ A.length := by rcases WL.out with h | ⟨h, _⟩ <;> omega
              have a3 : decide (0 < q) = true := by simp; omega
              have a4 : decide (A.length < B.length) = false := by simp; omega
              have a5 : ((q : Int) == 0) = false := by simp; omega
              obtain ⟨gr0, hgr0⟩ : ∃ x, decide (B.length < A.length) = x := ⟨_, rfl⟩
              have ALX : Hid (gr0 = false → lexB (B.drop 0) (A.drop 0)) := Lib.hid (fun h => by
                rw [h] at hgr0
                rcases WL.out with h1 | ⟨_, h1⟩
                · simp at hgr0; omega
                · exact h1)
              clear hB s2 hp
              go_wp2_with fail
              go_quiet (fail)
              go_wp2_with fail
              go_quiet (fail)
              go_wp2_with fail
              go_loopw [15, 16, 17] (fun l gr i wr => ∃ (j : Nat) (lf : Int) (gb : Bool), j ≤ A.length ∧ i = .int .i64 j ∧ l = .int .i64 lf ∧ gr = .bool gb ∧ 0 ≤ lf ∧ lf ≤ s ∧ Hid (runs g lf (A.drop j)) ∧ Hid (gb = false → lexB (B.drop j) (A.drop j)) ∧ Below wo.heap.size wo wr) (fun _ _ i _ => A.length - (intOf i).toNat)
              case atStart => exact ⟨0, s, _, by omega, rfl, rfl, rfl, by omega, by omega, Lib.hid ARU.out, Lib.hid ALX.out, ⟨rfl, rfl, rfl, Nat.le_refl _, fun _ _ => rfl⟩⟩
              case round =>
                obtain ⟨j, lf, gb, hj, rfl, rfl, rfl, hl0, hl1, RU, GR, hb2⟩ := hrel
                replace x1 := bAt hb2 x1
                replace x2 := bAt hb2 x2
                replace z1 := bAt hb2 z1
                replace z2 := bAt hb2 z2
                replace HL := Lib.hid (HL.out.below hb2)
                replace HF := Lib.hid (HF.out.below hb2)
                replace HO := Lib.hid (HO.out.below hb2)
                replace HA := Lib.hid (HA.out.below hb2)
                replace HB := Lib.hid (HB.out.below hb2)
                obtain ⟨wp, rfl⟩ : ∃ wp : World, wp = wr := ⟨_, rfl⟩
                have HB2 := Lib.hid hb2
                clear hb2
                by_cases hlj : j < A.length
                · have hij : (j : Int) < (A.length : Int) := by omega
                  obtain ⟨x, hx⟩ : ∃ x, A[j] = x := ⟨_, rfl⟩
                  obtain ⟨b5, o5, e5, _, c5⟩ := HA.out.cell hlj
                  cases e5
                  rw [hx] at c5
                  have hxo : bedOk x = true := hx ▸ ABS.out _ (List.getElem_mem hlj)
                  obtain ⟨r1, r2, r3⟩ := runs_drop RU.out hlj
                  rw [hx] at r2 r3
                  obtain ⟨ln, hln⟩ : ∃ ln, lf - worth x = ln := ⟨_, rfl⟩
                  have LF : Hid (aftR lf x g = ln) := Lib.hid (by rw [aftR, if_pos r2, hln])
                  have ln0 : 0 ≤ ln := hln ▸ aftOk_bd r2
                  have ln1 : ln ≤ s := by have := worth_bd hxo; omega
                  rw [hln] at r3
                  have RU2 := Lib.hid r3
                  have HXO := Lib.hid hxo
                  have HXA := Lib.hid hx
                  have d1 : decide (lf ≤ 0) = false := by simp; omega
                  clear r2 r3 hln hx hxo
                  as_aux_lemma =>
                  cases gb
                  · obtain ⟨hjb, hxy⟩ := lex_drop (GR.out rfl) hlj
                    have hijb : (j : Int) < (B.length : Int) := by omega
                    obtain ⟨b6, o6, e6, _, c6⟩ := HB.out.cell hjb
                    cases e6
                    obtain ⟨y, hy⟩ : ∃ y, B[j] = y := ⟨_, rfl⟩
                    rw [hy] at c6 hxy
                    rw [HXA.out] at hxy
                    clear hy
                    rcases hxy with hlt2 | ⟨heq, hlex⟩
                    · have g0 : (x != y) = true := by simp; omega
                      have g1 : decide (x < y) = false := by simp; omega
                      go_wp2_with fail
                      go_quiet (fail)
                      go_wp2_with fail
                      go_quiet ((go_at_call 39; exact quiet_more (hit_q _ _ _ _ LF _ HXO.out (by omega) (by omega) HG.out)))
                      go_wp2_with fail
                      go_quiet (fail)
                      go_wp2_with fail
                      go_quiet (fail)
                      go_wp2_with fail
                      go_roundw
                      case rel => exact ⟨j + 1, ln, true, by omega, by go_num, rfl, rfl, ln0, ln1, RU2, Lib.hid (fun h => by cases h), ⟨HB2.out.os, HB2.out.tape, HB2.out.output, HB2.out.size, HB2.out.block⟩⟩
                      case measure => simp [intOf]; omega
                    · have g0 : (x != y) = false := by simp [heq]
                      have HLX := Lib.hid hlex
                      clear heq hlex
                      go_wp2_with fail
                      go_quiet (fail)
                      go_wp2_with fail
                      go_quiet ((go_at_call 39; exact quiet_more (hit_q _ _ _ _ LF _ HXO.out (by omega) (by omega) HG.out)))
                      go_wp2_with fail
                      go_quiet (fail)
                      go_wp2_with fail
                      go_roundw
                      case rel => exact ⟨j + 1, ln, false, by omega, by go_num, rfl, rfl, ln0, ln1, RU2, Lib.hid (fun _ => HLX.out), ⟨HB2.out.os, HB2.out.tape, HB2.out.output, HB2.out.size, HB2.out.block⟩⟩
                      case measure => simp [intOf]; omega
                  · go_wp2_with fail
                    go_quiet (fail)
                    go_wp2_with fail
                    go_quiet ((go_at_call 39; exact quiet_more (hit_q _ _ _ _ LF _ HXO.out (by omega) (by omega) HG.out)))
                    go_wp2_with fail
                    go_quiet (fail)
                    go_wp2_with fail
                    go_roundw
                    case rel => exact ⟨j + 1, ln, true, by omega, by go_num, rfl, rfl, ln0, ln1, RU2, Lib.hid (fun h => by cases h), ⟨HB2.out.os, HB2.out.tape, HB2.out.output, HB2.out.size, HB2.out.block⟩⟩
                    case measure => simp [intOf]; omega
                · obtain rfl : j = A.length := by omega
                  obtain rfl : lf = 0 := runs_end RU.out
                  obtain rfl : gb = true := by
                    cases gb
                    · exact (lex_end (GR.out rfl)).elim
                    · rfl
                  as_aux_lemma =>
                    go_wp2_with fail
                    go_loopw [18] (fun i wr => ∃ f : Nat, f ≤ fo.length ∧ i = .int .i64 f ∧ Below wp.heap.size wp wr) (fun i _ => fo.length - (intOf i).toNat)
                    case atStart => exact ⟨0, by omega, rfl, Below.refl _ _⟩
                    case round =>
                      obtain ⟨f, hf, rfl, hb3⟩ := hrel
                      replace x1 := bAt hb3 x1
                      replace x2 := bAt hb3 x2
                      replace z1 := bAt hb3 z1
                      replace HL := Lib.hid (HL.out.below hb3)
                      replace HF := Lib.hid (HF.out.below hb3)
                      replace HO := Lib.hid (HO.out.below hb3)
                      replace HA := Lib.hid (HA.out.below hb3)
                      obtain ⟨wq, rfl⟩ : ∃ wq : World, wq = wr := ⟨_, rfl⟩
                      have HB3 := Lib.hid (bThen HB2.out hb3)
                      have HBP := Lib.hid hb3
                      clear hb3
                      by_cases hlf : f < fo.length
                      · have hif : (f : Int) < (fo.length : Int) := by omega
                        obtain ⟨y, hy⟩ : ∃ y, fo[f] = y := ⟨_, rfl⟩
                        have HY : Hid (y ∈ A) := Lib.hid (LFF.out y (hy ▸ List.getElem_mem hlf) A AL.out)
                        have HYF := Lib.hid hy
                        clear hy
                        go_wp2_with fail
                        go_loopw [19, 20] (fun th m wr => ∃ (mm : Nat) (tb : Bool), mm ≤ A.length ∧ m = .int .i64 mm ∧ th = .bool tb ∧ Hid (decide (y ∈ A.take mm) = tb) ∧ Below wq.heap.size wq wr) (fun _ m _ => A.length - (intOf m).toNat)
                        case atStart => exact ⟨0, false, by omega, rfl, rfl, Lib.hid (by simp), Below.refl _ _⟩
                        case round =>
                          obtain ⟨mm, tb, hmm, rfl, rfl, TB, hb4⟩ := hrel
                          replace x1 := bAt hb4 x1
                          replace x2 := bAt hb4 x2
                          replace z1 := bAt hb4 z1
                          replace HL := Lib.hid (HL.out.below hb4)
                          replace HF := Lib.hid (HF.out.below hb4)
                          replace HO := Lib.hid (HO.out.below hb4)
                          replace HA := Lib.hid (HA.out.below hb4)
                          have HB4 := Lib.hid hb4
                          clear hb4
                          by_cases hlm : mm < A.length
                          · have him : (mm : Int) < (A.length : Int) := by omega
                            obtain ⟨b5, o5, e5, _, c5⟩ := HA.out.cell hlm
                            cases e5
                            obtain ⟨b6, o6, e6, _, c6⟩ := HO.out.cell hlf
                            cases e6
                            rw [HYF.out] at c6
                            obtain ⟨x, hx⟩ : ∃ x, A[mm] = x := ⟨_, rfl⟩
                            rw [hx] at c5
                            have TS : Hid (decide (y ∈ A.take (mm + 1)) = (tb || (x == y))) := Lib.hid (by rw [take_mem_succ hlm, TB.out, hx])
                            clear hx
                            cases tb
                            · by_cases hxy : x = y
                              · have g0 : (x == y) = true := by simp [hxy]
                                have HXY := Lib.hid hxy
                                clear hxy
                                go_wp2_with fail
                                go_quiet (fail)
                                go_wp2_with fail
                                go_roundw
                                case rel => exact ⟨mm + 1, true, by omega, by go_num, rfl, Lib.hid (by rw [TS.out, HXY.out]; simp), ⟨HB4.out.os, HB4.out.tape, HB4.out.output, HB4.out.size, HB4.out.block⟩⟩
                                case measure => simp [intOf]; omega
                              · have g0 : (x == y) = false := by simp [hxy]
                                have HXY := Lib.hid hxy
                                clear hxy
                                go_wp2_with fail
                                go_quiet (fail)
                                go_wp2_with fail
                                go_roundw
                                case rel => exact ⟨mm + 1, false, by omega, by go_num, rfl, Lib.hid (by rw [TS.out]; simp [HXY.out]), ⟨HB4.out.os, HB4.out.tape, HB4.out.output, HB4.out.size, HB4.out.block⟩⟩
                                case measure => simp [intOf]; omega
                            · go_wp2_with fail
                              go_quiet (fail)
                              go_wp2_with fail
                              go_roundw
                              case rel => exact ⟨mm + 1, true, by omega, by go_num, rfl, Lib.hid (by rw [TS.out]; rfl), ⟨HB4.out.os, HB4.out.tape, HB4.out.output, HB4.out.size, HB4.out.block⟩⟩
                              case measure => simp [intOf]; omega
                          · obtain rfl : mm = A.length := by omega
                            obtain rfl : tb = true := by rw [← TB.out, List.take_length]; exact decide_eq_true HY.out
                            go_wp2_with fail
                            go_roundw
                            case rel => exact ⟨f + 1, by omega, by go_num, bThen HBP.out HB4.out⟩
                            case measure => simp [intOf]; omega
                      · obtain rfl : f = fo.length := by omega
                        go_wp2_with fail
                        go_roundw
                        case rel => exact ⟨q + 1, by omega, by go_num, bThen HBO.out HB3.out⟩
                        case measure => simp [intOf]; omega
          · obtain rfl : q = L.length := by omega
            go_wp2_with fail
            refine (known_any _).mono ?_
            rintro e w99 ⟨rfl, hb99⟩
            have HB99 := Lib.hid (bThen HB1.out hb99)
            clear hb99
            go_wp2
            go_ret
            exact ⟨rfl, HB99.out⟩
end Go.Proofs.Ytcnofoopdghjiaa
