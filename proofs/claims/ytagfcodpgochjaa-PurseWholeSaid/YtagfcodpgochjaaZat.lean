/- The texts WW, in build order. -/
import Derived.Test.YtagfcodpgochjaaZas
import Derived.Lib.MinMax
import Derived.Deep.CutBlock
import Derived.Deep.QuietTactic
import Derived.BigQuiet

/- Chapter 12: PurseWhole. -/
namespace Go.Proofs.Ytagfcodpgochjaa
open Go.RowKit Go.Oche Go.Proofs

def wsOf (WS : List Int) : List Int := WS.map (· % 10001)
@[simp] theorem wsOf_length (WS : List Int) : (wsOf WS).length = WS.length := by simp [wsOf]
theorem wsOf_bd {WS : List Int} : ∀ x ∈ wsOf WS, 0 ≤ x ∧ x ≤ 10000 := by
  intro x hx
  obtain ⟨y, _, rfl⟩ := List.mem_map.1 hx
  omega
theorem isIn_money {m : Int} (h : 0 ≤ m ∧ m ≤ 1000000000) : isIn m 0 1000000000 = true := by simp [isIn]; omega
theorem wsOf_any {WS : List Int} : (wsOf WS).any (outB 0 10000) = false := by
  rw [List.any_eq_false]; intro x hx; have := wsOf_bd x hx; simp [outB]; omega
theorem wsOf_sumW {WS : List Int} (hl : WS.length ≤ 20) : sumW (wsOf WS) = (wsOf WS).sum := sumW_sum (B := 10000) (by decide) _ (fun x hx => by have := wsOf_bd x hx; omega) (by simp; omega)
theorem share_zero {m : Int} {WS : List Int} (hm : 0 ≤ m ∧ m ≤ 1000000000) (hl : WS.length ≤ 20) (hs : (wsOf WS).sum = 0) : (shareErr m (wsOf WS) = 2 ∨ shareErr m (wsOf WS) = 4) ∧ shareRes m (wsOf WS) = [] := by
  have h : shareErr m (wsOf WS) = 2 ∨ shareErr m (wsOf WS) = 4 := by
    unfold shareErr
    rw [isIn_money hm, if_neg (by decide)]
    split
    · exact .inr rfl
    · rw [if_pos (.inr (by rw [wsOf_sumW hl, hs]))]; exact .inl rfl
  exact ⟨h, by unfold shareRes; rw [if_neg (by omega)]⟩
theorem share_pos {m : Int} {WS : List Int} (hm : 0 ≤ m ∧ m ≤ 1000000000) (hl : WS.length ≤ 20) (hs : (wsOf WS).sum ≠ 0) : shareErr m (wsOf WS) = 0 ∧ shareRes m (wsOf WS) = shareL m (wsOf WS) ∧ 0 < WS.length ∧ 0 < (wsOf WS).sum := by
  have h0 : 0 < WS.length := by
    rcases Nat.eq_zero_or_pos WS.length with h | h
    · rw [List.eq_nil_of_length_eq_zero h] at hs; exact absurd rfl hs
    · exact h
  have h : shareErr m (wsOf WS) = 0 := by
    unfold shareErr
    rw [isIn_money hm, if_neg (by decide), if_neg (by simp [isIn]; omega), if_neg]
    rw [wsOf_any, wsOf_sumW hl]
    simp [hs]
  have := sum_nonneg' (wsOf_bd (WS := WS))
  exact ⟨h, by unfold shareRes; rw [if_pos h], h0, by omega⟩
theorem shareL_bd {m : Int} {WS : List Int} (hm : 0 ≤ m ∧ m ≤ 1000000000) (hs : 0 < (wsOf WS).sum) : ∀ x ∈ shareL m (wsOf WS), 0 ≤ x ∧ x ≤ 10000000000001 := by
  intro x hx
  unfold shareL at hx
  obtain ⟨i, hi, rfl⟩ := List.mem_map.1 hx
  have hi := List.mem_range.1 hi
  have hw : 0 ≤ (wsOf WS).getD i 0 ∧ (wsOf WS).getD i 0 ≤ 10000 := by rw [getD_at hi]; exact wsOf_bd _ (List.getElem_mem hi)
  have h1 := mul_bd hm hw
  have h2 : 0 ≤ baseOf m (wsOf WS).sum (wsOf WS) i := Int.ediv_nonneg h1.1 (by omega)
  have h3 : baseOf m (wsOf WS).sum (wsOf WS) i ≤ m * (wsOf WS).getD i 0 := Int.ediv_le_self _ h1.1
  split <;> omega
theorem sum_take_bd {B : Int} (hB : 0 ≤ B) : ∀ {l : List Int}, (∀ x ∈ l, 0 ≤ x ∧ x ≤ B) → 0 ≤ l.sum ∧ l.sum ≤ B * l.length
  | [], _ => by simp
  | a :: l, h => by
    have h1 := h a (by simp)
    have h2 := sum_take_bd hB (l := l) fun x hx => h x (by simp [hx])
    rw [List.sum_cons, List.length_cons, Int.natCast_add, Int.mul_add]
    omega
theorem mem_flat_len {l : List Int} : ∀ {gs : List (List Int)}, l ∈ gs → l.length ≤ gs.flatten.length
  | [], h => by cases h
  | g :: gs, h => by
    rw [List.flatten_cons, List.length_append]
    rcases List.mem_cons.1 h with rfl | h
    · omega
    · have := mem_flat_len h; omega
theorem wrap_u8s {x : Int} (h1 : 0 ≤ x) (h2 : x < 256) : IntKind.u8.wrap x = x := by
  simp [IntKind.wrap, IntKind.bits, IntKind.signed]; omega
theorem slGet {S : Nat → Prop} {w : World} {a : Option Addr} {n cap : Nat} {xs : List Value} (h : Sl S w (.slice a n cap) xs) {i : Nat} {u : Value} (hi : xs[i]? = some u) : ∃ b off, a = some ⟨b, off, none⟩ ∧ S b ∧ w.cell? ⟨b, off + i, none⟩ = some u := by
  obtain ⟨a', cap', e, _, _, h4⟩ := h
  cases e
  exact h4 i u hi
theorem Sl.formW {S : Nat → Prop} {w : World} {v : Value} {xs : List Int} (h : Sl S w v (ints xs)) : ∃ a c, v = .slice a xs.length c := by
  obtain ⟨a, c, e, _, _⟩ := Sl.form h
  exact ⟨a, c, by rw [e, ints_length]⟩
set_option maxRecDepth 100000 in
set_option maxHeartbeats 20000000 in
theorem purseWhole_any {S S' : Nat → Prop} (A : Int) (WS BY : List Int) (vw vb : Value) (w : World) (hs : Sl S w vw (WS.map (Value.int .u16))) (hb : Sl S' w vb (BY.map (Value.int .u8)))
    (hA : 0 ≤ A ∧ A ≤ 4294967295) (hW : ∀ x ∈ WS, 0 ≤ x ∧ x ≤ 65535) (hB : ∀ x ∈ BY, 0 ≤ x ∧ x ≤ 255) :
    Calls Try.prog 7 #[.int .u32 A, vw, vb] w fun e w' => e = .returned (.bool true) ∧ Below w.heap.size w w' := by
  obtain ⟨a, cap, rfl, h2, h3⟩ := hs.form
  obtain ⟨ab, capb, rfl, h2b, h3b⟩ := hb.form
  simp only [List.length_map] at *
  unfold maxLen at h3 h3b
  obtain ⟨N, hN⟩ : ∃ N, w.heap.size = N := ⟨_, rfl⟩
  by_cases hbig : 20 < WS.length ∨ 20 < BY.length
  · clear hs hb hW hB hN
    by_cases h1 : 20 < WS.length
    · have d1 : decide (20 < WS.length) = true := decide_eq_true h1
      have d1i : decide ((20 : Int) < (WS.length : Int)) = true := decide_eq_true (by omega)
      go_enter Try.func7, Try.ntmps7
      go_wp2_with fail
      refine (known_any w).mono ?_
      rintro e w7 ⟨rfl, hb7⟩
      have HBT := Lib.hid hb7
      clear hb7
      go_wp2
      go_ret
      exact ⟨rfl, HBT.out⟩
    · have d1 : decide (20 < WS.length) = false := decide_eq_false h1
      have d1i : decide ((20 : Int) < (WS.length : Int)) = false := decide_eq_false (by omega)
      have d2 : decide (20 < BY.length) = true := decide_eq_true (by omega)
      have d2i : decide ((20 : Int) < (BY.length : Int)) = true := decide_eq_true (by omega)
      go_enter Try.func7, Try.ntmps7
      go_wp2_with fail
      refine (known_any w).mono ?_
      rintro e w7 ⟨rfl, hb7⟩
      have HBT := Lib.hid hb7
      clear hb7
      go_wp2
      go_ret
      exact ⟨rfl, HBT.out⟩
  have hWl : WS.length ≤ 20 := by omega
  have hBl : BY.length ≤ 20 := by omega
  clear hbig
  obtain ⟨M, hM⟩ : ∃ M, A % 1000000001 = M := ⟨_, rfl⟩
  have hMb : 0 ≤ M ∧ M ≤ 1000000000 := by omega
  have tmA : A.tmod 1000000001 = M := by rw [Int.tmod_eq_emod_of_nonneg hA.1]; exact hM
  have wA : IntKind.i64.wrap A = A := wrap_small _ (by omega) (by omega)
  have wM : IntKind.i64.wrap M = M := wrap_small _ (by omega) (by omega)
  obtain ⟨ws, hws⟩ : ∃ l, wsOf WS = l := ⟨_, rfl⟩
  have hwl : ws.length = WS.length := by rw [← hws, wsOf_length]
  have hwb : ∀ x ∈ ws, 0 ≤ x ∧ x ≤ 10000 := by rw [← hws]; exact wsOf_bd
  have d1 : decide (20 < WS.length) = false := decide_eq_false (by omega)
  have d1i : decide ((20 : Int) < (WS.length : Int)) = false := decide_eq_false (by omega)
  have d2 : decide (20 < BY.length) = false := decide_eq_false (by omega)
  have d2i : decide ((20 : Int) < (BY.length : Int)) = false := decide_eq_false (by omega)
  obtain ⟨w0, hw0⟩ : ∃ w0, w.alloc (.cells #[] 3) = w0 := ⟨_, rfl⟩
  have hb0 : Below w.heap.size w w0 := by rw [← hw0]; exact aB _ _
  have ho0 : w0.ownsRow w.heap.size 3 1 (.slice (some ⟨w.heap.size, 0, none⟩) 0 0) 0 (ints (ws.take 0)) := by
    rw [← hw0]; exact World.ownsRow_made w #[] 0 (Nat.le_refl _) (Nat.zero_le _) rfl
  have hz : N + 1 ≤ w0.heap.size := by rw [← hw0, ← hN]; simp
  rw [hN] at hb0 ho0
  have HS := Lib.hid hs
  have HY := Lib.hid hb
  have HYB := Lib.hid hB
  have HWS := Lib.hid hws
  have HWL := Lib.hid hwl
  have HWB := Lib.hid hwb
  have HN := Lib.hid hN
  have HO0 := Lib.hid ho0
  have HW0 := Lib.hid hw0
  have HB0 := Lib.hid hb0
  have HZ0 := Lib.hid hz
  have HWR := Lib.hid hW
  clear hs hb hB hws hwl hwb hN hw0 ho0 hb0 hW hM hz
  go_enter Try.func7, Try.ntmps7
  go_wp2_with fail
  rw [HW0.out, HN.out]
  go_loopw [7, 8, 10] (fun bv sv iv wr => ∃ (i g c : Nat), bv = .slice (some ⟨g, 0, none⟩) i c ∧ i ≤ WS.length ∧ iv = .int .i64 (i : Int) ∧ sv = .int .i64 (ws.take i).sum ∧ Hid (wr.ownsRow N 3 1 (.slice (some ⟨g, 0, none⟩) i c) i (ints (ws.take i))) ∧ Hid (Below N w wr) ∧ Hid (N + 1 ≤ wr.heap.size)) (fun _ _ iv _ => WS.length - (intOf iv).toNat)
  case atStart => exact ⟨0, N, 0, rfl, Nat.zero_le _, rfl, rfl, HO0, HB0, HZ0⟩
  case round =>
    obtain ⟨i, g0, c0, rfl, hi, rfl, rfl, HO, HBr, HSr⟩ := hrel
    obtain ⟨wo, rfl⟩ : ∃ wo : World, wo = wr := ⟨_, rfl⟩
    clear HO0 HB0 HW0 HZ0
    by_cases hlt : i < WS.length
    · as_aux_lemma =>
      have hiw : i < ws.length := by rw [HWL.out]; exact hlt
      obtain ⟨x, hx⟩ : ∃ x, WS[i] = x := ⟨_, rfl⟩
      obtain ⟨b, off, hal, _, hc⟩ := slGet (HS.out.below (by rw [HN.out]; exact HBr.out)) (i := i) (u := .int .u16 x) (by simp [hlt, hx])
      cases hal
      have hxb := HWR.out x (hx ▸ List.getElem_mem hlt)
      obtain ⟨p, hp⟩ : ∃ p, x % 10001 = p := ⟨_, rfl⟩
      have tmx : x.tmod 10001 = p := by rw [Int.tmod_eq_emod_of_nonneg hxb.1]; exact hp
      have hpb : 0 ≤ p ∧ p ≤ 10000 := by omega
      have hdi : ws[i] = p := by have : ws[i]? = some p := by rw [← HWS.out]; simp [wsOf, hlt, hx, hp]
                                 exact (List.getElem?_eq_some_iff.1 this).2
      have hsb := sum_take_bd (B := 10000) (by decide) (l := ws.take i) fun y hy => HWB.out y (List.mem_of_mem_take hy)
      have hl : (ws.take i).length = i := by rw [List.length_take]; omega
      rw [hl] at hsb
      obtain ⟨s, hs⟩ : ∃ s, (ws.take i).sum = s := ⟨_, rfl⟩
      rw [hs] at hsb
      have hwx : IntKind.i64.wrap x = x := wrap_small _ (by omega) (by omega)
      have hwp : IntKind.i64.wrap p = p := wrap_small _ (by omega) (by omega)
      have hws : IntKind.i64.wrap (s + p) = s + p := wrap_small _ (by omega) (by omega)
      have htk : ws.take (i + 1) = ws.take i ++ [p] := by rw [List.take_succ_eq_append_getElem hiw, hdi]
      have HTK := Lib.hid htk
      have HSS := Lib.hid hs
      rw [hs]
      have hil : (i : Int) < (WS.length : Int) := by omega
      have hi0 : (0 : Int) ≤ (i : Int) := by omega
      clear hs hl htk hdi hx hp
      go_wp2_with (at_builtin; refine wpList_append1 rfl (.tmp 49) (.tmp 56) 22 rfl N 3 (.int .i64 0) 8 Try.underlying22 info3 rfl _ i _ rfl (HO.out.alloc _) wo.heap.size 0 1 (.int .i64 p) rfl (cell_new _ _ _) rfl (by omega) (by decide) (by have := HSr.out; simp; omega) ?_)
      intro g c w2 ho2 hg2 _
      have hb2 : Below N w w2 := (HBr.out.trans ((aB _ _).mono (by have := HSr.out; omega))).trans (below_grownBy hg2 (by have := HSr.out; simp; omega) fun q hq => (HO.out.lt q hq).1)
      have ho3 : w2.ownsRow N 3 1 (.slice (some ⟨g, 0, none⟩) (i + 1) c) (i + 1) (ints (ws.take (i + 1))) := by rw [HTK.out]; simpa [ints] using ho2
      have hcx : w2.cell? ⟨g, i, none⟩ = some (.int .i64 p) := by
        have : (ws.take i).length = i := by rw [List.length_take]; omega
        have e : (ints (ws.take i)).length = i := by rw [ints_length, this]
        rw [ho3.cellAt i (by simp), HTK.out, show ints (ws.take i ++ [p]) = ints (ws.take i) ++ [.int .i64 p] by simp [ints], List.getElem?_append_right (by omega), e, Nat.sub_self]
        rfl
      have HO2 := Lib.hid ho3
      have HB2 := Lib.hid hb2
      have HS2 : Hid (N + 1 ≤ w2.heap.size) := Lib.hid (by have := HSr.out; have := hg2.size; simp at this; omega)
      have hcc := ho3.form'
      have hcc1 : (i : Int) < (i : Int) + 1 := by omega
      clear ho2 hg2 hb2 ho3 hc
      go_wp2
      go_roundw
      case rel => exact ⟨i + 1, g, c, by go_num, by omega, by go_num, by rw [HTK.out, List.sum_append, HSS.out]; simp, HO2, HB2, HS2⟩
      case measure => simp [intOf]; omega
    · obtain rfl : i = WS.length := by omega
      have htk : ws.take WS.length = ws := List.take_of_length_le (by rw [HWL.out]; exact Nat.le_refl _)
      rw [htk] at HO ⊢
      obtain ⟨s, hs⟩ : ∃ s, ws.sum = s := ⟨_, rfl⟩
      rw [hs]
      have HSUM := Lib.hid hs
      clear htk hs
      go_wp2_with fail
      refine (copyInts_any ws _ wo (owns_sl HO.out) (by rw [HWL.out]; omega)).mono ?_
      rintro e w3 ⟨r3, rfl, hb3, hs3⟩
      have HB3 := Lib.hid hb3
      have HS3 := Lib.hid hs3
      clear hb3 hs3
      go_wp2_with fail
      refine (share20_any M ws _ w3 HS3.out (fun _ => by rw [HWL.out]; exact hWl)).mono ?_
      rintro e w4 ⟨r4, rfl, hb4, hs4⟩
      have HB4 : Hid (Below N w w4) := Lib.hid ((HBr.out.trans (HB3.out.mono (by have := HSr.out; omega))).trans (hb4.mono (by have := HSr.out; have := HB3.out.size; omega)))
      have HB34 : Hid (Below wo.heap.size wo w4) := Lib.hid (bThen HB3.out hb4)
      obtain ⟨er, her⟩ : ∃ x, shareErr M ws = x := ⟨_, rfl⟩
      obtain ⟨a4, c4, e4⟩ := Sl.formW hs4
      subst e4
      have hs4' : Sl (fun _ => True) w4 (.slice a4 (shareRes M ws).length c4) (ints (shareRes M ws)) := hs4.mono fun _ _ => trivial
      obtain ⟨R, hR⟩ : ∃ l, shareRes M ws = l := ⟨_, rfl⟩
      rw [her]
      rw [hR] at hs4' ⊢
      obtain ⟨rl, hrl⟩ : ∃ n, R.length = n := ⟨_, rfl⟩
      rw [hrl] at hs4' ⊢
      have hrl20 : rl ≤ 20 := by
        rw [← hrl, ← hR]; unfold shareRes; split
        · rw [shareL_length, HWL.out]; exact hWl
        · simp
      have HRLL := Lib.hid hrl
      have HS4 := Lib.hid hs4'
      have HER := Lib.hid her
      have HRR := Lib.hid hR
      clear her hR hs4' hs4 hb4 HS3 hrl
      go_upto_if 72 with fail
      go_cut [6, 11, 12, 13, 14, 15, 16] from 72 to 155 (fun _ _ _ _ _ _ _ wc => Hid (Below N w wc))
      case first =>
        as_aux_lemma =>
        by_cases h0 : s = 0
        · subst h0
          have hz := share_zero (m := M) (WS := WS) hMb hWl (by rw [HWS.out]; exact HSUM.out)
          rw [HWS.out, HER.out, HRR.out] at hz
          obtain ⟨he, hr⟩ := hz
          subst hr
          have hr0 : rl = 0 := by rw [← HRLL.out]; rfl
          have n1 : (rl != 0) = false := by rw [hr0]; rfl
          have n1i : ((rl : Int) != 0) = false := by rw [hr0]; rfl
          clear hr0
          rcases he with he | he
          all_goals
            subst he
            go_wp2_with fail
            go_meet
            case rel => exact HB4
        · have t0 : (s == 0) = false := beq_eq_false_iff_ne.2 h0
          rw [t0]
          have hz := share_pos (m := M) (WS := WS) hMb hWl (by rw [HWS.out, HSUM.out]; exact h0)
          have hbl := shareL_bd (m := M) (WS := WS) hMb hz.2.2.2
          have hof := fun i => shareL_off (amount := M) (ws := wsOf WS) hz.2.2.2 (i := i)
          have hmo := fun i k => shareL_mono (amount := M) (ws := wsOf WS) hMb.1 hz.2.2.2 (i := i) (k := k)
          have hsm := shareL_sum (amount := M) (ws := wsOf WS) hz.2.2.2 (by simpa using hz.2.2.1)
          have hln := shareL_length M (wsOf WS)
          rw [← hz.2.1] at hbl hof hmo hsm hln
          rw [HWS.out] at hz hbl hof hmo hsm hln
          rw [HER.out, HRR.out] at hz
          rw [HRR.out] at hbl hof hmo hsm hln
          rw [HSUM.out] at hz hof
          obtain ⟨he, -, hn0, hs0⟩ := hz
          subst he
          have hsb := sum_take_bd (B := 10000) (by decide) (l := ws) HWB.out
          rw [HSUM.out, HWL.out] at hsb
          have HLB := Lib.hid hbl
          have HOF := Lib.hid hof
          have HMO := Lib.hid hmo
          have HSM := Lib.hid hsm
          have hRl : R.length = WS.length := by rw [hln]; exact HWL.out
          have hrn : rl = WS.length := by rw [← HRLL.out]; exact hRl
          have n1 : (rl != WS.length) = false := by rw [hrn]; simp
          have n1i : ((rl : Int) != (WS.length : Int)) = false := by rw [hrn]; simp
          have HRL := Lib.hid hRl
          have HRN := Lib.hid hrn
          clear hrn hbl hof hmo hsm hln hRl
          go_wp2_with fail
          go_loopw [13, 14, 15, 16] (fun av iv _ _ wr => ∃ i : Nat, i ≤ WS.length ∧ iv = .int .i64 (i : Int) ∧ av = .int .i64 (R.take i).sum ∧ Hid (Below w4.heap.size w4 wr)) (fun _ iv _ _ _ => WS.length - (intOf iv).toNat)
          case atStart => exact ⟨0, Nat.zero_le _, rfl, by simp, Lib.hid (Below.refl _ _)⟩
          case round =>
            obtain ⟨i, hi2, rfl, rfl, HBi⟩ := hrel
            obtain ⟨wi, rfl⟩ : ∃ wi : World, wi = wr := ⟨_, rfl⟩
            by_cases hil : i < WS.length
            · as_aux_lemma =>
              have hiw : i < ws.length := by rw [HWL.out]; exact hil
              have hir : i < R.length := by rw [HRL.out]; exact hil
              have hBi := HBi.out
              have hBw := bThen HB34.out hBi
              have hrw := ownsN_below HO.out hBw
              obtain ⟨x, hx⟩ : ∃ x, R[i] = x := ⟨_, rfl⟩
              obtain ⟨y, hy⟩ : ∃ y, ws[i] = y := ⟨_, rfl⟩
              have cw : wi.cell? ⟨g0, i, none⟩ = some (.int .i64 y) := by rw [hrw.cellAt i (by simpa using hil), intsAt hiw, hy]
              obtain ⟨b4, o4, ha4, _, cl⟩ := (HS4.out.below hBi).cell hir
              cases ha4
              rw [hx] at cl
              have hxb := HLB.out R[i] (List.getElem_mem hir)
              have hyb := HWB.out ws[i] (List.getElem_mem hiw)
              have hof := HOF.out i hiw
              rw [getD_at hir, getD_at hiw, hx, hy] at hof
              rw [hx] at hxb
              rw [hy] at hyb
              have hq := mul_bd hMb hyb
              have hp0 : 0 ≤ x * s := Int.mul_nonneg hxb.1 (by omega)
              have hp1 : x * s ≤ 10000000000001 * 200000 := Int.mul_le_mul hxb.2 (by omega) (by omega) (by omega)
              obtain ⟨p, hp⟩ : ∃ p, x * s = p := ⟨_, rfl⟩
              obtain ⟨q, hqq⟩ : ∃ q, M * y = q := ⟨_, rfl⟩
              rw [hp] at hp0 hp1 hof
              rw [hqq] at hq hof
              have r1 : IntKind.i64.wrap p = p := wrap_small _ (by omega) (by omega)
              have r2 : IntKind.i64.wrap q = q := wrap_small _ (by omega) (by omega)
              have r3 : IntKind.i64.wrap (p - q) = p - q := wrap_small _ (by omega) (by omega)
              have r4 : IntKind.i64.wrap (-s) = -s := wrap_small _ (by omega) (by omega)
              have t1 : decide (s ≤ p - q) = false := decide_eq_false (by omega)
              have t2 : decide (p - q ≤ -s) = false := decide_eq_false (by omega)
              have hsb2 := sum_take_bd (B := 10000000000001) (by decide) (l := R.take i) fun y hy => HLB.out y (List.mem_of_mem_take hy)
              have hl : (R.take i).length = i := by rw [List.length_take]; omega
              rw [hl] at hsb2
              obtain ⟨al, hal⟩ : ∃ al, (R.take i).sum = al := ⟨_, rfl⟩
              rw [hal] at hsb2 ⊢
              have r5 : IntKind.i64.wrap (al + x) = al + x := wrap_small _ (by omega) (by omega)
              have HSX : Hid ((R.take (i + 1)).sum = al + x) := Lib.hid (by rw [List.take_succ_eq_append_getElem hir, List.sum_append, hal, hx]; simp)
              have bi0 : (0 : Int) ≤ (i : Int) := by omega
              have bin : (i : Int) < (WS.length : Int) := by omega
              have birl : (i : Int) < (rl : Int) := by rw [HRN.out]; exact bin
              have birn : i < rl := by rw [HRN.out]; exact hil
              have HX := Lib.hid hx
              have HY2 := Lib.hid hy
              clear hl hal hx hy hrw
              go_wp2_with fail
              go_quiet (fail)
              go_wp2_with fail
              go_loopw [16] (fun kv wr => ∃ k : Nat, k ≤ WS.length ∧ kv = .int .i64 (k : Int) ∧ Hid (Below wi.heap.size wi wr)) (fun kv _ => WS.length - (intOf kv).toNat)
              case atStart => exact ⟨0, Nat.zero_le _, rfl, Lib.hid (bDrew _ _)⟩
              case round =>
                obtain ⟨k, hk, rfl, HBk⟩ := hrel
                obtain ⟨wk, rfl⟩ : ∃ wk : World, wk = wr := ⟨_, rfl⟩
                by_cases hkl : k < WS.length
                · as_aux_lemma =>
                  have hkw : k < ws.length := by rw [HWL.out]; exact hkl
                  have hkr : k < R.length := by rw [HRL.out]; exact hkl
                  have hBk := HBk.out
                  have hrk := ownsN_below HO.out (bThen hBw hBk)
                  obtain ⟨xk, hxk⟩ : ∃ x, R[k] = x := ⟨_, rfl⟩
                  obtain ⟨yk, hyk⟩ : ∃ y, ws[k] = y := ⟨_, rfl⟩
                  have cwk : wk.cell? ⟨g0, k, none⟩ = some (.int .i64 yk) := by rw [hrk.cellAt k (by simpa using hkl), intsAt hkw, hyk]
                  obtain ⟨b5, o5, ha5, _, clk⟩ := (HS4.out.below (bThen hBi hBk)).cell hkr
                  cases ha5
                  rw [hxk] at clk
                  have cwi := bAt hBk cw
                  have cli := bAt hBk cl
                  have hmo := HMO.out i k hiw hkw
                  rw [getD_at hir, getD_at hkr, getD_at hiw, getD_at hkw, HX.out, HY2.out, hxk, hyk] at hmo
                  have bk0 : (0 : Int) ≤ (k : Int) := by omega
                  have bkn : (k : Int) < (WS.length : Int) := by omega
                  have bkrl : (k : Int) < (rl : Int) := by rw [HRN.out]; exact bkn
                  clear cw cl hxk hyk hrk hBi hBw HSX r1 r2 r3 r4 r5 t1 t2
                  by_cases hgt : yk < y
                  · have d1 : decide (yk < y) = true := decide_eq_true hgt
                    have hle := hmo hgt
                    have d2 : decide (x < xk) = false := decide_eq_false (by omega)
                    clear hmo
                    go_wp2_with fail
                    go_quiet (fail)
                    go_wp2_with fail
                    go_roundw
                    case rel => exact ⟨k + 1, by omega, by go_num, Lib.hid (bThen hBk (bDrew _ _))⟩
                    case measure => simp [intOf]; omega
                  · have d1 : decide (yk < y) = false := decide_eq_false hgt
                    clear hmo
                    go_wp2_with fail
                    go_quiet (fail)
                    go_wp2_with fail
                    go_roundw
                    case rel => exact ⟨k + 1, by omega, by go_num, Lib.hid (bThen hBk (bDrew _ _))⟩
                    case measure => simp [intOf]; omega
                · obtain rfl : k = WS.length := by omega
                  go_wp2_with fail
                  go_roundw
                  case rel => exact ⟨i + 1, by omega, by go_num, by rw [HSX.out], Lib.hid (bThen hBi HBk.out)⟩
                  case measure => simp [intOf]; omega
            · obtain rfl : i = WS.length := by omega
              have htk : (R.take WS.length).sum = M := by rw [List.take_of_length_le (by rw [HRL.out]; exact Nat.le_refl _)]; exact HSM.out
              rw [htk]
              have HBE : Hid (Below N w wi) := Lib.hid (HB4.out.trans (HBi.out.mono (by have := HSr.out; have := HB34.out.size; omega)))
              clear htk
              go_wp2_with fail
              go_meet
              case rel => exact HBE
      case rest =>
        have hcut2 := hcut.out
        clear HO HBr HSr HB3 HB34 HS4 HER HRR HRLL HS HWS HWL HWB HWR hrl20 hcut
        obtain ⟨wd, rfl⟩ : ∃ wd : World, wd = wc := ⟨_, rfl⟩
        obtain ⟨n, hn⟩ : ∃ n, BY.length = n := ⟨_, rfl⟩
        obtain ⟨B, hB⟩ : ∃ B, wd.heap.size = B := ⟨_, rfl⟩
        obtain ⟨w5, hw5⟩ : ∃ w5, (wd.alloc (.cells #[] 3)).alloc (.cells #[] 22) = w5 := ⟨_, rfl⟩
        have hb5 : Below B wd w5 := by rw [← hw5, ← hB]; exact bThen (aB _ _) (aB _ _)
        have hz5 : B + 2 ≤ w5.heap.size := by rw [← hw5, ← hB]; simp
        have os5 : w5.ownsRow B 3 1 (.slice (some ⟨B, 0, none⟩) 0 0) 0 (ints (sharesK 0)) := by
          rw [← hw5, ← hB]
          exact (World.ownsRow_made wd #[] 0 (Nat.le_refl _) (Nat.zero_le _) rfl : (wd.alloc (.cells #[] 3)).ownsRow wd.heap.size 3 1 (.slice (some ⟨wd.heap.size, 0, none⟩) 0 0) 0 []).alloc _
        have op5 : w5.ownsRow B 22 1 (.slice (some ⟨B + 1, 0, none⟩) 0 0) 0 (([] : List RowR).map rowV) := by
          have := World.ownsRow_made (base := B) (e := 22) (size := 1) (wd.alloc (.cells #[] 3)) #[] 0 (by rw [← hB]; simp) (Nat.zero_le _) rfl
          rw [hw5] at this
          simpa [hB] using this
        have rw5 : Rws B 3 w5 B [] := ⟨fun r hr => (by cases hr), by simp⟩
        have hNB : N ≤ B := by have := hcut2.size; have := HN.out; omega
        have HBD : Hid (Below N w wd) := Lib.hid hcut2
        have HB5 := Lib.hid hb5
        have HZ5 := Lib.hid hz5
        have HS5 := Lib.hid os5
        have HP5 := Lib.hid op5
        have HR5 := Lib.hid rw5
        have HW5 := Lib.hid hw5
        have HB := Lib.hid hB
        have HNB := Lib.hid hNB
        rw [hn] at HY hBl ⊢
        have HNN := Lib.hid hn
        clear hb5 hz5 os5 op5 rw5 hw5 hB hcut2 hNB hn
        go_wp2_with fail
        rw [HW5.out, HB.out]
        go_loopw [17, 18, 19, 21, 22] (fun sv pv lv iv _ wr => ∃ (i gs cs gp cp : Nat) (R : List RowR), sv = .slice (some ⟨gs, 0, none⟩) i cs ∧ pv = .slice (some ⟨gp, 0, none⟩) R.length cp ∧ lv = .int .i64 (leftK i) ∧ iv = .int .i64 (i : Int) ∧ i ≤ n ∧ Hid (wr.ownsRow B 3 1 (.slice (some ⟨gs, 0, none⟩) i cs) i (ints (sharesK i))) ∧ Hid (wr.ownsRow B 22 1 (.slice (some ⟨gp, 0, none⟩) R.length cp) R.length (R.map rowV)) ∧ Hid (Rws B 3 wr gs R) ∧ Hid (R.map (·.2.2) = placesK BY n i) ∧ Hid (Below B wd wr) ∧ Hid (B + 2 ≤ wr.heap.size)) (fun _ _ _ iv _ _ => n - (intOf iv).toNat)
        case atStart => exact ⟨0, B, 0, B + 1, 0, [], rfl, rfl, rfl, rfl, Nat.zero_le _, HS5, HP5, HR5, Lib.hid rfl, HB5, HZ5⟩
        case round =>
          obtain ⟨i, gs, cs, gp, cp, R, rfl, rfl, rfl, rfl, hi, HOS, HOP, HRW, HPL, HBr, HSr⟩ := hrel
          obtain ⟨wo, rfl⟩ : ∃ wo : World, wo = wr := ⟨_, rfl⟩
          clear HB5 HZ5 HS5 HP5 HR5 HW5
          by_cases hlt : i < n
          · as_aux_lemma =>
            have hiB : i < BY.length := by rw [HNN.out]; exact hlt
            have h0B : 0 < BY.length := by omega
            obtain ⟨y, hy⟩ : ∃ y, BY[i] = y := ⟨_, rfl⟩
            obtain ⟨y0, hy0⟩ : ∃ y, BY[0] = y := ⟨_, rfl⟩
            have hyb := HYB.out y (hy ▸ List.getElem_mem hiB)
            have hy0b := HYB.out y0 (hy0 ▸ List.getElem_mem h0B)
            obtain ⟨bb, ob, hal, _, hcy⟩ := slGet HY.out (i := i) (u := .int .u8 y) (by simp [hiB, hy])
            cases hal
            obtain ⟨bb', ob', hal, _, hcy0⟩ := slGet HY.out (i := 0) (u := .int .u8 y0) (by simp [h0B, hy0])
            cases hal
            rw [Nat.add_zero] at hcy0
            have hbbN : bb < N := by rw [← HN.out]; exact World.block_lt_of_cell? w _ hcy0
            have hBoN : Below N w wo := HBD.out.trans (HBr.out.mono HNB.out)
            have hBoW : Below w.heap.size w wo := by rw [HN.out]; exact hBoN
            have cy := bAt hBoW hcy
            have cy0' := bAt hBoW hcy0
            obtain ⟨la, hla⟩ : ∃ la, leftK i = la := ⟨_, rfl⟩
            have hlab := leftK_bd i
            rw [hla] at hlab ⊢
            have hls : leftK (i + 1) = la - la / 2 := by rw [leftK, hla]
            have hsk : sharesK (i + 1) = sharesK i ++ [la / 2] := by rw [sharesK_succ, hla]
            obtain ⟨sh, hsh⟩ : ∃ sh, la / 2 = sh := ⟨_, rfl⟩
            have tdl : la.tdiv 2 = sh := by rw [Int.tdiv_eq_ediv_of_nonneg hlab.1]; exact hsh
            have hshb : 0 ≤ sh ∧ sh ≤ 1000 := by omega
            have wsh : IntKind.i64.wrap sh = sh := wrap_small _ (by omega) (by omega)
            have wls : IntKind.i64.wrap (la - sh) = la - sh := wrap_small _ (by omega) (by omega)
            rw [hsh] at hls hsk
            obtain ⟨p3, hp3⟩ : ∃ p : Nat, y % 3 = p := ⟨(y % 3).toNat, by omega⟩
            have hp3b : p3 ≤ 2 := by omega
            have tmy : y.tmod 3 = (p3 : Int) := by rw [Int.tmod_eq_emod_of_nonneg hyb.1]; exact hp3
            have HLS := Lib.hid hls
            have HSK := Lib.hid hsk
            have HY3 : Hid (BY.getD i 0 % 3 = (p3 : Int)) := Lib.hid (by rw [getD_at hiB, hy]; exact hp3)
            have HY0 : Hid (BY.getD 0 0 = y0) := Lib.hid (by rw [getD_at h0B, hy0])
            have bi0 : (0 : Int) ≤ (i : Int) := by omega
            have bin : (i : Int) < (n : Int) := by omega
            have bn0 : (0 : Int) < (n : Int) := by omega
            clear hls hsk hla hsh hp3 hy hy0
            go_wp2_with (at_builtin; refine wpList_append1 rfl (.tmp 167) (.tmp 169) 22 rfl B 3 (.int .i64 0) 8 Try.underlying22 info3 rfl _ i _ rfl (HOS.out.alloc _) wo.heap.size 0 1 (.int .i64 sh) rfl (cell_new _ _ _) rfl (by omega) (by decide) (by have := HSr.out; simp; omega) ?_)
            intro g2 c2 w2 ho2 hg2 hat2
            have hgs : gs < wo.heap.size := (HOS.out.lt gs rfl).2
            have hg2' : (wo.alloc (.cells #[.int .i64 sh] 3)).grownBy w2 (some gs) := hg2
            have hat2' : g2 = gs ∨ g2 = (wo.alloc (.cells #[.int .i64 sh] 3)).heap.size := by
              rcases hat2 with e | e
              · simp only [Value.ownBlock, Option.some.injEq] at e
                exact .inl e.symm
              · exact .inr (by rw [e]; simp)
            have hrw2 : Rws B 3 w2 g2 R := (HRW.out.below (aB _ _)).other hg2' hat2'
            have hop2 := (HOP.out.alloc (.cells #[.int .i64 sh] 3)).kept hg2' (.inr (by
              have := ownsN_ne HOP.out HOS.out (by decide)
              simpa [Value.ownBlock] using this))
            have hb2 : Below B wd w2 := (HBr.out.trans ((aB _ _).mono (by have := HSr.out; omega))).trans (below_grownBy hg2' (by have := HSr.out; simp; omega) fun q hq => by cases hq; exact (HOS.out.lt gs rfl).1)
            have hos2 : w2.ownsRow B 3 1 (.slice (some ⟨g2, 0, none⟩) (i + 1) c2) (i + 1) (ints (sharesK (i + 1))) := by rw [HSK.out]; simpa [ints] using ho2
            have hz2 : B + 2 ≤ w2.heap.size := by have := HSr.out; have := hg2.size; simp at this; omega
            have hBw2 : Below w.heap.size w w2 := by rw [HN.out]; exact HBD.out.trans (hb2.mono HNB.out)
            have cy2 := bAt hBw2 hcy
            have cy20 := bAt hBw2 hcy0
            have HRW2 := Lib.hid hrw2
            have HOP2 := Lib.hid hop2
            have HB2 := Lib.hid hb2
            have HOS2 := Lib.hid hos2
            have HZ2 := Lib.hid hz2
            clear ho2 hg2 hat2 hg2' hat2' hrw2 hop2 hb2 hos2 hz2 cy cy0' hgs
            go_upto_region 36 with fail
            go_cut [183] from 174 to 182 (fun cv wx => ∃ b : Bool, cv = .bool b ∧ Hid (b = true ↔ (i = 0 ∨ 0 < p3)) ∧ wx = w2)
            case first =>
              by_cases hi0 : i = 0
              · have t1 : (i == 0) = true := beq_iff_eq.2 hi0
                have t1i : ((i : Int) == 0) = true := beq_iff_eq.2 (by omega)
                have HI := Lib.hid hi0
                clear hi0
                go_wp2_with fail
                go_meet
                case rel => exact ⟨true, rfl, Lib.hid ⟨fun _ => .inl HI.out, fun _ => rfl⟩, rfl⟩
              · have t1 : (i == 0) = false := beq_eq_false_iff_ne.2 hi0
                have t1i : ((i : Int) == 0) = false := beq_eq_false_iff_ne.2 (by omega)
                have w8 : IntKind.u8.wrap (p3 : Int) = (p3 : Int) := wrap_u8s (by omega) (by omega)
                have HI := Lib.hid hi0
                clear hi0
                by_cases hp : 0 < p3
                · have d8 : decide (0 < p3) = true := decide_eq_true hp
                  have d8i : decide ((0 : Int) < (p3 : Int)) = true := decide_eq_true (by omega)
                  go_wp2_with fail
                  go_meet
                  case rel => exact ⟨true, rfl, Lib.hid ⟨fun _ => .inr hp, fun _ => rfl⟩, rfl⟩
                · have d8 : decide (0 < p3) = false := decide_eq_false hp
                  have d8i : decide ((0 : Int) < (p3 : Int)) = false := decide_eq_false (by omega)
                  go_wp2_with fail
                  go_meet
                  case rel => exact ⟨false, rfl, Lib.hid ⟨fun h => (by cases h), fun h => absurd h (by have := HI.out; omega)⟩, rfl⟩
            case rest =>
              obtain ⟨b, rfl, HBI, rfl⟩ := hcut
              obtain ⟨w2, rfl⟩ : ∃ w2 : World, w2 = wc := ⟨_, rfl⟩
              clear tmy cy2
              go_upto_if 183 with fail
              go_cut [18] from 184 to 187 (fun pv wx => ∃ (gp2 cp2 k : Nat) (R0 : List RowR) (r : RowR), pv = .slice (some ⟨gp2, 0, none⟩) (k + 1) cp2 ∧ k ≤ 20 ∧ Hid (k = R0.length) ∧ Hid (wx.ownsRow B 3 1 (.slice (some ⟨g2, 0, none⟩) (i + 1) c2) (i + 1) (ints (sharesK (i + 1)))) ∧ Hid (wx.ownsRow B 22 1 (.slice (some ⟨gp2, 0, none⟩) (k + 1) cp2) (k + 1) ((R0 ++ [r]).map rowV)) ∧ Hid (Rws B 3 wx g2 (R0 ++ [r])) ∧ Hid ((R0 ++ [r]).map (·.2.2) = if i = 0 ∨ 0 < BY.getD i 0 % 3 then placesK BY n i ++ [[]] else placesK BY n i) ∧ Hid (Below B wd wx) ∧ Hid (B + 2 ≤ wx.heap.size))
              case first =>
                have hRl : R.length ≤ i := by have := congrArg List.length HPL.out; rw [List.length_map] at this; rw [this]; exact placesK_len i
                have HIF : Hid ((i = 0 ∨ 0 < BY.getD i 0 % 3) ↔ b = true) := Lib.hid (by rw [HY3.out, HBI.out]; omega)
                cases b with
                | true =>
                  obtain ⟨Z, hZ⟩ : ∃ Z, w2.heap.size = Z := ⟨_, rfl⟩
                  obtain ⟨wa, hwa⟩ : ∃ wa, (w2.alloc (.cells #[] 3)).alloc (.cells #[.slice (some ⟨Z, 0, none⟩) 0 0] 22) = wa := ⟨_, rfl⟩
                  have hrs := HRW2.out.snoc (HOS2.out.lt g2 rfl).2 (by have := HZ2.out; omega)
                  rw [hZ] at hrs
                  have hra : Rws B 3 wa g2 (R ++ [(Z, 0, [])]) := by rw [← hwa]; exact hrs.below (aB _ _)
                  have hoa : wa.ownsRow B 22 1 (.slice (some ⟨gp, 0, none⟩) R.length cp) R.length (R.map rowV) := by rw [← hwa]; exact (HOP2.out.alloc _).alloc _
                  have hsa : wa.ownsRow B 3 1 (.slice (some ⟨g2, 0, none⟩) (i + 1) c2) (i + 1) (ints (sharesK (i + 1))) := by rw [← hwa]; exact (HOS2.out.alloc _).alloc _
                  have hba : Below B w2 wa := by rw [← hwa]; exact (bThen (aB _ _) (aB _ _)).mono (by have := HZ2.out; omega)
                  have hca : wa.cell? ⟨Z + 1, 0, none⟩ = some (.slice (some ⟨Z, 0, none⟩) 0 0) := by
                    rw [← hwa]
                    have := cell_new (w2.alloc (.cells #[] 3)) (.slice (some ⟨Z, 0, none⟩) 0 0) 22
                    simpa [hZ] using this
                  have hsz : wa.heap.size = Z + 2 := by rw [← hwa, ← hZ]; simp
                  have HZZ := Lib.hid hZ
                  have HWA := Lib.hid hwa
                  have HRA := Lib.hid hra
                  have HOA := Lib.hid hoa
                  have HSA := Lib.hid hsa
                  have HBA := Lib.hid hba
                  have HCA := Lib.hid hca
                  have HSZ := Lib.hid hsz
                  clear hrs hra hoa hsa hba hca hsz hZ hwa
                  go_wp2_with (at_builtin; rw [HZZ.out, HWA.out]; refine wpList_append1 rfl (.tmp 184) (.tmp 186) 32 rfl B 22 (.slice none 0 0) 24 Try.underlying32 info22 rfl _ R.length _ rfl HOA.out (Z + 1) 0 1 (.slice (some ⟨Z, 0, none⟩) 0 0) rfl HCA.out rfl (by omega) (by decide) (by have := HSZ.out; have := HZ2.out; have := HZZ.out; omega) ?_)
                  intro gp2 cp2 we hoe hge hate
                  have hgpe : wa.grownBy we (some gp) := hge
                  have hre : Rws B 3 we g2 (R ++ [(Z, 0, [])]) := HRA.out.kept fun q hq => hge.block _ (HRA.out.lt hq).2 (by have := HRA.out.apart HOA.out (by decide) hq; simpa [Value.ownBlock] using this)
                  have hse := HSA.out.kept hge (.inr (by
                    have := ownsN_ne HSA.out HOA.out (by decide)
                    simpa [Value.ownBlock] using this))
                  have hbe : Below B wd we := (HB2.out.trans HBA.out).trans (below_grownBy hgpe (by have := HSZ.out; have := HZ2.out; have := HZZ.out; omega) fun q hq => by cases hq; exact (HOA.out.lt gp rfl).1)
                  have hze : B + 2 ≤ we.heap.size := by have := hge.size; have := HSZ.out; have := HZ2.out; have := HZZ.out; omega
                  have hoe2 : we.ownsRow B 22 1 (.slice (some ⟨gp2, 0, none⟩) (R.length + 1) cp2) (R.length + 1) ((R ++ [(Z, 0, [])]).map rowV) := by simpa [rowV] using hoe
                  have hpe : (R ++ [((Z, 0, []) : RowR)]).map (·.2.2) = if i = 0 ∨ 0 < BY.getD i 0 % 3 then placesK BY n i ++ [[]] else placesK BY n i := by rw [if_pos (HIF.out.2 trivial), List.map_append, HPL.out]; rfl
                  have HRE := Lib.hid hre
                  have HSE := Lib.hid hse
                  have HBE := Lib.hid hbe
                  have HZE := Lib.hid hze
                  have HOE := Lib.hid hoe2
                  have HPE := Lib.hid hpe
                  clear hoe hge hate hgpe hre hse hbe hze hoe2 hpe
                  go_wp2_with fail
                  go_meet
                  case rel => exact ⟨gp2, cp2, R.length, R, (Z, 0, []), rfl, by omega, Lib.hid rfl, HSE, HOE, HRE, HPE, HBE, HZE⟩
                | false =>
                  have hne : R ≠ [] := fun e => by
                    have hi0 : ¬ i = 0 := fun h => by have := HIF.out.1 (.inl h); cases this
                    obtain ⟨j, hj⟩ : ∃ j, i = j + 1 := ⟨i - 1, by omega⟩
                    have := HPL.out
                    rw [e, hj] at this
                    exact placesK_pos this.symm
                  obtain ⟨R0, r, hR⟩ : ∃ R0 r, R = R0 ++ [r] := ⟨R.dropLast, R.getLast hne, (List.dropLast_concat_getLast hne).symm⟩
                  subst hR
                  have hl : (R0 ++ [r]).length = R0.length + 1 := by simp
                  have hpe : (R0 ++ [r]).map (·.2.2) = if i = 0 ∨ 0 < BY.getD i 0 % 3 then placesK BY n i ++ [[]] else placesK BY n i := by rw [if_neg (fun h => by have := HIF.out.1 h; cases this), HPL.out]
                  have hop3 := HOP2.out
                  rw [hl] at hop3
                  have HPE := Lib.hid hpe
                  have HOE := Lib.hid hop3
                  have HLL := Lib.hid hl
                  clear hne hpe hop3 hl
                  go_wp2_with fail
                  go_meet
                  case rel => exact ⟨gp, cp, R0.length, R0, r, by rw [HLL.out], by have := HLL.out; omega, Lib.hid rfl, HOS2, HOE, HRW2, HPE, HB2, HZ2⟩
              case rest =>
                obtain ⟨gp2, cp2, k, R0, r, rfl, hk20, HK, HOS3, HOP3, HRW3, HPL3, HB3, HZ3⟩ := hcut
                obtain ⟨w3, rfl⟩ : ∃ w3 : World, w3 = wc := ⟨_, rfl⟩
                obtain ⟨g, c, l⟩ := r
                have hl20 : l.length ≤ i := by
                  have h1 : l ∈ (if i = 0 ∨ 0 < BY.getD i 0 % 3 then placesK BY n i ++ [[]] else placesK BY n i) := by rw [← HPL3.out]; simp
                  have h2 := mem_flat_len h1
                  have h3 : (if i = 0 ∨ 0 < BY.getD i 0 % 3 then placesK BY n i ++ [[]] else placesK BY n i).flatten.length = i := by
                    split
                    · rw [List.flatten_append, placesK_flat]; simp
                    · rw [placesK_flat]; simp
                  omega
                have hkL : R0.length = k := HK.out.symm
                have hrl := HRW3.out.lt (r := (g, c, l)) (by simp)
                simp only at hrl
                have hgpg : gp2 ≠ g := Ne.symm (HRW3.out.apart HOP3.out (by decide) (r := (g, c, l)) (by simp))
                have hbbg : bb ≠ g := by have := HNB.out; omega
                have hrow : w3.ownsRow B 3 1 (.slice (some ⟨g, 0, none⟩) l.length c) l.length (ints l) := HRW3.out.rows (g, c, l) (by simp)
                have cp0 : w3.cell? ⟨gp2, k, none⟩ = some (.slice (some ⟨g, 0, none⟩) l.length c) := by
                  rw [HOP3.out.cellAt k (by omega), List.map_append, List.getElem?_append_right (by simp [hkL]), List.length_map, hkL, Nat.sub_self]; rfl
                have cy0 : w3.cell? ⟨bb, ob, none⟩ = some (.int .u8 y0) := bAt (by rw [HN.out]; exact HBD.out.trans (HB3.out.mono HNB.out) : Below w.heap.size w w3) hcy0
                have hgs3 := (HOS3.out.lt g2 rfl).2
                obtain ⟨x, hx⟩ : ∃ x, ((i : Int) + y0) % (n : Int) = x := ⟨_, rfl⟩
                have hxb : 0 ≤ x ∧ x < n := by rw [← hx]; exact ⟨Int.emod_nonneg _ (by omega), Int.emod_lt_of_pos _ (by omega)⟩
                have tmx : ((i : Int) + y0).tmod (n : Int) = x := by rw [Int.tmod_eq_emod_of_nonneg (by omega)]; exact hx
                have wx : IntKind.i64.wrap x = x := wrap_small _ (by omega) (by omega)
                have wiy : IntKind.i64.wrap ((i : Int) + y0) = (i : Int) + y0 := wrap_small _ (by omega) (by omega)
                have wy0 : IntKind.i64.wrap y0 = y0 := wrap_small _ (by omega) (by omega)
                have wk1 : IntKind.i64.wrap (k : Int) = (k : Int) := wrap_small _ (by omega) (by omega)
                have bk0 : (0 : Int) ≤ (k : Int) := by omega
                have bk1 : (k : Int) < (k : Int) + 1 := by omega
                have bnN : 0 < n := by omega
                have nzN : ¬ n = 0 := by omega
                have HROW := Lib.hid hrow
                have HX : Hid (((i : Int) + BY.getD 0 0) % (n : Int) = x) := Lib.hid (by rw [HY0.out]; exact hx)
                have HKL := Lib.hid hkL
                clear hx hrow hkL cy20
                go_wp2_with fail
                refine wp_region_seqV 21 ((fun v => v = .slice (some ⟨gp2, 0, none⟩) (k + 1) cp2) :: (fun v => v = .slice (some ⟨gp2, 0, none⟩) (k + 1) cp2) :: (fun v => v = .int .i64 ((k + 1 : Nat) : Int)) :: (fun v => v = .int .i64 (k : Int)) :: (fun v => v = .slice (some ⟨gp2, 0, none⟩) (k + 1) cp2) :: (fun v => v = .slice (some ⟨gp2, 0, none⟩) (k + 1) cp2) :: (fun v => v = .int .i64 ((k + 1 : Nat) : Int)) :: (fun v => v = .int .i64 (k : Int)) :: (fun v => v = .pointer (some ⟨gp2, k, none⟩)) :: (fun v => v = .slice (some ⟨g, 0, none⟩) l.length c) :: (fun v => v = .int .i64 (i : Int)) :: (fun v => v = .slice (some ⟨bb, ob, none⟩) n capb) :: (fun v => v = .pointer (some ⟨bb, ob, none⟩)) :: (fun v => v = .int .u8 y0) :: (fun v => v = .int .i64 y0) :: (fun v => v = .int .i64 ((i : Int) + y0)) :: (fun v => v = .int .i64 (n : Int)) :: (fun v => v = .int .i64 x) :: (fun v => ∃ q, v = .slice (some ⟨q, 0, none⟩) 1 1) :: (fun _ => True) :: (fun v => v = .pointer (some ⟨gp2, k, none⟩)) :: []) (JOne w3 g 18 19 B 3 l.length (ints l) (.int .i64 x)) rfl mix (by kernel_rfl) (by kernel_rfl) (fun _ _ _ _ hc h => h.congr hc) (fun _ => .start) ?_
                simp only [List.take_succ_cons, List.take_zero]
                refine sv_rd rfl (fun _ _ _ h => h.read (by simp) (by simp)) (fun u1 L1 vs1 hvs1 hL1 hJ1 => ?_) ?_
                · simp [opOK, go_sem]
                simp only [Act.put, List.setIfInBounds_toArray, List.set_cons_succ, List.set_cons_zero, List.nil_append]
                refine sv_rd rfl (fun _ _ _ h => h.read (by simp) (by simp)) (fun u1 L1 vs1 hvs1 hL1 hJ1 => ?_) ?_
                · simp [opOK, go_sem]
                simp only [Act.put, List.setIfInBounds_toArray, List.set_cons_succ, List.set_cons_zero, List.nil_append, List.cons_append]
                refine sv_rd rfl (fun _ _ _ h => h.read (by simp) (by simp)) (fun u1 L1 vs1 hvs1 hL1 hJ1 => ?_) ?_
                · simp [opOK, go_sem]
                simp only [Act.put, List.setIfInBounds_toArray, List.set_cons_succ, List.set_cons_zero, List.nil_append, List.cons_append]
                refine sv_rd rfl (fun _ _ _ h => h.read (by simp) (by simp)) (fun u1 L1 vs1 hvs1 hL1 hJ1 => ?_) ?_
                · simp [opOK, go_sem, wk1]
                simp only [Act.put, List.setIfInBounds_toArray, List.set_cons_succ, List.set_cons_zero, List.nil_append, List.cons_append]
                refine sv_rd rfl (fun _ _ _ h => h.read (by simp) (by simp)) (fun u1 L1 vs1 hvs1 hL1 hJ1 => ?_) ?_
                · simp [opOK, go_sem]
                simp only [Act.put, List.setIfInBounds_toArray, List.set_cons_succ, List.set_cons_zero, List.nil_append, List.cons_append]
                refine sv_rd rfl (fun _ _ _ h => h.read (by simp) (by simp)) (fun u1 L1 vs1 hvs1 hL1 hJ1 => ?_) ?_
                · simp [opOK, go_sem]
                simp only [Act.put, List.setIfInBounds_toArray, List.set_cons_succ, List.set_cons_zero, List.nil_append, List.cons_append]
                refine sv_rd rfl (fun _ _ _ h => h.read (by simp) (by simp)) (fun u1 L1 vs1 hvs1 hL1 hJ1 => ?_) ?_
                · simp [opOK, go_sem]
                simp only [Act.put, List.setIfInBounds_toArray, List.set_cons_succ, List.set_cons_zero, List.nil_append, List.cons_append]
                refine sv_rd rfl (fun _ _ _ h => h.read (by simp) (by simp)) (fun u1 L1 vs1 hvs1 hL1 hJ1 => ?_) ?_
                · simp [opOK, go_sem, wk1]
                simp only [Act.put, List.setIfInBounds_toArray, List.set_cons_succ, List.set_cons_zero, List.nil_append, List.cons_append]
                refine sv_rd rfl (fun _ _ _ h => h.read (by simp) (by simp)) (fun u1 L1 vs1 hvs1 hL1 hJ1 => ?_) ?_
                · simp [opOK, go_sem, bk0, bk1]
                simp only [Act.put, List.setIfInBounds_toArray, List.set_cons_succ, List.set_cons_zero, List.nil_append, List.cons_append]
                refine sv_rd rfl (fun _ _ _ h => h.read (by simp) (by simp)) (fun u1 L1 vs1 hvs1 hL1 hJ1 => ?_) ?_
                · have c0 := hJ1.cell cp0 hgpg
                  simp [opOK, go_sem, c0]
                simp only [Act.put, List.setIfInBounds_toArray, List.set_cons_succ, List.set_cons_zero, List.nil_append, List.cons_append]
                refine sv_rd rfl (fun _ _ _ h => h.read (by simp) (by simp)) (fun u1 L1 vs1 hvs1 hL1 hJ1 => ?_) ?_
                · simp [opOK, go_sem]
                simp only [Act.put, List.setIfInBounds_toArray, List.set_cons_succ, List.set_cons_zero, List.nil_append, List.cons_append]
                refine sv_rd rfl (fun _ _ _ h => h.read (by simp) (by simp)) (fun u1 L1 vs1 hvs1 hL1 hJ1 => ?_) ?_
                · simp [opOK, go_sem]
                simp only [Act.put, List.setIfInBounds_toArray, List.set_cons_succ, List.set_cons_zero, List.nil_append, List.cons_append]
                refine sv_rd rfl (fun _ _ _ h => h.read (by simp) (by simp)) (fun u1 L1 vs1 hvs1 hL1 hJ1 => ?_) ?_
                · simp [opOK, go_sem, bnN]
                simp only [Act.put, List.setIfInBounds_toArray, List.set_cons_succ, List.set_cons_zero, List.nil_append, List.cons_append]
                refine sv_rd rfl (fun _ _ _ h => h.read (by simp) (by simp)) (fun u1 L1 vs1 hvs1 hL1 hJ1 => ?_) ?_
                · have c0 := hJ1.cell cy0 hbbg
                  simp [opOK, go_sem, c0]
                simp only [Act.put, List.setIfInBounds_toArray, List.set_cons_succ, List.set_cons_zero, List.nil_append, List.cons_append]
                refine sv_rd rfl (fun _ _ _ h => h.read (by simp) (by simp)) (fun u1 L1 vs1 hvs1 hL1 hJ1 => ?_) ?_
                · simp [opOK, go_sem, wy0]
                simp only [Act.put, List.setIfInBounds_toArray, List.set_cons_succ, List.set_cons_zero, List.nil_append, List.cons_append]
                refine sv_rd rfl (fun _ _ _ h => h.read (by simp) (by simp)) (fun u1 L1 vs1 hvs1 hL1 hJ1 => ?_) ?_
                · simp [opOK, go_sem, wiy]
                simp only [Act.put, List.setIfInBounds_toArray, List.set_cons_succ, List.set_cons_zero, List.nil_append, List.cons_append]
                refine sv_rd rfl (fun _ _ _ h => h.read (by simp) (by simp)) (fun u1 L1 vs1 hvs1 hL1 hJ1 => ?_) ?_
                · simp [opOK, go_sem]
                simp only [Act.put, List.setIfInBounds_toArray, List.set_cons_succ, List.set_cons_zero, List.nil_append, List.cons_append]
                refine sv_rd rfl (fun _ _ _ h => h.read (by simp) (by simp)) (fun u1 L1 vs1 hvs1 hL1 hJ1 => ?_) ?_
                · simp [opOK, go_sem, tmx, nzN]
                simp only [Act.put, List.setIfInBounds_toArray, List.set_cons_succ, List.set_cons_zero, List.nil_append, List.cons_append]
                refine sv_new ⟨.slice (some ⟨0, 0, none⟩) 1 1, 0, rfl⟩ rfl (fun u1 L1 vs1 hvs1 hL1 hJ1 hd => ?_) ?_
                · simp [opOK, go_sem]
                  exact hJ1.mkLit (aB _ _) (cell_new _ _ _) (by decide)
                rintro _ ⟨q18, rfl⟩
                simp only [Act.put, List.setIfInBounds_toArray, List.set_cons_succ, List.set_cons_zero, List.nil_append, List.cons_append]
                refine sv_new ⟨undef, trivial⟩ rfl (fun u1 L1 vs1 hvs1 hL1 hJ1 hd => ?_) ?_
                · have h18 := hd ⟨18, .data⟩ (by simp) rfl
                  obtain ⟨q, eq, hq⟩ := hJ1.lit h18 hL1
                  rw [hvs1 18 _ rfl] at eq
                  cases eq
                  refine opOK_mono (opOK_append1_at (.tmp 197) (.tmp 206) 22 rfl B 3 (.int .i64 0) 8 Try.underlying22 info3 rfl (.slice (some ⟨g, 0, none⟩) l.length c) l.length (ints l) rfl (hJ1.own HROW.out (.inl hL1)) q18 0 1 (.int .i64 x) rfl hq rfl (by omega) (by decide) (by have := hJ1.size; omega)) ?_
                  rintro v' w' ⟨g', c', rfl, h1, h2, h3⟩
                  refine ⟨trivial, hJ1.app h2 h1 (h3.elim (fun e => .inl ?_) .inr) (by decide) hL1⟩
                  simpa [Value.ownBlock] using e.symm
                rintro v19 -
                simp only [Act.put, List.setIfInBounds_toArray, List.set_cons_succ, List.set_cons_zero, List.nil_append, List.cons_append]
                refine sv_rd rfl (fun _ _ _ h => h.read (by simp) (by simp)) (fun u1 L1 vs1 hvs1 hL1 hJ1 => ?_) ?_
                · simp [opOK, go_sem, bk0, bk1]
                simp only [Act.put, List.setIfInBounds_toArray, List.set_cons_succ, List.set_cons_zero, List.nil_append, List.cons_append]
                refine sv_end fun vs6 w6 hvs6 hJ6 => ?_
                simp only [List.drop_succ_cons, List.drop_zero]
                obtain ⟨g', c', e19, ho6, hat6⟩ := hJ6.row (by decide)
                rw [hvs6 19 _ rfl] at e19
                subst e19
                have hop6 := hJ6.own HOP3.out (.inr (by simpa [Value.ownBlock] using hgpg))
                have hos6 := hJ6.own HOS3.out (.inr (by have := HRW3.out.ne (r := (g, c, l)) (by simp); simp only [Value.ownBlock, ne_eq, Option.some.injEq]; exact fun e => this e.symm))
                have cpk : w6.cell? ⟨gp2, k, none⟩ = some (.slice (some ⟨g, 0, none⟩) l.length c) := hJ6.cell cp0 hgpg
                have fzk : w6.frozen? ⟨gp2, k, none⟩ = false := hop6.frozenAt k
                have hfin := HRW3.out.last (W1 := w6) (j := k) HOP3.out (by decide) (fun q hq hne => hJ6.block q hq (.inr hne)) ho6 hat6 hgs3 HKL.out.symm
                have hb6 : Below B wd (w6.setCell ⟨gp2, k, none⟩ (.slice (some ⟨g', 0, none⟩) (l.length + 1) c')) := (HB3.out.trans ⟨hJ6.os, hJ6.tape, hJ6.output, hJ6.size, fun q hq => hJ6.block q (by have := HZ3.out; omega) (.inr (by omega))⟩).setCell (HOP3.out.lt gp2 rfl).1 _
                have hos7 := ownsRow_setCell_other hos6 (a := ⟨gp2, k, none⟩) (by
                  have := ownsN_ne HOS3.out HOP3.out (by decide)
                  simpa [Value.ownBlock] using this) (.slice (some ⟨g', 0, none⟩) (l.length + 1) c')
                have hz6 : B + 2 ≤ w6.heap.size := by have := HZ3.out; have := hJ6.size; omega
                have hplk : (R0 ++ [(g', c', l ++ [x])]).map (·.2.2) = placesK BY n (i + 1) := by
                  rw [placesK, ← HPL3.out, HX.out]
                  simp [addLast]
                have HFP := Lib.hid hfin.1
                have HFR := Lib.hid hfin.2
                have HB6 := Lib.hid hb6
                have HOS7 := Lib.hid hos7
                have HZ6 := Lib.hid hz6
                have HPK := Lib.hid hplk
                clear hop6 hos6 hfin hb6 hos7 hz6 hplk hJ6 hvs6 ho6 hat6 cp0 cy0 tmx wx wiy wy0 wk1 bk0 bk1
                go_wp2_with fail
                go_roundw
                case rel => exact ⟨i + 1, g2, c2, gp2, cp2, R0 ++ [(g', c', l ++ [x])], rfl, by simp [HKL.out], by rw [HLS.out], by go_num, by omega, HOS7, by simpa [HKL.out] using HFP, HFR, HPK, HB6, by simpa using HZ6⟩
                case measure => simp [intOf]; omega
          · obtain rfl : i = n := by omega
            obtain ⟨pl, hpl⟩ : ∃ pl, max 1 i = pl := ⟨_, rfl⟩
            obtain ⟨P, kept, E, hpe, hpr, hPl, hwh⟩ := prizes_whole (money := M) (bys := BY) hMb (by rw [HNN.out]; exact hBl)
            rw [HNN.out, hpl] at hpe hpr hPl
            rw [HNN.out] at hwh
            have hmx : max (1 : Int) (i : Int) = (pl : Int) := by omega
            have hss := (HRW.out.slsl HOP.out (Nat.le_refl _)).mono (S' := fun _ => True) fun _ _ => trivial
            have hRl : R.length = (placesK BY i i).length := by rw [← HPL.out, List.length_map]
            have hR20 : R.length ≤ 20 := by rw [hRl]; exact Nat.le_trans (placesK_len i) hBl
            rw [HPL.out] at hss
            have hgne := placesK_ne (bys := BY) (n := i) i
            have hgfl : (placesK BY i i).flatten.length = i := by rw [placesK_flat]; simp
            have hgrg : ∀ y ∈ (placesK BY i i).flatten, 0 ≤ y ∧ y < i := by
              rcases Nat.eq_zero_or_pos i with h | h
              · rw [h]; simp [placesK]
              · exact placesK_rng h i
            obtain ⟨G, hG⟩ : ∃ G, placesK BY i i = G := ⟨_, rfl⟩
            rw [hG] at hpe hpr hwh hss hRl hgne hgfl hgrg
            obtain ⟨m, hm⟩ : ∃ m, R.length = m := ⟨_, rfl⟩
            rw [hm] at hss hRl hR20 ⊢
            have HSS := Lib.hid hss
            have HPE := Lib.hid hpe
            have HPR := Lib.hid hpr
            have HPl := Lib.hid hPl
            have HWH := Lib.hid hwh
            have HM := Lib.hid hRl
            have HGN := Lib.hid hgne
            have HGF := Lib.hid hgfl
            have HGR := Lib.hid hgrg
            have hplb : 1 ≤ pl ∧ pl ≤ 20 ∧ i ≤ pl := by omega
            clear hss hpe hpr hPl hwh hRl hgne hgfl hgrg hG hm hpl HOP HRW HPL
            go_wp2_with fail
            refine (prizes_any M pl (sharesK i) G _ _ wo (owns_sl HOS.out) HSS.out).mono ?_
            rintro e w8 ⟨r8, rfl, hb8, hs8⟩
            rw [HPE.out, HPR.out]
            rw [HPR.out] at hs8
            simp only at hs8 ⊢
            obtain ⟨a8, c8, e8⟩ := Sl.formW hs8
            subst e8
            have hs9 : Sl (fun _ => True) w8 (.slice a8 P.length c8) (ints P) := hs8.mono fun _ _ => trivial
            rw [HPl.out] at hs9 ⊢
            have HS8 := Lib.hid hs9
            have HSS8 := Lib.hid (HSS.out.below hb8)
            have HBT8 : Hid (Below w.heap.size w w8) := Lib.hid (by
              rw [HN.out]
              exact (HBD.out.trans (HBr.out.mono HNB.out)).trans (hb8.mono (by have := HSr.out; have := HNB.out; omega)))
            have hk0 := HWH.out.kept0
            have hkL := HWH.out.keptL
            have wmk : IntKind.i64.wrap (M - kept) = M - kept := wrap_small _ (by omega) (by omega)
            have dk0 : decide (kept < 0) = false := decide_eq_false (by omega)
            clear hs8 hs9 hb8
            go_wp2_with fail
            go_loop [25, 26, 27, 28, 29] (fun rv lv gv _ _ => ∃ (g : Nat) (la D : Int), rv = .int .i64 (M - kept - D) ∧ lv = .int .i64 la ∧ gv = .int .i64 (g : Int) ∧ g ≤ m ∧ Hid (la = if g = 0 then M else E.getD (g - 1) 0) ∧ Hid (D = paidK E G g) ∧ 0 ≤ D ∧ D ≤ 20000000000 * (g : Int)) (fun _ _ gv _ _ => m - (intOf gv).toNat)
            case atStart => exact ⟨0, M, 0, by simp, rfl, rfl, Nat.zero_le _, Lib.hid rfl, Lib.hid rfl, by omega, by omega⟩
            case round =>
              obtain ⟨g, la, D, rfl, rfl, rfl, hg, HLA, HD, hD0, hD1⟩ := hrel
              by_cases hgm : g < m
              · as_aux_lemma =>
                have hgG : g < G.length := by rw [← HM.out]; exact hgm
                obtain ⟨b, off, u, hal, _, cu, hu⟩ := HSS8.out.cell hgG
                cases hal
                obtain ⟨X, hX⟩ : ∃ X, G[g] = X := ⟨_, rfl⟩
                have hXm : X ∈ G := hX ▸ List.getElem_mem hgG
                have hGX : G.getD g [] = X := by rw [List.getD_eq_getElem?_getD, List.getElem?_eq_getElem hgG, Option.getD_some, hX]
                rw [hX] at hu
                obtain ⟨au, cu2, e⟩ := Sl.formW hu
                subst e
                have hX0 : 0 < X.length := List.length_pos_iff.2 (HGN.out X hXm)
                have hXl : X.length ≤ 20 := by have := mem_flat_len hXm; have := HGF.out; omega
                obtain ⟨ev, hev⟩ : ∃ ev, E.getD g 0 = ev := ⟨_, rfl⟩
                have hbd := HWH.out.bd g hgG
                rw [hev, ← HLA.out] at hbd
                have hevM : 0 ≤ ev ∧ ev ≤ 1000000000 := by have := HWH.out.le g hgG; omega
                have HCELL : Hid (∀ j, j < X.length → ∃ q : Nat, q < pl ∧ X.getD j 0 = (q : Int) ∧ P.getD q 0 = ev) := Lib.hid fun j hj => by
                  have h1 : X.getD j 0 ∈ X := by rw [getD_at hj]; exact List.getElem_mem hj
                  have h2 := HGR.out _ (List.mem_flatten.2 ⟨X, hXm, h1⟩)
                  have h3 := HWH.out.each g j hgG (by rw [hGX]; exact hj)
                  rw [hGX, hev] at h3
                  exact ⟨(X.getD j 0).toNat, by omega, by omega, h3⟩
                have HU := Lib.hid hu
                have HXD : Hid (paidK E G (g + 1) = D + ev * X.length) := Lib.hid (by rw [paidK_succ, hGX, hev, HD.out])
                have HEV := Lib.hid hev
                have t1 : decide (ev < 0) = false := decide_eq_false (by omega)
                have t2 : decide (la < ev) = false := decide_eq_false (by omega)
                have bg0 : (0 : Int) ≤ (g : Int) := by omega
                have bgm : (g : Int) < (m : Int) := by omega
                simp only [Nat.zero_add] at cu
                clear hX hGX hu hev hbd hXm
                go_wp2_with fail
                go_loop [25, 28, 29] (fun rv jv _ => ∃ (j : Nat) (t : Int), rv = .int .i64 (M - kept - D - t) ∧ jv = .int .i64 (j : Int) ∧ j ≤ X.length ∧ Hid (t = ev * j) ∧ 0 ≤ t ∧ t ≤ 1000000000 * (j : Int)) (fun _ jv _ => X.length - (intOf jv).toNat)
                case atStart => exact ⟨0, 0, by simp, rfl, Nat.zero_le _, Lib.hid (by simp), by omega, by omega⟩
                case round =>
                  obtain ⟨j, t, rfl, rfl, hj, HT, ht0, ht1⟩ := hrel
                  obtain ⟨q0, hq0, hx0, hp0⟩ := HCELL.out 0 hX0
                  obtain ⟨b0, o0, ha0, _, d0⟩ := HU.out.cell hX0
                  cases ha0
                  rw [← getD_at hX0, hx0, Nat.add_zero] at d0
                  obtain ⟨b8, o8, ha8, _, f0⟩ := HS8.out.cell (k := q0) (by rw [HPl.out]; exact hq0)
                  cases ha8
                  rw [← getD_at (by rw [HPl.out]; exact hq0), hp0] at f0
                  have bq00 : (0 : Int) ≤ (q0 : Int) := by omega
                  have bq0p : (q0 : Int) < (pl : Int) := by omega
                  have bX0 : (0 : Int) < (X.length : Int) := by omega
                  clear hx0 hp0
                  by_cases hjl : j < X.length
                  · obtain ⟨q, hq, hx, hp⟩ := HCELL.out j hjl
                    obtain ⟨b1, o1, ha1, _, d1'⟩ := HU.out.cell hjl
                    cases ha1
                    rw [← getD_at hjl, hx] at d1'
                    obtain ⟨b9, o9, ha9, _, f1⟩ := HS8.out.cell (k := q) (by rw [HPl.out]; exact hq)
                    cases ha9
                    rw [← getD_at (by rw [HPl.out]; exact hq), hp] at f1
                    have bq0 : (0 : Int) ≤ (q : Int) := by omega
                    have bqp : (q : Int) < (pl : Int) := by omega
                    have bj0 : (0 : Int) ≤ (j : Int) := by omega
                    have bjX : (j : Int) < (X.length : Int) := by omega
                    have wr : IntKind.i64.wrap (M - kept - D - t - ev) = M - kept - D - t - ev := wrap_small _ (by omega) (by omega)
                    have HTN : Hid (t + ev = ev * ((j + 1 : Nat) : Int)) := Lib.hid (by rw [HT.out, Int.natCast_add, Int.mul_add]; simp)
                    clear hx hp
                    go_wp2_with fail
                    go_round
                    case rel => exact ⟨j + 1, t + ev, by congr 1; omega, by go_num, by omega, HTN, by omega, by omega⟩
                    case measure => simp [intOf]; omega
                  · obtain rfl : j = X.length := by omega
                    have HDN : Hid (D + t = paidK E G (g + 1)) := Lib.hid (by rw [HXD.out, HT.out])
                    go_wp2_with fail
                    go_round
                    case rel => exact ⟨g + 1, ev, D + t, by congr 1; omega, rfl, by go_num, by omega, Lib.hid (by rw [if_neg (by omega), Nat.add_sub_cancel]; exact HEV.out.symm), HDN, by omega, by omega⟩
                    case measure => simp [intOf]; omega
              · obtain rfl : g = m := by omega
                have hD : M - kept - D = 0 := by have h1 := HWH.out.sum; rw [← HM.out, ← HD.out] at h1; omega
                rw [hD]
                clear hD
                go_wp2_with fail
                refine (known_any w8).mono ?_
                rintro e w9 ⟨rfl, hb9⟩
                have HBT := Lib.hid (bThen HBT8.out hb9)
                clear hb9
                go_wp2
                go_ret
                exact ⟨rfl, HBT.out⟩
end Go.Proofs.Ytagfcodpgochjaa
