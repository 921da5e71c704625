/- The texts CS, CT, CU, PX, CR, Win, in build order. -/
import Derived.Test.YtagfcodpgochjaaZak
import Derived.Laws.CopyRow
import Derived.Laws.Tables

/- Chapter 12: coins collected and sorted. -/
namespace Go.Proofs.Ytagfcodpgochjaa
open Go.RowKit Go.Oche Go.Proofs

set_option maxRecDepth 100000 in
set_option maxHeartbeats 4000000 in
theorem pdqC_any (cs : List (Int × Int)) (g c n base L : Nat) (w : World) (ho : CoinOwn cs base g n c (upTo n) w) (hn : n ≤ 12) :
    Calls Try.prog 80 #[.slice (some ⟨g, 0, none⟩) n c, .int .i64 0, .int .i64 n, .int .i64 L, .func (.func 50) #[] #[]] w fun e w' =>
      e = .returned (.tuple #[]) ∧ ∃ ys, CoinOwn cs base g n c ys w' ∧ w.grownBy w' (some g) ∧ SegOk (worthR cs) (upTo n) 0 n (max 1 n) ys := by
  have d1 : decide ((n : Int) ≤ 12) = true := decide_eq_true (by omega)
  have d1n : decide (n ≤ 12) = true := decide_eq_true hn
  have hw0 : IntKind.i64.wrap (n : Int) = n := wrap_small _ (by omega) (by omega)
  have HO := Lib.hid ho
  clear ho
  go_enter Try.func80, Try.ntmps80
  go_wp2_with fail
  go_loopw [1, 2, 3] (fun av bv lv wr => av = .int .i64 0 ∧ bv = .int .i64 n ∧ lv = .int .i64 L ∧ Hid (wr = w)) (fun _ _ _ _ => 0)
  case atStart => exact ⟨rfl, rfl, rfl, Lib.hid rfl⟩
  case round =>
    obtain ⟨rfl, rfl, rfl, HW⟩ := hrel
    go_wp2_with fail
    have hw := HW.out
    subst hw
    refine (insC_any cs g c n base (upTo n) 0 n _ HO.out (by omega) (by omega) (by omega) (fun p q _ h1 h2 => by rw [at0_upTo (by omega), at0_upTo h2]; omega)).mono ?_
    rintro e w1 ⟨rfl, ys, h1, h2, h3⟩
    have H1 := Lib.hid h1
    have H2 := Lib.hid h2
    have H3 := Lib.hid h3
    clear h1 h2 h3
    go_wp2
    go_returns
    exact ⟨rfl, ys, H1.out, H2.out, H3.out⟩
set_option maxRecDepth 100000 in
set_option maxHeartbeats 4000000 in
theorem sortC_any (cs : List (Int × Int)) (g c n base : Nat) (w : World) (ho : CoinOwn cs base g n c (upTo n) w) (hn : n ≤ 12) :
    Calls Try.prog 68 #[.slice (some ⟨g, 0, none⟩) n c, .func (.func 50) #[] #[]] w fun e w' =>
      e = .returned (.tuple #[]) ∧ ∃ ys, CoinOwn cs base g n c ys w' ∧ w.grownBy w' (some g) ∧ SegOk (worthR cs) (upTo n) 0 n (max 1 n) ys := by
  have hw0 : IntKind.u64.wrap (n : Int) = n := by rw [IntKind.wrap_u64]; omega
  have HO := Lib.hid ho
  clear ho
  go_enter Try.func68, Try.ntmps68
  go_wp2_with fail
  refine (Try.bits_Len n w (by omega) (by omega)).mono ?_
  rintro e w0 ⟨rfl, rfl⟩
  go_wp2_with fail
  refine (pdqC_any cs g c n base _ _ HO.out hn).mono ?_
  rintro e w1 ⟨rfl, ys, h1, h2, h3⟩
  have H1 := Lib.hid h1
  have H2 := Lib.hid h2
  have H3 := Lib.hid h3
  clear h1 h2 h3
  go_wp2
  go_returns
  exact ⟨rfl, ys, H1.out, H2.out, H3.out⟩
set_option maxRecDepth 100000 in
theorem sortC0_any (w : World) : Calls Try.prog 68 #[.slice none 0 0, .func (.func 50) #[] #[]] w fun e w' => e = .returned (.tuple #[]) ∧ w' = w := by
  go_enter Try.func68, Try.ntmps68
  go_wp2_with fail
  refine (Try.bits_Len 0 w (by omega) (by omega)).mono ?_
  rintro e w0 ⟨rfl, rfl⟩
  obtain ⟨L, hL⟩ : ∃ L, Lib.bitLen (0 : Int).toNat = L := ⟨_, rfl⟩
  rw [hL]
  clear hL
  go_wp2_with fail
  refine Calls.mono (R := fun e w' => e = .returned (.tuple #[]) ∧ w' = w0) ?_ ?_
  · go_enter Try.func80, Try.ntmps80
    go_wp2_with fail
    go_loopw [1, 2, 3] (fun av bv lv wr => av = .int .i64 0 ∧ bv = .int .i64 0 ∧ lv = .int .i64 L ∧ Hid (wr = w0)) (fun _ _ _ _ => 0)
    case atStart => exact ⟨rfl, rfl, rfl, Lib.hid rfl⟩
    case round =>
      obtain ⟨rfl, rfl, rfl, HW⟩ := hrel
      go_wp2_with fail
      have hw := HW.out
      subst hw
      refine Calls.mono (R := fun e w' => e = .returned (.tuple #[]) ∧ w' = wr) ?_ ?_
      · go_enter Try.func95, Try.ntmps95
        go_wp2_with fail
        go_loopw [8] (fun iv wi => iv = .int .i64 1 ∧ Hid (wi = wr)) (fun _ _ => 0)
        case atStart => exact ⟨rfl, Lib.hid rfl⟩
        case round =>
          obtain ⟨rfl, HW⟩ := hrel
          go_wp2
          go_returns
          exact ⟨rfl, HW.out⟩
      · rintro e w1 ⟨rfl, rfl⟩
        go_wp2
        go_returns
        exact ⟨rfl, rfl⟩
  · rintro e w1 ⟨rfl, rfl⟩
    go_wp2
    go_returns
    exact ⟨rfl, rfl⟩
end Go.Proofs.Ytagfcodpgochjaa

/- Chapter 12: coins collected, sorted; doubles left out. -/
namespace Go.Proofs.Ytagfcodpgochjaa
open Go.RowKit Go.Oche Go.Proofs

theorem values_any {S : Nat → Prop} (cs : List (Int × Int)) (v : Value) (w : World) (hs : SlN 2 S w v (cs.map coinRow)) :
    Calls Try.prog 49 #[v] w fun e w' => ∃ pb, e = .returned (.func (.func 69) #[] #[.pointer (some ⟨pb, 0, none⟩)]) ∧ Below w.heap.size w w' ∧ w'.cell? ⟨pb, 0, none⟩ = some v := by
  obtain ⟨a, cap, rfl, h2, h3⟩ := hs.form
  simp only [List.length_map] at *
  clear hs
  go_enter Try.func49, Try.ntmps49
  go_wp2
  go_ret
  exact ⟨_, rfl, aB _ _, by simp⟩
theorem backward_any {S : Nat → Prop} (cs : List (Int × Int)) (v : Value) (w : World) (hs : SlN 2 S w v (cs.map coinRow)) :
    Calls Try.prog 55 #[v] w fun e w' => e = .returned (.func (.func 72) #[] #[.pointer (some ⟨w.heap.size, 0, none⟩)]) ∧ w' = w.alloc (.cells #[v] 63) := by
  obtain ⟨a, cap, rfl, h2, h3⟩ := hs.form
  simp only [List.length_map] at *
  clear hs
  go_enter Try.func55, Try.ntmps55
  go_wp2
  go_ret
  exact ⟨rfl, rfl⟩
theorem rowsOf_upTo (cs : List (Int × Int)) : rowsOf cs (upTo cs.length) = cs := by
  refine List.ext_getElem (by simp) fun i h1 h2 => ?_
  simp [rowsOf, upTo, coinAt, List.getD_eq_getElem?_getD, h2]
/-- The coins stand in the order of their worth. -/
structure SortedC (cs : List (Int × Int)) (ys : List Int) : Prop where
  len : ys.length = cs.length
  perm : ys.Perm (upTo cs.length)
  ord : ∀ p q, p < q → q < cs.length → befo (worthR cs) (at0 ys p) (at0 ys q)
set_option maxRecDepth 100000 in
set_option maxHeartbeats 4000000 in
theorem sortedFunc_any {S : Nat → Prop} (cs : List (Int × Int)) (pb : Nat) (v : Value) (w : World) (cb : w.cell? ⟨pb, 0, none⟩ = some v) (hsl : SlN 2 S w v (cs.map coinRow)) (hl : cs.length ≤ 12) :
    Calls Try.prog 48 #[.func (.func 69) #[] #[.pointer (some ⟨pb, 0, none⟩)], .func (.func 50) #[] #[]] w fun e w' =>
      ∃ v', e = .returned v' ∧ Below w.heap.size w w' ∧ ((cs = [] ∧ v' = .slice none 0 0) ∨ ∃ g c ys, v' = .slice (some ⟨g, 0, none⟩) cs.length c ∧ CoinOwn cs w.heap.size g cs.length c ys w' ∧ SortedC cs ys) := by
  have hap := appendSeq_any cs pb v w cb hsl (by omega)
  clear cb hsl
  go_enter Try.func48, Try.ntmps48
  go_wp2_with fail
  refine Calls.mono (R := fun e w' => ∃ v', e = .returned v' ∧ Below w.heap.size w w' ∧ w'.ownsRow w.heap.size 66 2 v' cs.length (coinsFlat cs)) ?_ ?_
  · go_enter Try.func67, Try.ntmps67
    go_wp2_with fail
    refine hap.mono ?_
    rintro e w1 ⟨v', rfl, hb1, ho1⟩
    obtain ⟨a, c, rfl⟩ := owns_form ho1
    have HB := Lib.hid hb1
    have HO := Lib.hid ho1
    clear hb1 ho1 hap
    go_wp2
    go_ret
    exact ⟨_, rfl, HB.out, HO.out⟩
  · clear hap
    rintro e w1 ⟨v', rfl, hb1, ho1⟩
    rcases ho1.2 with ⟨rfl, h0⟩ | ⟨g, c, cur, rfl, _⟩
    · have HB := Lib.hid hb1
      have h00 := List.eq_nil_of_length_eq_zero h0
      have H0 := Lib.hid h00
      clear hb1 ho1 h0 h00
      go_wp2_with fail
      refine (sortC0_any w1).mono ?_
      rintro e w2 ⟨rfl, rfl⟩
      go_wp2
      go_ret
      exact ⟨_, rfl, HB.out, .inl ⟨H0.out, rfl⟩⟩
    · have HB := Lib.hid hb1
      have hco : CoinOwn cs w.heap.size g cs.length c (upTo cs.length) w1 := by rw [CoinOwn, rowsOf_upTo]; exact ho1
      have HO := Lib.hid hco
      clear hb1 ho1 hco
      go_wp2_with fail
      refine (sortC_any cs g c cs.length w.heap.size w1 HO.out hl).mono ?_
      rintro e w2 ⟨rfl, ys, ho2, hg2, hs2⟩
      have hB2 := HB.out.trans (below_grownBy hg2 HB.out.size fun q hq => by cases hq; exact (World.ownsRow.lt HO.out g rfl).1)
      have hS : SortedC cs ys := ⟨by rw [hs2.len, upTo_length], hs2.perm, fun p q h1 h2 => hs2.ord p q (by omega) h1 (by omega)⟩
      have HB2 := Lib.hid hB2
      have HO2 := Lib.hid ho2
      have HS2 := Lib.hid hS
      clear hB2 ho2 hg2 hs2 hS
      go_wp2
      go_ret
      exact ⟨_, rfl, HB2.out, .inr ⟨g, c, ys, rfl, HO2.out, HS2.out⟩⟩
end Go.Proofs.Ytagfcodpgochjaa

/- Chapter 12: doubles left out. -/
namespace Go.Proofs.Ytagfcodpgochjaa
open Go.RowKit Go.Oche Go.Proofs

theorem coins3_any (a b c d : Int) (w : World) : Calls Try.prog 53 #[.agg #[.int .i64 a, .int .i64 b], .agg #[.int .i64 c, .int .i64 d]] w fun e w' => e = .returned (.bool (a == c)) ∧ Below w.heap.size w w' := by
  have hb0 : Below w.heap.size w ((w.alloc (.cells #[.int .i64 a, .int .i64 b] 66)).alloc (.cells #[.int .i64 c, .int .i64 d] 66)) := (aB _ _).trans ((aB _ _).mono (by simp))
  have HB := Lib.hid hb0
  clear hb0
  go_enter Try.func53, Try.ntmps53
  go_wp2
  go_ret
  exact ⟨rfl, HB.out⟩
theorem clear_run (g o m c n base cap : Nat) (xs : List Value) (W : World) (h : W.ownsRow base 66 2 (.slice (some ⟨g, 0, none⟩) n cap) n xs) (hm : o + m ≤ n) :
    ∃ W', (Builtin.clear_ #[63] 0 #[.slice (some ⟨g, o * 2, none⟩) m c]).run Try.prog W = .ok (.tuple #[]) W' ∧ W.grownBy W' (some g) := by
  have hz : ∀ w, (zeroValue 66).run Try.prog w = .ok (.agg #[.int .i64 0, .int .i64 0]) w := fun w => by kernel_rfl
  rcases h.2 with ⟨h, _⟩ | ⟨g', cap', cur, h, _, hg, hn, _, hs, _⟩
  · cases h
  · cases h
    cases m with
    | zero => exact ⟨W, by simp [Builtin.clear_, go_sem, run_underlying Try.underlying63], rfl, rfl, rfl, Nat.le_refl _, fun _ _ _ => rfl⟩
    | succ m =>
      obtain ⟨Z, hZ⟩ : ∃ Z, Builtin.zeroCells #[Value.int .i64 0, .int .i64 0] (m + 1) = Z := ⟨_, rfl⟩
      have hlen : Z.toList.length = (m + 1) * 2 := by rw [← hZ]; simp [Builtin.zeroCells]
      have hone : ∀ v ∈ Z.toList, v.oneCell' = true := by
        intro v hv
        rw [← hZ] at hv
        simp only [Builtin.zeroCells, Array.toList_map, List.mem_map] at hv
        obtain ⟨i, _, rfl⟩ := hv
        have h2 : i % 2 = 0 ∨ i % 2 = 1 := by omega
        rcases h2 with h2 | h2 <;> simp [h2, Value.oneCell']
      have hst := run_storeCells_at (P := Try.prog) g (o * 2) 66 Z.toList 0 cur W hg (by rw [hlen, hs]; omega) hone
      refine ⟨_, ?_, (⟨rfl, rfl, rfl, by simp, fun k hk hne => setRow_other _ _ _ _ (fun e => hne (by rw [e]))⟩ : W.grownBy (W.setRow g (cur.toList.take (o * 2 + 0) ++ Z.toList ++ cur.toList.drop (o * 2 + 0 + Z.toList.length)).toArray) (some g))⟩
      unfold Builtin.clear_
      simp only [Sem.run_bind, run_underlying Try.underlying63, Result.andThen_ok, List.getElem?_toArray, List.getElem?_cons_zero, hz, Value.cells, hZ, hst, Sem.run_pure]
/-- No coin has the worth of the one before it, among the first k. -/
def NoDup (cs : List (Int × Int)) (ys : List Int) (k : Nat) : Prop := ∀ p, p + 1 < k → (coinAt cs (at0 ys (p + 1))).1 ≠ (coinAt cs (at0 ys p)).1
set_option maxRecDepth 100000 in
set_option maxHeartbeats 4000000 in
theorem compact_any (cs : List (Int × Int)) (g c n base : Nat) (ys : List Int) (w : World) (ho : CoinOwn cs base g n c ys w) (hn : n ≤ 100) :
    Calls Try.prog 52 #[.slice (some ⟨g, 0, none⟩) n c, .func (.func 53) #[] #[]] w fun e w' =>
      ∃ k, e = .returned (.slice (some ⟨g, 0, none⟩) k c) ∧ w.grownBy w' (some g) ∧ ((k = n ∧ NoDup cs ys n) ∨ (k < n ∧ ¬ NoDup cs ys n)) := by
  have hyl := ho.len
  have hnc : n ≤ c ∧ c ≤ maxLen := by
    rcases World.ownsRow.form' ho with ⟨h1, h2⟩
    exact ⟨h1, h2⟩
  have hncc := hnc.2
  unfold maxLen at hncc
  have HO := Lib.hid ho
  clear ho
  by_cases h2 : n < 2
  · have d1 : decide ((n : Int) < 2) = true := decide_eq_true (by omega)
    have d1n : decide (n < 2) = true := decide_eq_true h2
    have hND : NoDup cs ys n := fun p hp => by omega
    have HND := Lib.hid hND
    clear h2 hND
    go_enter Try.func52, Try.ntmps52
    go_wp2
    go_ret
    exact ⟨n, rfl, ⟨rfl, rfl, rfl, Nat.le_refl _, fun _ _ _ => rfl⟩, .inl ⟨rfl, HND.out⟩⟩
  · have d1 : decide ((n : Int) < 2) = false := decide_eq_false (by omega)
    have d1n : decide (n < 2) = false := decide_eq_false h2
    go_enter Try.func52, Try.ntmps52
    go_wp2_with fail
    clear d1 d1n
    go_loopw [5] (fun iv wr => ∃ (k : Nat), 1 ≤ k ∧ k ≤ n ∧ iv = .int .i64 k ∧ Hid (NoDup cs ys k) ∧ Hid (CoinOwn cs base g n c ys wr) ∧ Hid (w.grownBy wr (some g))) (fun iv _ => n - (intOf iv).toNat)
    case atStart => exact ⟨1, by omega, by omega, rfl, Lib.hid (fun p hp => by omega), HO, Lib.hid ⟨rfl, rfl, rfl, Nat.le_refl _, fun _ _ _ => rfl⟩⟩
    case round =>
      clear HO
      obtain ⟨k, hk1, hk, rfl, HND, HO, HG⟩ := hrel
      obtain ⟨wo, rfl⟩ : ∃ wo : World, wo = wr := ⟨_, rfl⟩
      by_cases hlt : k < n
      · obtain ⟨m, hm⟩ : ∃ m, k = m + 1 := ⟨k - 1, by omega⟩
        have hmn : m < n := by omega
        have hwm : IntKind.i64.wrap ((k : Int) - 1) = (m : Int) := by rw [IntKind.wrap_i64]; omega
        obtain ⟨k1, k1b⟩ := HO.out.cells hlt rfl
        obtain ⟨k0, k0b⟩ := HO.out.cells hmn rfl
        obtain ⟨⟨x1, x2⟩, hX⟩ : ∃ X, coinAt cs (at0 ys k) = X := ⟨_, rfl⟩
        obtain ⟨⟨y1, y2⟩, hY⟩ : ∃ Y, coinAt cs (at0 ys m) = Y := ⟨_, rfl⟩
        rw [hX] at k1 k1b
        rw [hY] at k0 k0b
        simp only at k1 k1b k0 k0b
        obtain ⟨bb, hbb⟩ : ∃ bb, (x1 == y1) = bb := ⟨_, rfl⟩
        have HDU : Hid (bb = true ↔ (coinAt cs (at0 ys k)).1 = (coinAt cs (at0 ys m)).1) := Lib.hid (by rw [← hbb, hX, hY]; simp)
        have HM := Lib.hid hm
        have HBB := Lib.hid hbb
        clear hX hY hm hbb
        go_wp2_with fail
        refine wp_region_seq 11 [.is ?_, .is ?_, .is ?_, .is ?_, .is ?_, .is ?_, .is ?_, .is ?_, .is ?_, .is ?_, .is (.bool bb)] rfl mix (by kernel_rfl) (by kernel_rfl) ?seqm
        case seqm =>
          simp only [List.take_succ_cons, List.take_zero]
          iterate 10
            refine seq_is rfl (fun w1 hb1 _ => ?_) ?_
            · have k0' := bAt hb1 k0
              have k1' := bAt hb1 k1
              have k0b' := bAt hb1 k0b
              have k1b' := bAt hb1 k1b
              simp [opOK, go_sem, k0', k1', k0b', k1b', hwm, hlt, hmn, Below.refl]
              try exact rfl
            simp only [Act.put, List.setIfInBounds_toArray, List.set_cons_succ, List.set_cons_zero]
          refine seq_is rfl (fun w1 hb1 _ => ?_) ?_
          · refine opOK_call (f := 53) (args := #[.agg #[.int .i64 x1, .int .i64 x2], .agg #[.int .i64 y1, .int .i64 y2]]) (by simp [go_sem]) ?_
            refine (coins3_any x1 x2 y1 y2 w1).mono ?_
            rintro e w2 ⟨rfl, hb2⟩
            exact ⟨_, rfl, by rw [HBB.out], hb2⟩
          simp only [Act.put, List.setIfInBounds_toArray, List.set_cons_succ, List.set_cons_zero]
          refine seq_end fun w6 hb6 _ => ?_
          simp only [List.drop_succ_cons, List.drop_zero]
          have HO6 : Hid (CoinOwn cs base g n c ys w6) := Lib.hid (ownsN_below HO.out hb6)
          have HG6 := Lib.hid (grownBy_trans HG.out (grownBy_below _ hb6))
          clear k0 k1 k0b k1b hb6
          cases bb
          · go_wp2_with fail
            go_roundw
            case rel => exact ⟨k + 1, by omega, by omega, by go_num, Lib.hid (fun p hp => by
              by_cases e : p + 1 = k
              · have h1 := HM.out
                have : p = m := by omega
                subst this
                rw [e]
                exact fun h => by have := HDU.out.2 h; cases this
              · exact HND.out p (by omega)), HO6, HG6⟩
            case measure => simp [intOf]; omega
          · have hDup : ¬ NoDup cs ys n := fun h => h m (by have := HM.out; omega) (by rw [← HM.out]; exact HDU.out.1 rfl)
            have HDup := Lib.hid hDup
            have hkn : (k : Int) ≤ (n : Int) := by omega
            have hkc : (k : Int) ≤ (c : Int) := by omega
            clear hDup
            go_wp2_with fail
            go_loopw [5, 7] (fun kv jv wr => ∃ (q j : Nat) (zs : List Int), k ≤ q ∧ q < k + j ∧ 1 ≤ j ∧ j ≤ n - k ∧ kv = .int .i64 q ∧ jv = .int .i64 j ∧ Hid (CoinOwn cs base g n c zs wr) ∧ Hid (w.grownBy wr (some g))) (fun _ jv _ => (n - k) - (intOf jv).toNat)
            case atStart => exact ⟨k, 1, ys, by omega, by omega, by omega, by omega, rfl, rfl, HO6, HG6⟩
            case round =>
              clear HO6 HG6 HO HG
              obtain ⟨q, j, zs, hq1, hq2, hj1, hj2, rfl, rfl, HO, HG⟩ := hrel
              obtain ⟨wi, rfl⟩ : ∃ wi : World, wi = wr := ⟨_, rfl⟩
              by_cases hlj : j < n - k
              · obtain ⟨m', hm'⟩ : ∃ m', j = m' + 1 := ⟨j - 1, by omega⟩
                have hmn' : m' < n - k := by omega
                have hqn : q < n := by omega
                have hwm' : IntKind.i64.wrap ((j : Int) - 1) = (m' : Int) := by rw [IntKind.wrap_i64]; omega
                obtain ⟨k1, k1b⟩ := HO.out.cells (show k + j < n by omega) rfl
                obtain ⟨k0, k0b⟩ := HO.out.cells (show k + m' < n by omega) rfl
                obtain ⟨p1, p1b⟩ := HO.out.cells hqn rfl
                obtain ⟨⟨x1, x2⟩, hX⟩ : ∃ X, coinAt cs (at0 zs (k + j)) = X := ⟨_, rfl⟩
                obtain ⟨⟨y1, y2⟩, hY⟩ : ∃ Y, coinAt cs (at0 zs (k + m')) = Y := ⟨_, rfl⟩
                obtain ⟨⟨u1, u2⟩, hU⟩ : ∃ Y, coinAt cs (at0 zs q) = Y := ⟨_, rfl⟩
                rw [hX, Nat.add_mul] at k1 k1b
                rw [hY, Nat.add_mul] at k0 k0b
                rw [hU] at p1 p1b
                simp only at k1 k1b k0 k0b p1 p1b
                obtain ⟨bb, hbb⟩ : ∃ bb, (x1 == y1) = bb := ⟨_, rfl⟩
                have HBB := Lib.hid hbb
                have HX := Lib.hid hX
                have HM := Lib.hid hm'
                clear hX hY hU hm' hbb
                go_wp2_with fail
                refine wp_region_seq 12 [.is ?_, .is ?_, .is ?_, .is ?_, .is ?_, .is ?_, .is ?_, .is ?_, .is ?_, .is ?_, .is (.bool bb), .is (.bool (!bb))] rfl mix (by kernel_rfl) (by kernel_rfl) ?seqn
                case seqn =>
                  simp only [List.take_succ_cons, List.take_zero]
                  iterate 10
                    refine seq_is rfl (fun w1 hb1 _ => ?_) ?_
                    · have k0' := bAt hb1 k0
                      have k1' := bAt hb1 k1
                      have k0b' := bAt hb1 k0b
                      have k1b' := bAt hb1 k1b
                      simp [opOK, go_sem, k0', k1', k0b', k1b', hwm', hlj, hmn', Below.refl]
                      try exact rfl
                    simp only [Act.put, List.setIfInBounds_toArray, List.set_cons_succ, List.set_cons_zero]
                  refine seq_is rfl (fun w1 hb1 _ => ?_) ?_
                  · refine opOK_call (f := 53) (args := #[.agg #[.int .i64 x1, .int .i64 x2], .agg #[.int .i64 y1, .int .i64 y2]]) (by simp [go_sem]) ?_
                    refine (coins3_any x1 x2 y1 y2 w1).mono ?_
                    rintro e w2 ⟨rfl, hb2⟩
                    exact ⟨_, rfl, by rw [HBB.out], hb2⟩
                  simp only [Act.put, List.setIfInBounds_toArray, List.set_cons_succ, List.set_cons_zero]
                  refine seq_is rfl (fun w1 hb1 _ => ?_) ?_
                  · simp [opOK, go_sem, Below.refl]
                  simp only [Act.put, List.setIfInBounds_toArray, List.set_cons_succ, List.set_cons_zero]
                  refine seq_end fun w6 hb6 _ => ?_
                  simp only [List.drop_succ_cons, List.drop_zero]
                  have hO6 : CoinOwn cs base g n c zs w6 := ownsN_below HO.out hb6
                  have HG6 := Lib.hid (grownBy_trans HG.out (grownBy_below _ hb6))
                  have l1 := bAt hb6 k1
                  have l1b := bAt hb6 k1b
                  have o1 := bAt hb6 p1
                  have o1b := bAt hb6 p1b
                  have of := World.ownsRow.frozenAt hO6 (q * 2)
                  have ofb := World.ownsRow.frozenAt hO6 (q * 2 + 1)
                  have HO6 := Lib.hid hO6
                  clear k0 k1 k0b k1b hb6 p1 p1b hO6
                  cases bb
                  · obtain ⟨hO7, hg7⟩ := HO6.out.stored hqn (at0 zs (k + j))
                    rw [HX.out] at hO7 hg7
                    simp only at hO7 hg7
                    have HO7 := Lib.hid hO7
                    have HG7 := Lib.hid (grownBy_trans HG6.out hg7)
                    clear hO7 hg7
                    go_wp2_with fail
                    go_roundw
                    case rel => exact ⟨q + 1, j + 1, _, by omega, by omega, by omega, by omega, by go_num, by go_num, HO7, HG7⟩
                    case measure => simp [intOf]; omega
                  · clear l1 l1b o1 o1b of ofb
                    go_wp2_with fail
                    go_roundw
                    case rel => exact ⟨q, j + 1, zs, by omega, by omega, by omega, by omega, rfl, by go_num, HO6, HG6⟩
                    case measure => simp [intOf]; omega
              · obtain rfl : j = n - k := by omega
                have hqn : q < n := by omega
                have hqi : (q : Int) ≤ (n : Int) := by omega
                have hqc : (q : Int) ≤ (c : Int) := by omega
                obtain ⟨w7, hcl, hg7⟩ := clear_run g q (n - q) (c - q) n base c _ wi HO.out (by omega)
                have HG7 := Lib.hid (grownBy_trans HG.out hg7)
                clear hg7
                go_wp2
                go_ret
                exact ⟨q, rfl, HG7.out, .inr ⟨hqn, HDup.out⟩⟩
      · obtain rfl : k = n := by omega
        go_wp2
        go_ret
        exact ⟨k, rfl, HG.out, .inl ⟨rfl, HND.out⟩⟩
end Go.Proofs.Ytagfcodpgochjaa

/- Chapter 12, coins, in plain Lean: rows, counts, doubles. -/
namespace Go.Proofs.Ytagfcodpgochjaa
open Go.RowKit Go.Oche Go.Proofs

/-- The fewest coins of the last k kinds. -/
def rowF (tin : List (Int × Int)) : Nat → Nat → Int
  | 0, a => if a = 0 then 0 else noneC
  | k + 1, a => addK (rowF tin k) (tin.getD (tin.length - 1 - k) (0, 0)).1.toNat (tin.getD (tin.length - 1 - k) (0, 0)).2.toNat a
theorem rowF_bd (tin : List (Int × Int)) : ∀ k a, 0 ≤ rowF tin k a ∧ rowF tin k a ≤ noneC
  | 0, a => by unfold rowF noneC; split <;> omega
  | k + 1, a => by rw [rowF]; exact addK_bd (fun i => (rowF_bd tin k i).1) _ _ _
theorem bestQ_congr {F G : Nat → Int} {W a : Nat} (h : ∀ i, i ≤ a → F i = G i) : ∀ q, bestQ F W a q = bestQ G W a q
  | 0 => h a (Nat.le_refl _)
  | q + 1 => by rw [bestQ, bestQ, bestQ_congr h q, h _ (Nat.sub_le _ _)]
theorem addK_congr {F G : Nat → Int} {W C a : Nat} (h : ∀ i, i ≤ a → F i = G i) : addK F W C a = addK G W C a := by unfold addK; rw [bestQ_congr h]
def rowL (tin : List (Int × Int)) (N k : Nat) : List Int := (List.range N).map (rowF tin k)
@[simp] theorem rowL_length (tin : List (Int × Int)) (N k : Nat) : (rowL tin N k).length = N := by simp [rowL]
theorem rowL_at {tin : List (Int × Int)} {N k i : Nat} (h : i < N) : at0 (rowL tin N k) i = rowF tin k i := by rw [at0_eq (by simpa using h)]; simp [rowL]
theorem rowL_bd {tin : List (Int × Int)} {N k : Nat} : ∀ x ∈ rowL tin N k, 0 ≤ x ∧ x ≤ noneC := fun x hx => by
  simp only [rowL, List.mem_map] at hx
  obtain ⟨i, _, rfl⟩ := hx
  exact rowF_bd tin k i
/-- How many coins of a kind: the most, from q down, with which it comes out. -/
def downN (F : Nat → Int) (W a : Nat) (v : Int) : Nat → Nat
  | 0 => 0
  | q + 1 => if ((q + 1 : Nat) : Int) + F (a - (q + 1) * W) = v then q + 1 else downN F W a v q
theorem downN_le (F : Nat → Int) (W a : Nat) (v : Int) : ∀ q, downN F W a v q ≤ q
  | 0 => Nat.le_refl _
  | q + 1 => by rw [downN]; split; omega; have := downN_le F W a v q; omega
theorem downN_ok (F : Nat → Int) (W a : Nat) (v : Int) : ∀ q, (∃ p : Nat, p ≤ q ∧ (p : Int) + F (a - p * W) = v) → ((downN F W a v q : Nat) : Int) + F (a - downN F W a v q * W) = v
  | 0, ⟨p, hp, h⟩ => by obtain rfl : p = 0 := by omega
                        simpa [downN] using h
  | q + 1, ⟨p, hp, h⟩ => by
    rw [downN]
    split
    · rename_i h1; exact h1
    · rename_i h1
      refine downN_ok F W a v q ⟨p, ?_, h⟩
      rcases Nat.lt_or_ge q p with h2 | h2
      · obtain rfl : p = q + 1 := by omega
        exact absurd h h1
      · exact h2
/-- The counts from kind i on, f of them; what is left. -/
def cntTo (tin : List (Int × Int)) (a : Nat) : Nat → List Int × Nat
  | 0 => ([], a)
  | i + 1 =>
    let p := cntTo tin a i
    let W := (tin.getD i (0, 0)).1.toNat
    let C := (tin.getD i (0, 0)).2.toNat
    let n := downN (rowF tin (tin.length - i - 1)) W p.2 (rowF tin (tin.length - i) p.2) (min C (p.2 / W))
    (p.1 ++ [(n : Int)], p.2 - n * W)
def dupC (tin : List (Int × Int)) : Bool := (List.range tin.length).any fun i => (List.range i).any fun k => (coinAt tin k).1 == (coinAt tin i).1
def coinsErr (amount : Int) (tin : List (Int × Int)) : Int :=
  if isIn amount 0 20000 = false then 3 else if 12 < tin.length then 4 else if tin.any coinBad = true then 2 else if dupC tin = true then 6 else if noneC ≤ rowF tin tin.length amount.toNat then 7 else 0
def coinsRes (amount : Int) (tin : List (Int × Int)) : List Int := if coinsErr amount tin = 0 then (cntTo tin amount.toNat tin.length).1 else []
theorem dupC_false {tin : List (Int × Int)} : dupC tin = false ↔ ∀ i k, k < i → i < tin.length → (coinAt tin k).1 ≠ (coinAt tin i).1 := by
  constructor
  · intro h i k h1 h2
    simp only [dupC, List.any_eq_false, List.mem_range] at h
    have := h i h2
    simp only [Bool.not_eq_true, List.any_eq_false, List.mem_range, beq_iff_eq] at this
    exact this k h1
  · intro h
    simp only [dupC, List.any_eq_false, List.mem_range]
    intro i hi
    simp only [Bool.not_eq_true, List.any_eq_false, List.mem_range, beq_iff_eq]
    exact fun k hk => h i k hk hi
theorem sorted_asc {cs : List (Int × Int)} {ys : List Int} (h : SortedC cs ys) {p q : Nat} (hp : p < q) (hq : q < cs.length) : (coinAt cs (at0 ys p)).1 ≤ (coinAt cs (at0 ys q)).1 := by
  have := h.ord p q hp hq
  unfold befo worthR at this; omega
/-- In order, doubles are neighbours. -/
theorem nodup_iff {cs : List (Int × Int)} {ys : List Int} (h : SortedC cs ys) : NoDup cs ys cs.length ↔ dupC cs = false := by
  have pos : ∀ i, i < cs.length → ∃ p, p < cs.length ∧ at0 ys p = (i : Int) := fun i hi => by
    have hm : (i : Int) ∈ ys := h.perm.mem_iff.2 (mem_upTo.2 (by omega))
    obtain ⟨p, hp, e⟩ := List.mem_iff_getElem.1 hm
    exact ⟨p, by have := h.len; omega, by rw [at0_eq hp, e]⟩
  rw [dupC_false]
  constructor
  · intro hn i k hk hi e
    have strict : ∀ d p, p + d + 1 < cs.length → (coinAt cs (at0 ys p)).1 < (coinAt cs (at0 ys (p + d + 1))).1 := by
      intro d
      induction d with
      | zero =>
        intro p hp
        have h1 := hn p (by omega)
        have h2 := sorted_asc h (show p < p + 1 by omega) (by omega)
        show _ < (coinAt cs (at0 ys (p + 1))).1
        omega
      | succ d ih =>
        intro p hp
        have h1 := ih p (by omega)
        have h2 := hn (p + d + 1) (by omega)
        have h3 := sorted_asc h (show p + d + 1 < p + d + 1 + 1 by omega) (by omega)
        show _ < (coinAt cs (at0 ys (p + d + 1 + 1))).1
        omega
    obtain ⟨p, hp, e1⟩ := pos i hi
    obtain ⟨q, hq, e2⟩ := pos k (by omega)
    rcases Nat.lt_trichotomy p q with h1 | h1 | h1
    · obtain ⟨d, rfl⟩ : ∃ d, q = p + d + 1 := ⟨q - p - 1, by omega⟩
      have := strict d p hq
      rw [e1, e2] at this; omega
    · subst h1; rw [e1] at e2; omega
    · obtain ⟨d, rfl⟩ : ∃ d, p = q + d + 1 := ⟨p - q - 1, by omega⟩
      have := strict d q hp
      rw [e1, e2] at this; omega
  · intro hd p hp e
    have h1 := h.ord p (p + 1) (by omega) (by omega)
    have r1 : 0 ≤ at0 ys p ∧ at0 ys p < cs.length := mem_upTo.1 (h.perm.mem_iff.1 (by rw [at0_eq (by have := h.len; omega)]; exact List.getElem_mem _))
    have r2 : 0 ≤ at0 ys (p + 1) ∧ at0 ys (p + 1) < cs.length := mem_upTo.1 (h.perm.mem_iff.1 (by rw [at0_eq (by have := h.len; omega)]; exact List.getElem_mem _))
    have hlt : at0 ys p < at0 ys (p + 1) := by
      unfold befo worthR at h1; omega
    refine hd (at0 ys (p + 1)).toNat (at0 ys p).toNat (by omega) (by omega) ?_
    rw [Int.toNat_of_nonneg r1.1, Int.toNat_of_nonneg r2.1]
    exact e.symm
def stepN (tin : List (Int × Int)) (i a : Nat) : Nat :=
  downN (rowF tin (tin.length - i - 1)) (tin.getD i (0, 0)).1.toNat a (rowF tin (tin.length - i) a) (min (tin.getD i (0, 0)).2.toNat (a / (tin.getD i (0, 0)).1.toNat))
theorem cntTo_succ (tin : List (Int × Int)) (a i : Nat) : cntTo tin a (i + 1) = ((cntTo tin a i).1 ++ [(stepN tin i (cntTo tin a i).2 : Int)], (cntTo tin a i).2 - stepN tin i (cntTo tin a i).2 * (tin.getD i (0, 0)).1.toNat) := rfl
/-- The next count comes out. -/
theorem step_ok {tin : List (Int × Int)} {i a : Nat} (hi : i < tin.length) (h : rowF tin (tin.length - i) a < noneC) :
    ((stepN tin i a : Nat) : Int) + rowF tin (tin.length - i - 1) (a - stepN tin i a * (tin.getD i (0, 0)).1.toNat) = rowF tin (tin.length - i) a := by
  unfold stepN
  refine downN_ok _ _ _ _ _ ?_
  obtain ⟨m, hm⟩ : ∃ m, tin.length - i = m + 1 := ⟨tin.length - i - 1, by omega⟩
  have hidx : tin.length - 1 - m = i := by omega
  rw [show tin.length - i - 1 = m by omega, hm]
  rw [hm] at h
  have e : rowF tin (m + 1) a = addK (rowF tin m) (tin.getD i (0, 0)).1.toNat (tin.getD i (0, 0)).2.toNat a := by rw [rowF, hidx]
  rw [e] at h ⊢
  obtain ⟨q, h1, h2⟩ := bestQ_ex (rowF tin m) (tin.getD i (0, 0)).1.toNat a (min (tin.getD i (0, 0)).2.toNat (a / (tin.getD i (0, 0)).1.toNat))
  refine ⟨q, h1, ?_⟩
  unfold addK at h ⊢
  unfold noneC at h ⊢
  omega
theorem step_next {tin : List (Int × Int)} {i a : Nat} (hi : i < tin.length) (h : rowF tin (tin.length - i) a < noneC) : rowF tin (tin.length - (i + 1)) (a - stepN tin i a * (tin.getD i (0, 0)).1.toNat) < noneC := by
  have := step_ok hi h
  rw [show tin.length - (i + 1) = tin.length - i - 1 by omega]
  omega
theorem cnt_inv {tin : List (Int × Int)} {A : Nat} (h : rowF tin tin.length A < noneC) : ∀ i, i ≤ tin.length → (cntTo tin A i).2 ≤ A ∧ rowF tin (tin.length - i) (cntTo tin A i).2 < noneC
  | 0, _ => ⟨Nat.le_refl _, by simpa [cntTo] using h⟩
  | i + 1, hi => by
    obtain ⟨h1, h2⟩ := cnt_inv h i (by omega)
    rw [cntTo_succ]
    exact ⟨by simp only; omega, step_next (by omega) h2⟩
/-- From q down: the count is not above q', and nothing above it comes out. -/
theorem downN_skip (F : Nat → Int) (W a : Nat) (v : Int) (q : Nat) (h : ((q + 1 : Nat) : Int) + F (a - (q + 1) * W) ≠ v) : downN F W a v (q + 1) = downN F W a v q := by rw [downN, if_neg h]
theorem downN_here (F : Nat → Int) (W a : Nat) (v : Int) (q : Nat) (h : (q : Int) + F (a - q * W) = v) : downN F W a v q = q := by
  cases q with
  | zero => rfl
  | succ q => rw [downN, if_pos h]
end Go.Proofs.Ytagfcodpgochjaa

/- Chapter 12: a list of the same number. -/
namespace Go.Proofs.Ytagfcodpgochjaa
open Go.RowKit Go.Oche Go.Proofs

theorem reps_one (m : Nat) (V : Int) : ∀ v ∈ List.replicate m (Value.int .i64 V), v.oneCell' = true := fun v hv => by
  rw [List.eq_of_mem_replicate hv]; rfl
/-- Some of the same number are copied into a block. -/
theorem copy_reps (w : World) (g o dL dC sb so sL sC n m : Nat) (V : Int) (f : Nat → Int) (h : IntBlk w g 3 n f) (hm : m = Nat.min sL dL) (hfit : o + m ≤ n) (hsrc : ∀ j, j < m → w.cell? ⟨sb, so + j, none⟩ = some (.int .i64 V)) :
    ∃ w', (Builtin.copy_ #[22, 22] 3 #[.slice (some ⟨g, o, none⟩) dL dC, .slice (some ⟨sb, so, none⟩) sL sC]).run Try.prog w = .ok (goInt m) w' ∧ w.grownBy w' (some g) ∧ IntBlk w' g 3 n (fun j => if o ≤ j ∧ j < o + m then V else f j) := by
  obtain ⟨A, h1, h2, h3⟩ := h
  have hi : (Try.prog.info? 3).map (·.size) = some 1 := by kernel_rfl
  have := run_copy_row (P := Try.prog) w 22 22 3 3 g o dL dC ⟨sb, so, none⟩ sL sC A 3 (List.replicate m (.int .i64 V)) Try.underlying22 hi h1 (by simpa using hm) (fun j v hj => by
    rw [addr_at]
    have hjm : j < m := by have := (List.getElem?_eq_some_iff.1 hj).1; simpa using this
    rw [List.getElem?_replicate, if_pos hjm] at hj
    cases hj
    exact hsrc j hjm) (by simp; omega) (reps_one m V)
  rw [List.length_replicate] at this
  refine ⟨_, this, ⟨rfl, rfl, rfl, by simp, fun k hk hne => setRow_other _ _ _ _ (fun e => hne (by rw [e]))⟩, _, setRow_heap _ _ _ _ _ _ h1, by simp; omega, fun j hj => ?_⟩
  have hto : (A.toList.take o).length = o := by simp; omega
  rw [List.getElem?_toArray]
  show _ = some (Value.int .i64 (if o ≤ j ∧ j < o + m then V else f j))
  by_cases c1 : j < o
  · rw [if_neg (by omega), List.append_assoc, List.getElem?_append_left (by omega), List.getElem?_take, if_pos c1, Array.getElem?_toList]
    exact h3 j hj
  · by_cases c2 : j < o + m
    · rw [if_pos (by omega), List.append_assoc, List.getElem?_append_right (by omega), hto, List.getElem?_append_left (by simp; omega), List.getElem?_replicate, if_pos (by omega)]
    · rw [if_neg (by omega), List.getElem?_append_right (by simp; omega), List.length_append, hto, List.length_replicate, List.getElem?_drop, show o + m + (j - (o + m)) = j by omega, Array.getElem?_toList]
      exact h3 j hj
set_option maxRecDepth 100000 in
set_option maxHeartbeats 4000000 in
theorem repeat_any (V : Int) (b n : Nat) (w : World) (hc : w.cell? ⟨b, 0, none⟩ = some (.int .i64 V)) (hn1 : 1 ≤ n) (hn : n ≤ 50000) :
    Calls Try.prog 54 #[.slice (some ⟨b, 0, none⟩) 1 1, .int .i64 n] w fun e w' => ∃ g, e = .returned (.slice (some ⟨g, 0, none⟩) n n) ∧ Below w.heap.size w w' ∧ w.heap.size ≤ g ∧ IntBlk w' g 3 n (fun _ => V) := by
  have d0 : decide ((n : Int) < 0) = false := decide_eq_false (by omega)
  have u1 : IntKind.u64.wrap (n : Int) = n := by rw [IntKind.wrap_u64]; omega
  have u2 : IntKind.i64.wrap (n : Int) = n := wrap_small _ (by omega) (by omega)
  have hmul := Try.bits_Mul 1 n (by omega) (by omega) w
  rw [show 1 * n / 18446744073709551616 = 0 by omega, show 1 * n % 18446744073709551616 = n by omega] at hmul
  have d3 : decide ((9223372036854775807 : Int) < (n : Int)) = false := decide_eq_false (by omega)
  have hmk := make_ints n (by omega)
  obtain ⟨w1, hw1⟩ : ∃ w1, w.alloc (.cells (madeCells #[.int .i64 0] n) 3) = w1 := ⟨_, rfl⟩
  have hb1 : Below w.heap.size w w1 := by rw [← hw1]; exact aB _ _
  have hI1 : IntBlk w1 w.heap.size 3 n (fun _ => 0) := by rw [← hw1]; exact IntBlk.made w 3 n
  obtain ⟨w2, hcp, hg2, hI2⟩ := copy_reps w1 w.heap.size 0 n n b 0 1 1 n 1 V _ hI1 (by simp [Nat.min_def]; omega) (by omega) (fun j hj => by rw [show j = 0 by omega]; exact bAt hb1 hc)
  have HW1 := Lib.hid hw1
  have HI2 : Hid (IntBlk w2 w.heap.size 3 n (fun j => if j < 1 then V else 0)) := Lib.hid (hI2.congr fun j hj => by simp)
  have HB2 := Lib.hid (hb1.trans (below_grownBy hg2 hb1.size fun q hq => by cases hq; exact Nat.le_refl _))
  have HM := Lib.hid hmul
  clear hw1 hI1 hI2 hg2 hb1 hc hmul
  have hcp' : (Builtin.copy_ #[22, 22] 3 #[.slice (some ⟨w.heap.size, 0, none⟩) n n, .slice (some ⟨b, 0, none⟩) 1 1]).run Try.prog w1 = .ok (.int .i64 1) w2 := hcp
  rw [← HW1.out] at hcp'
  clear hcp
  go_enter Try.func54, Try.ntmps54
  go_wp2_with fail
  refine HM.out.mono ?_
  rintro e w0 ⟨rfl, rfl⟩
  go_wp2_with fail
  clear d0 u1 u2 d3 hmk hcp'
  go_loopw [8] (fun iv wr => ∃ (k : Nat), 1 ≤ k ∧ k ≤ n ∧ iv = .int .i64 k ∧ Hid (IntBlk wr w0.heap.size 3 n (fun j => if j < k then V else 0)) ∧ Below w0.heap.size w0 wr) (fun iv _ => n - (intOf iv).toNat)
  case atStart => exact ⟨1, by omega, by omega, rfl, HI2, HB2.out⟩
  case round =>
    clear HI2 HB2 HW1
    obtain ⟨k, hk1, hk, rfl, HI, hb⟩ := hrel
    obtain ⟨wo, rfl⟩ : ∃ wo : World, wo = wr := ⟨_, rfl⟩
    have HB := Lib.hid hb
    clear hb
    by_cases hlt : k < n
    · obtain ⟨m, hm⟩ : ∃ m, m = Nat.min k (n - k) := ⟨_, rfl⟩
      have hmb : 1 ≤ m ∧ m ≤ k ∧ k + m ≤ n := by
        rw [hm]; simp only [Nat.min_def]; split <;> omega
      have hkn : (k : Int) ≤ (n : Int) := by omega
      have hwm : IntKind.i64.wrap ((k : Int) + (m : Int)) = (k : Int) + (m : Int) := wrap_small _ (by omega) (by omega)
      have HMM := Lib.hid hm
      clear hm
      go_wp2_with fail
      obtain ⟨w7, hcp, hg7, hI7⟩ := copy_reps wo.drew w0.heap.size k (n - k) (n - k) w0.heap.size 0 k n n m V _ (HI.out.keep rfl) HMM.out hmb.2.2 (fun j hj => by
        rw [Nat.zero_add, (HI.out.keep (W' := wo.drew) rfl).cell (by omega)]
        simp only [if_pos (show j < k by omega)])
      have HI7 : Hid (IntBlk w7 w0.heap.size 3 n (fun j => if j < k + m then V else 0)) := Lib.hid (hI7.congr fun j hj => by
        by_cases c1 : j < k
        · rw [if_neg (by omega), if_pos c1, if_pos (by omega)]
        · by_cases c2 : j < k + m
          · rw [if_pos (by omega), if_pos c2]
          · rw [if_neg (by omega), if_neg c1, if_neg c2])
      have HB7 := Lib.hid (HB.out.trans (below_grownBy (w := wo) (⟨hg7.os, hg7.tape, hg7.output, hg7.size, hg7.block⟩) HB.out.size fun q hq => by cases hq; exact Nat.le_refl _))
      have hcp' : (Builtin.copy_ #[22, 22] 3 #[.slice (some ⟨w0.heap.size, k, none⟩) (n - k) (n - k), .slice (some ⟨w0.heap.size, 0, none⟩) k n]).run Try.prog wo.drew = .ok (.int .i64 m) w7 := hcp
      have hnk : ¬ n = k := by omega
      clear hI7 hg7 hcp
      refine wp_region_gen 9 (fun i v _ => match i with
        | 0 | 2 | 5 => v = .int .i64 k
        | 1 | 4 => v = .slice (some ⟨w0.heap.size, 0, none⟩) n n
        | 3 => v = .slice (some ⟨w0.heap.size, k, none⟩) (n - k) (n - k)
        | 6 => v = .slice (some ⟨w0.heap.size, 0, none⟩) k n
        | 7 => v = .int .i64 m
        | 8 => v = .int .i64 ((k : Int) + m)
        | _ => True) (JSt 7 [] (fun W => W = wo.drew) (fun W => W = w7)) mix (by kernel_rfl) (JSt.start rfl) ?_ ?_
      · refine ⟨?_, ?_, ?_, ?_, ?_, ?_, ?_, ?_, ?_, trivial⟩
        all_goals refine gen_plain rfl fun a W S hSi hJ hpre ht' => ?_
        all_goals
          simp [Region.binds] at hpre
          have t7 := ht' 7 rfl
          have t8 := ht' 8 rfl
          simp at t7 t8
        iterate 7
          (· simp [opOK, go_sem, hpre, t7, t8, hkn, hnk]
             refine ⟨hJ.read (by omega), ?_⟩
             intro j _ _ v h _
             exact h)
        · have hW := hJ.off hSi
          subst hW
          refine opOK_val (v := .int .i64 m) (w' := w7) (by simp [go_sem, hpre, hcp']) ⟨JSt.write (by simp) rfl, fun j _ _ v h _ => h, rfl⟩
        · simp [opOK, go_sem, hpre, hwm]
          refine ⟨hJ.read (by omega), ?_⟩
          intro j _ _ v h _
          exact h
      · intro W' hJ
        have hW := hJ.on (by decide)
        subst hW
        simp only [List.take_succ_cons, List.take_zero, List.drop_succ_cons, List.drop_zero, EndAll]
        rintro _ rfl _ rfl _ rfl _ rfl _ rfl _ rfl _ rfl _ rfl _ rfl
        clear hcp' hJ
        go_wp2_with fail
        go_roundw
        case rel => exact ⟨k + m, by omega, by omega, by go_num, HI7, HB7.out⟩
        case measure => simp [intOf]; omega
    · obtain rfl : k = n := by omega
      go_wp2
      go_ret
      exact ⟨w0.heap.size, rfl, HB.out, Nat.le_refl _, HI.out.congr fun j hj => by rw [if_pos hj]⟩
end Go.Proofs.Ytagfcodpgochjaa

/- A window of a row of one's own: elements of one cell, from an offset on. -/
namespace Go.Oche
open Go Go.RowKit
def WinAt (base : Nat) (e : TypeId) (W : World) (v : Value) (xs : List Value) : Prop :=
  (v = .slice none 0 0 ∧ xs = []) ∨ ∃ g off cap cur, v = .slice (some ⟨g, off, none⟩) xs.length cap ∧ base ≤ g ∧ W.heap[g]? = some (.cells cur e (0, 0)) ∧ xs.length ≤ cap ∧ off + cap ≤ cur.size ∧ cap ≤ maxLen ∧ ∀ i, i < xs.length → cur[off + i]? = xs[i]?
section
variable {base : Nat} {e : TypeId} {W W' : World} {v : Value} {xs : List Value}
theorem WinAt.nil (base : Nat) (e : TypeId) (W : World) : WinAt base e W (.slice none 0 0) [] := .inl ⟨rfl, rfl⟩
theorem WinAt.kept (h : WinAt base e W v xs) (hk : ∀ g, v.ownBlock = some g → W'.heap[g]? = W.heap[g]?) : WinAt base e W' v xs := by
  rcases h with h | ⟨g, off, cap, cur, rfl, h1, h2, h3⟩
  · exact .inl h
  · exact .inr ⟨g, off, cap, cur, rfl, h1, (hk g rfl).trans h2, h3⟩
theorem WinAt.lt (h : WinAt base e W v xs) : ∀ k, v.ownBlock = some k → base ≤ k ∧ k < W.heap.size := by
  rcases h with ⟨rfl, _⟩ | ⟨g, off, cap, cur, rfl, h1, h2, _⟩
  · intro k hk; cases hk
  · intro k hk; cases hk; exact ⟨h1, (Array.getElem?_eq_some_iff.1 h2).1⟩
theorem WinAt.below (h : WinAt base e W v xs) (hb : Below W.heap.size W W') : WinAt base e W' v xs := h.kept fun g hg => hb.block g (h.lt g hg).2
theorem WinAt.form (h : WinAt base e W v xs) : ∃ a c, v = .slice a xs.length c ∧ xs.length ≤ c ∧ c ≤ maxLen := by
  rcases h with ⟨rfl, rfl⟩ | ⟨g, off, cap, cur, rfl, _, _, h1, _, h2, _⟩
  · exact ⟨_, _, rfl, Nat.le_refl _, Nat.zero_le _⟩
  · exact ⟨_, _, rfl, h1, h2⟩
theorem WinAt.ne_blk (h : WinAt base e W v xs) {q : Nat} {c : Array Value} {e' : TypeId} {f : Nat × Nat} (hq : W.heap[q]? = some (.cells c e' f)) (he : e ≠ e') : v.ownBlock ≠ some q := by
  rcases h with ⟨rfl, _⟩ | ⟨g, off, cap, cur, rfl, _, hg, _⟩
  · simp [Value.ownBlock]
  · simp only [Value.ownBlock, ne_eq, Option.some.injEq]
    intro e2; subst e2
    rw [hg] at hq; simp at hq
    exact he hq.2.1
theorem WinAt.cell {g off n c : Nat} (h : WinAt base e W (.slice (some ⟨g, off, none⟩) n c) xs) {i : Nat} (hi : i < xs.length) : W.cell? ⟨g, off + i, none⟩ = some xs[i] := by
  rcases h with ⟨h, _⟩ | ⟨g', off', cap, cur, h, _, hg, _, _, _, hx⟩
  · cases h
  · cases h
    rw [cell_of_heap hg, hx i hi, List.getElem?_eq_getElem hi]
theorem WinAt.nonnil (h : WinAt base e W v xs) (hx : xs ≠ []) : ∃ g off c, v = .slice (some ⟨g, off, none⟩) xs.length c ∧ xs.length ≤ c := by
  rcases h with ⟨_, h⟩ | ⟨g, off, cap, cur, rfl, _, _, h1, _⟩
  · exact absurd h hx
  · exact ⟨g, off, cap, rfl, h1⟩
/-- Without its last one. -/
theorem WinAt.pop {g off c : Nat} {ys : List Value} {u : Value} (h : WinAt base e W (.slice (some ⟨g, off, none⟩) (ys.length + 1) c) (ys ++ [u])) : WinAt base e W (.slice (some ⟨g, off, none⟩) ys.length c) ys := by
  rcases h with ⟨h, _⟩ | ⟨g', off', cap, cur, h, h1, hg, h2, h3, h4, hx⟩
  · cases h
  · simp only [Value.slice.injEq, Option.some.injEq, Addr.mk.injEq, and_true] at h
    obtain ⟨⟨rfl, rfl⟩, _, rfl⟩ := h
    refine .inr ⟨g, off, c, cur, rfl, h1, hg, by simp at h2; omega, h3, h4, fun i hi => ?_⟩
    rw [hx i (by simp; omega), List.getElem?_append_left hi]
/-- Without its first one. -/
theorem WinAt.tail {g off n c : Nat} {ys : List Value} {u : Value} (h : WinAt base e W (.slice (some ⟨g, off, none⟩) n c) (u :: ys)) : WinAt base e W (.slice (some ⟨g, off + 1, none⟩) ys.length (c - 1)) ys := by
  rcases h with ⟨h, _⟩ | ⟨g', off', cap, cur, h, h1, hg, h2, h3, h4, hx⟩
  · cases h
  · simp only [Value.slice.injEq, Option.some.injEq, Addr.mk.injEq, and_true] at h
    obtain ⟨⟨rfl, rfl⟩, _, rfl⟩ := h
    simp only [List.length_cons] at h2
    refine .inr ⟨g, off + 1, c - 1, cur, rfl, h1, hg, by omega, by omega, by omega, fun i hi => ?_⟩
    have := hx (i + 1) (by simp; omega)
    rw [show off + 1 + i = off + (i + 1) by omega, this]
    simp
section
variable {P : Program} {o : Oper} {a : Act} {w : World}
theorem opOK_appendW (s x : Operand) (t : TypeId) (ho : o.op = .call { callee := .builtin .append, args := #[s, x], argTypes := #[t, t] })
    (base : Nat) (e : TypeId) (z : Value) (bytes : Nat) (ht : P.underlying t = some (.slice e)) (hi : (P.info? e).map (fun i => (i.zero, i.size, i.bytes)) = some (some z, 1, bytes)) (hzs : z.cells.size = 1)
    (v : Value) (xs : List Value) (hs : a.eval s = v) (hown : WinAt base e w v xs) (b off c : Nat) (u : Value) (hx : a.eval x = .slice (some ⟨b, off, none⟩) 1 c) (hc : w.cell? ⟨b, off, none⟩ = some u) (h1 : u.oneCell' = true)
    (h63 : xs.length + 1 ≤ 100000) (hbytes : bytes ≤ 1000) (hbase : base ≤ w.heap.size) :
    opOK P o a w (fun v' w' => WinAt base e w' v' (xs ++ [u]) ∧ w.grownBy w' v.ownBlock) := by
  obtain ⟨i, hi, hz0, hz1, hz2⟩ := info_parts hi
  have hnews : ∀ j y, [u][j]? = some y → w.cell? ((⟨b, off, none⟩ : Addr).add j) = some y := fun j y hj => by
    match j, hj with
    | 0, hj => simp at hj; subst hj; simpa [Addr.add] using hc
    | j + 1, hj => simp at hj
  have h1' : ∀ y ∈ [u], y.oneCell' = true := fun y hy => by simp at hy; subst hy; exact h1
  suffices hs : ∃ v' w', (Builtin.append_ #[t, t] o.type #[v, .slice (some ⟨b, off, none⟩) 1 c]).run P w = .ok v' w' ∧ WinAt base e w' v' (xs ++ [u]) ∧ w.grownBy w' v.ownBlock by
    obtain ⟨v', w', hr, h2, h3⟩ := hs
    unfold opOK execOp
    simp only [ho, resolve, invoke, builtin, Sem.run_bind, Sem.run_pure, Result.andThen_ok, List.map_toArray, List.map_cons, List.map_nil, ‹a.eval s = v›, hx, hr]
    exact ⟨h2, h3⟩
  have hmul : (xs.length + 1) * i.bytes ≤ 100000 * 1000 := Nat.mul_le_mul h63 (by omega)
  have grown : ∀ (n old : Nat) (row : Option Nat), n = xs.length → (w.drew.alloc (.cells (xs.toArray ++ [u].toArray ++ Builtin.zeroCells z.cells (grownCap w (n + 1) old e - (n + 1))) e)).heap[w.heap.size]? = some (.cells (xs.toArray ++ [u].toArray ++ Builtin.zeroCells z.cells (grownCap w (n + 1) old e - (n + 1))) e (0, 0)) → old < n + 1 →
      WinAt base e (w.drew.alloc (.cells (xs.toArray ++ [u].toArray ++ Builtin.zeroCells z.cells (grownCap w (n + 1) old e - (n + 1))) e)) (.slice (some ⟨w.heap.size, 0, none⟩) (n + 1) (grownCap w (n + 1) old e)) (xs ++ [u]) := by
    intro n old row hn hh hold
    subst hn
    have hge := grownCap_ge w (xs.length + 1) old e
    have hcm : grownCap w (xs.length + 1) old e ≤ maxLen := grownCap_le_maxLen w (xs.length + 1) old e (by unfold maxLen; omega)
    refine .inr ⟨w.heap.size, 0, _, _, by simp, hbase, hh, by simpa using hge, ?_, hcm, fun j hj => ?_⟩
    · simp only [Array.size_append, List.size_toArray, size_zeroCells, hzs]
      simp; omega
    · rw [Nat.zero_add, Array.getElem?_append_left (by simp at hj ⊢; omega)]
      simp [List.getElem?_append]
  rcases hown with ⟨rfl, rfl⟩ | ⟨g, off', cap, cur, rfl, hbg, hg, hnc, hcs, hcm, htake⟩
  · have hr := run_append_nil (P := P) w t o.type e i z ht hi hz0 ⟨b, off, none⟩ 1 c [u] (by simp [hz1]) hnews (by omega) (by omega) (by simp at hmul; omega)
    have hgr := grown 0 0 none rfl (heap_alloc_new w.drew _) (by omega)
    simp only [Nat.zero_add, List.nil_append, Array.empty_append] at hgr ⊢
    exact ⟨_, _, hr, hgr, ⟨rfl, rfl, rfl, by simp, fun k hk _ => Below.heap_alloc w.drew _ k hk⟩⟩
  · by_cases hroom : xs.length + 1 ≤ cap
    · have hf := run_firstCells_some (P := P) w i.size 1 ⟨b, off, none⟩ 1 c [u] (by simp [hz1]) hnews
      have hst := run_storeCells_at (P := P) g (off' + xs.length) e [u] 0 cur w hg (by simp; omega) h1'
      simp only [Nat.add_zero] at hst
      have hr : (Builtin.append_ #[t, t] o.type #[.slice (some ⟨g, off', none⟩) xs.length cap, .slice (some ⟨b, off, none⟩) 1 c]).run P w = .ok (.slice (some ⟨g, off', none⟩) (xs.length + 1) cap) (w.setRow g (cur.toList.take (off' + xs.length) ++ [u] ++ cur.toList.drop (off' + xs.length + [u].length)).toArray) := by
        have e1 : (⟨g, off', none⟩ : Addr).add (xs.length * i.size) = ⟨g, off' + xs.length, none⟩ := by rw [addr_at, hz1, Nat.mul_one]
        simp [Builtin.append_, run_underlying ht, sizeOf, typeInfo, hi, Builtin.lenOf, hroom, hf, e1]
        simp at hst
        simp [hst]
      refine ⟨_, _, hr, .inr ⟨g, off', cap, _, by simp, hbg, setRow_heap w g cur _ e _ hg, by simpa using hroom, ?_, hcm, fun j hj => ?_⟩, ⟨rfl, rfl, rfl, by simp, fun k _ hk => setRow_other w g k _ (fun e => hk (by simp [Value.ownBlock, e]))⟩⟩
      · simp; omega
      · simp only [List.length_append, List.length_cons, List.length_nil] at hj
        have hto : (cur.toList.take (off' + xs.length)).length = off' + xs.length := by simp; omega
        rw [List.getElem?_toArray, List.append_assoc]
        by_cases hjl : j < xs.length
        · rw [List.getElem?_append_left (by omega), List.getElem?_take, if_pos (by omega), Array.getElem?_toList, htake j hjl, List.getElem?_append_left hjl]
        · have : j = xs.length := by omega
          subst this
          rw [List.getElem?_append_right (by omega), hto, List.getElem?_append_right (Nat.le_refl _)]
          simp
    · have holds : ∀ j y, xs[j]? = some y → w.cell? ((⟨g, off', none⟩ : Addr).add j) = some y := fun j y hj => by
        have hjl : j < xs.length := (List.getElem?_eq_some_iff.1 hj).1
        rw [addr_at, cell_of_heap hg, htake j hjl]; exact hj
      have hr := run_append_grow (P := P) w t o.type e i z ht hi hz0 ⟨g, off', none⟩ xs.length cap xs (by simp [hz1]) holds ⟨b, off, none⟩ 1 c [u] (by simp [hz1]) hnews (by omega) (by omega) (growslice_fits (by omega) (by omega))
      have hgr := grown xs.length cap none rfl (heap_alloc_new w.drew _) (by omega)
      exact ⟨_, _, hr, hgr, ⟨rfl, rfl, rfl, by simp, fun k hk _ => Below.heap_alloc w.drew _ k hk⟩⟩
theorem wpList_appendW {ops : Array Oper} {Q : Exit → Act → World → Prop} {rest : List Oper} (hg : o.guard = none) (s x : Operand) (t : TypeId) (ho : o.op = .call { callee := .builtin .append, args := #[s, x], argTypes := #[t, t] })
    (base : Nat) (e : TypeId) (z : Value) (bytes : Nat) (ht : P.underlying t = some (.slice e)) (hi : (P.info? e).map (fun i => (i.zero, i.size, i.bytes)) = some (some z, 1, bytes)) (hzs : z.cells.size = 1)
    (v : Value) (xs : List Value) (hs : a.eval s = v) (hown : WinAt base e w v xs) (b off c : Nat) (u : Value) (hx : a.eval x = .slice (some ⟨b, off, none⟩) 1 c) (hc : w.cell? ⟨b, off, none⟩ = some u) (h1 : u.oneCell' = true)
    (h63 : xs.length + 1 ≤ 100000) (hbytes : bytes ≤ 1000) (hbase : base ≤ w.heap.size)
    (hK : ∀ v' w', WinAt base e w' v' (xs ++ [u]) → w.grownBy w' v.ownBlock → wpList P ops Q rest (a.put o.dst v') w') : wpList P ops Q (o :: rest) a w :=
  wpList_opOK hg (opOK_appendW s x t ho base e z bytes ht hi hzs v xs hs hown b off c u hx hc h1 h63 hbytes hbase) fun v' w' ⟨h1, h2⟩ => hK v' w' h1 h2
end
end
end Go.Oche
