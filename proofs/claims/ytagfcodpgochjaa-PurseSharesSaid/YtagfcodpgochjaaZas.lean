/- The texts YD, in build order. -/
import Derived.Test.YtagfcodpgochjaaZar
import Derived.Deep.CutBlock

/- Chapter 12, the stable sort: symMerge. -/
namespace Go.Proofs.Ytagfcodpgochjaa
open Go.RowKit Go.Oche Go.Proofs

theorem MrgOut.refl {r : Int → Int} {ys : List Int} {a s b : Nat} (h : MrgIn r ys a s b) (he : s = a ∨ s = b) : MrgOut r ys a b ys :=
  ⟨rfl, fun _ _ => rfl, fun q h1 h2 => ⟨q, h1, h2, rfl⟩, fun p q h1 h2 h3 => by
    rcases he with e | e
    · subst e; exact h.ordR p q h1 h2 h3
    · subst e; exact h.ordL p q h1 h2 h3, List.Perm.refl _⟩
theorem MrgIn.congr {r : Int → Int} {ys zs : List Int} {a s b : Nat} (h : MrgIn r ys a s b) (hs : a ≤ s ∧ s ≤ b) (he : ∀ q, a ≤ q → q < b → at0 zs q = at0 ys q) : MrgIn r zs a s b :=
  ⟨fun p q h1 h2 h3 => by rw [he p (by omega) (by omega), he q (by omega) (by omega)]; exact h.ordL p q h1 h2 h3,
   fun p q h1 h2 h3 => by rw [he p (by omega) (by omega), he q (by omega) (by omega)]; exact h.ordR p q h1 h2 h3,
   fun p q h1 h2 h3 h4 => by rw [he p (by omega) (by omega), he q (by omega) (by omega)]; exact h.low p q h1 h2 h3 h4⟩
set_option maxRecDepth 100000 in
set_option maxHeartbeats 20000000 in
theorem symMerge_any {S : Nat → Prop} (amount sum : Int) (ws : List Int) (sv : Value) (pa pw ps g c n base : Nat) (h1 : pa ≠ g) (h2 : pw ≠ g) (h3 : ps ≠ g) (h4 : ∀ k, S k → k ≠ g) (hn : n ≤ 100)
    (ha : 0 ≤ amount ∧ amount ≤ 1000000000) (hw : ∀ x ∈ ws, 0 ≤ x ∧ x ≤ 10000) (hs : 0 < sum ∧ sum ≤ 1000000) : ∀ (K : Nat) (xs : List Int) (a m b : Nat) (w : World), b - a ≤ K → w.ownsRow base 3 1 (.slice (some ⟨g, 0, none⟩) n c) n (ints xs) → CmpAt w pa pw ps amount sum ws sv S →
      (∀ x ∈ xs, 0 ≤ x ∧ x < ws.length) → a < m → m < b → b ≤ n → MrgIn (restOf amount sum ws) xs a m b →
    Calls Try.prog 76 #[.slice (some ⟨g, 0, none⟩) n c, .int .i64 a, .int .i64 m, .int .i64 b, .func (.func 30) #[] #[.pointer (some ⟨pa, 0, none⟩), .pointer (some ⟨pw, 0, none⟩), .pointer (some ⟨ps, 0, none⟩)]] w fun e w' =>
      e = .returned (.tuple #[]) ∧ ∃ ys, w'.ownsRow base 3 1 (.slice (some ⟨g, 0, none⟩) n c) n (ints ys) ∧ w.grownBy w' (some g) ∧ MrgOut (restOf amount sum ws) xs a b ys := by
  intro K
  induction K with
  | zero => intro xs a m b w hK ho hc hix h5 h6; omega
  | succ K ih =>
    intro xs a m b w hK ho hc hix ham hmb hbn hin
    have hxl := owns_len ho
    simp only [ints_length] at hxl
    have HIH := Lib.hid ih
    have HO := Lib.hid ho
    have HC := Lib.hid hc
    have HIX := Lib.hid hix
    have HB := Lib.hid (And.intro ha (And.intro hw hs))
    have HN := Lib.hid (And.intro h1 (And.intro h2 (And.intro h3 h4)))
    have HXL := Lib.hid hxl
    have HIN := Lib.hid hin
    have HNX : Hid (∀ q, q < n → ∃ x : Nat, at0 xs q = x ∧ x < ws.length) := Lib.hid fun q hq => by
      have := hix (at0 xs q) (by rw [at0_eq (by omega)]; exact List.getElem_mem _)
      exact ⟨(at0 xs q).toNat, by omega, by omega⟩
    clear ih ho hc hix hxl hin
    clear ha hw hs h1 h2 h3 h4
    have wma : IntKind.i64.wrap ((m : Int) - (a : Int)) = ((m - a : Nat) : Int) := by rw [wrap_small _ (by omega) (by omega)]; omega
    have wbm : IntKind.i64.wrap ((b : Int) - (m : Int)) = ((b - m : Nat) : Int) := by rw [wrap_small _ (by omega) (by omega)]; omega
    by_cases hma : m - a = 1
    · as_aux_lemma =>
      have t1 : (m - a == 1) = true := beq_iff_eq.2 hma
      have t1i : (((m - a : Nat) : Int) == 1) = true := beq_iff_eq.2 (by omega)
      have hm1 : m = a + 1 := by omega
      have HM1 := Lib.hid hm1
      clear hma hm1
      go_enter Try.func76, Try.ntmps76
      go_wp2_with fail
      go_loopw [10, 11, 12] (fun iv jv _ wr => ∃ i j : Nat, iv = .int .i64 i ∧ jv = .int .i64 j ∧ m ≤ i ∧ i ≤ j ∧ j ≤ b ∧ Hid (∀ q, m ≤ q → q < i → restOf amount sum ws (at0 xs a) < restOf amount sum ws (at0 xs q)) ∧ Hid (∀ q, j ≤ q → q < b → restOf amount sum ws (at0 xs q) ≤ restOf amount sum ws (at0 xs a)) ∧ Hid (wr.ownsRow base 3 1 (.slice (some ⟨g, 0, none⟩) n c) n (ints xs)) ∧ Hid (w.grownBy wr (some g))) (fun iv jv _ _ => (intOf jv).toNat - (intOf iv).toNat)
      case atStart => exact ⟨m, b, rfl, rfl, Nat.le_refl _, by omega, Nat.le_refl _, Lib.hid (fun q h1 h2 => by omega), Lib.hid (fun q h1 h2 => by omega), HO, Lib.hid ⟨rfl, rfl, rfl, Nat.le_refl _, fun _ _ _ => rfl⟩⟩
      case round =>
        clear HO
        obtain ⟨i, j, rfl, rfl, hi1, hi2, hi3, HLO, HHI, HO, HG⟩ := hrel
        obtain ⟨wo, rfl⟩ : ∃ wo : World, wo = wr := ⟨_, rfl⟩
        have hxL := HXL.out
        by_cases hij : i < j
        · as_aux_lemma =>
          obtain ⟨h, hh⟩ : ∃ h, (i + j) / 2 = h := ⟨_, rfl⟩
          have hhb : i ≤ h ∧ h < j := by omega
          have HHE : Hid (((i : Int) + (j : Int)) / 2 = (h : Int)) := Lib.hid (by omega)
          obtain ⟨x1, e1, hx1⟩ := HNX.out (h) (by omega)
          obtain ⟨x2, e2, hx2⟩ := HNX.out (a) (by omega)
          have k1 : wo.cell? ⟨g, h, none⟩ = some (.int .i64 x1) := by rw [HO.out.cellAt (h) (by omega), intsAt (by omega), ← at0_eq (by omega), e1]
          have k2 : wo.cell? ⟨g, a, none⟩ = some (.int .i64 x2) := by rw [HO.out.cellAt (a) (by omega), intsAt (by omega), ← at0_eq (by omega), e2]
          obtain ⟨D, hD⟩ : ∃ D, restOf amount sum ws x2 - restOf amount sum ws x1 = D := ⟨_, rfl⟩
          obtain ⟨bb, hbb⟩ : ∃ bb, decide (D < 0) = bb := ⟨_, rfl⟩
          have HCW := Lib.hid (HC.out.grown HG.out HN.out.1 HN.out.2.1 HN.out.2.2.1 HN.out.2.2.2)
          have HDQ : Hid (restOf amount sum ws (at0 xs (a)) - restOf amount sum ws (at0 xs (h)) = D) := Lib.hid (by rw [e1, e2]; exact hD)
          have HD := Lib.hid hD
          have HBB := Lib.hid hbb
          clear e1 e2 hD hbb
          have hhn : h < n := by omega
          have han : a < n := by omega
          clear hh hxL
          go_wp2_with fail
          rw [HHE.out]
          refine wp_region_seqW (.is ?_ :: .is ?_ :: .is ?_ :: .is ?_ :: .is ?_ :: .is ?_ :: .is ?_ :: .is ?_ :: .is ?_ :: .is (.int .i64 D) :: .is (.bool bb) :: []) rfl mix (by kernel_rfl) (by kernel_rfl) ?_
          rotate_left 9
          iterate 9
            refine seq_is rfl (fun u1 hb1 _ => ?_) ?_
            · have k1' := bAt hb1 k1
              have k2' := bAt hb1 k2
              simp [opOK, go_sem, k1', k2', hhn, han, Below.refl]
              try exact rfl
            simp only [Act.put, List.setIfInBounds_toArray, List.set_cons_succ, List.set_cons_zero]
          refine seq_is rfl (fun u1 hb1 _ => ?_) ?_
          · refine opOK_call (f := 30) (args := #[.int .i64 x1, .int .i64 x2, .pointer (some ⟨pa, 0, none⟩), .pointer (some ⟨pw, 0, none⟩), .pointer (some ⟨ps, 0, none⟩)]) (by simp [go_sem]) ?_
            refine (share1_any amount sum ws sv pa pw ps x1 x2 u1 (HCW.out.below hb1) HB.out.1 HB.out.2.1 HB.out.2.2 hx1 hx2).mono ?_
            rintro e w2 ⟨rfl, hb2⟩
            exact ⟨_, rfl, by rw [HD.out], hb2⟩
          simp only [Act.put, List.setIfInBounds_toArray, List.set_cons_succ, List.set_cons_zero]
          refine seq_is rfl (fun u1 hb1 _ => ?_) ?_
          · simp [opOK, go_sem, HBB.out, Below.refl]
            try exact rfl
          simp only [Act.put, List.setIfInBounds_toArray, List.set_cons_succ, List.set_cons_zero]
          refine seq_end fun w6 hb6 _ => ?_
          have HO6 := Lib.hid (ownsN_below HO.out hb6)
          have HG6 := Lib.hid (grownBy_trans HG.out (grownBy_below _ hb6))
          clear k1 k2 hb6
          cases bb
          · have hge : restOf amount sum ws (at0 xs h) ≤ restOf amount sum ws (at0 xs a) := by have := of_decide_eq_false HBB.out; have := HDQ.out; omega
            have HH2 : Hid (∀ q, h ≤ q → q < b → restOf amount sum ws (at0 xs q) ≤ restOf amount sum ws (at0 xs a)) := Lib.hid fun q g1 g2 => by
              rcases Nat.eq_or_lt_of_le g1 with e | e
              · subst e; exact hge
              · have := HIN.out.ordR h q (by omega) e g2
                unfold befo at this; omega
            clear hge
            go_wp2_with fail
            go_roundw
            case rel => exact ⟨i, h, rfl, rfl, hi1, by omega, by omega, HLO, HH2, HO6, HG6⟩
            case measure => simp [intOf]; omega
          · have hlt : restOf amount sum ws (at0 xs a) < restOf amount sum ws (at0 xs h) := by have := of_decide_eq_true HBB.out; have := HDQ.out; omega
            have HL2 : Hid (∀ q, m ≤ q → q < h + 1 → restOf amount sum ws (at0 xs a) < restOf amount sum ws (at0 xs q)) := Lib.hid fun q g1 g2 => by
              rcases Nat.eq_or_lt_of_le (show q ≤ h by omega) with e | e
              · subst e; exact hlt
              · have := HIN.out.ordR q h g1 e (by omega)
                unfold befo at this; omega
            clear hlt
            go_wp2_with fail
            go_roundw
            case rel => exact ⟨h + 1, j, by go_num, rfl, by omega, by omega, hi3, HL2, HHI, HO6, HG6⟩
            case measure => simp [intOf]; omega
        · obtain rfl : i = j := by omega
          as_aux_lemma =>
          have wi1 : IntKind.i64.wrap ((i : Int) - 1) = ((i - 1 : Nat) : Int) := by rw [wrap_small _ (by omega) (by omega)]; omega
          have him := HM1.out
          go_wp2_with fail
          go_loopw [13] (fun kv wr => ∃ (k : Nat) (ys : List Int), kv = .int .i64 k ∧ a ≤ k ∧ k + 1 ≤ i ∧ Hid (RotOk xs a (a + 1) (k + 1) ys) ∧ Hid (wr.ownsRow base 3 1 (.slice (some ⟨g, 0, none⟩) n c) n (ints ys)) ∧ Hid (w.grownBy wr (some g))) (fun kv _ => i - (intOf kv).toNat)
          case atStart => exact ⟨a, xs, rfl, Nat.le_refl _, by omega, Lib.hid (RotOk.refl (.inr rfl) (by omega) (Nat.le_refl _)), HO, HG⟩
          case round =>
            clear HO HG
            obtain ⟨p, ys, rfl, hk1, hk2, HR, HO, HG⟩ := hrel
            obtain ⟨wo, rfl⟩ : ∃ wo : World, wo = wr := ⟨_, rfl⟩
            by_cases hki : p + 1 < i
            · as_aux_lemma =>
              have d1 : decide (p < i - 1) = true := decide_eq_true (by omega)
              have d1i : decide ((p : Int) < ((i - 1 : Nat) : Int)) = true := decide_eq_true (by omega)
              have hst := HR.out.fst hk1 (by omega)
              have hyl : ys.length = n := by rw [HR.out.len]; exact HXL.out
              have k1 : wo.cell? ⟨g, p + 1, none⟩ = some (.int .i64 (at0 ys (p + 1))) := by rw [HO.out.cellAt (p + 1) (by omega), intsAt (by omega), ← at0_eq (by omega)]
              have k0 : wo.cell? ⟨g, p, none⟩ = some (.int .i64 (at0 ys (p))) := by rw [HO.out.cellAt (p) (by omega), intsAt (by omega), ← at0_eq (by omega)]
              have hsw := ints_swp ys (p) (p + 1)
              obtain ⟨x, hx⟩ : ∃ x, at0 ys (p + 1) = x := ⟨_, rfl⟩
              obtain ⟨y, hy⟩ : ∃ y, at0 ys (p) = y := ⟨_, rfl⟩
              rw [hx, hy] at hsw
              rw [hx] at k1
              rw [hy] at k0
              obtain ⟨q, hq⟩ : ∃ q, p + 1 = q := ⟨_, rfl⟩
              have hst2 : RotOk xs a (a + 1) (q + 1) (swp ys p q) := by subst hq; exact hst
              have hsw2 : ((ints ys).set p (.int .i64 x)).set q (.int .i64 y) = ints (swp ys p q) := by subst hq; exact hsw
              rw [hq] at k1
              have hpn : p < n := by omega
              have hqn : q < n := by omega
              have hpq : ¬ q = p := by omega
              have hw2 : IntKind.i64.wrap ((p : Int) + 1) = (q : Int) := by rw [wrap_small _ (by omega) (by omega)]; omega
              have hqk : (p : Int) + 1 = (q : Int) := by omega
              have f1 := HO.out.frozenAt p
              have HST := Lib.hid hst2
              have HSW := Lib.hid hsw2
              have HQN := Lib.hid hq
              clear hst hsw hst2 hsw2 hx hy hyl hq hqk
              go_wp2_with fail
              refine wp_region_seqC 17 (?_ :: ?_ :: ?_ :: ?_ :: ?_ :: ?_ :: ?_ :: ?_ :: ?_ :: ?_ :: ?_ :: ?_ :: ?_ :: ?_ :: ?_ :: undef :: ?_ :: []) (JCell wo.drew 15 [9, 13] ⟨g, p, none⟩ (.int .i64 x)) rfl mix (by kernel_rfl) (by kernel_rfl) JCell.start ?_
              rotate_left 16
              simp only [List.take_succ_cons, List.take_zero]
              iterate 9
                refine sc_rd rfl (fun _ _ _ h => h.read (by decide)) (fun u1 L1 hL1 hJ1 => ?_) ?_
                · simp [opOK, go_sem, hw2, hqn]
                  try exact rfl
                simp only [Act.put, List.setIfInBounds_toArray, List.set_cons_succ, List.set_cons_zero]
              refine sc_rd rfl (fun _ _ _ h => h.read (by decide)) (fun u1 L1 hL1 hJ1 => ?_) ?_
              · rw [hJ1.look (by decide : 9 ∈ [9, 13]) hL1]
                simp [opOK, go_sem, k1]
                try exact rfl
              simp only [Act.put, List.setIfInBounds_toArray, List.set_cons_succ, List.set_cons_zero]
              iterate 3
                refine sc_rd rfl (fun _ _ _ h => h.read (by decide)) (fun u1 L1 hL1 hJ1 => ?_) ?_
                · simp [opOK, go_sem, hpn]
                  try exact rfl
                simp only [Act.put, List.setIfInBounds_toArray, List.set_cons_succ, List.set_cons_zero]
              refine sc_rd rfl (fun _ _ _ h => h.read (by decide)) (fun u1 L1 hL1 hJ1 => ?_) ?_
              · rw [hJ1.look (by decide : 13 ∈ [9, 13]) hL1]
                simp [opOK, go_sem, k0]
                try exact rfl
              simp only [Act.put, List.setIfInBounds_toArray, List.set_cons_succ, List.set_cons_zero]
              iterate 1
                refine sc_rd rfl (fun _ _ _ h => h.read (by decide)) (fun u1 L1 hL1 hJ1 => ?_) ?_
                · simp [opOK, go_sem, hpn]
                  try exact rfl
                simp only [Act.put, List.setIfInBounds_toArray, List.set_cons_succ, List.set_cons_zero]
              refine sc_is rfl (fun u1 L1 hL1 hJ1 hd => ?_) ?_
              · have hq1 : L1 9 = true := hd ⟨9, .phase⟩ (by simp) rfl
                have hp1 : L1 13 = true := hd ⟨13, .phase⟩ (by simp) rfl
                rw [hJ1.before hL1]
                simp [opOK, go_sem, k0, f1]
                exact JCell.store (by simp [hq1, hp1])
              simp only [Act.put]
              iterate 1
                refine sc_rd rfl (fun _ _ _ h => h.read (by decide)) (fun u1 L1 hL1 hJ1 => ?_) ?_
                · simp [opOK, go_sem, hqn]
                  try exact rfl
                simp only [Act.put, List.setIfInBounds_toArray, List.set_cons_succ, List.set_cons_zero]
              refine sc_end fun w7 hJ7 => ?_
              have h7 := hJ7.done (by decide)
              simp only [List.drop_succ_cons, List.drop_zero]
              obtain ⟨ho7, hg7⟩ := (ownsN_below HO.out (bDrew wo 1)).stored p (.int .i64 x)
              have k7 : w7.cell? ⟨g, q, none⟩ = some (.int .i64 x) := by rw [h7, World.cell?_setCell_other _ _ _ _ (by intro e; cases e; exact hpq rfl)]; exact k1
              have hg7' : wo.grownBy w7 (some g) := by rw [h7]; exact grownBy_trans (grownBy_below _ (bDrew wo 1)) hg7
              have ho7' : w7.ownsRow base 3 1 (.slice (some ⟨g, 0, none⟩) n c) n ((ints ys).set p (.int .i64 x)) := by rw [h7]; exact ho7
              have f7 := ho7'.frozenAt q
              obtain ⟨ho8, hg8⟩ := ho7'.stored q (.int .i64 y)
              rw [HSW.out] at ho8
              have HO8 := Lib.hid ho8
              have HG8 := Lib.hid (grownBy_trans (grownBy_trans HG.out hg7') hg8)
              clear h7 ho7 hg7 hg7' ho7' ho8 hg8 hJ7 k0 k1 f1
              go_wp2_with fail
              go_roundw
              case rel => exact ⟨q, _, rfl, by have := HQN.out; omega, by have := HQN.out; omega, HST, HO8, HG8⟩
              case measure => simp [intOf]; have := HQN.out; omega
            · have d1 : decide (p < i - 1) = false := decide_eq_false (by omega)
              have d1i : decide ((p : Int) < ((i - 1 : Nat) : Int)) = false := decide_eq_false (by omega)
              have hki2 : p + 1 = i := by omega
              have hfin : MrgOut (restOf amount sum ws) xs a b ys := by
                have h9 := HIN.out
                rw [HM1.out] at h9
                rw [HM1.out] at hi1
                exact h9.one (by omega) ⟨hi1, hi3⟩ (fun q g1 g2 => HLO.out q (by rw [HM1.out]; exact g1) g2) (fun q g1 g2 => by have := HHI.out q g1 g2; omega) (by rw [← hki2]; exact HR.out)
              have HF := Lib.hid hfin
              clear hfin hki2
              go_wp2
              go_returns
              exact ⟨rfl, ys, HO.out, HG.out, HF.out⟩
    have t1 : (m - a == 1) = false := beq_eq_false_iff_ne.2 hma
    have t1i : (((m - a : Nat) : Int) == 1) = false := beq_eq_false_iff_ne.2 (by omega)
    by_cases hbm : b - m = 1
    · as_aux_lemma =>
      have t2 : (b - m == 1) = true := beq_iff_eq.2 hbm
      have t2i : (((b - m : Nat) : Int) == 1) = true := beq_iff_eq.2 (by omega)
      have hm1 : b = m + 1 := by omega
      have HM1 := Lib.hid hm1
      clear hma hbm hm1
      go_enter Try.func76, Try.ntmps76
      go_wp2_with fail
      go_loopw [14, 15, 16] (fun iv jv _ wr => ∃ i j : Nat, iv = .int .i64 i ∧ jv = .int .i64 j ∧ a ≤ i ∧ i ≤ j ∧ j ≤ m ∧ Hid (∀ q, a ≤ q → q < i → restOf amount sum ws (at0 xs m) ≤ restOf amount sum ws (at0 xs q)) ∧ Hid (∀ q, j ≤ q → q < m → restOf amount sum ws (at0 xs q) < restOf amount sum ws (at0 xs m)) ∧ Hid (wr.ownsRow base 3 1 (.slice (some ⟨g, 0, none⟩) n c) n (ints xs)) ∧ Hid (w.grownBy wr (some g))) (fun iv jv _ _ => (intOf jv).toNat - (intOf iv).toNat)
      case atStart => exact ⟨a, m, rfl, rfl, Nat.le_refl _, by omega, Nat.le_refl _, Lib.hid (fun q h1 h2 => by omega), Lib.hid (fun q h1 h2 => by omega), HO, Lib.hid ⟨rfl, rfl, rfl, Nat.le_refl _, fun _ _ _ => rfl⟩⟩
      case round =>
        clear HO
        obtain ⟨i, j, rfl, rfl, hi1, hi2, hi3, HLO, HHI, HO, HG⟩ := hrel
        obtain ⟨wo, rfl⟩ : ∃ wo : World, wo = wr := ⟨_, rfl⟩
        have hxL := HXL.out
        by_cases hij : i < j
        · as_aux_lemma =>
          obtain ⟨h, hh⟩ : ∃ h, (i + j) / 2 = h := ⟨_, rfl⟩
          have hhb : i ≤ h ∧ h < j := by omega
          have HHE : Hid (((i : Int) + (j : Int)) / 2 = (h : Int)) := Lib.hid (by omega)
          obtain ⟨x1, e1, hx1⟩ := HNX.out (m) (by omega)
          obtain ⟨x2, e2, hx2⟩ := HNX.out (h) (by omega)
          have k1 : wo.cell? ⟨g, m, none⟩ = some (.int .i64 x1) := by rw [HO.out.cellAt (m) (by omega), intsAt (by omega), ← at0_eq (by omega), e1]
          have k2 : wo.cell? ⟨g, h, none⟩ = some (.int .i64 x2) := by rw [HO.out.cellAt (h) (by omega), intsAt (by omega), ← at0_eq (by omega), e2]
          obtain ⟨D, hD⟩ : ∃ D, restOf amount sum ws x2 - restOf amount sum ws x1 = D := ⟨_, rfl⟩
          obtain ⟨bb, hbb⟩ : ∃ bb, decide (D < 0) = bb := ⟨_, rfl⟩
          have HCW := Lib.hid (HC.out.grown HG.out HN.out.1 HN.out.2.1 HN.out.2.2.1 HN.out.2.2.2)
          have HDQ : Hid (restOf amount sum ws (at0 xs (h)) - restOf amount sum ws (at0 xs (m)) = D) := Lib.hid (by rw [e1, e2]; exact hD)
          have HD := Lib.hid hD
          have HBB := Lib.hid hbb
          clear e1 e2 hD hbb
          have hhn : h < n := by omega
          have hmn : m < n := by omega
          clear hh hxL
          go_wp2_with fail
          rw [HHE.out]
          refine wp_region_seqW (.is ?_ :: .is ?_ :: .is ?_ :: .is ?_ :: .is ?_ :: .is ?_ :: .is ?_ :: .is ?_ :: .is ?_ :: .is (.int .i64 D) :: .is (.bool bb) :: .is (.bool (!bb)) :: []) rfl mix (by kernel_rfl) (by kernel_rfl) ?_
          rotate_left 9
          iterate 9
            refine seq_is rfl (fun u1 hb1 _ => ?_) ?_
            · have k1' := bAt hb1 k1
              have k2' := bAt hb1 k2
              simp [opOK, go_sem, k1', k2', hhn, hmn, Below.refl]
              try exact rfl
            simp only [Act.put, List.setIfInBounds_toArray, List.set_cons_succ, List.set_cons_zero]
          refine seq_is rfl (fun u1 hb1 _ => ?_) ?_
          · refine opOK_call (f := 30) (args := #[.int .i64 x1, .int .i64 x2, .pointer (some ⟨pa, 0, none⟩), .pointer (some ⟨pw, 0, none⟩), .pointer (some ⟨ps, 0, none⟩)]) (by simp [go_sem]) ?_
            refine (share1_any amount sum ws sv pa pw ps x1 x2 u1 (HCW.out.below hb1) HB.out.1 HB.out.2.1 HB.out.2.2 hx1 hx2).mono ?_
            rintro e w2 ⟨rfl, hb2⟩
            exact ⟨_, rfl, by rw [HD.out], hb2⟩
          simp only [Act.put, List.setIfInBounds_toArray, List.set_cons_succ, List.set_cons_zero]
          refine seq_is rfl (fun u1 hb1 _ => ?_) ?_
          · simp [opOK, go_sem, HBB.out, Below.refl]
            try exact rfl
          simp only [Act.put, List.setIfInBounds_toArray, List.set_cons_succ, List.set_cons_zero]
          refine seq_is rfl (fun u1 hb1 _ => ?_) ?_
          · simp [opOK, go_sem, Below.refl]
            try exact rfl
          simp only [Act.put, List.setIfInBounds_toArray, List.set_cons_succ, List.set_cons_zero]
          refine seq_end fun w6 hb6 _ => ?_
          have HO6 := Lib.hid (ownsN_below HO.out hb6)
          have HG6 := Lib.hid (grownBy_trans HG.out (grownBy_below _ hb6))
          clear k1 k2 hb6
          cases bb
          · have hge : restOf amount sum ws (at0 xs m) ≤ restOf amount sum ws (at0 xs h) := by have := of_decide_eq_false HBB.out; have := HDQ.out; omega
            have HL2 : Hid (∀ q, a ≤ q → q < h + 1 → restOf amount sum ws (at0 xs m) ≤ restOf amount sum ws (at0 xs q)) := Lib.hid fun q g1 g2 => by
              rcases Nat.eq_or_lt_of_le (show q ≤ h by omega) with e | e
              · subst e; exact hge
              · have := HIN.out.ordL q h g1 e (by omega)
                unfold befo at this; omega
            clear hge
            go_wp2_with fail
            go_roundw
            case rel => exact ⟨h + 1, j, by go_num, rfl, by omega, by omega, hi3, HL2, HHI, HO6, HG6⟩
            case measure => simp [intOf]; omega
          · have hlt : restOf amount sum ws (at0 xs h) < restOf amount sum ws (at0 xs m) := by have := of_decide_eq_true HBB.out; have := HDQ.out; omega
            have HH2 : Hid (∀ q, h ≤ q → q < m → restOf amount sum ws (at0 xs q) < restOf amount sum ws (at0 xs m)) := Lib.hid fun q g1 g2 => by
              rcases Nat.eq_or_lt_of_le g1 with e | e
              · subst e; exact hlt
              · have := HIN.out.ordL h q (by omega) e g2
                unfold befo at this; omega
            clear hlt
            go_wp2_with fail
            go_roundw
            case rel => exact ⟨i, h, rfl, rfl, hi1, by omega, by omega, HLO, HH2, HO6, HG6⟩
            case measure => simp [intOf]; omega
        · obtain rfl : i = j := by omega
          as_aux_lemma =>
          have him := HM1.out
          go_wp2_with fail
          go_loopw [17] (fun kv wr => ∃ (k : Nat) (ys : List Int), kv = .int .i64 k ∧ i ≤ k ∧ k ≤ m ∧ Hid (RotOk xs k m (m + 1) ys) ∧ Hid (wr.ownsRow base 3 1 (.slice (some ⟨g, 0, none⟩) n c) n (ints ys)) ∧ Hid (w.grownBy wr (some g))) (fun kv _ => (intOf kv).toNat)
          case atStart => exact ⟨m, xs, rfl, hi3, Nat.le_refl _, Lib.hid (RotOk.refl (.inl rfl) (Nat.le_refl _) (by omega)), HO, HG⟩
          case round =>
            clear HO HG
            obtain ⟨k, ys, rfl, hk1, hk2, HR, HO, HG⟩ := hrel
            obtain ⟨wo, rfl⟩ : ∃ wo : World, wo = wr := ⟨_, rfl⟩
            by_cases hki : i < k
            · as_aux_lemma =>
              obtain ⟨z, rfl⟩ : ∃ z, k = z + 1 := ⟨k - 1, by omega⟩
              have hst := HR.out.lst hk2 (by omega)
              have hyl : ys.length = n := by rw [HR.out.len]; exact HXL.out
              have k1 : wo.cell? ⟨g, z, none⟩ = some (.int .i64 (at0 ys (z))) := by rw [HO.out.cellAt (z) (by omega), intsAt (by omega), ← at0_eq (by omega)]
              have k0 : wo.cell? ⟨g, z + 1, none⟩ = some (.int .i64 (at0 ys (z + 1))) := by rw [HO.out.cellAt (z + 1) (by omega), intsAt (by omega), ← at0_eq (by omega)]
              have hsw := ints_swp ys (z + 1) (z)
              obtain ⟨x, hx⟩ : ∃ x, at0 ys (z) = x := ⟨_, rfl⟩
              obtain ⟨y, hy⟩ : ∃ y, at0 ys (z + 1) = y := ⟨_, rfl⟩
              rw [hx, hy] at hsw
              rw [hx] at k1
              rw [hy] at k0
              obtain ⟨p, hp⟩ : ∃ p, z + 1 = p := ⟨_, rfl⟩
              obtain ⟨q, hq⟩ : ∃ q, z = q := ⟨_, rfl⟩
              have hst2 : RotOk xs q m (m + 1) (swp ys p q) := by subst hp hq; exact hst
              have hsw2 : ((ints ys).set p (.int .i64 x)).set q (.int .i64 y) = ints (swp ys p q) := by subst hp hq; exact hsw
              rw [hp] at k0
              rw [hq] at k1
              have hpn : p < n := by omega
              have hqn : q < n := by omega
              have hpq : ¬ q = p := by omega
              have hpk : ((z + 1 : Nat) : Int) = (p : Int) := by omega
              have hpi : i < p := by omega
              have hw2 : IntKind.i64.wrap ((p : Int) - 1) = (q : Int) := by rw [wrap_small _ (by omega) (by omega)]; omega
              have f1 := HO.out.frozenAt p
              have HST := Lib.hid hst2
              have HSW := Lib.hid hsw2
              have HQN := Lib.hid hq
              have HPN := Lib.hid hp
              rw [hpk]
              clear hst hsw hst2 hsw2 hx hy hyl hq hp hpk hki
              go_wp2_with fail
              refine wp_region_seqC 17 (?_ :: ?_ :: ?_ :: ?_ :: ?_ :: ?_ :: ?_ :: ?_ :: ?_ :: ?_ :: ?_ :: ?_ :: ?_ :: ?_ :: ?_ :: undef :: ?_ :: []) (JCell wo.drew 15 [9, 13] ⟨g, p, none⟩ (.int .i64 x)) rfl mix (by kernel_rfl) (by kernel_rfl) JCell.start ?_
              rotate_left 16
              simp only [List.take_succ_cons, List.take_zero]
              iterate 9
                refine sc_rd rfl (fun _ _ _ h => h.read (by decide)) (fun u1 L1 hL1 hJ1 => ?_) ?_
                · simp [opOK, go_sem, hw2, hqn]
                  try exact rfl
                simp only [Act.put, List.setIfInBounds_toArray, List.set_cons_succ, List.set_cons_zero]
              refine sc_rd rfl (fun _ _ _ h => h.read (by decide)) (fun u1 L1 hL1 hJ1 => ?_) ?_
              · rw [hJ1.look (by decide : 9 ∈ [9, 13]) hL1]
                simp [opOK, go_sem, k1]
                try exact rfl
              simp only [Act.put, List.setIfInBounds_toArray, List.set_cons_succ, List.set_cons_zero]
              iterate 3
                refine sc_rd rfl (fun _ _ _ h => h.read (by decide)) (fun u1 L1 hL1 hJ1 => ?_) ?_
                · simp [opOK, go_sem, hpn]
                  try exact rfl
                simp only [Act.put, List.setIfInBounds_toArray, List.set_cons_succ, List.set_cons_zero]
              refine sc_rd rfl (fun _ _ _ h => h.read (by decide)) (fun u1 L1 hL1 hJ1 => ?_) ?_
              · rw [hJ1.look (by decide : 13 ∈ [9, 13]) hL1]
                simp [opOK, go_sem, k0]
                try exact rfl
              simp only [Act.put, List.setIfInBounds_toArray, List.set_cons_succ, List.set_cons_zero]
              iterate 1
                refine sc_rd rfl (fun _ _ _ h => h.read (by decide)) (fun u1 L1 hL1 hJ1 => ?_) ?_
                · simp [opOK, go_sem, hpn]
                  try exact rfl
                simp only [Act.put, List.setIfInBounds_toArray, List.set_cons_succ, List.set_cons_zero]
              refine sc_is rfl (fun u1 L1 hL1 hJ1 hd => ?_) ?_
              · have hq1 : L1 9 = true := hd ⟨9, .phase⟩ (by simp) rfl
                have hp1 : L1 13 = true := hd ⟨13, .phase⟩ (by simp) rfl
                rw [hJ1.before hL1]
                simp [opOK, go_sem, k0, f1]
                exact JCell.store (by simp [hq1, hp1])
              simp only [Act.put]
              iterate 1
                refine sc_rd rfl (fun _ _ _ h => h.read (by decide)) (fun u1 L1 hL1 hJ1 => ?_) ?_
                · simp [opOK, go_sem, hqn]
                  try exact rfl
                simp only [Act.put, List.setIfInBounds_toArray, List.set_cons_succ, List.set_cons_zero]
              refine sc_end fun w7 hJ7 => ?_
              have h7 := hJ7.done (by decide)
              simp only [List.drop_succ_cons, List.drop_zero]
              obtain ⟨ho7, hg7⟩ := (ownsN_below HO.out (bDrew wo 1)).stored p (.int .i64 x)
              have k7 : w7.cell? ⟨g, q, none⟩ = some (.int .i64 x) := by rw [h7, World.cell?_setCell_other _ _ _ _ (by intro e; cases e; exact hpq rfl)]; exact k1
              have hg7' : wo.grownBy w7 (some g) := by rw [h7]; exact grownBy_trans (grownBy_below _ (bDrew wo 1)) hg7
              have ho7' : w7.ownsRow base 3 1 (.slice (some ⟨g, 0, none⟩) n c) n ((ints ys).set p (.int .i64 x)) := by rw [h7]; exact ho7
              have f7 := ho7'.frozenAt q
              obtain ⟨ho8, hg8⟩ := ho7'.stored q (.int .i64 y)
              rw [HSW.out] at ho8
              have HO8 := Lib.hid ho8
              have HG8 := Lib.hid (grownBy_trans (grownBy_trans HG.out hg7') hg8)
              clear h7 ho7 hg7 hg7' ho7' ho8 hg8 hJ7 k0 k1 f1
              go_wp2_with fail
              go_roundw
              case rel => exact ⟨q, _, rfl, by have := HQN.out; have := HPN.out; omega, by have := HQN.out; omega, HST, HO8, HG8⟩
              case measure => simp [intOf]; have := HQN.out; have := HPN.out; omega
            · have hki2 : k = i := by omega
              have hfin : MrgOut (restOf amount sum ws) xs a b ys := by
                have h9 := HIN.out
                rw [HM1.out] at h9 ⊢
                exact h9.lone (by omega) ⟨hi1, hi3⟩ (fun q g1 g2 => by have := HLO.out q g1 g2; omega) (fun q g1 g2 => HHI.out q g1 g2) (by rw [← hki2]; exact HR.out)
              have HF := Lib.hid hfin
              clear hfin hki2
              go_wp2
              go_returns
              exact ⟨rfl, ys, HO.out, HG.out, HF.out⟩
    have t2 : (b - m == 1) = false := beq_eq_false_iff_ne.2 hbm
    have t2i : (((b - m : Nat) : Int) == 1) = false := beq_eq_false_iff_ne.2 (by omega)
    obtain ⟨d, hd⟩ : ∃ d, (a + b) / 2 = d := ⟨_, rfl⟩
    have hdb : a < d ∧ d < b := by omega
    have HDE : Hid (((a : Int) + (b : Int)) / 2 = (d : Int)) := Lib.hid (by omega)
    have HDD := Lib.hid hd
    have wdm : IntKind.i64.wrap ((d : Int) + (m : Int)) = (d : Int) + (m : Int) := wrap_small _ (by omega) (by omega)
    have hLH : a ≤ symLo a m b ∧ symLo a m b ≤ symHi a m b ∧ symHi a m b ≤ m := by
      unfold symLo symHi
      rw [hd]
      split <;> omega
    have HLH := Lib.hid hLH
    clear hma hbm hd hLH
    go_enter Try.func76, Try.ntmps76
    go_upto_region 25 with fail
    rw [HDE.out]
    go_upto_if 140 with fail
    go_cut [20, 21] from 138 to 146 (fun lv rv wc => lv = .int .i64 ((symLo a m b : Nat) : Int) ∧ rv = .int .i64 ((symHi a m b : Nat) : Int) ∧ wc = w)
    case first =>
      as_aux_lemma =>
      by_cases hmd : d < m
      · have t3 : decide (d < m) = true := decide_eq_true hmd
        have t3i : decide ((d : Int) < (m : Int)) = true := decide_eq_true (by omega)
        have HL : Hid ((d : Int) + (m : Int) - (b : Int) = ((symLo a m b : Nat) : Int)) := Lib.hid (by unfold symLo; rw [HDD.out, if_pos hmd]; have := HDD.out; omega)
        have HH : Hid ((d : Int) = ((symHi a m b : Nat) : Int)) := Lib.hid (by unfold symHi; rw [HDD.out, if_pos hmd])
        have wl : IntKind.i64.wrap ((d : Int) + (m : Int) - (b : Int)) = (d : Int) + (m : Int) - (b : Int) := wrap_small _ (by omega) (by omega)
        go_wp2_with fail
        go_meet
        case rel => exact ⟨by rw [HL.out], by rw [← HH.out], rfl⟩
      · have t3 : decide (d < m) = false := decide_eq_false hmd
        have t3i : decide ((d : Int) < (m : Int)) = false := decide_eq_false (by omega)
        have HL : Hid (a = symLo a m b) := Lib.hid (by unfold symLo; rw [HDD.out, if_neg hmd])
        have HH : Hid (m = symHi a m b) := Lib.hid (by unfold symHi; rw [HDD.out, if_neg hmd])
        go_wp2_with fail
        go_meet
        case rel => exact ⟨by rw [← HL.out], by rw [← HH.out], rfl⟩
    case rest =>
      obtain ⟨rfl, rfl, rfl⟩ := hcut
      obtain ⟨w, rfl⟩ : ∃ w : World, w = wc := ⟨_, rfl⟩
      obtain ⟨lo, hlo⟩ : ∃ lo, symLo a m b = lo := ⟨_, rfl⟩
      obtain ⟨hi, hhi⟩ : ∃ hi, symHi a m b = hi := ⟨_, rfl⟩
      rw [hlo, hhi] at HLH ⊢
      have HLO0 := Lib.hid hlo
      have HHI0 := Lib.hid hhi
      obtain ⟨hl1, hl2, hl3⟩ := HLH.out
      have wp1 : IntKind.i64.wrap ((d : Int) + (m : Int) - 1) = (d : Int) + (m : Int) - 1 := wrap_small _ (by omega) (by omega)
      clear hlo hhi t1 t1i t2 t2i
      go_wp2_with fail
      go_loopw [20, 21, 23] (fun lv rv _ wr => ∃ s e : Nat, lv = .int .i64 s ∧ rv = .int .i64 e ∧ lo ≤ s ∧ s ≤ e ∧ e ≤ hi ∧ Hid (∀ c, lo ≤ c → c < s → restOf amount sum ws (at0 xs (d + m - 1 - c)) ≤ restOf amount sum ws (at0 xs c)) ∧ Hid (∀ c, e ≤ c → c < hi → restOf amount sum ws (at0 xs c) < restOf amount sum ws (at0 xs (d + m - 1 - c))) ∧ Hid (wr.ownsRow base 3 1 (.slice (some ⟨g, 0, none⟩) n c) n (ints xs)) ∧ Hid (w.grownBy wr (some g))) (fun lv rv _ _ => (intOf rv).toNat - (intOf lv).toNat)
      case atStart => exact ⟨lo, hi, rfl, rfl, Nat.le_refl _, hl2, Nat.le_refl _, Lib.hid (fun q h1 h2 => by omega), Lib.hid (fun q h1 h2 => by omega), HO, Lib.hid ⟨rfl, rfl, rfl, Nat.le_refl _, fun _ _ _ => rfl⟩⟩
      case round =>
        clear HO
        obtain ⟨s, e, rfl, rfl, hs1, hs2, hs3, HLO, HHI, HO, HG⟩ := hrel
        obtain ⟨wo, rfl⟩ : ∃ wo : World, wo = wr := ⟨_, rfl⟩
        have hxL := HXL.out
        by_cases hse : s < e
        · as_aux_lemma =>
          obtain ⟨h, hh⟩ : ∃ h, (s + e) / 2 = h := ⟨_, rfl⟩
          have hhb : s ≤ h ∧ h < e := by omega
          have HHE : Hid (((s : Int) + (e : Int)) / 2 = (h : Int)) := Lib.hid (by omega)
          have hsr := sym_rng ham hmb (c := h) (by rw [HLO0.out]; omega) (by rw [HHI0.out]; omega)
          rw [HDD.out] at hsr
          obtain ⟨u, hu⟩ : ∃ u, d + m - 1 - h = u := ⟨_, rfl⟩
          rw [hu] at hsr
          have hwu : IntKind.i64.wrap ((d : Int) + (m : Int) - 1 - (h : Int)) = (u : Int) := by rw [wrap_small _ (by omega) (by omega)]; omega
          obtain ⟨x1, e1, hx1⟩ := HNX.out (u) (by omega)
          obtain ⟨x2, e2, hx2⟩ := HNX.out (h) (by omega)
          have k1 : wo.cell? ⟨g, u, none⟩ = some (.int .i64 x1) := by rw [HO.out.cellAt (u) (by omega), intsAt (by omega), ← at0_eq (by omega), e1]
          have k2 : wo.cell? ⟨g, h, none⟩ = some (.int .i64 x2) := by rw [HO.out.cellAt (h) (by omega), intsAt (by omega), ← at0_eq (by omega), e2]
          obtain ⟨D, hD⟩ : ∃ D, restOf amount sum ws x2 - restOf amount sum ws x1 = D := ⟨_, rfl⟩
          obtain ⟨bb, hbb⟩ : ∃ bb, decide (D < 0) = bb := ⟨_, rfl⟩
          have HCW := Lib.hid (HC.out.grown HG.out HN.out.1 HN.out.2.1 HN.out.2.2.1 HN.out.2.2.2)
          have HDQ : Hid (restOf amount sum ws (at0 xs (h)) - restOf amount sum ws (at0 xs (u)) = D) := Lib.hid (by rw [e1, e2]; exact hD)
          have HD := Lib.hid hD
          have HBB := Lib.hid hbb
          clear e1 e2 hD hbb
          have hhn : h < n := by omega
          have hun : u < n := by omega
          have HU := Lib.hid hu
          clear hh hxL hu
          go_wp2_with fail
          rw [HHE.out]
          refine wp_region_seqW (.is ?_ :: .is ?_ :: .is ?_ :: .is ?_ :: .is ?_ :: .is ?_ :: .is ?_ :: .is ?_ :: .is ?_ :: .is ?_ :: .is ?_ :: .is (.int .i64 D) :: .is (.bool bb) :: .is (.bool (!bb)) :: []) rfl mix (by kernel_rfl) (by kernel_rfl) ?_
          rotate_left 11
          iterate 11
            refine seq_is rfl (fun u1 hb1 _ => ?_) ?_
            · have k1' := bAt hb1 k1
              have k2' := bAt hb1 k2
              simp [opOK, go_sem, k1', k2', hhn, hun, hwu, Below.refl]
              try exact rfl
            simp only [Act.put, List.setIfInBounds_toArray, List.set_cons_succ, List.set_cons_zero]
          refine seq_is rfl (fun u1 hb1 _ => ?_) ?_
          · refine opOK_call (f := 30) (args := #[.int .i64 x1, .int .i64 x2, .pointer (some ⟨pa, 0, none⟩), .pointer (some ⟨pw, 0, none⟩), .pointer (some ⟨ps, 0, none⟩)]) (by simp [go_sem]) ?_
            refine (share1_any amount sum ws sv pa pw ps x1 x2 u1 (HCW.out.below hb1) HB.out.1 HB.out.2.1 HB.out.2.2 hx1 hx2).mono ?_
            rintro e w2 ⟨rfl, hb2⟩
            exact ⟨_, rfl, by rw [HD.out], hb2⟩
          simp only [Act.put, List.setIfInBounds_toArray, List.set_cons_succ, List.set_cons_zero]
          refine seq_is rfl (fun u1 hb1 _ => ?_) ?_
          · simp [opOK, go_sem, HBB.out, Below.refl]
            try exact rfl
          simp only [Act.put, List.setIfInBounds_toArray, List.set_cons_succ, List.set_cons_zero]
          refine seq_is rfl (fun u1 hb1 _ => ?_) ?_
          · simp [opOK, go_sem, Below.refl]
            try exact rfl
          simp only [Act.put, List.setIfInBounds_toArray, List.set_cons_succ, List.set_cons_zero]
          refine seq_end fun w6 hb6 _ => ?_
          have HO6 := Lib.hid (ownsN_below HO.out hb6)
          have HG6 := Lib.hid (grownBy_trans HG.out (grownBy_below _ hb6))
          clear k1 k2 hb6
          cases bb
          · have hge : restOf amount sum ws (at0 xs u) ≤ restOf amount sum ws (at0 xs h) := by have := of_decide_eq_false HBB.out; have := HDQ.out; omega
            have HL2 : Hid (∀ c, lo ≤ c → c < h + 1 → restOf amount sum ws (at0 xs (d + m - 1 - c)) ≤ restOf amount sum ws (at0 xs c)) := Lib.hid fun q g1 g2 => by
              rcases Int.lt_or_le (restOf amount sum ws (at0 xs q)) (restOf amount sum ws (at0 xs (d + m - 1 - q))) with g | g
              · exfalso
                have := symP_mono HIN.out ham hmb (c := q) (d := h) (by rw [HLO0.out]; exact g1) (by omega) (by rw [HHI0.out]; omega) (by unfold symP; rw [HDD.out]; exact g)
                unfold symP at this
                rw [HDD.out, HU.out] at this
                omega
              · exact g
            clear hge
            go_wp2_with fail
            go_roundw
            case rel => exact ⟨h + 1, e, by go_num, rfl, by omega, by omega, hs3, HL2, HHI, HO6, HG6⟩
            case measure => simp [intOf]; omega
          · have hlt : restOf amount sum ws (at0 xs h) < restOf amount sum ws (at0 xs u) := by have := of_decide_eq_true HBB.out; have := HDQ.out; omega
            have HH2 : Hid (∀ c, h ≤ c → c < hi → restOf amount sum ws (at0 xs c) < restOf amount sum ws (at0 xs (d + m - 1 - c))) := Lib.hid fun q g1 g2 => by
              have := symP_mono HIN.out ham hmb (c := h) (d := q) (by rw [HLO0.out]; omega) g1 (by rw [HHI0.out]; omega) (by unfold symP; rw [HDD.out, HU.out]; exact hlt)
              unfold symP at this
              rw [HDD.out] at this
              exact this
            clear hlt
            go_wp2_with fail
            go_roundw
            case rel => exact ⟨s, h, rfl, rfl, hs1, by omega, by omega, HLO, HH2, HO6, HG6⟩
            case measure => simp [intOf]; omega
        · obtain rfl : s = e := by omega
          as_aux_lemma =>
          obtain ⟨E, hE⟩ : ∃ E, d + m - s = E := ⟨_, rfl⟩
          have hsd : s ≤ d ∧ m ≤ E ∧ E ≤ b ∧ d ≤ E := by
            have h1 := HLO0.out
            have h2 := HHI0.out
            unfold symLo at h1
            unfold symHi at h2
            rw [HDD.out] at h1 h2
            have h3 := HDD.out
            by_cases hmd : d < m
            · rw [if_pos hmd] at h1 h2; omega
            · rw [if_neg hmd] at h1 h2; omega
          have wE : IntKind.i64.wrap ((d : Int) + (m : Int) - (s : Int)) = (E : Int) := by rw [wrap_small _ (by omega) (by omega)]; omega
          have HE := Lib.hid hE
          clear hE
          go_upto_region 39 with fail
          go_cut [185] from 178 to 184 (fun cv wx => ∃ br : Bool, cv = .bool br ∧ Hid (br = true ↔ (s < m ∧ m < E)) ∧ wx = wo)
          case first =>
            as_aux_lemma =>
            by_cases g1 : s < m
            · have q1 : decide (s < m) = true := decide_eq_true g1
              have q1i : decide ((s : Int) < (m : Int)) = true := decide_eq_true (by omega)
              by_cases g2 : m < E
              · have q2 : decide (m < E) = true := decide_eq_true g2
                have q2i : decide ((m : Int) < (E : Int)) = true := decide_eq_true (by omega)
                go_wp2_with fail
                go_meet
                case rel => exact ⟨true, rfl, Lib.hid ⟨fun _ => ⟨g1, g2⟩, fun _ => rfl⟩, rfl⟩
              · have q2 : decide (m < E) = false := decide_eq_false g2
                have q2i : decide ((m : Int) < (E : Int)) = false := decide_eq_false (by omega)
                go_wp2_with fail
                go_meet
                case rel => exact ⟨false, rfl, Lib.hid ⟨fun h => (by cases h), fun h => absurd h.2 g2⟩, rfl⟩
            · have q1 : decide (s < m) = false := decide_eq_false g1
              have q1i : decide ((s : Int) < (m : Int)) = false := decide_eq_false (by omega)
              go_wp2_with fail
              go_meet
              case rel => exact ⟨false, rfl, Lib.hid ⟨fun h => (by cases h), fun h => absurd h.1 g1⟩, rfl⟩
          case rest =>
            obtain ⟨br, rfl, HBR, rfl⟩ := hcut
            obtain ⟨wo, rfl⟩ : ∃ wo : World, wo = wc := ⟨_, rfl⟩
            go_upto_if 185 with fail
            go_cut [185] from 186 to 191 (fun _ wx => ∃ zs : List Int, Hid (wx.ownsRow base 3 1 (.slice (some ⟨g, 0, none⟩) n c) n (ints zs)) ∧ Hid (w.grownBy wx (some g)) ∧ Hid (RotOk xs s m E zs))
            case first =>
              as_aux_lemma =>
              cases br with
              | true =>
                have hb2 := HBR.out.1 rfl
                go_wp2_with fail
                refine (rotate_any _ g c n base xs s m E wo HO.out (by omega) hb2.1 hb2.2 (by omega)).mono ?_
                rintro e w1 ⟨rfl, zs, ho1, hg1, hr1⟩
                have HO1 := Lib.hid ho1
                have HG1 := Lib.hid (grownBy_trans HG.out hg1)
                have HR1 := Lib.hid hr1
                clear ho1 hg1 hr1
                go_wp2_with fail
                go_meet
                case rel => exact ⟨zs, HO1, HG1, HR1⟩
              | false =>
                have hb2 : s = m ∨ m = E := by
                  rcases Nat.lt_or_ge s m with g1 | g1
                  · rcases Nat.lt_or_ge m E with g2 | g2
                    · have := HBR.out.2 ⟨g1, g2⟩; cases this
                    · exact .inr (by omega)
                  · exact .inl (by omega)
                have HR1 := Lib.hid (RotOk.refl (xs := xs) (a := s) (m := m) (b := E) hb2 (by omega) (by omega))
                clear hb2
                go_wp2_with fail
                go_meet
                case rel => exact ⟨xs, HO, HG, HR1⟩
            case rest =>
              obtain ⟨zs, HOz, HGz, HRz⟩ := hcut
              obtain ⟨wz, rfl⟩ : ∃ wz : World, wz = wc := ⟨_, rfl⟩
              clear HO HG
              have hsp := HIN.out.split (zs := zs) (s := s) (by omega) ham hmb (by rw [HLO0.out, HHI0.out]; omega) (fun q g1 g2 => by
                rw [HLO0.out] at g1
                have := HLO.out q g1 g2
                unfold symP; rw [HDD.out]; omega) (fun q g1 g2 => by
                rw [HHI0.out] at g2
                have := HHI.out q g1 g2
                unfold symP; rw [HDD.out]; exact this) (by rw [HDD.out, HE.out]; exact HRz.out)
              rw [HDD.out, HE.out] at hsp
              obtain ⟨-, hin1, hin2, hx, hmem⟩ := hsp
              have HI1 := Lib.hid hin1
              have HI2 := Lib.hid hin2
              have HX := Lib.hid hx
              have HMEM := Lib.hid hmem
              have HIXz : Hid (∀ x ∈ zs, 0 ≤ x ∧ x < ws.length) := Lib.hid fun x hx => HIX.out x (HRz.out.perm.mem_iff.1 hx)
              clear hin1 hin2 hx hmem
              go_upto_region 41 with fail
              go_cut [199] from 192 to 198 (fun cv wx => ∃ br : Bool, cv = .bool br ∧ Hid (br = true ↔ (a < s ∧ s < d)) ∧ wx = wz)
              case first =>
                as_aux_lemma =>
                by_cases g1 : a < s
                · have q1 : decide (a < s) = true := decide_eq_true g1
                  have q1i : decide ((a : Int) < (s : Int)) = true := decide_eq_true (by omega)
                  by_cases g2 : s < d
                  · have q2 : decide (s < d) = true := decide_eq_true g2
                    have q2i : decide ((s : Int) < (d : Int)) = true := decide_eq_true (by omega)
                    go_wp2_with fail
                    go_meet
                    case rel => exact ⟨true, rfl, Lib.hid ⟨fun _ => ⟨g1, g2⟩, fun _ => rfl⟩, rfl⟩
                  · have q2 : decide (s < d) = false := decide_eq_false g2
                    have q2i : decide ((s : Int) < (d : Int)) = false := decide_eq_false (by omega)
                    go_wp2_with fail
                    go_meet
                    case rel => exact ⟨false, rfl, Lib.hid ⟨fun h => (by cases h), fun h => absurd h.2 g2⟩, rfl⟩
                · have q1 : decide (a < s) = false := decide_eq_false g1
                  have q1i : decide ((a : Int) < (s : Int)) = false := decide_eq_false (by omega)
                  go_wp2_with fail
                  go_meet
                  case rel => exact ⟨false, rfl, Lib.hid ⟨fun h => (by cases h), fun h => absurd h.1 g1⟩, rfl⟩
              case rest =>
                obtain ⟨br2, rfl, HBR2, rfl⟩ := hcut
                obtain ⟨wz, rfl⟩ : ∃ wz : World, wz = wc := ⟨_, rfl⟩
                go_upto_if 199 with fail
                go_cut [199] from 200 to 205 (fun _ wx => ∃ us : List Int, Hid (wx.ownsRow base 3 1 (.slice (some ⟨g, 0, none⟩) n c) n (ints us)) ∧ Hid (w.grownBy wx (some g)) ∧ Hid (MrgOut (restOf amount sum ws) zs a d us))
                case first =>
                  as_aux_lemma =>
                  cases br2 with
                  | true =>
                    have hb2 := HBR2.out.1 rfl
                    go_wp2_with fail
                    refine (HIH.out zs a s d wz (by omega) HOz.out (HC.out.grown HGz.out HN.out.1 HN.out.2.1 HN.out.2.2.1 HN.out.2.2.2) HIXz.out hb2.1 hb2.2 (by omega) HI1.out).mono ?_
                    rintro e w1 ⟨rfl, us, ho1, hg1, hr1⟩
                    have HO1 := Lib.hid ho1
                    have HG1 := Lib.hid (grownBy_trans HGz.out hg1)
                    have HR1 := Lib.hid hr1
                    clear ho1 hg1 hr1
                    go_wp2_with fail
                    go_meet
                    case rel => exact ⟨us, HO1, HG1, HR1⟩
                  | false =>
                    have hb2 : s = a ∨ s = d := by
                      rcases Nat.lt_or_ge a s with g1 | g1
                      · rcases Nat.lt_or_ge s d with g2 | g2
                        · have := HBR2.out.2 ⟨g1, g2⟩; cases this
                        · exact .inr (by omega)
                      · exact .inl (by omega)
                    have HR1 := Lib.hid (MrgOut.refl HI1.out hb2)
                    clear hb2
                    go_wp2_with fail
                    go_meet
                    case rel => exact ⟨zs, HOz, HGz, HR1⟩
                case rest =>
                  obtain ⟨us, HOu, HGu, HRu⟩ := hcut
                  obtain ⟨wu, rfl⟩ : ∃ wu : World, wu = wc := ⟨_, rfl⟩
                  clear HOz HGz
                  have HI3 := Lib.hid (HI2.out.congr (zs := us) ⟨by omega, by omega⟩ fun q g1 g2 => HRu.out.out q (.inr g1))
                  have HIXu : Hid (∀ x ∈ us, 0 ≤ x ∧ x < ws.length) := Lib.hid fun x hx => HIXz.out x (HRu.out.perm.mem_iff.1 hx)
                  have HFIN : Hid (∀ vs, MrgOut (restOf amount sum ws) us d b vs → MrgOut (restOf amount sum ws) xs a b vs) := Lib.hid fun vs hv => MrgOut.both (by omega) (by omega) HRz.out.len (fun q hq => HRz.out.out (by omega) (by omega) (by omega)) HMEM.out HRz.out.perm HX.out HRu.out hv
                  by_cases hf : d < E ∧ E < b
                  · as_aux_lemma =>
                    obtain ⟨g1, g2⟩ := hf
                    have q1 : decide (d < E) = true := decide_eq_true g1
                    have q1i : decide ((d : Int) < (E : Int)) = true := decide_eq_true (by omega)
                    have q2 : decide (E < b) = true := decide_eq_true g2
                    have q2i : decide ((E : Int) < (b : Int)) = true := decide_eq_true (by omega)
                    go_wp2_with fail
                    refine (HIH.out us d E b wu (by omega) HOu.out (HC.out.grown HGu.out HN.out.1 HN.out.2.1 HN.out.2.2.1 HN.out.2.2.2) HIXu.out g1 g2 (by omega) HI3.out).mono ?_
                    rintro e w1 ⟨rfl, vs, ho1, hg1, hr1⟩
                    have hfin := HFIN.out vs hr1
                    have hG := grownBy_trans HGu.out hg1
                    clear hr1 hg1 q1 q1i q2 q2i
                    go_wp2
                    go_returns
                    exact ⟨rfl, vs, ho1, hG, hfin⟩
                  · have hb2 : E = d ∨ E = b := by omega
                    have hfin := HFIN.out us (MrgOut.refl HI3.out hb2)
                    have HF := Lib.hid hfin
                    clear hfin hb2
                    by_cases g1 : d < E
                    · have q1 : decide (d < E) = true := decide_eq_true g1
                      have q1i : decide ((d : Int) < (E : Int)) = true := decide_eq_true (by omega)
                      have q2 : decide (E < b) = false := decide_eq_false (by omega)
                      have q2i : decide ((E : Int) < (b : Int)) = false := decide_eq_false (by omega)
                      clear hf
                      go_wp2
                      go_returns
                      exact ⟨rfl, us, HOu.out, HGu.out, HF.out⟩
                    · have q1 : decide (d < E) = false := decide_eq_false g1
                      have q1i : decide ((d : Int) < (E : Int)) = false := decide_eq_false (by omega)
                      clear hf
                      go_wp2
                      go_returns
                      exact ⟨rfl, us, HOu.out, HGu.out, HF.out⟩
end Go.Proofs.Ytagfcodpgochjaa
