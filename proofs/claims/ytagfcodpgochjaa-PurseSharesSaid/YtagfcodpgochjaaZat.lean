/- The texts YE, YF, FreeV, in build order. -/
import Derived.Test.YtagfcodpgochjaaZas

/- Chapter 12, the stable sort of at most 60. -/
namespace Go.Proofs.Ytagfcodpgochjaa
open Go.RowKit Go.Oche Go.Proofs

/-- Blocks of B are in order; each has its own. -/
structure Bks (r : Int → Int) (xs : List Int) (n B : Nat) (ys : List Int) : Prop where
  len : ys.length = xs.length
  perm : ys.Perm xs
  seg : ∀ p q, p < q → q < n → p / B = q / B → befo r (at0 ys p) (at0 ys q)
  mem : ∀ q, q < n → ∃ p, p < n ∧ p / B = q / B ∧ at0 ys q = at0 xs p
/-- .. the first t blocks of 20. -/
structure InsS (r : Int → Int) (xs : List Int) (n t : Nat) (ys : List Int) : Prop where
  len : ys.length = xs.length
  perm : ys.Perm xs
  out : ∀ q, 20 * t ≤ q → at0 ys q = at0 xs q
  seg : ∀ p q, p < q → q < 20 * t → p / 20 = q / 20 → befo r (at0 ys p) (at0 ys q)
  mem : ∀ q, q < n → ∃ p, p < n ∧ p / 20 = q / 20 ∧ at0 ys q = at0 xs p
theorem asc_nodup {xs : List Int} {n : Nat} (hl : xs.length = n) (h : ∀ p q, p < q → q < n → at0 xs p < at0 xs q) : xs.Nodup := by
  refine List.pairwise_iff_getElem.2 fun p q h1 h2 h3 => ?_
  have := h p q h3 (by omega)
  rw [at0_eq h1, at0_eq h2] at this
  omega
theorem seg_mem {ys zs : List Int} {a b : Nat} (hnd : zs.Nodup) (hp : zs.Perm ys) (ho : ∀ q, q < a ∨ b ≤ q → at0 zs q = at0 ys q) {q : Nat} (h1 : a ≤ q) (h2 : q < b) (hq : q < zs.length) : ∃ p, a ≤ p ∧ p < b ∧ p < ys.length ∧ at0 zs q = at0 ys p := by
  have hm : zs[q] ∈ ys := hp.mem_iff.1 (List.getElem_mem hq)
  obtain ⟨p, hp1, e⟩ := List.mem_iff_getElem.1 hm
  have hpl : p < zs.length := by rw [hp.length_eq]; exact hp1
  by_cases hin : a ≤ p ∧ p < b
  · exact ⟨p, hin.1, hin.2, hp1, by rw [at0_eq hq, at0_eq hp1, e]⟩
  · exfalso
    have e2 := ho p (by omega)
    rw [at0_eq hpl, at0_eq hp1, e] at e2
    rcases Nat.lt_trichotomy p q with g | g | g
    · exact List.pairwise_iff_getElem.1 hnd p q hpl hq g e2
    · omega
    · exact List.pairwise_iff_getElem.1 hnd q p hq hpl g e2.symm
theorem InsS.start {r : Int → Int} {xs : List Int} {n : Nat} : InsS r xs n 0 xs :=
  ⟨rfl, List.Perm.refl _, fun _ _ => rfl, fun p q h1 h2 => by omega, fun q h => ⟨q, h, rfl, rfl⟩⟩
theorem InsS.step {r : Int → Int} {xs ys zs : List Int} {n t : Nat} (h : InsS r xs n t ys) (hl : xs.length = n) (hnd : xs.Nodup) (hb : 20 * (t + 1) ≤ n) (hs : SegOk r ys (20 * t) (20 * (t + 1)) (max (20 * t + 1) (20 * (t + 1))) zs) : InsS r xs n (t + 1) zs := by
  rw [show max (20 * t + 1) (20 * (t + 1)) = 20 * (t + 1) by omega] at hs
  refine ⟨hs.len.trans h.len, hs.perm.trans h.perm, fun q hq => ?_, fun p q h1 h2 h3 => ?_, fun q hq => ?_⟩
  · rw [hs.out q (.inr hq), h.out q (by omega)]
  · rcases Nat.lt_or_ge p (20 * t) with g | g
    · have : q < 20 * t := by omega
      rw [hs.out p (.inl g), hs.out q (.inl this)]
      exact h.seg p q h1 this h3
    · exact hs.ord p q g h1 h2
  · by_cases g : 20 * t ≤ q ∧ q < 20 * (t + 1)
    · obtain ⟨p, p1, p2, p3, e⟩ := seg_mem ((hs.perm.trans h.perm).nodup_iff.2 hnd) hs.perm hs.out g.1 g.2 (by rw [hs.len, h.len]; omega)
      obtain ⟨o, o1, o2, e'⟩ := h.mem p (by omega)
      exact ⟨o, o1, by omega, by rw [e, e']⟩
    · rw [hs.out q (by omega)]; exact h.mem q hq
theorem InsS.last {r : Int → Int} {xs ys zs : List Int} {n t : Nat} (h : InsS r xs n t ys) (hl : xs.length = n) (hnd : xs.Nodup) (h1 : 20 * t ≤ n) (h2 : n < 20 * (t + 1)) (hs : SegOk r ys (20 * t) n (max (20 * t + 1) n) zs) : Bks r xs n 20 zs := by
  refine ⟨hs.len.trans h.len, hs.perm.trans h.perm, fun p q g1 g2 g3 => ?_, fun q hq => ?_⟩
  · rcases Nat.lt_or_ge p (20 * t) with g | g
    · have : q < 20 * t := by omega
      rw [hs.out p (.inl g), hs.out q (.inl this)]
      exact h.seg p q g1 this g3
    · exact hs.ord p q g g1 (by omega)
  · by_cases g : 20 * t ≤ q
    · have ho : ∀ q, q < 20 * t ∨ n ≤ q → at0 zs q = at0 ys q := fun q hq => by
        rcases Nat.lt_or_ge q (max (20 * t + 1) n) with e | e
        · rcases hq with e2 | e2
          · exact hs.out q (.inl e2)
          · rw [at0_out (by rw [hs.len, h.len, hl]; exact e2), at0_out (by rw [h.len, hl]; exact e2)]
        · exact hs.out q (.inr e)
      obtain ⟨p, p1, p2, p3, e⟩ := seg_mem ((hs.perm.trans h.perm).nodup_iff.2 hnd) hs.perm ho g hq (by rw [hs.len, h.len]; omega)
      obtain ⟨o, o1, o2, e'⟩ := h.mem p (by omega)
      exact ⟨o, o1, by omega, by rw [e, e']⟩
    · rw [hs.out q (by omega)]; exact h.mem q hq
theorem Bks.all {r : Int → Int} {xs ys : List Int} {n B : Nat} (h : Bks r xs n B ys) (hl : xs.length = n) (hB : ∀ p, p < n → p / B = 0) : AllOk r xs ys :=
  ⟨h.len, fun p q h1 h2 => h.seg p q h1 (by omega) (by rw [hB p (by omega), hB q (by omega)]), h.perm⟩
theorem Bks.low {r : Int → Int} {xs ys : List Int} {n B : Nat} (h : Bks r xs n B ys) (hasc : ∀ p q, p < q → q < n → at0 xs p < at0 xs q) {p q : Nat} (hp : p < n) (hq : q < n) (hd : ∀ o o', o / B = p / B → o' / B = q / B → o < o') : at0 ys p < at0 ys q := by
  obtain ⟨o, o1, o2, e⟩ := h.mem p hp
  obtain ⟨o', o1', o2', e'⟩ := h.mem q hq
  rw [e, e']
  exact hasc o o' (hd o o' o2 o2') o1'
/-- The first two blocks of 20 to be merged. -/
theorem Bks.in20 {r : Int → Int} {xs ys : List Int} {n b : Nat} (h : Bks r xs n 20 ys) (hasc : ∀ p q, p < q → q < n → at0 xs p < at0 xs q) (hb : b ≤ 40) (hbn : b ≤ n) (h20 : 20 ≤ b) : MrgIn r ys 0 20 b :=
  ⟨fun p q _ h2 h3 => h.seg p q h2 (by omega) (by omega), fun p q _ h2 h3 => h.seg p q h2 (by omega) (by omega), fun p q _ h2 h3 h4 => h.low hasc (by omega) (by omega) fun o o' e e' => by omega⟩
theorem Bks.to40 {r : Int → Int} {xs ys zs : List Int} {n b : Nat} (h : Bks r xs n 20 ys) (hn : n ≤ 60) (hb : b = min 40 n) (hm : MrgOut r ys 0 b zs) : Bks r xs n 40 zs := by
  refine ⟨hm.len.trans h.len, hm.perm.trans h.perm, fun p q h1 h2 h3 => ?_, fun q hq => ?_⟩
  · rcases Nat.lt_or_ge q b with g | g
    · exact hm.ord p q (Nat.zero_le _) h1 g
    · rw [hm.out p (.inr (by omega)), hm.out q (.inr g)]
      exact h.seg p q h1 h2 (by omega)
  · rcases Nat.lt_or_ge q b with g | g
    · obtain ⟨p, _, p2, e⟩ := hm.mem q (Nat.zero_le _) g
      obtain ⟨o, o1, o2, e'⟩ := h.mem p (by omega)
      exact ⟨o, o1, by omega, by rw [e, e']⟩
    · rw [hm.out q (.inr g)]
      obtain ⟨o, o1, o2, e'⟩ := h.mem q hq
      exact ⟨o, o1, by omega, e'⟩
theorem Bks.in40 {r : Int → Int} {xs ys : List Int} {n : Nat} (h : Bks r xs n 40 ys) (hasc : ∀ p q, p < q → q < n → at0 xs p < at0 xs q) (hn : n ≤ 60) (h40 : 40 ≤ n) : MrgIn r ys 0 40 n :=
  ⟨fun p q _ h2 h3 => h.seg p q h2 (by omega) (by omega), fun p q _ h2 h3 => h.seg p q h2 (by omega) (by omega), fun p q _ h2 h3 h4 => h.low hasc (by omega) (by omega) fun o o' e e' => by omega⟩
theorem Bks.to80 {r : Int → Int} {xs ys zs : List Int} {n : Nat} (h : Bks r xs n 40 ys) (hn : n ≤ 60) (hm : MrgOut r ys 0 n zs) : Bks r xs n 80 zs := by
  refine ⟨hm.len.trans h.len, hm.perm.trans h.perm, fun p q h1 h2 _ => hm.ord p q (Nat.zero_le _) h1 h2, fun q hq => ?_⟩
  obtain ⟨p, _, p2, e⟩ := hm.mem q (Nat.zero_le _) hq
  obtain ⟨o, o1, o2, e'⟩ := h.mem p p2
  exact ⟨o, o1, by omega, by rw [e, e']⟩
set_option maxRecDepth 100000 in
set_option maxHeartbeats 8000000 in
theorem stable60_any {S : Nat → Prop} (amount sum : Int) (ws : List Int) (sv : Value) (pa pw ps g c n base : Nat) (xs : List Int) (w : World) (ho : w.ownsRow base 3 1 (.slice (some ⟨g, 0, none⟩) n c) n (ints xs)) (hc : CmpAt w pa pw ps amount sum ws sv S)
    (h1 : pa ≠ g) (h2 : pw ≠ g) (h3 : ps ≠ g) (h4 : ∀ k, S k → k ≠ g) (hn0 : 1 ≤ n) (hn : n ≤ 60) (hix : ∀ x ∈ xs, 0 ≤ x ∧ x < ws.length) (hasc : ∀ p q, p < q → q < n → at0 xs p < at0 xs q)
    (ha : 0 ≤ amount ∧ amount ≤ 1000000000) (hw : ∀ x ∈ ws, 0 ≤ x ∧ x ≤ 10000) (hs : 0 < sum ∧ sum ≤ 1000000) :
    Calls Try.prog 59 #[.slice (some ⟨g, 0, none⟩) n c, .int .i64 n, .func (.func 30) #[] #[.pointer (some ⟨pa, 0, none⟩), .pointer (some ⟨pw, 0, none⟩), .pointer (some ⟨ps, 0, none⟩)]] w fun e w' =>
      e = .returned (.tuple #[]) ∧ ∃ ys, w'.ownsRow base 3 1 (.slice (some ⟨g, 0, none⟩) n c) n (ints ys) ∧ w.grownBy w' (some g) ∧ AllOk (restOf amount sum ws) xs ys := by
  have hxl := owns_len ho
  simp only [ints_length] at hxl
  have HND := Lib.hid (asc_nodup hxl hasc)
  have HSYM := Lib.hid (fun K ys a m b w => symMerge_any amount sum ws sv pa pw ps g c n base h1 h2 h3 h4 (by omega) ha hw hs K ys a m b w)
  have HO := Lib.hid ho
  have HC := Lib.hid hc
  have HIX := Lib.hid hix
  have HA := Lib.hid hasc
  have HB := Lib.hid (And.intro ha (And.intro hw hs))
  have HN := Lib.hid (And.intro h1 (And.intro h2 (And.intro h3 h4)))
  have HXL := Lib.hid hxl
  clear ho hc hix hasc ha hw hs h1 h2 h3 h4 hxl
  go_enter Try.func59, Try.ntmps59
  go_wp2_with fail
  go_loopw [7, 8] (fun av bv wr => ∃ (t : Nat) (ys : List Int), av = .int .i64 ((20 * t : Nat) : Int) ∧ bv = .int .i64 ((20 * (t + 1) : Nat) : Int) ∧ 20 * t ≤ n ∧ Hid (InsS (restOf amount sum ws) xs n t ys) ∧ Hid (wr.ownsRow base 3 1 (.slice (some ⟨g, 0, none⟩) n c) n (ints ys)) ∧ Hid (w.grownBy wr (some g))) (fun _ bv _ => 1000 - (intOf bv).toNat)
  case atStart => exact ⟨0, xs, rfl, rfl, by omega, Lib.hid InsS.start, HO, Lib.hid ⟨rfl, rfl, rfl, Nat.le_refl _, fun _ _ _ => rfl⟩⟩
  case round =>
    clear HO
    obtain ⟨t, ys, rfl, rfl, ht, HS, HO, HG⟩ := hrel
    obtain ⟨wo, rfl⟩ : ∃ wo : World, wo = wr := ⟨_, rfl⟩
    have HCW := Lib.hid (HC.out.grown HG.out HN.out.1 HN.out.2.1 HN.out.2.2.1 HN.out.2.2.2)
    obtain ⟨A, hA⟩ : ∃ A, 20 * t = A := ⟨_, rfl⟩
    obtain ⟨B, hB⟩ : ∃ B, 20 * (t + 1) = B := ⟨_, rfl⟩
    have hyl : ys.length = n := by rw [HS.out.len]; exact HXL.out
    have HAE := Lib.hid hA
    have HBE := Lib.hid hB
    rw [hA, hB]
    have hAB : B = A + 20 := by omega
    have hAn : A ≤ n := by omega
    have HAB := Lib.hid hAB
    have HIXy : Hid (∀ x ∈ ys, 0 ≤ x ∧ x < ws.length) := Lib.hid fun x hx => HIX.out x (HS.out.perm.mem_iff.1 hx)
    have HASC : Hid (∀ p q, A ≤ p → p < q → q < n → at0 ys p < at0 ys q) := Lib.hid fun p q g1 g2 g3 => by
      rw [HS.out.out p (by rw [hA]; exact g1), HS.out.out q (by rw [hA]; omega)]
      exact HA.out p q g2 g3
    clear hA hB hyl ht hAB
    by_cases hbn : B ≤ n
    · as_aux_lemma =>
      have d1 : decide (B ≤ n) = true := decide_eq_true hbn
      have d1i : decide ((B : Int) ≤ (n : Int)) = true := decide_eq_true (by omega)
      have hw2 : IntKind.i64.wrap ((B : Int) + 20) = (B : Int) + 20 := wrap_small _ (by omega) (by omega)
      go_wp2_with fail
      refine (insI_any amount sum ws sv pa pw ps g c n base ys A B wo HO.out HCW.out HN.out.1 HN.out.2.1 HN.out.2.2.1 HN.out.2.2.2 (by have := HAB.out; omega) hbn (by omega) HIXy.out (fun p q g0 g1 g2 => HASC.out p q g0 g1 (by omega)) HB.out.1 HB.out.2.1 HB.out.2.2).mono ?_
      rintro e w1 ⟨rfl, zs, ho1, hg1, hs1⟩
      have HO1 := Lib.hid ho1
      have HG1 := Lib.hid (grownBy_trans HG.out hg1)
      have HS1 : Hid (InsS (restOf amount sum ws) xs n (t + 1) zs) := Lib.hid (HS.out.step HXL.out HND.out (by rw [HBE.out]; exact hbn) (by rw [HAE.out, HBE.out]; exact hs1))
      clear ho1 hg1 hs1 d1 d1i
      go_wp2_with fail
      go_roundw
      case rel => exact ⟨t + 1, zs, by rw [HBE.out], by congr 1; have := HBE.out; omega, by rw [HBE.out]; exact hbn, HS1, HO1, HG1⟩
      case measure => simp [intOf]; omega
    · as_aux_lemma =>
      have d1 : decide (B ≤ n) = false := decide_eq_false hbn
      have d1i : decide ((B : Int) ≤ (n : Int)) = false := decide_eq_false (by omega)
      go_wp2_with fail
      refine (insI_any amount sum ws sv pa pw ps g c n base ys A n wo HO.out HCW.out HN.out.1 HN.out.2.1 HN.out.2.2.1 HN.out.2.2.2 hAn (Nat.le_refl _) (by omega) HIXy.out (fun p q g0 g1 g2 => HASC.out p q g0 g1 g2) HB.out.1 HB.out.2.1 HB.out.2.2).mono ?_
      rintro e w1 ⟨rfl, zs, ho1, hg1, hs1⟩
      have HO1 := Lib.hid ho1
      have HG1 := Lib.hid (grownBy_trans HG.out hg1)
      have HS1 : Hid (Bks (restOf amount sum ws) xs n 20 zs) := Lib.hid (HS.out.last HXL.out HND.out (by rw [HAE.out]; exact hAn) (by rw [HBE.out]; omega) (by rw [HAE.out]; exact hs1))
      clear ho1 hg1 hs1 d1 d1i HO HG HS HASC HIXy HCW HAE HBE HAB hAn hbn
      go_wp2_with fail
      go_loopw [6, 7, 8, 9] (fun sv _ _ _ wr => ∃ (Z : Nat) (ys : List Int), sv = .int .i64 (Z : Int) ∧ Hid (wr.ownsRow base 3 1 (.slice (some ⟨g, 0, none⟩) n c) n (ints ys)) ∧ Hid (w.grownBy wr (some g)) ∧ Hid (Bks (restOf amount sum ws) xs n Z ys) ∧ Hid (Z = 20 ∨ (Z = 40 ∧ 20 < n) ∨ (Z = 80 ∧ 40 < n))) (fun sv _ _ _ _ => 1000 - (intOf sv).toNat)
      case atStart => exact ⟨20, zs, rfl, HO1, HG1, HS1, Lib.hid (.inl rfl)⟩
      case round =>
        clear HO1 HG1 HS1
        obtain ⟨Z, ys, rfl, HO, HG, HS, HZ⟩ := hrel
        obtain ⟨wo, rfl⟩ : ∃ wo : World, wo = wr := ⟨_, rfl⟩
        have HIXy : Hid (∀ x ∈ ys, 0 ≤ x ∧ x < ws.length) := Lib.hid fun x hx => HIX.out x (HS.out.perm.mem_iff.1 hx)
        have HCW := Lib.hid (HC.out.grown HG.out HN.out.1 HN.out.2.1 HN.out.2.2.1 HN.out.2.2.2)
        rcases HZ.out with rfl | ⟨rfl, h20⟩ | ⟨rfl, h40⟩
        · as_aux_lemma =>
          by_cases h20 : 20 < n
          · have d1 : decide (20 < n) = true := decide_eq_true h20
            have d1i : decide ((20 : Int) < (n : Int)) = true := decide_eq_true (by omega)
            go_wp2_with fail
            go_loopw [7, 8] (fun av bv wr => ∃ (A : Nat) (zs : List Int), av = .int .i64 (A : Int) ∧ bv = .int .i64 ((A + 40 : Nat) : Int) ∧ Hid (wr.ownsRow base 3 1 (.slice (some ⟨g, 0, none⟩) n c) n (ints zs)) ∧ Hid (w.grownBy wr (some g)) ∧ Hid ((A = 0 ∧ zs = ys) ∨ (A = 40 ∧ 40 ≤ n ∧ Bks (restOf amount sum ws) xs n 40 zs))) (fun _ bv _ => 1000 - (intOf bv).toNat)
            case atStart => exact ⟨0, ys, rfl, rfl, HO, HG, Lib.hid (.inl ⟨rfl, rfl⟩)⟩
            case round =>
              clear HO HG
              obtain ⟨A, zs, rfl, rfl, HO, HG, HR⟩ := hrel
              obtain ⟨wi, rfl⟩ : ∃ wi : World, wi = wr := ⟨_, rfl⟩
              have HCI := Lib.hid (HC.out.grown HG.out HN.out.1 HN.out.2.1 HN.out.2.2.1 HN.out.2.2.2)
              rcases HR.out with ⟨rfl, hzy⟩ | ⟨rfl, h40, hbk⟩
              · subst hzy
                by_cases h40 : 40 ≤ n
                · have d2 : decide (40 ≤ n) = true := decide_eq_true h40
                  have d2i : decide ((40 : Int) ≤ (n : Int)) = true := decide_eq_true (by omega)
                  go_wp2_with fail
                  refine (HSYM.out 100 zs 0 20 40 wi (by omega) HO.out HCI.out HIXy.out (by omega) (by omega) h40 (HS.out.in20 HA.out (by omega) h40 (by omega))).mono ?_
                  rintro e w1 ⟨rfl, us, ho1, hg1, hs1⟩
                  have HO1 := Lib.hid ho1
                  have HG1 := Lib.hid (grownBy_trans HG.out hg1)
                  have HB1 := Lib.hid (HS.out.to40 hn (by omega) hs1)
                  clear ho1 hg1 hs1 d2 d2i
                  go_wp2_with fail
                  go_roundw
                  case rel => exact ⟨40, us, rfl, rfl, HO1, HG1, Lib.hid (.inr ⟨rfl, h40, HB1.out⟩)⟩
                  case measure => simp [intOf]
                · have d2 : decide (40 ≤ n) = false := decide_eq_false h40
                  have d2i : decide ((40 : Int) ≤ (n : Int)) = false := decide_eq_false (by omega)
                  go_wp2_with fail
                  refine (HSYM.out 100 zs 0 20 n wi (by omega) HO.out HCI.out HIXy.out (by omega) h20 (Nat.le_refl _) (HS.out.in20 HA.out (by omega) (Nat.le_refl _) (by omega))).mono ?_
                  rintro e w1 ⟨rfl, us, ho1, hg1, hs1⟩
                  have HO1 := Lib.hid ho1
                  have HG1 := Lib.hid (grownBy_trans HG.out hg1)
                  have HB1 := Lib.hid (HS.out.to40 hn (by omega) hs1)
                  clear ho1 hg1 hs1 d2 d2i
                  go_wp2_with fail
                  go_roundw
                  case rel => exact ⟨40, us, rfl, HO1, HG1, HB1, Lib.hid (.inr (.inl ⟨rfl, h20⟩))⟩
                  case measure => simp [intOf]
              · have HB1 := Lib.hid hbk
                have d2 : decide (80 ≤ n) = false := decide_eq_false (by omega)
                have d2i : decide ((80 : Int) ≤ (n : Int)) = false := decide_eq_false (by omega)
                have d3 : decide (60 < n) = false := decide_eq_false (by omega)
                have d3i : decide ((60 : Int) < (n : Int)) = false := decide_eq_false (by omega)
                clear hbk
                go_wp2_with fail
                go_roundw
                case rel => exact ⟨40, zs, rfl, HO, HG, HB1, Lib.hid (.inr (.inl ⟨rfl, h20⟩))⟩
                case measure => simp [intOf]
          · have d1 : decide (20 < n) = false := decide_eq_false h20
            have d1i : decide ((20 : Int) < (n : Int)) = false := decide_eq_false (by omega)
            have hfin := HS.out.all HXL.out fun p hp => by omega
            go_wp2
            go_returns
            exact ⟨rfl, ys, HO.out, HG.out, hfin⟩
        · as_aux_lemma =>
          by_cases h40 : 40 < n
          · have d1 : decide (40 < n) = true := decide_eq_true h40
            have d1i : decide ((40 : Int) < (n : Int)) = true := decide_eq_true (by omega)
            have d2 : decide (80 ≤ n) = false := decide_eq_false (by omega)
            have d2i : decide ((80 : Int) ≤ (n : Int)) = false := decide_eq_false (by omega)
            go_wp2_with fail
            go_loopw [7, 8] (fun av bv wr => av = .int .i64 0 ∧ bv = .int .i64 80 ∧ Hid (wr = wo)) (fun _ _ _ => 0)
            case atStart => exact ⟨rfl, rfl, Lib.hid rfl⟩
            case round =>
              obtain ⟨rfl, rfl, HW⟩ := hrel
              have hw := HW.out
              subst hw
              clear HW
              go_wp2_with fail
              refine (HSYM.out 100 ys 0 40 n _ (by omega) HO.out HCW.out HIXy.out (by omega) h40 (Nat.le_refl _) (HS.out.in40 HA.out hn (by omega))).mono ?_
              rintro e w1 ⟨rfl, us, ho1, hg1, hs1⟩
              have HO1 := Lib.hid ho1
              have HG1 := Lib.hid (grownBy_trans HG.out hg1)
              have HB1 := Lib.hid (HS.out.to80 hn hs1)
              clear ho1 hg1 hs1
              go_wp2_with fail
              go_roundw
              case rel => exact ⟨80, us, rfl, HO1, HG1, HB1, Lib.hid (.inr (.inr ⟨rfl, h40⟩))⟩
              case measure => simp [intOf]
          · have d1 : decide (40 < n) = false := decide_eq_false h40
            have d1i : decide ((40 : Int) < (n : Int)) = false := decide_eq_false (by omega)
            have hfin := HS.out.all HXL.out fun p hp => by omega
            go_wp2
            go_returns
            exact ⟨rfl, ys, HO.out, HG.out, hfin⟩
        · as_aux_lemma =>
          have d1 : decide (80 < n) = false := decide_eq_false (by omega)
          have d1i : decide ((80 : Int) < (n : Int)) = false := decide_eq_false (by omega)
          have hfin := HS.out.all HXL.out fun p hp => by omega
          go_wp2
          go_returns
          exact ⟨rfl, ys, HO.out, HG.out, hfin⟩
set_option maxRecDepth 100000 in
theorem sortStable60_any {S : Nat → Prop} (amount sum : Int) (ws : List Int) (sv : Value) (pa pw ps g c n base : Nat) (xs : List Int) (w : World) (ho : w.ownsRow base 3 1 (.slice (some ⟨g, 0, none⟩) n c) n (ints xs)) (hc : CmpAt w pa pw ps amount sum ws sv S)
    (h1 : pa ≠ g) (h2 : pw ≠ g) (h3 : ps ≠ g) (h4 : ∀ k, S k → k ≠ g) (hn0 : 1 ≤ n) (hn : n ≤ 60) (hix : ∀ x ∈ xs, 0 ≤ x ∧ x < ws.length) (hasc : ∀ p q, p < q → q < n → at0 xs p < at0 xs q)
    (ha : 0 ≤ amount ∧ amount ≤ 1000000000) (hw : ∀ x ∈ ws, 0 ≤ x ∧ x ≤ 10000) (hs : 0 < sum ∧ sum ≤ 1000000) :
    Calls Try.prog 29 #[.slice (some ⟨g, 0, none⟩) n c, .func (.func 30) #[] #[.pointer (some ⟨pa, 0, none⟩), .pointer (some ⟨pw, 0, none⟩), .pointer (some ⟨ps, 0, none⟩)]] w fun e w' =>
      e = .returned (.tuple #[]) ∧ ∃ ys, w'.ownsRow base 3 1 (.slice (some ⟨g, 0, none⟩) n c) n (ints ys) ∧ w.grownBy w' (some g) ∧ AllOk (restOf amount sum ws) xs ys := by
  go_enter Try.func29, Try.ntmps29
  go_wp2_with fail
  refine (stable60_any amount sum ws sv pa pw ps g c n base xs w ho hc h1 h2 h3 h4 hn0 hn hix hasc ha hw hs).mono ?_
  rintro e w1 ⟨rfl, ys, ho1, hg1, hs1⟩
  clear ho hc hix hasc hw
  go_wp2
  go_returns
  exact ⟨rfl, ys, ho1, hg1, hs1⟩
end Go.Proofs.Ytagfcodpgochjaa

/- Chapter 12: Share, of at most 60 weights. -/
namespace Go.Proofs.Ytagfcodpgochjaa
open Go.RowKit Go.Oche Go.Proofs

set_option maxRecDepth 100000 in
set_option maxHeartbeats 4000000 in
theorem shareAll_any {S : Nat → Prop} (amount : Int) (ws : List Int) (v : Value) (w : World) (hs : Sl S w v (ints ws)) (h20 : shareErr amount ws = 0 → ws.length ≤ 60) :
    Calls Try.prog 14 #[.int .i64 amount, v] w fun e w' => ∃ r, e = .returned (.tuple #[r, .int .i64 (shareErr amount ws)]) ∧ Below w.heap.size w w' ∧ Sl (fun k => w.heap.size ≤ k) w' r (ints (shareRes amount ws)) := by
  obtain ⟨a, cap, rfl, h2, h3⟩ := hs.form
  simp only [ints_length] at *
  unfold maxLen at h3
  obtain ⟨b1, hb1⟩ : ∃ b, isIn amount 0 1000000000 = b := ⟨_, rfl⟩
  obtain ⟨b2, hb2⟩ : ∃ b, isIn (ws.length : Int) 1 60 = b := ⟨_, rfl⟩
  obtain ⟨b3, hb3⟩ : ∃ b, ws.any (outB 0 10000) = b := ⟨_, rfl⟩
  obtain ⟨er, her⟩ : ∃ x, shareErr amount ws = x := ⟨_, rfl⟩
  obtain ⟨rs, hrs⟩ : ∃ x, shareRes amount ws = x := ⟨_, rfl⟩
  have ER : Hid (er = if b1 = false then 3 else if b2 = false then 4 else if b3 = true ∨ sumW ws = 0 then 2 else 0) := Lib.hid (by rw [← her, ← hb1, ← hb2, ← hb3]; rfl)
  have RS : Hid (rs = if er = 0 then shareL amount ws else []) := Lib.hid (by rw [← hrs, ← her]; rfl)
  have H20 : Hid (er = 0 → ws.length ≤ 60) := Lib.hid (by rw [← her]; exact h20)
  have NOK : Hid (er ≠ 0 → rs = []) := Lib.hid (fun h => by rw [RS.out, if_neg h])
  have H1 := Lib.hid hb1
  have H2 := Lib.hid hb2
  have H3 := Lib.hid hb3
  rw [her, hrs]
  obtain ⟨T, hT⟩ : ∃ T, sumW ws = T := ⟨_, rfl⟩
  obtain ⟨w0, hw0⟩ : ∃ w0, (w.alloc (.cells #[.int .i64 amount] 3)).alloc (.cells #[.slice a ws.length cap] 22) = w0 := ⟨_, rfl⟩
  obtain ⟨w1, hw1⟩ : ∃ w1, w0.alloc (.cells #[.int .i64 T] 3) = w1 := ⟨_, rfl⟩
  have hb0 : Below w.heap.size w w0 := by rw [← hw0]; exact (aB _ _).trans ((aB _ _).mono (by simp))
  have hb01 : Below w0.heap.size w0 w1 := by rw [← hw1]; exact aB _ _
  have hz0 : w0.heap.size = w.heap.size + 2 := by rw [← hw0]; simp
  have z1 : w1.cell? ⟨w.heap.size, 0, none⟩ = some (.int .i64 amount) := bAt hb01 (by rw [← hw0]; simp)
  have z2 : w1.cell? ⟨w.heap.size + 1, 0, none⟩ = some (.slice a ws.length cap) := bAt hb01 (by rw [← hw0]; simp)
  have z3 : w1.cell? ⟨w0.heap.size, 0, none⟩ = some (.int .i64 T) := by rw [← hw1]; simp
  have y1 : (w0.alloc (.cells #[.int .i64 T] 3)).cell? ⟨w.heap.size, 0, none⟩ = some (.int .i64 amount) := by rw [hw1]; exact z1
  have c1 : w0.cell? ⟨w.heap.size + 1, 0, none⟩ = some (.slice a ws.length cap) := by rw [← hw0]; simp
  have HS0 := Lib.hid (hs.below hb0)
  have hCM : CmpAt w1 w.heap.size (w.heap.size + 1) w0.heap.size amount T ws (.slice a ws.length cap) (fun k => S k ∧ k < w.heap.size) := ⟨z1, z2, z3, hs.lt.below (bThen hb0 hb01)⟩
  have HCM := Lib.hid hCM
  have HW0 := Lib.hid hw0
  have HW1 := Lib.hid hw1
  have HB1 := Lib.hid (bThen hb0 hb01)
  have HT := Lib.hid hT
  have HZ0 := Lib.hid hz0
  have hz1 : w1.heap.size = w.heap.size + 3 := by rw [← hw1]; simp [hz0]
  have HZ1 := Lib.hid hz1
  have HZZ : Hid (w0.heap.size + 1 = w1.heap.size) := Lib.hid (by rw [← HW1.out]; simp)
  clear her hrs hb1 hb2 hb3 hs h20 hw0 hw1 hb0 hb01 hT hCM hz0 hz1
  go_enter Try.func14, Try.ntmps14
  go_wp2_with fail
  rw [HW0.out]
  refine (total_any ws _ _ HS0.out).mono ?_
  rintro e w0' ⟨rfl, rfl⟩
  rw [HT.out]
  clear c1
  go_wp2_with fail
  rw [HW1.out, HZZ.out]
  clear y1
  refine (within_one' 0 1000000000 amount b1 H1 _ _ (Sl.new1 (fun _ => True) w1 trivial 3 (.int .i64 amount))).mono ?_
  rintro e w2 ⟨rfl, hb2⟩
  replace hb2 := bThen (aB w1 _) hb2
  replace z1 := bAt hb2 z1
  replace z2 := bAt hb2 z2
  replace z3 := bAt hb2 z3
  replace HCM := Lib.hid (HCM.out.below hb2)
  have HB2 := Lib.hid (bThen HB1.out hb2)
  have BZ2 := Lib.hid hb2.size
  clear hb2
  cases b1
  · have er2 : er = 3 := ER.out
    have rs2 := NOK.out (by omega)
    clear ER RS NOK H20
    subst er2 rs2
    go_wp2
    go_returns
    exact ⟨_, rfl, HB2.out, Sl.nil _ _⟩
  · go_wp2_with fail
    refine (within_one' 1 60 ws.length b2 H2 _ _ (Sl.new1 (fun _ => True) w2 trivial 3 (.int .i64 ws.length))).mono ?_
    rintro e w3 ⟨rfl, hb3⟩
    replace hb3 := bThen (aB w2 _) hb3
    replace z1 := bAt hb3 z1
    replace z2 := bAt hb3 z2
    replace z3 := bAt hb3 z3
    replace HCM := Lib.hid (HCM.out.below hb3)
    have HB3 := Lib.hid (bThen HB2.out hb3)
    have BZ3 := Lib.hid (Nat.le_trans BZ2.out hb3.size)
    clear hb3
    cases b2
    · have er2 : er = 4 := ER.out
      have rs2 := NOK.out (by omega)
      clear ER RS NOK H20
      subst er2 rs2
      go_wp2
      go_returns
      exact ⟨_, rfl, HB3.out, Sl.nil _ _⟩
    · go_wp2_with fail
      refine (within_r 0 10000 ws b3 H3 _ _ HCM.out.sl).mono ?_
      rintro e w4 ⟨rfl, hb4⟩
      replace z1 := bAt hb4 z1
      replace z2 := bAt hb4 z2
      replace z3 := bAt hb4 z3
      replace HCM := Lib.hid (HCM.out.below hb4)
      have HB4 := Lib.hid (bThen HB3.out hb4)
      have BZ4 := Lib.hid (Nat.le_trans BZ3.out hb4.size)
      clear hb4
      cases b3
      · by_cases hT0 : T = 0
        · have e1 : (T == 0) = true := by simp [hT0]
          have er2 : er = 2 := by rw [ER.out, HT.out]; simp [hT0]
          have rs2 := NOK.out (by omega)
          clear ER RS NOK H20 hT0
          subst er2 rs2
          go_wp2
          go_returns
          exact ⟨_, rfl, HB4.out, Sl.nil _ _⟩
        · have e1 : (T == 0) = false := by simp [hT0]
          have er2 : er = 0 := by rw [ER.out, HT.out]; simp [hT0]
          have rs2 : rs = shareL amount ws := by rw [RS.out, if_pos er2]
          have hl20 := H20.out er2
          have hlen : 1 ≤ ws.length := by have := H2.out; simp [isIn] at this; omega
          have hamt : 0 ≤ amount ∧ amount ≤ 1000000000 := by simpa [isIn] using H1.out
          have hbd : ∀ x ∈ ws, 0 ≤ x ∧ x ≤ 10000 := any_outB H3.out
          have hsb := sum_nonneg' hbd
          have hTs : T = ws.sum := by rw [← HT.out]; exact sumW_sum (B := 10000) (by decide) ws (fun x hx => by have := hbd x hx; omega) (by omega)
          have hTb : 0 < T ∧ T ≤ 1000000 := by omega
          have RS2 := Lib.hid rs2
          have HBD := Lib.hid hbd
          have HTS := Lib.hid hTs
          clear ER RS NOK H20 rs2 hbd hsb hTs hT0
          subst er2
          go_wp2_with fail
          clear e1
          obtain ⟨B, hBd⟩ : ∃ B, w4.heap.size = B := ⟨_, rfl⟩
          have HBD2 := Lib.hid hBd
          have HBe : Hid (∀ W, Below B w4 W → CmpAt W w.heap.size (w.heap.size + 1) w0.heap.size amount T ws (.slice a ws.length cap) (fun k => S k ∧ k < w.heap.size)) := Lib.hid (fun W hW => HCM.out.below (by rw [hBd]; exact hW))
          clear z1 z2 z3 HCM hBd
          go_loopw [4, 7, 33] (fun pv ov iv wr => ∃ (k : Nat), k ≤ ws.length ∧ iv = .int .i64 k ∧ Hid (wr.ownsRow B 3 1 pv k (ints (bases amount T ws k))) ∧ Hid (wr.ownsRow B 3 1 ov k (ints (upTo k))) ∧ Hid (pv.ownBlock = none ∨ pv.ownBlock ≠ ov.ownBlock) ∧ Below B w4 wr) (fun _ _ iv _ => ws.length - (intOf iv).toNat)
          case atStart => exact ⟨0, by omega, rfl, Lib.hid (World.ownsRow_nil _ _ _ _), Lib.hid (World.ownsRow_nil _ _ _ _), Lib.hid (.inl rfl), ⟨rfl, rfl, rfl, Nat.le_refl _, fun _ _ => rfl⟩⟩
          case round =>
            obtain ⟨k, hk, rfl, HP, HO, HNE, hb⟩ := hrel
            obtain ⟨wo, rfl⟩ : ∃ wo : World, wo = wr := ⟨_, rfl⟩
            have hBw : B ≤ wo.heap.size := by have := HBD2.out; have := hb.size; omega
            have HB := Lib.hid hb
            clear hb
            obtain ⟨z1, z2, z3, hsl⟩ := HBe.out wo HB.out
            have HSL := Lib.hid hsl
            clear hsl
            by_cases hlt : k < ws.length
            · obtain ⟨b, off, hal, _, hc⟩ := HSL.out.cell hlt
              cases hal
              obtain ⟨x, hx⟩ : ∃ x, ws[k] = x := ⟨_, rfl⟩
              rw [hx] at hc
              have hxb := hx ▸ HBD.out _ (List.getElem_mem hlt)
              obtain ⟨p, hp⟩ : ∃ p, amount * x = p := ⟨_, rfl⟩
              have hpb := hp ▸ mul_bd hamt hxb
              have r1 : IntKind.i64.wrap p = p := wrap_small _ (by omega) (by omega)
              obtain ⟨q, hq⟩ : ∃ q, p / T = q := ⟨_, rfl⟩
              have t1 : p.tdiv T = q := by rw [Int.tdiv_eq_ediv_of_nonneg hpb.1, hq]
              have hqb : 0 ≤ q ∧ q ≤ p := by rw [← hq]; exact ⟨Int.ediv_nonneg hpb.1 (by omega), Int.ediv_le_self _ hpb.1⟩
              have r2 : IntKind.i64.wrap q = q := wrap_small _ (by omega) (by omega)
              have s0 : ¬ T = 0 := by omega
              have HQ : Hid (bases amount T ws (k + 1) = bases amount T ws k ++ [q]) := Lib.hid (by rw [bases_succ, baseOf, getD_at hlt, hx, hp, hq])
              obtain ⟨wA, hwA⟩ : ∃ wA, wo.alloc (.cells #[.int .i64 q] 3) = wA := ⟨_, rfl⟩
              have hbA : Below wo.heap.size wo wA := by rw [← hwA]; exact aB _ _
              have hcA : wA.cell? ⟨wo.heap.size, 0, none⟩ = some (.int .i64 q) := by rw [← hwA]; simp
              have HPA := Lib.hid (ownsN_below HP.out hbA)
              have HOA := Lib.hid (ownsN_below HO.out hbA)
              have hBA : B ≤ wA.heap.size := Nat.le_trans hBw hbA.size
              have HBA := Lib.hid (HB.out.trans (hbA.mono hBw))
              have HWA := Lib.hid hwA
              clear hx hxb hpb hq hqb hbA hwA HP HO HB
              go_wp2_with (at_builtin; rw [HWA.out]; refine wpList_append1 rfl _ _ 22 rfl B 3 (.int .i64 0) 8 Try.underlying22 info3 rfl _ k _ rfl HPA.out wo.heap.size 0 1 (.int .i64 q) rfl hcA rfl (by omega) (by decide) hBA ?_)
              intro g1 c1 wB ho1 hg1 hat1
              have hOB := HOA.out.kept hg1 (by
                rcases HNE.out with h | h
                · rw [h]; exact Classical.em _
                · exact .inr fun e => h e.symm)
              have hne1 : some g1 ≠ u7.ownBlock := fun e => by
                rcases hat1 with h | h
                · rcases HNE.out with h2 | h2
                  · rw [h2] at h; cases h
                  · exact h2 (h.trans e)
                · have := (HOA.out.lt g1 e.symm).2; omega
              obtain ⟨wC, hwC⟩ : ∃ wC, wB.alloc (.cells #[.int .i64 k] 3) = wC := ⟨_, rfl⟩
              have hbC : Below wB.heap.size wB wC := by rw [← hwC]; exact aB _ _
              have hcC : wC.cell? ⟨wB.heap.size, 0, none⟩ = some (.int .i64 k) := by rw [← hwC]; simp
              have hzB : wA.heap.size ≤ wB.heap.size := hg1.size
              have hBB := HBA.out.trans (below_grownBy hg1 hBA (fun q hq => (HPA.out.lt q hq).1))
              have HPC := Lib.hid (ownsN_below ho1 hbC)
              have HOC := Lib.hid (ownsN_below hOB hbC)
              have hBC : B ≤ wC.heap.size := Nat.le_trans hBA (Nat.le_trans hzB hbC.size)
              have HBC := Lib.hid (hBB.trans (hbC.mono (Nat.le_trans hBA hzB)))
              have HWC := Lib.hid hwC
              have HNE1 := Lib.hid hne1
              clear hbC hwC hzB hBB hOB ho1 hg1 hat1 hne1 hcA hc z1 z2 z3
              go_wp2_with (at_builtin; rw [HWC.out]; refine wpList_append1 rfl _ _ 22 rfl B 3 (.int .i64 0) 8 Try.underlying22 info3 rfl _ k _ rfl HOC.out wB.heap.size 0 1 (.int .i64 k) rfl hcC rfl (by omega) (by decide) hBC ?_)
              intro g2 c2 wD ho2 hg2 hat2
              have HPD := Lib.hid (HPC.out.kept hg2 (.inr HNE1.out))
              have HOD := Lib.hid ho2
              have HBD3 := Lib.hid (HBC.out.trans (below_grownBy hg2 hBC (fun q hq => (HOC.out.lt q hq).1)))
              have hne2 : some g1 ≠ some g2 := fun e => by
                rcases hat2 with h | h
                · exact HNE1.out (e.trans h.symm)
                · have := (HPC.out.lt g1 rfl).2; cases e; omega
              have HNE2 := Lib.hid hne2
              clear ho2 hg2 hat2 hne2 hcC
              go_wp2
              go_roundw
              case rel => exact ⟨k + 1, by omega, by go_num, Lib.hid (by rw [HQ.out, ints_append]; exact HPD.out), Lib.hid (by rw [upTo_succ, ints_append]; exact HOD.out), Lib.hid (.inr HNE2.out), HBD3.out⟩
              case measure => simp [intOf]; omega
            · obtain rfl : k = ws.length := by omega
              obtain ⟨gp, cp, hpv⟩ : ∃ g c, u4 = .slice (some ⟨g, 0, none⟩) ws.length c := by
                rcases HP.out.2 with ⟨_, h⟩ | ⟨g, c, _, h, _⟩
                · omega
                · exact ⟨g, c, h⟩
              obtain ⟨go, co, hov⟩ : ∃ g c, u7 = .slice (some ⟨g, 0, none⟩) ws.length c := by
                rcases HO.out.2 with ⟨_, h⟩ | ⟨g, c, _, h, _⟩
                · omega
                · exact ⟨g, c, h⟩
              subst hpv hov
              have hgo := (HO.out.lt go rfl).1
              have hne : gp ≠ go := fun e => by
                rcases HNE.out with h | h
                · cases h
                · exact h (by rw [e]; rfl)
              have HGO := Lib.hid hgo
              have HNEg := Lib.hid hne
              have h4 : w.heap.size + 2 < B := by have := HZ0.out; have := HZ1.out; have := BZ4.out; have := HBD2.out; omega
              have h5 : w0.heap.size < B := by have := HZ0.out; omega
              clear hne hgo HNE
              go_wp2_with fail
              refine (sortStable60_any amount T ws _ w.heap.size (w.heap.size + 1) w0.heap.size go co ws.length B (upTo ws.length) wo HO.out ⟨z1, z2, z3, HSL.out⟩ (by have := HGO.out; omega) (by have := HGO.out; omega) (by have := HGO.out; omega) (fun q hq => by have := HGO.out; have := hq.2; omega) hlen hl20 (fun x hx => mem_upTo.1 hx) (fun p q h1 h2 => by rw [at0_upTo (by omega), at0_upTo h2]; omega) hamt HBD.out hTb).mono ?_
              rintro e w5 ⟨rfl, ys, hoy, hgy, hys⟩
              clear z2 z3
              have z15 : w5.cell? ⟨w.heap.size, 0, none⟩ = some (.int .i64 amount) := hgy.cell z1 (by have := HGO.out; simp; omega)
              have hP5 := HP.out.kept hgy (.inr (by simpa [Value.ownBlock] using HNEg.out))
              have HP5 := Lib.hid hP5
              have HO5 := Lib.hid hoy
              have HYS := Lib.hid hys
              have HB5 := Lib.hid (HB.out.trans (below_grownBy hgy hBw (fun q hq => by cases hq; exact HGO.out)))
              have hLb := leftOf_bd (amount := amount) (ws := ws) (by rw [← HTS.out]; omega) hlen
              obtain ⟨L, hL⟩ : ∃ L : Nat, leftOf amount ws = L := ⟨(leftOf amount ws).toNat, by omega⟩
              obtain ⟨Sb, hSb⟩ : ∃ Sb, sumW (bases amount T ws ws.length) = Sb := ⟨_, rfl⟩
              have hbb : ∀ x ∈ bases amount T ws ws.length, -10000000000000 ≤ x ∧ x ≤ 10000000000000 := fun x hx => by
                simp only [bases, List.mem_map, List.mem_range] at hx
                obtain ⟨i, hi, rfl⟩ := hx
                rw [baseOf, getD_at hi]
                have hm := mul_bd hamt (HBD.out _ (List.getElem_mem hi))
                have h1 := Int.ediv_nonneg hm.1 (show 0 ≤ T by omega)
                have h2 := Int.ediv_le_self T hm.1
                omega
              have hSe : amount - Sb = L := by
                rw [← hSb, sumW_sum (B := 10000000000000) (by decide) _ hbb (by simp; omega), ← hL, leftOf, HTS.out]
              have hwL : IntKind.i64.wrap (amount - Sb) = (L : Int) := by rw [hSe]; exact wrap_small _ (by omega) (by omega)
              rw [hL] at hLb
              have hcap : ws.length ≤ co := by
                rcases HO5.out.2 with ⟨h, _⟩ | ⟨g, c, cur, h, _, _, h2, _⟩
                · cases h
                · cases h; exact h2
              have hLc : (L : Int) ≤ (co : Int) := by omega
              have hLcn : L ≤ co := by omega
              have HSB := Lib.hid hSb
              have HL := Lib.hid hL
              have hLn : L < ws.length := by omega
              clear hoy hgy hys z1 hP5 HP HO HB hbb hSe hLb hL hSb
              go_wp2_with fail
              refine wp_region_seq 8 [.is ?_, .is ?_, .is ?_, .is (.int .i64 Sb), .is ?_, .is (.slice (some ⟨go, 0, none⟩) L co), .is ?_, .is ?_] rfl mix (by kernel_rfl) (by kernel_rfl) ?seqm
              case seqm =>
                simp only [List.take_succ_cons, List.take_zero]
                iterate 3
                  refine seq_is rfl (fun w1 hb1 _ => ?_) ?_
                  · have z1' := bAt hb1 z15
                    simp [opOK, go_sem, z1', Below.refl]
                    try exact rfl
                  simp only [Act.put, List.setIfInBounds_toArray, List.set_cons_succ, List.set_cons_zero]
                refine seq_is rfl (fun w1 hb1 _ => ?_) ?_
                · refine opOK_call (f := 27) (args := #[.slice (some ⟨gp, 0, none⟩) ws.length cp]) (by simp [go_sem]) ?_
                  refine (total_any _ _ w1 (owns_sl (ownsN_below HP5.out hb1))).mono ?_
                  rintro e w2 ⟨rfl, rfl⟩
                  exact ⟨_, rfl, by rw [HSB.out], Below.refl _ _⟩
                simp only [Act.put, List.setIfInBounds_toArray, List.set_cons_succ, List.set_cons_zero]
                iterate 4
                  refine seq_is rfl (fun w1 hb1 _ => ?_) ?_
                  · simp [opOK, go_sem, hwL, hLc, Below.refl]
                    try exact rfl
                  simp only [Act.put, List.setIfInBounds_toArray, List.set_cons_succ, List.set_cons_zero]
                refine seq_end fun w6 hb6 _ => ?_
                simp only [List.drop_succ_cons, List.drop_zero]
                have HP6 : Hid (w6.ownsRow B 3 1 (.slice (some ⟨gp, 0, none⟩) ws.length cp) ws.length (ints (partsK amount T ws ys 0))) := Lib.hid (by rw [partsK_zero]; exact ownsN_below HP5.out hb6)
                have HO6 := Lib.hid (ownsN_below HO5.out hb6)
                have HB6 := Lib.hid (HB5.out.trans (hb6.mono (by have h1 := HB5.out.size; have := HBD2.out; omega)))
                have HYL := HYS.out.len
                rw [upTo_length] at HYL
                have HYLh := Lib.hid HYL
                clear HP5 HO5 HB5 hb6 z15 hwL hLc hLcn HYL
                go_wp2_with fail
                go_loopw [61] (fun iv wr => ∃ (k : Nat), k ≤ L ∧ iv = .int .i64 k ∧ Hid (wr.ownsRow B 3 1 (.slice (some ⟨gp, 0, none⟩) ws.length cp) ws.length (ints (partsK amount T ws ys k))) ∧ Hid (wr.ownsRow B 3 1 (.slice (some ⟨go, 0, none⟩) ws.length co) ws.length (ints ys)) ∧ Below B w4 wr) (fun iv _ => L - (intOf iv).toNat)
                case atStart => exact ⟨0, by omega, rfl, HP6, HO6, HB6.out⟩
                case round =>
                  clear HP6 HO6 HB6
                  obtain ⟨k, hk, rfl, HP, HO, hb⟩ := hrel
                  obtain ⟨wi, rfl⟩ : ∃ wi : World, wi = wr := ⟨_, rfl⟩
                  have HB := Lib.hid hb
                  clear hb
                  by_cases hlt : k < L
                  · have hkn : k < ws.length := by omega
                    have hrg := HYS.out.rng hkn
                    obtain ⟨y, hy⟩ : ∃ y : Nat, at0 ys k = y := ⟨(at0 ys k).toNat, by omega⟩
                    have hyl : y < ws.length := by omega
                    obtain ⟨Q, hQ⟩ : ∃ Q, at0 (partsK amount T ws ys k) y = Q := ⟨_, rfl⟩
                    have hys := HYLh.out
                    have k0 : wi.cell? ⟨go, k, none⟩ = some (.int .i64 y) := by rw [HO.out.cellAt k (by omega), intsAt (by omega), ← at0_eq (by omega), hy]
                    have p0 : wi.cell? ⟨gp, y, none⟩ = some (.int .i64 Q) := by rw [HP.out.cellAt y (by omega), intsAt (by simpa using hyl), ← at0_eq (by simpa using hyl), hQ]
                    have p0f := HP.out.frozenAt y
                    have hQb : 0 ≤ Q ∧ Q ≤ 10000000000001 := by
                      rw [← hQ, partsK_at hyl, baseOf, getD_at hyl]
                      have hm := mul_bd hamt (HBD.out _ (List.getElem_mem hyl))
                      have h1 := Int.ediv_nonneg hm.1 (show 0 ≤ T by omega)
                      have h2 := Int.ediv_le_self T hm.1
                      split <;> omega
                    have hwQ : IntKind.i64.wrap (Q + 1) = Q + 1 := wrap_small _ (by omega) (by omega)
                    obtain ⟨hP1, hg1⟩ := HP.out.stored y (.int .i64 (Q + 1))
                    rw [ints_set, ← hQ, partsK_succ (by rw [HTS.out]; rw [← HTS.out]; exact HYS.out) hkn hy, hQ] at hP1
                    have HP1 := Lib.hid hP1
                    have HO1 := Lib.hid (HO.out.kept hg1 (.inr (by simpa [Value.ownBlock] using fun e => HNEg.out e.symm)))
                    have HB1 := Lib.hid (HB.out.trans (below_grownBy hg1 (by have h1 := HB.out.size; have := HBD2.out; omega) (fun q hq => by cases hq; exact (HP.out.lt gp rfl).1)))
                    clear hP1 hg1 hQ hy hrg hQb hys
                    go_wp2
                    go_roundw
                    case rel => exact ⟨k + 1, by omega, by go_num, HP1, HO1, HB1.out⟩
                    case measure => simp [intOf]; omega
                  · obtain rfl : k = L := by omega
                    have hfin : partsK amount T ws ys k = rs := by rw [RS2.out, HTS.out]; exact partsK_end (by rw [← HTS.out]; exact HYS.out) HL.out.symm
                    have h1 := HP.out
                    rw [hfin] at h1
                    have H1' := Lib.hid h1
                    clear h1 hfin
                    go_wp2
                    go_returns
                    exact ⟨_, rfl, bThen HB4.out (HB.out.mono (by have := HBD2.out; omega)), (Sl.of_owns H1'.out).mono fun q hq => by have := BZ4.out; have := HZ1.out; have := HBD2.out; omega⟩
      · have er2 : er = 2 := by rw [ER.out]; simp
        have rs2 := NOK.out (by omega)
        clear ER RS NOK H20
        subst er2 rs2
        go_wp2
        go_returns
        exact ⟨_, rfl, HB4.out, Sl.nil _ _⟩
end Go.Proofs.Ytagfcodpgochjaa

/- The law of a drawn region (Free) once more: what holds at every moment may speak of the values together. -/
namespace Go.Oche
open Go Go.RowKit
def updV (vs : Nat → Value) (i : Nat) (v : Value) : Nat → Value := fun j => if j = i then v else vs j
section
variable (P : Program) (ops : Array Oper) (J : (Nat → Bool) → (Nat → Value) → World → Prop) (a₀ : Act)
/-- The condition of operation number i: what it waits for has come; L: what has been listed. -/
def VVC (i : Nat) (o : Oper) : Prop :=
  ∀ (a : Act) (w : World) (L : Nat → Bool) (vs : Nat → Value), L i = false → J L vs w →
    (∀ e ∈ o.after.toList, Region.binds .any e = true → ∃ oj, ops[e.on]? = some oj ∧ L e.on = true ∧ ∀ d, oj.dst = some d → a.tmps[d]? = some (vs e.on)) →
    (∀ t : Nat, (ops.toList.all fun oj => oj.dst != some t || oj.after.toList.any fun e => Region.binds .any e && e.on == i) = true → a.tmps[t]? = a₀.tmps[t]?) →
    if Region.wanted o (yielded ops a.tmps) then opOK P o a w (fun v w' => J (setB L i) (updV vs i v) w') else J (setB L i) (updV vs i undef) w
def VAll : List Oper → Nat → Prop
  | [], _ => True
  | o :: l, i => VVC P ops J a₀ i o ∧ VAll l (i + 1)
end
structure VInv (ops : Array Oper) (J : (Nat → Bool) → (Nat → Value) → World → Prop) (a₀ : Act) (vs : Nat → Value) (listed : Array Bool) (a : Act) (w : World) : Prop where
  inv : J (fun j => listed.getD j false) vs w
  vals : ∀ j o, ops[j]? = some o → listed.getD j false = true → ∀ d, o.dst = some d → a.tmps[d]? = some (vs j)
  rest : ∀ t, (∀ j o, ops[j]? = some o → listed.getD j false = true → o.dst ≠ some t) → a.tmps[t]? = a₀.tmps[t]?
  size : a.tmps.size = a₀.tmps.size
  defers : a.defers = a₀.defers
theorem vAll_at {P : Program} {ops : Array Oper} {J : (Nat → Bool) → (Nat → Value) → World → Prop} {a₀ : Act} : ∀ {l : List Oper} {i j : Nat} {o : Oper},
    VAll P ops J a₀ l i → l[j]? = some o → VVC P ops J a₀ (i + j) o
  | [], _, _, _, _, h => by simp at h
  | o' :: l, i, 0, o, h, hj => by simp at hj; subst hj; exact h.1
  | o' :: l, i, j + 1, o, h, hj => by
    have := vAll_at h.2 (j := j) (o := o) (by simpa using hj)
    rwa [show i + 1 + j = i + (j + 1) by omega] at this
section law
variable {P : Program} {ops : Array Oper} {J : (Nat → Bool) → (Nat → Value) → World → Prop} {a₀ : Act} {Q : Exit → Act → World → Prop} {n : Nat}

theorem v_head (hB : freeB ops n a₀.tmps.size = true) (hv : VAll P ops J a₀ (ops.toList.take n) 0)
    (he : ∀ vs w, J (fun j => decide (j < n)) vs w → wpList P ops Q (ops.toList.drop n) (putAll vs (ops.toList.take n) 0 a₀) w) :
    ∀ (f : Nat) (vs : Nat → Value) (listed : Array Bool) (a : Act) (w : World), left n listed ≤ f → HeadInv .any ops n listed → VInv ops J a₀ vs listed a w → wpAny P .any ops Q (f + (ops.size - n)) listed a w := by
  simp only [freeB, Bool.and_eq_true, Bool.or_eq_true, beq_iff_eq, decide_eq_true_eq] at hB
  obtain ⟨⟨⟨⟨⟨hn, hback⟩, hdist⟩, hin⟩, htail⟩, hseq⟩ := hB
  have hin' : ∀ j o d, ops[j]? = some o → j < n → o.dst = some d → d < a₀.tmps.size := fun j o d ho hj hd => by
    have hmem : o ∈ ops.toList.take n := List.mem_of_getElem? (i := j) (by rw [List.getElem?_take, if_pos hj]; simpa using ho)
    have := List.all_eq_true.1 hin o hmem
    rw [hd] at this
    simpa using this
  have hld : ∀ j o, ops[j]? = some o → j < n → (ops.toList.take n)[j]? = some o := fun j o ho hj => by rw [List.getElem?_take, if_pos hj]; simpa using ho
  intro f
  induction f with
  | zero =>
    intro vs listed a w hl inv fi
    have hall := left_zero (Nat.le_zero.1 hl)
    have harr : listed = headArr n ops.size := by
      refine Array.ext (by simp [inv.size, headArr]; omega) fun j h1 h2 => ?_
      by_cases hj : j < n
      · have := hall j hj
        simp [h1] at this
        rw [this]
        simp only [headArr]
        rw [Array.getElem_append_left (by simpa using hj)]
        simp
      · have := inv.tail j (by omega) (by rw [inv.size] at h1; exact h1)
        simp [h1] at this
        rw [this]
        simp only [headArr]
        rw [Array.getElem_append_right (by simpa using hj)]
        simp
    have hnl : ∀ j o, ops[j]? = some o → listed.getD j false = true → j < n := fun j o ho hl => by
      rcases Nat.lt_or_ge j n with h | h
      · exact h
      · have := inv.tail j h (Array.getElem?_eq_some_iff.1 ho).1
        rw [getD_both this] at hl; cases hl
    have hK := he vs w (by have h1 := fi.inv; rwa [show (fun j => listed.getD j false) = (fun j => decide (j < n)) from funext fun j => by
      by_cases hj : j < n
      · rw [hall j hj]; simp [hj]
      · have : listed.getD j false = false := by
          rcases Nat.lt_or_ge j ops.size with h | h
          · exact getD_both (inv.tail j (by omega) h)
          · simp [Array.getElem?_eq_none (show listed.size ≤ j by rw [inv.size]; exact h)]
        rw [this]; simp [hj]] at h1)
    have ha : a = putAll vs (ops.toList.take n) 0 a₀ := by
      refine act_ext (fun t => ?_) (by rw [putAll_defers]; exact fi.defers)
      by_cases ht : ∃ j o, ops[j]? = some o ∧ j < n ∧ o.dst = some t
      · obtain ⟨j, o, ho, hj, hd⟩ := ht
        rw [fi.vals j o ho (hall j hj) t hd, putAll_some vs t _ 0 a₀ j o hdist (hld j o ho hj) hd (hin' j o t ho hj hd)]
        simp
      · rw [fi.rest t (fun j o ho hl hd => ht ⟨j, o, ho, hnl j o ho hl, hd⟩), putAll_none]
        intro o ho hd
        obtain ⟨j, hj⟩ := List.getElem?_of_mem ho
        rw [List.getElem?_take] at hj
        split at hj
        · exact ht ⟨j, o, by simpa using hj, by assumption, hd⟩
        · cases hj
    rw [← ha] at hK
    rw [Nat.zero_add]
    have hlen : (ops.toList.drop n).length = ops.size - n := by simp
    have := wpAny_of_seq (P := P) (md := .any) (Q' := Q) (ops.toList.drop n) n listed a w (fun j => by simp [List.getElem?_drop]) (by rw [hlen, harr]; exact hseq) hK
    rwa [hlen] at this
  | succ f ih =>
    intro vs listed a w hl inv fi
    by_cases h0 : left n listed = 0
    · have := ih vs listed a w (by omega) inv fi
      rw [show f + 1 + (ops.size - n) = f + (ops.size - n) + 1 by omega]
      exact wpAny_more _ _ _ _ this
    · obtain ⟨j₀, hj₀, hun₀, hbefore⟩ := exists_unlisted h0
      have hj₀s : j₀ < ops.size := by omega
      rw [show f + 1 + (ops.size - n) = f + (ops.size - n) + 1 by omega]
      refine ⟨fun hr => ?_, fun i hi => ?_⟩
      · exfalso
        have : j₀ ∈ Region.ready .any ops listed := mem_ready.2 ⟨getD_in (by rw [inv.size]; omega) hun₀, ops[j₀], by simp [hj₀s], fun e he hb => by
          have h1 := List.all_eq_true.1 hback (ops[j₀], j₀) (List.mem_iff_getElem?.2 ⟨j₀, by simp [hj₀s]⟩)
          have h2 := List.all_eq_true.1 h1 e (by simpa using he)
          simp only [hb, Bool.not_true, Bool.false_or, decide_eq_true_eq] at h2
          exact hbefore _ h2⟩
        rw [hr] at this; cases this
      · have hin0 : i < n := by
          rcases Nat.lt_or_ge i n with h | h
          · exact h
          · exfalso
            rcases htail with h1 | ⟨⟨h1, h2⟩, h3⟩
            · obtain ⟨_, oi, hoi, _⟩ := mem_ready.1 hi
              have := (Array.getElem?_eq_some_iff.1 hoi).1
              omega
            · exact tail_waits h2 h3 h1 inv (n - j₀) j₀ rfl hj₀ (getD_in (by rw [inv.size]; omega) hun₀) i h hi
        obtain ⟨hiun, oi, hoi, hready⟩ := mem_ready.1 hi
        have his : i < ops.size := (Array.getElem?_eq_some_iff.1 hoi).1
        have hvc := vAll_at hv (hld i oi hoi hin0)
        rw [Nat.zero_add] at hvc
        have hvc := hvc a w (fun j => listed.getD j false) vs (getD_both hiun) fi.inv (fun e he hb => by
            have hl' := hready e (by simpa using he) hb
            have hes : e.on < ops.size := by
              have : e.on < listed.size := by
                rcases Nat.lt_or_ge e.on listed.size with h | h
                · exact h
                · rw [show listed.getD e.on false = false from by simp [Array.getElem?_eq_none h]] at hl'; cases hl'
              rw [inv.size] at this; exact this
            have := fi.vals e.on ops[e.on] (by simp [hes]) hl'
            exact ⟨ops[e.on], by simp [hes], hl', this⟩)
          (fun t ht => fi.rest t fun j o ho hlj => by
            have h1 := List.all_eq_true.1 ht o (by simpa using Array.mem_of_getElem? ho)
            simp only [Bool.or_eq_true, List.any_eq_true, Bool.and_eq_true, beq_iff_eq] at h1
            rcases h1 with h1 | ⟨e, he, hb, hei⟩
            · simpa using h1
            · exfalso
              have h2 := inv.closed j o ho hlj e (by simpa using he) hb
              rw [hei, getD_both hiun] at h2
              cases h2)
        have hset : (fun j => (listed.setIfInBounds i true).getD j false) = setB (fun j => listed.getD j false) i := funext fun j => by
          unfold setB
          by_cases hji : j = i
          · subst hji; simp [inv.size, his]
          · rw [if_neg hji, getD_set_ne false (Ne.symm hji)]
        have next : ∀ v w', J (setB (fun j => listed.getD j false) i) (updV vs i v) w' → wpAny P .any ops Q (f + (ops.size - n)) (listed.setIfInBounds i true) (a.put oi.dst v) w' := fun v w' hj' => by
          refine ih (updV vs i v) _ _ _ (by have := left_set hin0 (by rw [inv.size]; exact his) hiun; omega) (inv.set hi hin0) ⟨?_, ?_, ?_, ?_, ?_⟩
          · rw [hset]; exact hj'
          · intro j o ho hl' d hd
            by_cases hji : j = i
            · subst hji
              have : o = oi := Option.some.inj (ho.symm.trans hoi)
              subst this
              rw [put_at, if_pos ⟨hd, by rw [fi.size]; exact hin' _ _ _ ho hin0 hd⟩]; simp [updV]
            · rw [getD_set_ne false (Ne.symm hji)] at hl'
              have hjn : j < n := by
                rcases Nat.lt_or_ge j n with h | h
                · exact h
                · have := inv.tail j h (Array.getElem?_eq_some_iff.1 ho).1
                  rw [getD_both this] at hl'; cases hl'
              rw [put_at, if_neg (fun h' => distB_ne hdist (hld j o ho hjn) (hld i oi hoi hin0) hji hd h'.1)]
              simpa [updV, hji] using fi.vals j o ho hl' d hd
          · intro t ht
            have h1 : oi.dst ≠ some t := ht i oi hoi (by simp [inv.size, his])
            rw [put_at, if_neg (fun h' => h1 h'.1)]
            refine fi.rest t fun j o ho hl' => ht j o ho ?_
            exact getD_set_true hl'
          · rw [put_size]; exact fi.size
          · rw [put_defers]; exact fi.defers
        unfold wpOp
        simp only [hoi]
        split
        · rename_i hwd
          rw [if_pos hwd] at hvc
          exact .inl (wp_of_opOK hvc fun v w' hj' => next v w' hj')
        · rename_i hwd
          rw [if_neg hwd] at hvc
          exact next _ _ hvc

/-- THE LAW. -/
theorem wp_region_v {id : Nat} {l : List Oper} {a : Act} {w : World} (n : Nat) (J : (Nat → Bool) → (Nat → Value) → World → Prop) (hmix : P.follows .mixedOrders = true) (hB : freeB l.toArray n a.tmps.size = true)
    (hJ : ∀ vs, J (fun _ => false) vs w.drew) (hv : VAll P l.toArray J a (l.take n) 0)
    (he : ∀ vs w', J (fun j => decide (j < n)) vs w' → wpList P l.toArray Q (l.drop n) (putAll vs (l.take n) 0 a) w') : (Code.region id l.toArray true).wp P Q a w := by
  refine wp_region_any hmix ?_
  have := v_head (Q := Q) (a₀ := a) hB hv he n (fun _ => undef) (Array.replicate l.toArray.size false) a w.drew (by
      unfold left; exact Nat.le_trans List.countP_le_length (by simp))
    ⟨by simp, fun j oj _ hl => (by rw [getD_replicate_false] at hl; cases hl), fun t _ ht => getD_in (by simpa using ht) (getD_replicate_false _ _)⟩
    ⟨by rw [show (fun j => (Array.replicate l.toArray.size false).getD j false) = (fun _ => false) from funext fun j => getD_replicate_false _ _]; exact hJ _, fun j o _ hl => (by rw [getD_replicate_false] at hl; cases hl), fun _ _ => rfl, rfl, rfl⟩
  have hn : n ≤ l.toArray.size := by simp only [freeB, Bool.and_eq_true, decide_eq_true_eq] at hB; exact hB.1.1.1.1.1
  rw [show n + (l.toArray.size - n) = l.toArray.size by omega] at this
  exact this
end law
end Go.Oche
