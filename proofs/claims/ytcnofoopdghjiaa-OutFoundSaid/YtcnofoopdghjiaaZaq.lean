/- The texts OM, in build order. -/
import Derived.Test.YtcnofoopdghjiaaZap

/- Chapter 2, law OutMore: the walk. (Printed by gen_OM.py.) -/
namespace Go.Proofs.Ytcnofoopdghjiaa
open Go.RowKit Go.Oche Go.Proofs

theorem number_r {S : Nat → Prop} (bs : List Int) (g d s n : Int) (hn : Hid (numOf bs g d s = n ∧ scoreErr bs g d s = 0)) (v : Value) (w : World) (hs : Sl S w v (ints bs)) (hi : ∀ b ∈ bs, I64 b) :
    Calls Try.prog 24 #[.agg #[v, .int .i64 g, .int .i64 d], .int .i64 s] w fun e w' => e = .returned (.tuple #[.int .i64 n, .int .i64 0]) ∧ Below w.heap.size w w' := by
  have := number_any bs g d s v w hs hi
  rw [hn.out.1, hn.out.2] at this
  exact this
theorem fewest_r {S : Nat → Prop} (bs : List Int) (g d m : Int) (l : List Int) (hl : Hid (fewL bs g d m = l ∧ mostErr bs g d m = 0)) (v : Value) (w : World) (hs : Sl S w v (ints bs)) (hi : ∀ b ∈ bs, I64 b) :
    Calls Try.prog 28 #[.agg #[v, .int .i64 g, .int .i64 d], .int .i64 m] w fun e w' => ∃ a c, e = .returned (.tuple #[.slice a l.length c, .int .i64 0]) ∧ Below w.heap.size w w' ∧ Sl (fun k => w.heap.size ≤ k) w' (.slice a l.length c) (ints l) := by
  refine (fewest_any bs g d m v w hs hi).mono ?_
  rintro e w' ⟨lv, rfl, hb, h⟩
  rw [hl.out.1] at h
  rw [hl.out.2]
  obtain ⟨a, c, rfl, _, _⟩ := h.form
  rw [ints_length] at *
  exact ⟨a, c, rfl, hb, h⟩
theorem bogeys_r {S : Nat → Prop} (bs : List Int) (g d m : Int) (l : List Int) (hl : Hid (bogL bs g d m = l ∧ mostErr bs g d m = 0)) (v : Value) (w : World) (hs : Sl S w v (ints bs)) (hi : ∀ b ∈ bs, I64 b) :
    Calls Try.prog 29 #[.agg #[v, .int .i64 g, .int .i64 d], .int .i64 m] w fun e w' => ∃ a c, e = .returned (.tuple #[.slice a l.length c, .int .i64 0]) ∧ Below w.heap.size w w' ∧ Sl (fun k => w.heap.size ≤ k) w' (.slice a l.length c) (ints l) := by
  refine (bogeys_any bs g d m v w hs hi).mono ?_
  rintro e w' ⟨lv, rfl, hb, h⟩
  rw [hl.out.1] at h
  rw [hl.out.2]
  obtain ⟨a, c, rfl, _, _⟩ := h.form
  rw [ints_length] at *
  exact ⟨a, c, rfl, hb, h⟩

set_option maxRecDepth 100000 in
set_option maxHeartbeats 8000000 in
theorem OutMore_any {S : Nat → Prop} (bs : List Int) (g d wh sc : Int) (v : Value) (w : World) (hs : Sl S w v (ints bs)) (hi : ∀ b ∈ bs, I64 b) (hwh : 0 ≤ wh ∧ wh ≤ 255) (hsc : 0 ≤ sc ∧ sc ≤ 65535) :
    Calls Try.prog 10 #[.agg #[v, .int .i64 g, .int .i64 d], .int .u8 wh, .int .u16 sc] w fun e w' => e = .returned (.bool true) ∧ Below w.heap.size w w' := by
  obtain ⟨a, cap, rfl, hlc, h3⟩ := hs.form
  simp only [ints_length] at *
  unfold maxLen at h3
  obtain ⟨w0, hw0⟩ : ∃ w0, w0 = w.alloc (.cells #[.slice a bs.length cap, .int .i64 g, .int .i64 d] 25) := ⟨_, rfl⟩
  have hb0 : Below w.heap.size w w0 := by rw [hw0]; exact aB _ _
  have h2 : w0.heap[w.heap.size]? = some (.cells #[.slice a bs.length cap, .int .i64 g, .int .i64 d] 25 (0, 0)) := by rw [hw0]; exact World.alloc_heap_new _ _
  obtain ⟨X, hX⟩ : ∃ X, X = w.heap.size := ⟨_, rfl⟩
  have x0 : w0.cell? ⟨X, 0, none⟩ = some (.slice a bs.length cap) := by rw [hX, cell_of_heap h2]; rfl
  have x1 : w0.cell? ⟨X, 1, none⟩ = some (.int .i64 g) := by rw [hX, cell_of_heap h2]; rfl
  have x2 : w0.cell? ⟨X, 2, none⟩ = some (.int .i64 d) := by rw [hX, cell_of_heap h2]; rfl
  have HS := Lib.hid (hs.below hb0)
  have HI := Lib.hid hi
  have HW := Lib.hid hw0
  have HX := Lib.hid hX
  have HB0 := Lib.hid hb0
  clear hs hi hw0 h2 hb0 hX
  obtain ⟨m, hm, hm2⟩ : ∃ m : Nat, sc.tmod 300 = m ∧ m < 300 := ⟨(sc.tmod 300).toNat, by have := Int.tmod_nonneg 300 hsc.1; have := Int.tmod_lt_of_pos sc (show (0 : Int) < 300 by decide); omega, by have := Int.tmod_nonneg 300 hsc.1; have := Int.tmod_lt_of_pos sc (show (0 : Int) < 300 by decide); omega⟩
  have hw1 : IntKind.i64.wrap sc = sc := wrap_small _ (by omega) (by omega)
  have hw2 : IntKind.i64.wrap (m : Int) = m := wrap_small _ (by omega) (by omega)
  obtain ⟨s, hs⟩ : ∃ s : Nat, s = m + 1 := ⟨_, rfl⟩
  have hw3 : IntKind.i64.wrap (1 + (m : Int)) = (s : Int) := by rw [wrap_small _ (by omega) (by omega)]; omega
  have hsb : 1 ≤ s ∧ s ≤ 300 := by omega
  clear hsc hs
  obtain ⟨r, hr⟩ : ∃ b, rulesOk bs g d = b := ⟨_, rfl⟩
  have HR := Lib.hid hr
  clear hr
  go_enter Try.func10, Try.ntmps10
  go_wp2_with fail
  rw [← HX.out, ← HW.out]
  refine (sound_r bs g d _ HR _ _ HS.out HI.out).mono ?_
  rintro e w1 ⟨rfl, hb1⟩
  replace x0 := bAt hb1 x0
  replace x1 := bAt hb1 x1
  replace x2 := bAt hb1 x2
  replace HS := Lib.hid (HS.out.below hb1)
  have HB1 := Lib.hid (bThen HB0.out hb1)
  clear hb1
  cases r
  · go_wp2_with fail
    refine (known_any _).mono ?_
    rintro e w2 ⟨rfl, hb2⟩
    have HB2 := Lib.hid (bThen HB1.out hb2)
    clear hb2
    go_wp2
    go_ret
    exact ⟨rfl, HB2.out⟩
  · obtain ⟨q1, q2, q3, q4⟩ := rulesOk_spec HR.out
    obtain ⟨d, rfl⟩ : ∃ n : Nat, d = (n : Int) + 1 := ⟨(d - 1).toNat, by omega⟩
    have hd8 : d ≤ 8 := by omega
    have BO := Lib.hid (bedsOk_spec q1)
    have hbl : bs.length ≤ 82 := (bedsOk_spec q1).2.2.2
    have hbp : 0 < bs.length := (bedsOk_spec q1).2.2.1
    have hg0 : 0 ≤ g ∧ g ≤ 2 := by simpa [gateOk, isIn] using q2
    have HLE : Hid (bs.length ≤ 85) := Lib.hid (by omega)
    clear q1 q2 q3 q4
    go_wp2_with fail
    refine (rules_any bs g _ _ _ HS.out HLE.out).mono ?_
    rintro e w2 ⟨v2, rfl, hb2, hv2⟩
    obtain ⟨al, cl, rfl, _, hcl⟩ := hv2.form
    simp only [ints_length] at *
    have HV := Lib.hid hv2
    clear hv2
    replace x0 := bAt hb2 x0
    replace x1 := bAt hb2 x1
    replace x2 := bAt hb2 x2
    replace HS := Lib.hid (HS.out.below hb2)
    have HB2 := Lib.hid (bThen HB1.out hb2)
    clear hb2
    obtain ⟨h3a, h3b⟩ : 0 ≤ wh % 3 ∧ wh % 3 < 3 := by omega
    by_cases hw5 : wh % 3 = 1
    · as_aux_lemma =>
        have c1 : (wh % 3 == 1) = true := by simp; omega
        have c0 : (wh % 3 == 0) = false := beq_eq_false_iff_ne.2 (by omega)
        have hwd : IntKind.i64.wrap ((d : Int) + 1 - 1) = d := by rw [wrap_small _ (by omega) (by omega)]; omega
        have b0 : ((bs.length : Int) == 0) = false := beq_eq_false_iff_ne.2 (by omega)
        clear hw5
        have px0 : (w2.alloc (.cells #[.slice al bs.length cl, .int .i64 g, .int .i64 ((d : Int) + 1)] 25)).cell? ⟨X, 0, none⟩ = some (.slice a bs.length cap) := bAt (aB w2 _) x0
        have px1 : (w2.alloc (.cells #[.slice al bs.length cl, .int .i64 g, .int .i64 ((d : Int) + 1)] 25)).cell? ⟨X, 1, none⟩ = some (.int .i64 g) := bAt (aB w2 _) x1
        have px2 : (w2.alloc (.cells #[.slice al bs.length cl, .int .i64 g, .int .i64 ((d : Int) + 1)] 25)).cell? ⟨X, 2, none⟩ = some (.int .i64 ((d : Int) + 1)) := bAt (aB w2 _) x2
        have ph := World.alloc_heap_new w2 (.cells #[.slice al bs.length cl, .int .i64 g, .int .i64 ((d : Int) + 1)] 25)
        have py0 : (w2.alloc (.cells #[.slice al bs.length cl, .int .i64 g, .int .i64 ((d : Int) + 1)] 25)).cell? ⟨w2.heap.size, 0, none⟩ = some (.slice al bs.length cl) := by rw [cell_of_heap ph]; rfl
        have py1 : (w2.alloc (.cells #[.slice al bs.length cl, .int .i64 g, .int .i64 ((d : Int) + 1)] 25)).cell? ⟨w2.heap.size, 1, none⟩ = some (.int .i64 g) := by rw [cell_of_heap ph]; rfl
        have py2 : (w2.alloc (.cells #[.slice al bs.length cl, .int .i64 g, .int .i64 ((d : Int) + 1)] 25)).cell? ⟨w2.heap.size, 2, none⟩ = some (.int .i64 ((d : Int) + 1)) := by rw [cell_of_heap ph]; rfl
        have rx0 : (w2.alloc (.cells #[.slice al bs.length cl, .int .i64 g, .int .i64 ((d : Int))] 25)).cell? ⟨X, 0, none⟩ = some (.slice a bs.length cap) := bAt (aB w2 _) x0
        have rx1 : (w2.alloc (.cells #[.slice al bs.length cl, .int .i64 g, .int .i64 ((d : Int))] 25)).cell? ⟨X, 1, none⟩ = some (.int .i64 g) := bAt (aB w2 _) x1
        have rx2 : (w2.alloc (.cells #[.slice al bs.length cl, .int .i64 g, .int .i64 ((d : Int))] 25)).cell? ⟨X, 2, none⟩ = some (.int .i64 ((d : Int) + 1)) := bAt (aB w2 _) x2
        have rh := World.alloc_heap_new w2 (.cells #[.slice al bs.length cl, .int .i64 g, .int .i64 ((d : Int))] 25)
        have ry0 : (w2.alloc (.cells #[.slice al bs.length cl, .int .i64 g, .int .i64 ((d : Int))] 25)).cell? ⟨w2.heap.size, 0, none⟩ = some (.slice al bs.length cl) := by rw [cell_of_heap rh]; rfl
        have ry1 : (w2.alloc (.cells #[.slice al bs.length cl, .int .i64 g, .int .i64 ((d : Int))] 25)).cell? ⟨w2.heap.size, 1, none⟩ = some (.int .i64 g) := by rw [cell_of_heap rh]; rfl
        have ry2 : (w2.alloc (.cells #[.slice al bs.length cl, .int .i64 g, .int .i64 ((d : Int))] 25)).cell? ⟨w2.heap.size, 2, none⟩ = some (.int .i64 ((d : Int))) := by rw [cell_of_heap rh]; rfl
        by_cases hd0 : d = 0
        · obtain rfl := hd0
          go_wp2_with fail
          obtain ⟨w3, hw3⟩ : ∃ w3, w2.alloc (.cells #[.slice al bs.length cl, .int .i64 g, .int .i64 (0)] 25) = w3 := ⟨_, rfl⟩
          have hb3 : Below w2.heap.size w2 w3 := by rw [← hw3]; exact aB _ _
          have hh3 : w3.heap[w2.heap.size]? = some (.cells #[.slice al bs.length cl, .int .i64 g, .int .i64 (0)] 25) := by rw [← hw3]; exact World.alloc_heap_new _ _
          have y0 : w3.cell? ⟨w2.heap.size, 0, none⟩ = some (.slice al bs.length cl) := by rw [cell_of_heap hh3]; rfl
          have y1 : w3.cell? ⟨w2.heap.size, 1, none⟩ = some (.int .i64 g) := by rw [cell_of_heap hh3]; rfl
          have y2 : w3.cell? ⟨w2.heap.size, 2, none⟩ = some (.int .i64 (0)) := by rw [cell_of_heap hh3]; rfl
          replace x0 := bAt hb3 x0
          replace x1 := bAt hb3 x1
          replace x2 := bAt hb3 x2
          replace HS := Lib.hid (HS.out.below hb3)
          replace HV := Lib.hid (HV.out.below hb3)
          have HBW := Lib.hid (bThen HB2.out hb3)
          have HW3 := Lib.hid hw3
          clear hw3 hb3 hh3
          rw [HW3.out]
          have RF : Hid (rulesOk (bs) g (0) = false) := Lib.hid (rulesOk_zero bs g)
          refine (check_r (bs) g (0) _ RF _ _ HV.out (HI.out)).mono ?_
          rintro e w30 ⟨rfl, hb30⟩
          simp only [chkN]
          have HB30 := Lib.hid (bThen HBW.out hb30)
          clear hb30
          go_wp2_with fail
          refine (known_any _).mono ?_
          rintro e w99 ⟨rfl, hb99⟩
          have HB99 := Lib.hid (bThen HB30.out hb99)
          clear hb99
          go_wp2
          go_ret
          exact ⟨rfl, HB99.out⟩
        · have b1 : ((d : Int) == 0) = false := beq_eq_false_iff_ne.2 (by omega)
          have hd0' : 0 < d := by omega
          clear hd0
          go_wp2_with fail
          obtain ⟨w3, hw3⟩ : ∃ w3, w2.alloc (.cells #[.slice al bs.length cl, .int .i64 g, .int .i64 ((d : Int))] 25) = w3 := ⟨_, rfl⟩
          have hb3 : Below w2.heap.size w2 w3 := by rw [← hw3]; exact aB _ _
          have hh3 : w3.heap[w2.heap.size]? = some (.cells #[.slice al bs.length cl, .int .i64 g, .int .i64 ((d : Int))] 25) := by rw [← hw3]; exact World.alloc_heap_new _ _
          have y0 : w3.cell? ⟨w2.heap.size, 0, none⟩ = some (.slice al bs.length cl) := by rw [cell_of_heap hh3]; rfl
          have y1 : w3.cell? ⟨w2.heap.size, 1, none⟩ = some (.int .i64 g) := by rw [cell_of_heap hh3]; rfl
          have y2 : w3.cell? ⟨w2.heap.size, 2, none⟩ = some (.int .i64 ((d : Int))) := by rw [cell_of_heap hh3]; rfl
          replace x0 := bAt hb3 x0
          replace x1 := bAt hb3 x1
          replace x2 := bAt hb3 x2
          replace HS := Lib.hid (HS.out.below hb3)
          replace HV := Lib.hid (HV.out.below hb3)
          have HBW := Lib.hid (bThen HB2.out hb3)
          have HW3 := Lib.hid hw3
          clear hw3 hb3 hh3
          rw [HW3.out]
          clear ph px0 py0 px1 py1 px2 py2
          clear rh rx0 ry0 rx1 ry1 rx2 ry2
          have hdd : d ≤ d + 1 := by omega
          have SUB : Hid ((bs).Sublist bs) := Lib.hid (List.Sublist.refl _)
          have GT : Hid (∀ s b, aftOk g s b = true → aftOk g s b = true) := Lib.hid (fun _ _ h => h)
          have R2 := Lib.hid (rulesOk_less HR.out hd0')
          as_aux_lemma =>
            have R2N : rulesOk (bs) g (d : Nat) = true := by simpa using R2.out
            have MF := more_facts (d := d + 1) (d' := d) (by simpa using HR.out) R2N GT.out SUB.out hdd hsb.1 (show s ≤ 1001 by omega)
            have DC : Hid (((d : Nat) : Int) = (d : Int)) := Lib.hid (by simp)
            rw [show ((d + 1 : Nat) : Int) = (d : Int) + 1 by simp] at MF
            obtain ⟨⟨m1, m2⟩, m3, m4⟩ := MF
            have NB1 := numOf_bd R2N s
            have NE2 := (numOf_out R2N hsb.1 (show s ≤ 1001 by omega)).2
            rw [DC.out] at NB1 NE2
            have NB2 := numOf_bd (d := d + 1) (by simpa using HR.out) s
            rw [show ((d + 1 : Nat) : Int) = (d : Int) + 1 by simp] at NB2
            obtain ⟨n1, hn1⟩ : ∃ x, numOf bs g ((d : Int) + 1) s = x := ⟨_, rfl⟩
            obtain ⟨n2, hn2⟩ : ∃ x, numOf (bs) g ((d : Int)) s = x := ⟨_, rfl⟩
            rw [hn1] at m2 NB2
            rw [hn2] at m1 m2 NB1
            have N1 : Hid (numOf bs g ((d : Int) + 1) s = n1 ∧ scoreErr bs g ((d : Int) + 1) s = 0) := Lib.hid ⟨hn1, by have := (numOf_out (d := d + 1) (by simpa using HR.out) hsb.1 (show s ≤ 1001 by omega)).2; simpa using this⟩
            have N2 : Hid (numOf (bs) g ((d : Int)) s = n2 ∧ scoreErr (bs) g ((d : Int)) s = 0) := Lib.hid ⟨hn2, NE2⟩
            obtain ⟨fa, hfa⟩ : ∃ x, fewTo g bs s = x := ⟨_, rfl⟩
            obtain ⟨fb, hfb⟩ : ∃ x, fewTo g (bs) s = x := ⟨_, rfl⟩
            have FA : Hid (fewL bs g ((d : Int) + 1) s = fa ∧ mostErr bs g ((d : Int) + 1) s = 0) := Lib.hid (by
              have e := mostErr_ok (s := s) HR.out (by omega)
              exact ⟨by rw [fewL, if_pos e, Int.toNat_natCast, hfa], e⟩)
            have FB : Hid (fewL (bs) g ((d : Int)) s = fb ∧ mostErr (bs) g ((d : Int)) s = 0) := Lib.hid (by
              have e := mostErr_ok (s := s) R2.out (by omega)
              exact ⟨by rw [fewL, if_pos e, Int.toNat_natCast, hfb], e⟩)
            have FAL : Hid (fa.length = s + 1) := Lib.hid (by rw [← hfa, fewTo_length])
            have FBL : Hid (fb.length = s + 1) := Lib.hid (by rw [← hfb, fewTo_length])
            have FAA : Hid (∀ k (h : k < fa.length), fa[k] = fewAt g bs k) := Lib.hid (by intro k h; subst hfa; exact fewTo_get h)
            have FBA : Hid (∀ k (h : k < fb.length), fb[k] = fewAt g (bs) k) := Lib.hid (by intro k h; subst hfb; exact fewTo_get h)
            obtain ⟨ca, hca⟩ : ∃ x, bogTo (cnts g bs (d + 1) s) (d + 1) s = x := ⟨_, rfl⟩
            obtain ⟨cb, hcb⟩ : ∃ x, bogTo (cnts g (bs) d s) d s = x := ⟨_, rfl⟩
            have CA : Hid (bogL bs g ((d : Int) + 1) s = ca ∧ mostErr bs g ((d : Int) + 1) s = 0) := Lib.hid (by
              have e := mostErr_ok (s := s) HR.out (by omega)
              exact ⟨by rw [bogL, if_pos e, Int.toNat_natCast, show ((d : Int) + 1).toNat = d + 1 by omega, hca], e⟩)
            have CB : Hid (bogL (bs) g ((d : Int)) s = cb ∧ mostErr (bs) g ((d : Int)) s = 0) := Lib.hid (by
              have e := mostErr_ok (s := s) R2.out (by omega)
              exact ⟨by rw [bogL, if_pos e, show (((d : Int)) : Int).toNat = d by omega, Int.toNat_natCast, hcb], e⟩)
            obtain ⟨J, j1, j2, j3⟩ := places (hca ▸ bogTo_pairwise _ _ _) (hcb ▸ bogTo_pairwise _ _ _) (by rw [← hca, ← hcb]; exact m4)
            have J1 := Lib.hid j1
            have J2 := Lib.hid j2
            have J3 := Lib.hid j3
            have M3 := Lib.hid m3
            have HLE2 : Hid ((bs).length ≤ 85) := Lib.hid (by have := SUB.out.length_le; omega)
            have HI2 : Hid (∀ b ∈ bs, I64 b) := Lib.hid (fun b hb => HI.out b (SUB.out.subset hb))
            have hcal : ca.length ≤ s := by rw [← hca]; exact bogTo_length _ _ _
            have hcbl : cb.length ≤ s := by rw [← hcb]; exact bogTo_length _ _ _
            clear hn1 hn2 hfa hfb hca hcb j1 j2 j3 m3 m4 NE2 R2N
            go_wp2_with fail
            refine (rules_any bs g _ _ _ HS.out HLE.out).mono ?_
            rintro e w21 ⟨v21, rfl, hb21, hv21⟩
            have HU := Lib.hid hv21
            clear hv21
            replace x0 := bAt hb21 x0
            replace x1 := bAt hb21 x1
            replace x2 := bAt hb21 x2
            replace y0 := bAt hb21 y0
            replace y1 := bAt hb21 y1
            replace y2 := bAt hb21 y2
            replace HS := Lib.hid (HS.out.below hb21)
            replace HV := Lib.hid (HV.out.below hb21)
            have HB21 := Lib.hid (bThen HBW.out hb21)
            clear hb21
            go_wp2_with fail
            refine (number_r bs g _ s n1 N1 _ _ HU.out HI.out).mono ?_
            rintro e w22 ⟨rfl, hb22⟩
            clear HU
            replace x0 := bAt hb22 x0
            replace x1 := bAt hb22 x1
            replace x2 := bAt hb22 x2
            replace y0 := bAt hb22 y0
            replace y1 := bAt hb22 y1
            replace y2 := bAt hb22 y2
            replace HS := Lib.hid (HS.out.below hb22)
            replace HV := Lib.hid (HV.out.below hb22)
            have HB22 := Lib.hid (bThen HB21.out hb22)
            clear hb22
            go_wp2_with fail
            refine (rules_any (bs) g _ _ _ HV.out HLE2.out).mono ?_
            rintro e w23 ⟨v23, rfl, hb23, hv23⟩
            have HU := Lib.hid hv23
            clear hv23
            replace x0 := bAt hb23 x0
            replace x1 := bAt hb23 x1
            replace x2 := bAt hb23 x2
            replace y0 := bAt hb23 y0
            replace y1 := bAt hb23 y1
            replace y2 := bAt hb23 y2
            replace HS := Lib.hid (HS.out.below hb23)
            replace HV := Lib.hid (HV.out.below hb23)
            have HB23 := Lib.hid (bThen HB22.out hb23)
            clear hb23
            go_wp2_with fail
            refine (number_r (bs) g _ s n2 N2 _ _ HU.out HI2.out).mono ?_
            rintro e w24 ⟨rfl, hb24⟩
            clear HU
            replace x0 := bAt hb24 x0
            replace x1 := bAt hb24 x1
            replace x2 := bAt hb24 x2
            replace y0 := bAt hb24 y0
            replace y1 := bAt hb24 y1
            replace y2 := bAt hb24 y2
            replace HS := Lib.hid (HS.out.below hb24)
            replace HV := Lib.hid (HV.out.below hb24)
            have HB24 := Lib.hid (bThen HB23.out hb24)
            clear hb24
            go_wp2_with fail
            refine (rules_any bs g _ _ _ HS.out HLE.out).mono ?_
            rintro e w25 ⟨v25, rfl, hb25, hv25⟩
            have HU := Lib.hid hv25
            clear hv25
            replace x0 := bAt hb25 x0
            replace x1 := bAt hb25 x1
            replace x2 := bAt hb25 x2
            replace y0 := bAt hb25 y0
            replace y1 := bAt hb25 y1
            replace y2 := bAt hb25 y2
            replace HS := Lib.hid (HS.out.below hb25)
            replace HV := Lib.hid (HV.out.below hb25)
            have HB25 := Lib.hid (bThen HB24.out hb25)
            clear hb25
            go_wp2_with fail
            refine (fewest_r bs g _ s fa FA _ _ HU.out HI.out).mono ?_
            rintro e w26 ⟨a1, c1, rfl, hb26, hl26⟩
            rw [FAL.out] at hl26
            rw [FAL.out]
            have HFA := Lib.hid hl26
            clear HU hl26
            replace x0 := bAt hb26 x0
            replace x1 := bAt hb26 x1
            replace x2 := bAt hb26 x2
            replace y0 := bAt hb26 y0
            replace y1 := bAt hb26 y1
            replace y2 := bAt hb26 y2
            replace HS := Lib.hid (HS.out.below hb26)
            replace HV := Lib.hid (HV.out.below hb26)
            have HB26 := Lib.hid (bThen HB25.out hb26)
            clear hb26
            go_wp2_with fail
            refine (rules_any (bs) g _ _ _ HV.out HLE2.out).mono ?_
            rintro e w27 ⟨v27, rfl, hb27, hv27⟩
            have HU := Lib.hid hv27
            clear hv27
            replace x0 := bAt hb27 x0
            replace x1 := bAt hb27 x1
            replace x2 := bAt hb27 x2
            replace y0 := bAt hb27 y0
            replace y1 := bAt hb27 y1
            replace y2 := bAt hb27 y2
            replace HS := Lib.hid (HS.out.below hb27)
            replace HV := Lib.hid (HV.out.below hb27)
            replace HFA := Lib.hid (HFA.out.below hb27)
            have HB27 := Lib.hid (bThen HB26.out hb27)
            clear hb27
            go_wp2_with fail
            refine (fewest_r (bs) g _ s fb FB _ _ HU.out HI2.out).mono ?_
            rintro e w28 ⟨a2, c2, rfl, hb28, hl28⟩
            rw [FBL.out] at hl28
            rw [FBL.out]
            have HFB := Lib.hid hl28
            clear HU hl28
            replace x0 := bAt hb28 x0
            replace x1 := bAt hb28 x1
            replace x2 := bAt hb28 x2
            replace y0 := bAt hb28 y0
            replace y1 := bAt hb28 y1
            replace y2 := bAt hb28 y2
            replace HS := Lib.hid (HS.out.below hb28)
            replace HV := Lib.hid (HV.out.below hb28)
            replace HFA := Lib.hid (HFA.out.below hb28)
            have HB28 := Lib.hid (bThen HB27.out hb28)
            clear hb28
            go_wp2_with fail
            refine (rules_any bs g _ _ _ HS.out HLE.out).mono ?_
            rintro e w29 ⟨v29, rfl, hb29, hv29⟩
            have HU := Lib.hid hv29
            clear hv29
            replace x0 := bAt hb29 x0
            replace x1 := bAt hb29 x1
            replace x2 := bAt hb29 x2
            replace y0 := bAt hb29 y0
            replace y1 := bAt hb29 y1
            replace y2 := bAt hb29 y2
            replace HS := Lib.hid (HS.out.below hb29)
            replace HV := Lib.hid (HV.out.below hb29)
            replace HFA := Lib.hid (HFA.out.below hb29)
            replace HFB := Lib.hid (HFB.out.below hb29)
            have HB29 := Lib.hid (bThen HB28.out hb29)
            clear hb29
            go_wp2_with fail
            refine (bogeys_r bs g _ s ca CA _ _ HU.out HI.out).mono ?_
            rintro e w30 ⟨a3, c3, rfl, hb30, hl30⟩
            have HCA := Lib.hid hl30
            clear HU hl30
            replace x0 := bAt hb30 x0
            replace x1 := bAt hb30 x1
            replace x2 := bAt hb30 x2
            replace y0 := bAt hb30 y0
            replace y1 := bAt hb30 y1
            replace y2 := bAt hb30 y2
            replace HS := Lib.hid (HS.out.below hb30)
            replace HV := Lib.hid (HV.out.below hb30)
            replace HFA := Lib.hid (HFA.out.below hb30)
            replace HFB := Lib.hid (HFB.out.below hb30)
            have HB30 := Lib.hid (bThen HB29.out hb30)
            clear hb30
            go_wp2_with fail
            refine (rules_any (bs) g _ _ _ HV.out HLE2.out).mono ?_
            rintro e w31 ⟨v31, rfl, hb31, hv31⟩
            have HU := Lib.hid hv31
            clear hv31
            replace x0 := bAt hb31 x0
            replace x1 := bAt hb31 x1
            replace x2 := bAt hb31 x2
            replace y0 := bAt hb31 y0
            replace y1 := bAt hb31 y1
            replace y2 := bAt hb31 y2
            replace HS := Lib.hid (HS.out.below hb31)
            replace HV := Lib.hid (HV.out.below hb31)
            replace HFA := Lib.hid (HFA.out.below hb31)
            replace HFB := Lib.hid (HFB.out.below hb31)
            replace HCA := Lib.hid (HCA.out.below hb31)
            have HB31 := Lib.hid (bThen HB30.out hb31)
            clear hb31
            go_wp2_with fail
            refine (bogeys_r (bs) g _ s cb CB _ _ HU.out HI2.out).mono ?_
            rintro e w32 ⟨a4, c4, rfl, hb32, hl32⟩
            have HCB := Lib.hid hl32
            clear HU hl32
            replace x0 := bAt hb32 x0
            replace x1 := bAt hb32 x1
            replace x2 := bAt hb32 x2
            replace y0 := bAt hb32 y0
            replace y1 := bAt hb32 y1
            replace y2 := bAt hb32 y2
            replace HS := Lib.hid (HS.out.below hb32)
            replace HV := Lib.hid (HV.out.below hb32)
            replace HFA := Lib.hid (HFA.out.below hb32)
            replace HFB := Lib.hid (HFB.out.below hb32)
            replace HCA := Lib.hid (HCA.out.below hb32)
            have HB32 := Lib.hid (bThen HB31.out hb32)
            clear hb32
            clear x0 x1 x2 y0 y1 y2 HS HV
            have e1 : decide (n2 < 0) = false := by simp; omega
            have e2 : decide (n1 < n2) = false := by simp; omega
            go_wp2_with fail
            go_loopw [22] (fun i wr => ∃ k : Nat, k ≤ s + 1 ∧ i = .int .i64 k ∧ Below w32.heap.size w32 wr) (fun i _ => s + 1 - (intOf i).toNat)
            case atStart => exact ⟨0, by omega, rfl, Below.refl _ _⟩
            case round =>
              obtain ⟨k, hk, rfl, hb⟩ := hrel
              replace HFA := Lib.hid (HFA.out.below hb)
              replace HFB := Lib.hid (HFB.out.below hb)
              replace HCA := Lib.hid (HCA.out.below hb)
              replace HCB := Lib.hid (HCB.out.below hb)
              have HBL := Lib.hid hb
              clear hb
              by_cases hlt : k < s + 1
              · have d1 : decide (k ≤ s) = true := by simp; omega
                have hik : (k : Int) < (s : Int) + 1 := by omega
                obtain ⟨b1, o1, ea1, _, z1⟩ := HFA.out.cell (show k < fa.length by have := FAL.out; omega)
                cases ea1
                obtain ⟨b2, o2, ea2, _, z2⟩ := HFB.out.cell (show k < fb.length by have := FBL.out; omega)
                cases ea2
                rw [FAA.out k (by have := FAL.out; omega)] at z1
                rw [FBA.out k (by have := FBL.out; omega)] at z2
                obtain ⟨ka, hka⟩ : ∃ x, fewAt g bs k = x := ⟨_, rfl⟩
                obtain ⟨kb, hkb⟩ : ∃ x, fewAt g (bs) k = x := ⟨_, rfl⟩
                have MK : 0 ≤ kb → 0 ≤ ka ∧ ka ≤ kb := by rw [← hka, ← hkb]; exact M3.out k
                rw [hka] at z1
                rw [hkb] at z2
                clear hka hkb
                by_cases hkb0 : 0 ≤ kb
                · obtain ⟨p1, p2⟩ := MK hkb0
                  have d2 : decide (0 ≤ kb) = true := by simp [hkb0]
                  have d3 : decide (ka < 0) = false := by simp; omega
                  have d4 : decide (kb < ka) = false := by simp; omega
                  clear MK
                  go_wp2_with fail
                  go_quiet (fail)
                  go_wp2_with fail
                  go_roundw
                  case rel => exact ⟨k + 1, by omega, by go_num, ⟨HBL.out.os, HBL.out.tape, HBL.out.output, HBL.out.size, HBL.out.block⟩⟩
                  case measure => simp [intOf]; omega
                · have d2 : decide (0 ≤ kb) = false := by simp [hkb0]
                  clear MK
                  go_wp2_with fail
                  go_quiet (fail)
                  go_wp2_with fail
                  go_roundw
                  case rel => exact ⟨k + 1, by omega, by go_num, ⟨HBL.out.os, HBL.out.tape, HBL.out.output, HBL.out.size, HBL.out.block⟩⟩
                  case measure => simp [intOf]; omega
              · obtain rfl : k = s + 1 := by omega
                have d1 : decide (s + 1 ≤ s) = false := by simp
                obtain ⟨ws, rfl⟩ : ∃ ws : World, ws = wr := ⟨_, rfl⟩
                have HBS := Lib.hid (bThen HB32.out HBL.out)
                clear HFA HFB
                go_wp2_with fail
                go_loopw [23, 24] (fun at' i wr => ∃ k t : Nat, k ≤ ca.length ∧ i = .int .i64 k ∧ at' = .int .i64 t ∧ t ≤ cb.length ∧ Hid (∀ _ : k < ca.length, t ≤ J k) ∧ Below ws.heap.size ws wr) (fun _ i _ => ca.length - (intOf i).toNat)
                case atStart => exact ⟨0, 0, by omega, rfl, rfl, by omega, Lib.hid (fun _ => by omega), Below.refl _ _⟩
                case round =>
                  obtain ⟨k, t, hk, rfl, rfl, ht, TJ, hb⟩ := hrel
                  obtain ⟨wo, rfl⟩ : ∃ wo : World, wo = wr := ⟨_, rfl⟩
                  replace HCA := Lib.hid (HCA.out.below hb)
                  replace HCB := Lib.hid (HCB.out.below hb)
                  have HBO := Lib.hid hb
                  clear hb
                  by_cases hlk : k < ca.length
                  · have hik : (k : Int) < (ca.length : Int) := by omega
                    obtain ⟨hj, hje⟩ := J1.out k hlk
                    have TK := TJ.out hlk
                    obtain ⟨x, hx⟩ : ∃ x, ca[k] = x := ⟨_, rfl⟩
                    have JX : Hid (∀ q (h : q < cb.length), cb[q] < x ↔ q < J k) := Lib.hid (fun q h => hx ▸ J3.out k hlk q h)
                    have HXK := Lib.hid hx
                    have HJE : Hid (cb[J k] = x) := Lib.hid (hje.trans hx)
                    obtain ⟨jk, hjk⟩ : ∃ jk, J k = jk := ⟨_, rfl⟩
                    rw [hjk] at hj TK JX
                    have HJE2 : Hid (∀ h : jk < cb.length, cb[jk] = x) := Lib.hid (fun h => by subst hjk; exact HJE.out)
                    have J2K : Hid (k + 1 < ca.length → jk < J (k + 1)) := Lib.hid (fun h => hjk ▸ J2.out k h)
                    clear hx hje hjk HJE
                    go_wp2_with fail
                    go_loopw [23] (fun at' wr => ∃ t : Nat, t ≤ jk ∧ at' = .int .i64 t ∧ Below wo.heap.size wo wr) (fun at' _ => cb.length - (intOf at').toNat)
                    case atStart => exact ⟨t, TK, rfl, Below.refl _ _⟩
                    case round =>
                      obtain ⟨t, ht, rfl, hb⟩ := hrel
                      replace HCA := Lib.hid (HCA.out.below hb)
                      replace HCB := Lib.hid (HCB.out.below hb)
                      have HBR := Lib.hid hb
                      clear hb
                      have hit : (t : Int) < (cb.length : Int) := by omega
                      have hlt2 : t < cb.length := by omega
                      have d5 : decide (t < cb.length) = true := by simp; omega
                      have d6 : ((t : Int) == (cb.length : Int)) = false := beq_eq_false_iff_ne.2 (by omega)
                      have d7 : (t == cb.length) = false := beq_eq_false_iff_ne.2 (by omega)
                      obtain ⟨b1, o1, ea1, _, z1⟩ := HCA.out.cell hlk
                      cases ea1
                      obtain ⟨b2, o2, ea2, _, z2⟩ := HCB.out.cell hlt2
                      cases ea2
                      rw [HXK.out] at z1
                      obtain ⟨y, hy⟩ : ∃ y, cb[t] = y := ⟨_, rfl⟩
                      rw [hy] at z2
                      by_cases htj : t < jk
                      · have d8 : decide (y < x) = true := by rw [decide_eq_true_eq, ← hy]; exact (JX.out t hlt2).2 htj
                        clear hy
                        go_wp2_with fail
                        go_quiet (fail)
                        go_wp2_with fail
                        go_roundw
                        case rel => exact ⟨t + 1, by omega, by go_num, ⟨HBR.out.os, HBR.out.tape, HBR.out.output, HBR.out.size, HBR.out.block⟩⟩
                        case measure => simp [intOf]; omega
                      · obtain rfl : t = jk := by omega
                        obtain rfl : y = x := hy.symm.trans (HJE2.out hlt2)
                        have d8 : decide (y < y) = false := by simp
                        clear hy
                        go_wp2_with fail
                        go_quiet (fail)
                        go_wp2_with fail
                        go_quiet (fail)
                        go_wp2_with fail
                        go_roundw
                        case rel => exact ⟨k + 1, t, by omega, by go_num, rfl, by omega, Lib.hid (fun h => by have := J2K.out h; omega), bThen HBO.out ⟨HBR.out.os, HBR.out.tape, HBR.out.output, HBR.out.size, HBR.out.block⟩⟩
                        case measure => simp [intOf]; omega
                  · obtain rfl : k = ca.length := by omega
                    go_wp2_with fail
                    refine (known_any _).mono ?_
                    rintro e w99 ⟨rfl, hb99⟩
                    have HB99 := Lib.hid (bThen HBS.out (bThen HBO.out hb99))
                    clear hb99
                    go_wp2
                    go_ret
                    exact ⟨rfl, HB99.out⟩
    · by_cases hw6 : wh % 3 = 0
      · as_aux_lemma =>
          have HXY : Hid (X < w2.heap.size) := Lib.hid (World.block_lt_of_cell? w2 _ x0)
          have HSO0 := Lib.hid (HS.out.lt.mono (S' := fun q => q < w2.heap.size) (fun q hq => hq.2))
          have c0 : (wh % 3 == 0) = true := by simp; omega
          have hwh3 : IntKind.i64.wrap wh = wh := wrap_small _ (by omega) (by omega)
          obtain ⟨qq, hqq⟩ : ∃ q : Nat, wh / 3 = q := ⟨(wh / 3).toNat, by omega⟩
          obtain ⟨ii, hii⟩ : ∃ i, qq % bs.length = i := ⟨_, rfl⟩
          have hil : ii < bs.length := hii ▸ Nat.mod_lt _ hbp
          have hmod : (qq : Int) % (bs.length : Int) = (ii : Int) := by rw [← hii]; simp
          have b0 : ((bs.length : Int) == 0) = false := beq_eq_false_iff_ne.2 (by omega)
          clear hw5 hw6 hii
          obtain ⟨b, off, hae, _, hcb⟩ := HS.out.cell hil
          cases hae
          clear hcb
          have px0 : (w2.alloc (.cells #[.slice al bs.length cl, .int .i64 g, .int .i64 ((d : Int) + 1)] 25)).cell? ⟨X, 0, none⟩ = some (.slice (some ⟨b, off, none⟩) bs.length cap) := bAt (aB w2 _) x0
          have px1 : (w2.alloc (.cells #[.slice al bs.length cl, .int .i64 g, .int .i64 ((d : Int) + 1)] 25)).cell? ⟨X, 1, none⟩ = some (.int .i64 g) := bAt (aB w2 _) x1
          have px2 : (w2.alloc (.cells #[.slice al bs.length cl, .int .i64 g, .int .i64 ((d : Int) + 1)] 25)).cell? ⟨X, 2, none⟩ = some (.int .i64 ((d : Int) + 1)) := bAt (aB w2 _) x2
          have ph := World.alloc_heap_new w2 (.cells #[.slice al bs.length cl, .int .i64 g, .int .i64 ((d : Int) + 1)] 25)
          have py0 : (w2.alloc (.cells #[.slice al bs.length cl, .int .i64 g, .int .i64 ((d : Int) + 1)] 25)).cell? ⟨w2.heap.size, 0, none⟩ = some (.slice al bs.length cl) := by rw [cell_of_heap ph]; rfl
          have py1 : (w2.alloc (.cells #[.slice al bs.length cl, .int .i64 g, .int .i64 ((d : Int) + 1)] 25)).cell? ⟨w2.heap.size, 1, none⟩ = some (.int .i64 g) := by rw [cell_of_heap ph]; rfl
          have py2 : (w2.alloc (.cells #[.slice al bs.length cl, .int .i64 g, .int .i64 ((d : Int) + 1)] 25)).cell? ⟨w2.heap.size, 2, none⟩ = some (.int .i64 ((d : Int) + 1)) := by rw [cell_of_heap ph]; rfl
          obtain ⟨WA, hWA⟩ : ∃ WA, w2.alloc (.cells #[.slice al bs.length cl, .int .i64 g, .int .i64 ((d : Int) + 1)] 25) = WA := ⟨_, rfl⟩
          have hbA : Below w2.heap.size w2 WA := by rw [← hWA]; exact aB _ _
          have hYA : WA.heap[w2.heap.size]? = some (.cells #[.slice al bs.length cl, .int .i64 g, .int .i64 ((d : Int) + 1)] 25 (0, 0)) := by rw [← hWA]; exact World.alloc_heap_new _ _
          obtain ⟨Y, hY⟩ : ∃ Y, Y = w2.heap.size := ⟨_, rfl⟩
          rw [← hY] at hYA
          replace x0 := bAt hbA x0
          replace x1 := bAt hbA x1
          replace x2 := bAt hbA x2
          replace HS := Lib.hid (HS.out.below hbA)
          replace HV := Lib.hid (HV.out.below hbA)
          have HB2A := Lib.hid hbA
          have HSO := Lib.hid ((HSO0.out.below hbA).mono (S' := fun q => q < Y) (fun q hq => by rw [hY]; exact hq))
          replace HXY : Hid (X < Y) := Lib.hid (by rw [hY]; exact HXY.out)
          have HWA := Lib.hid hWA
          have HY := Lib.hid hY
          have HYA := Lib.hid hYA
          have hYs : Y < WA.heap.size := (Array.getElem?_eq_some_iff.1 hYA).1
          have hs21 := slice_to b off bs.length cap ii (by omega)
          obtain ⟨ad, hs27, had⟩ := slice_from b off bs.length cap (ii + 1) (by omega) hlc (by unfold maxLen; omega)
          rw [Int.natCast_add, Int.natCast_one] at hs27
          have hwk : IntKind.i64.wrap ((ii : Int) + 1) = (ii : Int) + 1 := wrap_small _ (by omega) (by omega)
          have hl1 : (ints (bs.take ii)).length = ii := by simp; omega
          have hl2 : (ints (bs.drop (ii + 1))).length = bs.length - (ii + 1) := by simp
          have hcell : ∀ w1, Below WA.heap.size WA w1 → ∀ j (hj : j < bs.length), w1.cell? ⟨b, off + j, none⟩ = some (.int .i64 bs[j]) := fun w1 hb j hj => by
            obtain ⟨b', off', e, _, hc⟩ := HS.out.cell hj
            cases e; exact bAt hb hc
          have hn1 : ∀ w1, Below WA.heap.size WA w1 → ∀ j u, (ints (bs.take ii))[j]? = some u → w1.cell? ((⟨b, off, none⟩ : Addr).add j) = some u := fun w1 hb j u hj => by
            have hjk : j < ii := by have := (List.getElem?_eq_some_iff.1 hj).1; omega
            rw [intsAt (by simp; omega)] at hj
            cases hj
            rw [addr_add, List.getElem_take]
            exact hcell w1 hb j (by omega)
          have hn2 : ∀ w1, Below WA.heap.size WA w1 → ∀ j u, (ints (bs.drop (ii + 1)))[j]? = some u → w1.cell? (ad.add j) = some u := fun w1 hb j u hj => by
            have hjk : j < bs.length - (ii + 1) := by have := (List.getElem?_eq_some_iff.1 hj).1; omega
            rw [intsAt (by simpa using hjk)] at hj
            cases hj
            rw [had (by omega), addr_add, List.getElem_drop, Nat.add_assoc]
            exact hcell w1 hb _ (by omega)
          have HN1 := Lib.hid hn1
          have HN2 := Lib.hid hn2
          have HL1 := Lib.hid hl1
          have HL2 := Lib.hid hl2
          clear hn1 hn2 hl1 hl2 hcell hY hWA hYA had hbA
          go_wp2_with fail
          simp only [hmod]
          rw [HWA.out, ← HY.out]
          clear ph px0 py0 px1 py1 px2 py2
          refine wp_region_seq 13 [⟨fun v => ∃ b, v = .slice (some ⟨b, 0, none⟩) 0 0, fun _ _ => True, fun _ _ _ _ h => h⟩, .is ?_, .is ?_, .is ?_, .is ?_,
            ⟨fun v => ∃ b c, v = .slice (some ⟨b, 0, none⟩) ii c, fun v w => AccAt WA.heap.size w v (ints (bs.take ii)), fun v w w' hb h => h.below hb⟩, .is ?_, .is ?_, .is ?_, .is ?_, .is ?_,
            ⟨fun v => ∃ b n c, v = .slice (some ⟨b, 0, none⟩) n c, fun v w => AccAt WA.heap.size w v (ints (bs.take ii) ++ ints (bs.drop (ii + 1))), fun v w w' hb h => h.below hb⟩, .is (.pointer (some ⟨Y, 0, none⟩))] rfl mix (by kernel_rfl) (by kernel_rfl) ?seqm
          case seqm =>
            simp only [List.take_succ_cons, List.take_zero]
            refine seq_new ⟨_, 0, rfl⟩ (by rfl) (fun w1 hb _ => ?_) ?_
            · simp [opOK, go_sem]
              exact aB _ _
            rintro v17 ⟨b17, rfl⟩
            simp only [Act.put, List.setIfInBounds_toArray, List.set_cons_succ, List.set_cons_zero]
            iterate 4
              refine seq_is rfl (fun w1 hb1 _ => ?_) ?_
              · have z0 := bAt hb1 x0
                simp [opOK, go_sem, z0, hs21, Below.refl]
                try exact rfl
              simp only [Act.put, List.setIfInBounds_toArray, List.set_cons_succ, List.set_cons_zero]
            refine seq_new ⟨_, 0, 0, rfl⟩ (by rfl) (fun w1 hb1 _ => ?_) ?_
            · obtain ⟨v', W', hrun, ha1, _, _, hb, _⟩ := acc_append (N := WA.heap.size) (W := w1) (v := .slice (some ⟨b17, 0, none⟩) 0 0) (xs := []) (.inl ⟨rfl, b17, rfl⟩) (by simp) ⟨b, off, none⟩ ii cap (ints (bs.take ii)) HL1.out (by omega) (HN1.out w1 hb1) ints_one hb1.size
              refine opOK_append_run (v1 := .slice (some ⟨b17, 0, none⟩) 0 0) (v2 := .slice (some ⟨b, off, none⟩) ii cap) (.tmp 55) (.tmp 59) 22 rfl rfl rfl hrun ⟨hb rfl, ?_, by simpa using ha1⟩
              obtain ⟨b', c', e⟩ := ha1.form
              refine ⟨b', c', ?_⟩
              rw [e, List.nil_append, HL1.out]
            rintro v22 ⟨b22, c22, rfl⟩
            simp only [Act.put, List.setIfInBounds_toArray, List.set_cons_succ, List.set_cons_zero]
            iterate 5
              refine seq_is rfl (fun w1 hb1 _ => ?_) ?_
              · have z0 := bAt hb1 x0
                simp [opOK, go_sem, z0, hwk, hs27, Below.refl]
                try exact rfl
              simp only [Act.put, List.setIfInBounds_toArray, List.set_cons_succ, List.set_cons_zero]
            refine seq_wr ⟨_, 0, 0, 0, rfl⟩ (by rfl) (fun w1 hb1 hH => ?_) ?_
            · have h5 : AccAt WA.heap.size w1 (.slice (some ⟨b22, 0, none⟩) ii c22) (ints (bs.take ii)) := by
                have := hH ⟨5, .data⟩ (by simp) rfl
                simpa [addH] using this
              obtain ⟨v', W', hrun, ha1, ha2, hbn, _, _⟩ := acc_append h5 (by rw [HL1.out]; omega) ad (bs.length - (ii + 1)) (cap - (ii + 1)) (ints (bs.drop (ii + 1))) HL2.out (by omega) (HN2.out w1 hb1) ints_one hb1.size
              refine opOK_append_run (v1 := .slice (some ⟨b22, 0, none⟩) ii c22) (v2 := .slice (some ad) (bs.length - (ii + 1)) (cap - (ii + 1))) (.tmp 60) (.tmp 65) 22 rfl rfl rfl hrun ⟨hbn, ?_, ?_, ha1⟩
              · intro j kj hj hj11 u hu hut hp
                match j, hj with
                | 0, hj => cases hj; trivial
                | 1, hj => cases hj; trivial
                | 2, hj => cases hj; trivial
                | 3, hj => cases hj; trivial
                | 4, hj => cases hj; trivial
                | 5, hj =>
                  cases hj
                  have := hut ⟨⟨5, .data⟩, by simp, rfl, rfl⟩ _ 60 rfl rfl
                  simp at this
                  subst this
                  exact ha2
                | 6, hj => cases hj; trivial
                | 7, hj => cases hj; trivial
                | 8, hj => cases hj; trivial
                | 9, hj => cases hj; trivial
                | 10, hj => cases hj; trivial
                | 11, hj => exact absurd rfl hj11
                | 12, hj => cases hj; trivial
                | _ + 13, hj => simp at hj
              · obtain ⟨b', c', e⟩ := ha1.form
                exact ⟨b', _, c', e⟩
            rintro v28 ⟨b28, n28, c28, rfl⟩
            simp only [Act.put, List.setIfInBounds_toArray, List.set_cons_succ, List.set_cons_zero]
            refine seq_is rfl (fun w1 hb1 _ => ?_) ?_
            · simp [opOK, go_sem, Below.refl]
              try exact rfl
            simp only [Act.put, List.setIfInBounds_toArray, List.set_cons_succ, List.set_cons_zero]
            refine seq_end fun w5 hb5 hH => ?_
            have h11 : AccAt WA.heap.size w5 (.slice (some ⟨b28, 0, none⟩) n28 c28) (ints (bs.take ii) ++ ints (bs.drop (ii + 1))) := by
              have := hH 11 (by omega)
              simpa [addH] using this
            have hbs' : bs.take ii ++ bs.drop (ii + 1) = bs.eraseIdx ii := (List.eraseIdx_eq_take_drop_succ bs ii).symm
            rw [← ints_append, hbs'] at h11
            obtain ⟨_, _, e28⟩ := h11.form
            obtain rfl : n28 = (ints (bs.eraseIdx ii)).length := by cases e28; rfl
            rw [ints_length] at *
            have hle : (bs.eraseIdx ii).length ≤ bs.length := List.length_eraseIdx_le _ _
            have hY5 := (hb5.block Y hYs).trans HYA.out
            have k0 : w5.cell? ⟨Y, 0, none⟩ = some (.slice al bs.length cl) := by rw [cell_of_heap hY5]; rfl
            have s0 : w5.frozen? ⟨Y, 0, none⟩ = false := frozen_of_heap hY5
            obtain ⟨w3, hW3⟩ : ∃ w3, w5.setCell ⟨Y, 0, none⟩ (.slice (some ⟨b28, 0, none⟩) (bs.eraseIdx ii).length c28) = w3 := ⟨_, rfl⟩
            have hY3 : w3.heap[Y]? = some (.cells #[.slice (some ⟨b28, 0, none⟩) (bs.eraseIdx ii).length c28, .int .i64 g, .int .i64 ((d : Int) + 1)] 25 (0, 0)) := by rw [← hW3, heap_setCell_at hY5]; rfl
            have hv3 : Sl (fun j => WA.heap.size ≤ j) w3 (.slice (some ⟨b28, 0, none⟩) (bs.eraseIdx ii).length c28) (ints (bs.eraseIdx ii)) := by
              rw [← hW3]
              exact h11.sl.cells fun bb o hbb _ => World.cell?_setCell_other _ _ _ _ (fun e => by simp at e <;> omega)
            have hbY : Below Y WA w3 := by rw [← hW3]; exact (hb5.mono (by omega)).setCell (p := ⟨Y, 0, none⟩) (by simp) _
            have y0 : w3.cell? ⟨Y, 0, none⟩ = some (.slice (some ⟨b28, 0, none⟩) (bs.eraseIdx ii).length c28) := by rw [cell_of_heap hY3]; rfl
            have y1 : w3.cell? ⟨Y, 1, none⟩ = some (.int .i64 g) := by rw [cell_of_heap hY3]; rfl
            have y2 : w3.cell? ⟨Y, 2, none⟩ = some (.int .i64 ((d : Int) + 1)) := by rw [cell_of_heap hY3]; rfl
            have hbw3 : Below w.heap.size w w3 := HB2.out.trans ((HB2A.out.trans (hbY.mono (Nat.le_of_eq HY.out.symm))).mono HB2.out.size)
            have hXY := HXY.out
            replace x0 := (hbY.cell (p := ⟨X, 0, none⟩) hXY).trans x0
            replace x1 := (hbY.cell (p := ⟨X, 1, none⟩) hXY).trans x1
            replace x2 := (hbY.cell (p := ⟨X, 2, none⟩) hXY).trans x2
            replace HS := Lib.hid ((HSO.out).cells (w' := w3) (fun b o hb _ => hbY.cell (p := ⟨b, o, none⟩) hb))
            have HV := Lib.hid hv3
            have HBW := Lib.hid hbw3
            have HW3 := Lib.hid hW3
            clear hH hs21 hs27 h11 e28 hbs' hY5 hY3 hv3 hbY hbw3 hW3 hb5
            simp only [List.drop_succ_cons, List.drop_zero]
            rw [← HW3.out] at x0 x1 x2 y0 y1 y2
            have b1 : ((d : Int) + 1 == 0) = false := beq_eq_false_iff_ne.2 (by omega)
            by_cases h0 : (bs.eraseIdx ii).length = 0
            · have hz : bs.eraseIdx ii = [] := List.eq_nil_of_length_eq_zero h0
              have b2 : (((bs.eraseIdx ii).length : Int) == 0) = true := by simp [hz]
              have HZ := Lib.hid hz
              clear h0 hz
              go_wp2_with fail
              rw [HW3.out]
              clear x0 x1 x2 y0 y1 y2 k0 s0
              have RF : Hid (rulesOk (bs.eraseIdx ii) g ((d : Int) + 1) = false) := Lib.hid (by rw [HZ.out]; exact rulesOk_nil _ _)
              refine (check_r (bs.eraseIdx ii) g ((d : Int) + 1) _ RF _ _ HV.out (fun b hb => HI.out b (List.mem_of_mem_eraseIdx hb))).mono ?_
              rintro e w30 ⟨rfl, hb30⟩
              simp only [chkN]
              have HB30 := Lib.hid (bThen HBW.out hb30)
              clear hb30
              go_wp2_with fail
              refine (known_any _).mono ?_
              rintro e w99 ⟨rfl, hb99⟩
              have HB99 := Lib.hid (bThen HB30.out hb99)
              clear hb99
              go_wp2
              go_ret
              exact ⟨rfl, HB99.out⟩
            · have b2 : (((bs.eraseIdx ii).length : Int) == 0) = false := beq_eq_false_iff_ne.2 (by omega)
              have HNZ : Hid (bs.eraseIdx ii ≠ []) := Lib.hid (fun e => h0 (by rw [e]; rfl))
              clear h0
              go_wp2_with fail
              rw [HW3.out]
              rw [HW3.out] at x0 x1 x2 y0 y1 y2
              clear k0 s0
              have hdd : d + 1 ≤ d + 1 := by omega
              have SUB : Hid ((bs.eraseIdx ii).Sublist bs) := Lib.hid (List.eraseIdx_sublist _ _)
              have GT : Hid (∀ s b, aftOk g s b = true → aftOk g s b = true) := Lib.hid (fun _ _ h => h)
              have R2 := Lib.hid (eraseIdx_rules HR.out HNZ.out)
              as_aux_lemma =>
                have R2N : rulesOk (bs.eraseIdx ii) g ((d + 1) : Nat) = true := by simpa using R2.out
                have MF := more_facts (d := d + 1) (d' := (d + 1)) (by simpa using HR.out) R2N GT.out SUB.out hdd hsb.1 (show s ≤ 1001 by omega)
                have DC : Hid ((((d + 1) : Nat) : Int) = (d : Int) + 1) := Lib.hid (by simp)
                rw [show ((d + 1 : Nat) : Int) = (d : Int) + 1 by simp] at MF
                obtain ⟨⟨m1, m2⟩, m3, m4⟩ := MF
                have NB1 := numOf_bd R2N s
                have NE2 := (numOf_out R2N hsb.1 (show s ≤ 1001 by omega)).2
                rw [DC.out] at NB1 NE2
                have NB2 := numOf_bd (d := d + 1) (by simpa using HR.out) s
                rw [show ((d + 1 : Nat) : Int) = (d : Int) + 1 by simp] at NB2
                obtain ⟨n1, hn1⟩ : ∃ x, numOf bs g ((d : Int) + 1) s = x := ⟨_, rfl⟩
                obtain ⟨n2, hn2⟩ : ∃ x, numOf (bs.eraseIdx ii) g ((d : Int) + 1) s = x := ⟨_, rfl⟩
                rw [hn1] at m2 NB2
                rw [hn2] at m1 m2 NB1
                have N1 : Hid (numOf bs g ((d : Int) + 1) s = n1 ∧ scoreErr bs g ((d : Int) + 1) s = 0) := Lib.hid ⟨hn1, by have := (numOf_out (d := d + 1) (by simpa using HR.out) hsb.1 (show s ≤ 1001 by omega)).2; simpa using this⟩
                have N2 : Hid (numOf (bs.eraseIdx ii) g ((d : Int) + 1) s = n2 ∧ scoreErr (bs.eraseIdx ii) g ((d : Int) + 1) s = 0) := Lib.hid ⟨hn2, NE2⟩
                obtain ⟨fa, hfa⟩ : ∃ x, fewTo g bs s = x := ⟨_, rfl⟩
                obtain ⟨fb, hfb⟩ : ∃ x, fewTo g (bs.eraseIdx ii) s = x := ⟨_, rfl⟩
                have FA : Hid (fewL bs g ((d : Int) + 1) s = fa ∧ mostErr bs g ((d : Int) + 1) s = 0) := Lib.hid (by
                  have e := mostErr_ok (s := s) HR.out (by omega)
                  exact ⟨by rw [fewL, if_pos e, Int.toNat_natCast, hfa], e⟩)
                have FB : Hid (fewL (bs.eraseIdx ii) g ((d : Int) + 1) s = fb ∧ mostErr (bs.eraseIdx ii) g ((d : Int) + 1) s = 0) := Lib.hid (by
                  have e := mostErr_ok (s := s) R2.out (by omega)
                  exact ⟨by rw [fewL, if_pos e, Int.toNat_natCast, hfb], e⟩)
                have FAL : Hid (fa.length = s + 1) := Lib.hid (by rw [← hfa, fewTo_length])
                have FBL : Hid (fb.length = s + 1) := Lib.hid (by rw [← hfb, fewTo_length])
                have FAA : Hid (∀ k (h : k < fa.length), fa[k] = fewAt g bs k) := Lib.hid (by intro k h; subst hfa; exact fewTo_get h)
                have FBA : Hid (∀ k (h : k < fb.length), fb[k] = fewAt g (bs.eraseIdx ii) k) := Lib.hid (by intro k h; subst hfb; exact fewTo_get h)
                obtain ⟨ca, hca⟩ : ∃ x, bogTo (cnts g bs (d + 1) s) (d + 1) s = x := ⟨_, rfl⟩
                obtain ⟨cb, hcb⟩ : ∃ x, bogTo (cnts g (bs.eraseIdx ii) (d + 1) s) (d + 1) s = x := ⟨_, rfl⟩
                have CA : Hid (bogL bs g ((d : Int) + 1) s = ca ∧ mostErr bs g ((d : Int) + 1) s = 0) := Lib.hid (by
                  have e := mostErr_ok (s := s) HR.out (by omega)
                  exact ⟨by rw [bogL, if_pos e, Int.toNat_natCast, show ((d : Int) + 1).toNat = d + 1 by omega, hca], e⟩)
                have CB : Hid (bogL (bs.eraseIdx ii) g ((d : Int) + 1) s = cb ∧ mostErr (bs.eraseIdx ii) g ((d : Int) + 1) s = 0) := Lib.hid (by
                  have e := mostErr_ok (s := s) R2.out (by omega)
                  exact ⟨by rw [bogL, if_pos e, show (((d : Int) + 1) : Int).toNat = (d + 1) by omega, Int.toNat_natCast, hcb], e⟩)
                obtain ⟨J, j1, j2, j3⟩ := places (hca ▸ bogTo_pairwise _ _ _) (hcb ▸ bogTo_pairwise _ _ _) (by rw [← hca, ← hcb]; exact m4)
                have J1 := Lib.hid j1
                have J2 := Lib.hid j2
                have J3 := Lib.hid j3
                have M3 := Lib.hid m3
                have HLE2 : Hid ((bs.eraseIdx ii).length ≤ 85) := Lib.hid (by have := SUB.out.length_le; omega)
                have HI2 : Hid (∀ b ∈ bs.eraseIdx ii, I64 b) := Lib.hid (fun b hb => HI.out b (SUB.out.subset hb))
                have hcal : ca.length ≤ s := by rw [← hca]; exact bogTo_length _ _ _
                have hcbl : cb.length ≤ s := by rw [← hcb]; exact bogTo_length _ _ _
                clear hn1 hn2 hfa hfb hca hcb j1 j2 j3 m3 m4 NE2 R2N
                go_wp2_with fail
                refine (rules_any bs g _ _ _ HS.out HLE.out).mono ?_
                rintro e w21 ⟨v21, rfl, hb21, hv21⟩
                have HU := Lib.hid hv21
                clear hv21
                replace x0 := bAt hb21 x0
                replace x1 := bAt hb21 x1
                replace x2 := bAt hb21 x2
                replace y0 := bAt hb21 y0
                replace y1 := bAt hb21 y1
                replace y2 := bAt hb21 y2
                replace HS := Lib.hid (HS.out.below hb21)
                replace HV := Lib.hid (HV.out.below hb21)
                have HB21 := Lib.hid (bThen HBW.out hb21)
                clear hb21
                go_wp2_with fail
                refine (number_r bs g _ s n1 N1 _ _ HU.out HI.out).mono ?_
                rintro e w22 ⟨rfl, hb22⟩
                clear HU
                replace x0 := bAt hb22 x0
                replace x1 := bAt hb22 x1
                replace x2 := bAt hb22 x2
                replace y0 := bAt hb22 y0
                replace y1 := bAt hb22 y1
                replace y2 := bAt hb22 y2
                replace HS := Lib.hid (HS.out.below hb22)
                replace HV := Lib.hid (HV.out.below hb22)
                have HB22 := Lib.hid (bThen HB21.out hb22)
                clear hb22
                go_wp2_with fail
                refine (rules_any (bs.eraseIdx ii) g _ _ _ HV.out HLE2.out).mono ?_
                rintro e w23 ⟨v23, rfl, hb23, hv23⟩
                have HU := Lib.hid hv23
                clear hv23
                replace x0 := bAt hb23 x0
                replace x1 := bAt hb23 x1
                replace x2 := bAt hb23 x2
                replace y0 := bAt hb23 y0
                replace y1 := bAt hb23 y1
                replace y2 := bAt hb23 y2
                replace HS := Lib.hid (HS.out.below hb23)
                replace HV := Lib.hid (HV.out.below hb23)
                have HB23 := Lib.hid (bThen HB22.out hb23)
                clear hb23
                go_wp2_with fail
                refine (number_r (bs.eraseIdx ii) g _ s n2 N2 _ _ HU.out HI2.out).mono ?_
                rintro e w24 ⟨rfl, hb24⟩
                clear HU
                replace x0 := bAt hb24 x0
                replace x1 := bAt hb24 x1
                replace x2 := bAt hb24 x2
                replace y0 := bAt hb24 y0
                replace y1 := bAt hb24 y1
                replace y2 := bAt hb24 y2
                replace HS := Lib.hid (HS.out.below hb24)
                replace HV := Lib.hid (HV.out.below hb24)
                have HB24 := Lib.hid (bThen HB23.out hb24)
                clear hb24
                go_wp2_with fail
                refine (rules_any bs g _ _ _ HS.out HLE.out).mono ?_
                rintro e w25 ⟨v25, rfl, hb25, hv25⟩
                have HU := Lib.hid hv25
                clear hv25
                replace x0 := bAt hb25 x0
                replace x1 := bAt hb25 x1
                replace x2 := bAt hb25 x2
                replace y0 := bAt hb25 y0
                replace y1 := bAt hb25 y1
                replace y2 := bAt hb25 y2
                replace HS := Lib.hid (HS.out.below hb25)
                replace HV := Lib.hid (HV.out.below hb25)
                have HB25 := Lib.hid (bThen HB24.out hb25)
                clear hb25
                go_wp2_with fail
                refine (fewest_r bs g _ s fa FA _ _ HU.out HI.out).mono ?_
                rintro e w26 ⟨a1, c1, rfl, hb26, hl26⟩
                rw [FAL.out] at hl26
                rw [FAL.out]
                have HFA := Lib.hid hl26
                clear HU hl26
                replace x0 := bAt hb26 x0
                replace x1 := bAt hb26 x1
                replace x2 := bAt hb26 x2
                replace y0 := bAt hb26 y0
                replace y1 := bAt hb26 y1
                replace y2 := bAt hb26 y2
                replace HS := Lib.hid (HS.out.below hb26)
                replace HV := Lib.hid (HV.out.below hb26)
                have HB26 := Lib.hid (bThen HB25.out hb26)
                clear hb26
                go_wp2_with fail
                refine (rules_any (bs.eraseIdx ii) g _ _ _ HV.out HLE2.out).mono ?_
                rintro e w27 ⟨v27, rfl, hb27, hv27⟩
                have HU := Lib.hid hv27
                clear hv27
                replace x0 := bAt hb27 x0
                replace x1 := bAt hb27 x1
                replace x2 := bAt hb27 x2
                replace y0 := bAt hb27 y0
                replace y1 := bAt hb27 y1
                replace y2 := bAt hb27 y2
                replace HS := Lib.hid (HS.out.below hb27)
                replace HV := Lib.hid (HV.out.below hb27)
                replace HFA := Lib.hid (HFA.out.below hb27)
                have HB27 := Lib.hid (bThen HB26.out hb27)
                clear hb27
                go_wp2_with fail
                refine (fewest_r (bs.eraseIdx ii) g _ s fb FB _ _ HU.out HI2.out).mono ?_
                rintro e w28 ⟨a2, c2, rfl, hb28, hl28⟩
                rw [FBL.out] at hl28
                rw [FBL.out]
                have HFB := Lib.hid hl28
                clear HU hl28
                replace x0 := bAt hb28 x0
                replace x1 := bAt hb28 x1
                replace x2 := bAt hb28 x2
                replace y0 := bAt hb28 y0
                replace y1 := bAt hb28 y1
                replace y2 := bAt hb28 y2
                replace HS := Lib.hid (HS.out.below hb28)
                replace HV := Lib.hid (HV.out.below hb28)
                replace HFA := Lib.hid (HFA.out.below hb28)
                have HB28 := Lib.hid (bThen HB27.out hb28)
                clear hb28
                go_wp2_with fail
                refine (rules_any bs g _ _ _ HS.out HLE.out).mono ?_
                rintro e w29 ⟨v29, rfl, hb29, hv29⟩
                have HU := Lib.hid hv29
                clear hv29
                replace x0 := bAt hb29 x0
                replace x1 := bAt hb29 x1
                replace x2 := bAt hb29 x2
                replace y0 := bAt hb29 y0
                replace y1 := bAt hb29 y1
                replace y2 := bAt hb29 y2
                replace HS := Lib.hid (HS.out.below hb29)
                replace HV := Lib.hid (HV.out.below hb29)
                replace HFA := Lib.hid (HFA.out.below hb29)
                replace HFB := Lib.hid (HFB.out.below hb29)
                have HB29 := Lib.hid (bThen HB28.out hb29)
                clear hb29
                go_wp2_with fail
                refine (bogeys_r bs g _ s ca CA _ _ HU.out HI.out).mono ?_
                rintro e w30 ⟨a3, c3, rfl, hb30, hl30⟩
                have HCA := Lib.hid hl30
                clear HU hl30
                replace x0 := bAt hb30 x0
                replace x1 := bAt hb30 x1
                replace x2 := bAt hb30 x2
                replace y0 := bAt hb30 y0
                replace y1 := bAt hb30 y1
                replace y2 := bAt hb30 y2
                replace HS := Lib.hid (HS.out.below hb30)
                replace HV := Lib.hid (HV.out.below hb30)
                replace HFA := Lib.hid (HFA.out.below hb30)
                replace HFB := Lib.hid (HFB.out.below hb30)
                have HB30 := Lib.hid (bThen HB29.out hb30)
                clear hb30
                go_wp2_with fail
                refine (rules_any (bs.eraseIdx ii) g _ _ _ HV.out HLE2.out).mono ?_
                rintro e w31 ⟨v31, rfl, hb31, hv31⟩
                have HU := Lib.hid hv31
                clear hv31
                replace x0 := bAt hb31 x0
                replace x1 := bAt hb31 x1
                replace x2 := bAt hb31 x2
                replace y0 := bAt hb31 y0
                replace y1 := bAt hb31 y1
                replace y2 := bAt hb31 y2
                replace HS := Lib.hid (HS.out.below hb31)
                replace HV := Lib.hid (HV.out.below hb31)
                replace HFA := Lib.hid (HFA.out.below hb31)
                replace HFB := Lib.hid (HFB.out.below hb31)
                replace HCA := Lib.hid (HCA.out.below hb31)
                have HB31 := Lib.hid (bThen HB30.out hb31)
                clear hb31
                go_wp2_with fail
                refine (bogeys_r (bs.eraseIdx ii) g _ s cb CB _ _ HU.out HI2.out).mono ?_
                rintro e w32 ⟨a4, c4, rfl, hb32, hl32⟩
                have HCB := Lib.hid hl32
                clear HU hl32
                replace x0 := bAt hb32 x0
                replace x1 := bAt hb32 x1
                replace x2 := bAt hb32 x2
                replace y0 := bAt hb32 y0
                replace y1 := bAt hb32 y1
                replace y2 := bAt hb32 y2
                replace HS := Lib.hid (HS.out.below hb32)
                replace HV := Lib.hid (HV.out.below hb32)
                replace HFA := Lib.hid (HFA.out.below hb32)
                replace HFB := Lib.hid (HFB.out.below hb32)
                replace HCA := Lib.hid (HCA.out.below hb32)
                have HB32 := Lib.hid (bThen HB31.out hb32)
                clear hb32
                clear x0 x1 x2 y0 y1 y2 HS HV
                have e1 : decide (n2 < 0) = false := by simp; omega
                have e2 : decide (n1 < n2) = false := by simp; omega
                go_wp2_with fail
                go_loopw [22] (fun i wr => ∃ k : Nat, k ≤ s + 1 ∧ i = .int .i64 k ∧ Below w32.heap.size w32 wr) (fun i _ => s + 1 - (intOf i).toNat)
                case atStart => exact ⟨0, by omega, rfl, Below.refl _ _⟩
                case round =>
                  obtain ⟨k, hk, rfl, hb⟩ := hrel
                  replace HFA := Lib.hid (HFA.out.below hb)
                  replace HFB := Lib.hid (HFB.out.below hb)
                  replace HCA := Lib.hid (HCA.out.below hb)
                  replace HCB := Lib.hid (HCB.out.below hb)
                  have HBL := Lib.hid hb
                  clear hb
                  by_cases hlt : k < s + 1
                  · have d1 : decide (k ≤ s) = true := by simp; omega
                    have hik : (k : Int) < (s : Int) + 1 := by omega
                    obtain ⟨b1, o1, ea1, _, z1⟩ := HFA.out.cell (show k < fa.length by have := FAL.out; omega)
                    cases ea1
                    obtain ⟨b2, o2, ea2, _, z2⟩ := HFB.out.cell (show k < fb.length by have := FBL.out; omega)
                    cases ea2
                    rw [FAA.out k (by have := FAL.out; omega)] at z1
                    rw [FBA.out k (by have := FBL.out; omega)] at z2
                    obtain ⟨ka, hka⟩ : ∃ x, fewAt g bs k = x := ⟨_, rfl⟩
                    obtain ⟨kb, hkb⟩ : ∃ x, fewAt g (bs.eraseIdx ii) k = x := ⟨_, rfl⟩
                    have MK : 0 ≤ kb → 0 ≤ ka ∧ ka ≤ kb := by rw [← hka, ← hkb]; exact M3.out k
                    rw [hka] at z1
                    rw [hkb] at z2
                    clear hka hkb
                    by_cases hkb0 : 0 ≤ kb
                    · obtain ⟨p1, p2⟩ := MK hkb0
                      have d2 : decide (0 ≤ kb) = true := by simp [hkb0]
                      have d3 : decide (ka < 0) = false := by simp; omega
                      have d4 : decide (kb < ka) = false := by simp; omega
                      clear MK
                      go_wp2_with fail
                      go_quiet (fail)
                      go_wp2_with fail
                      go_roundw
                      case rel => exact ⟨k + 1, by omega, by go_num, ⟨HBL.out.os, HBL.out.tape, HBL.out.output, HBL.out.size, HBL.out.block⟩⟩
                      case measure => simp [intOf]; omega
                    · have d2 : decide (0 ≤ kb) = false := by simp [hkb0]
                      clear MK
                      go_wp2_with fail
                      go_quiet (fail)
                      go_wp2_with fail
                      go_roundw
                      case rel => exact ⟨k + 1, by omega, by go_num, ⟨HBL.out.os, HBL.out.tape, HBL.out.output, HBL.out.size, HBL.out.block⟩⟩
                      case measure => simp [intOf]; omega
                  · obtain rfl : k = s + 1 := by omega
                    have d1 : decide (s + 1 ≤ s) = false := by simp
                    obtain ⟨ws, rfl⟩ : ∃ ws : World, ws = wr := ⟨_, rfl⟩
                    have HBS := Lib.hid (bThen HB32.out HBL.out)
                    clear HFA HFB
                    go_wp2_with fail
                    go_loopw [23, 24] (fun at' i wr => ∃ k t : Nat, k ≤ ca.length ∧ i = .int .i64 k ∧ at' = .int .i64 t ∧ t ≤ cb.length ∧ Hid (∀ _ : k < ca.length, t ≤ J k) ∧ Below ws.heap.size ws wr) (fun _ i _ => ca.length - (intOf i).toNat)
                    case atStart => exact ⟨0, 0, by omega, rfl, rfl, by omega, Lib.hid (fun _ => by omega), Below.refl _ _⟩
                    case round =>
                      obtain ⟨k, t, hk, rfl, rfl, ht, TJ, hb⟩ := hrel
                      obtain ⟨wo, rfl⟩ : ∃ wo : World, wo = wr := ⟨_, rfl⟩
                      replace HCA := Lib.hid (HCA.out.below hb)
                      replace HCB := Lib.hid (HCB.out.below hb)
                      have HBO := Lib.hid hb
                      clear hb
                      by_cases hlk : k < ca.length
                      · have hik : (k : Int) < (ca.length : Int) := by omega
                        obtain ⟨hj, hje⟩ := J1.out k hlk
                        have TK := TJ.out hlk
                        obtain ⟨x, hx⟩ : ∃ x, ca[k] = x := ⟨_, rfl⟩
                        have JX : Hid (∀ q (h : q < cb.length), cb[q] < x ↔ q < J k) := Lib.hid (fun q h => hx ▸ J3.out k hlk q h)
                        have HXK := Lib.hid hx
                        have HJE : Hid (cb[J k] = x) := Lib.hid (hje.trans hx)
                        obtain ⟨jk, hjk⟩ : ∃ jk, J k = jk := ⟨_, rfl⟩
                        rw [hjk] at hj TK JX
                        have HJE2 : Hid (∀ h : jk < cb.length, cb[jk] = x) := Lib.hid (fun h => by subst hjk; exact HJE.out)
                        have J2K : Hid (k + 1 < ca.length → jk < J (k + 1)) := Lib.hid (fun h => hjk ▸ J2.out k h)
                        clear hx hje hjk HJE
                        go_wp2_with fail
                        go_loopw [23] (fun at' wr => ∃ t : Nat, t ≤ jk ∧ at' = .int .i64 t ∧ Below wo.heap.size wo wr) (fun at' _ => cb.length - (intOf at').toNat)
                        case atStart => exact ⟨t, TK, rfl, Below.refl _ _⟩
                        case round =>
                          obtain ⟨t, ht, rfl, hb⟩ := hrel
                          replace HCA := Lib.hid (HCA.out.below hb)
                          replace HCB := Lib.hid (HCB.out.below hb)
                          have HBR := Lib.hid hb
                          clear hb
                          have hit : (t : Int) < (cb.length : Int) := by omega
                          have hlt2 : t < cb.length := by omega
                          have d5 : decide (t < cb.length) = true := by simp; omega
                          have d6 : ((t : Int) == (cb.length : Int)) = false := beq_eq_false_iff_ne.2 (by omega)
                          have d7 : (t == cb.length) = false := beq_eq_false_iff_ne.2 (by omega)
                          obtain ⟨b1, o1, ea1, _, z1⟩ := HCA.out.cell hlk
                          cases ea1
                          obtain ⟨b2, o2, ea2, _, z2⟩ := HCB.out.cell hlt2
                          cases ea2
                          rw [HXK.out] at z1
                          obtain ⟨y, hy⟩ : ∃ y, cb[t] = y := ⟨_, rfl⟩
                          rw [hy] at z2
                          by_cases htj : t < jk
                          · have d8 : decide (y < x) = true := by rw [decide_eq_true_eq, ← hy]; exact (JX.out t hlt2).2 htj
                            clear hy
                            go_wp2_with fail
                            go_quiet (fail)
                            go_wp2_with fail
                            go_roundw
                            case rel => exact ⟨t + 1, by omega, by go_num, ⟨HBR.out.os, HBR.out.tape, HBR.out.output, HBR.out.size, HBR.out.block⟩⟩
                            case measure => simp [intOf]; omega
                          · obtain rfl : t = jk := by omega
                            obtain rfl : y = x := hy.symm.trans (HJE2.out hlt2)
                            have d8 : decide (y < y) = false := by simp
                            clear hy
                            go_wp2_with fail
                            go_quiet (fail)
                            go_wp2_with fail
                            go_quiet (fail)
                            go_wp2_with fail
                            go_roundw
                            case rel => exact ⟨k + 1, t, by omega, by go_num, rfl, by omega, Lib.hid (fun h => by have := J2K.out h; omega), bThen HBO.out ⟨HBR.out.os, HBR.out.tape, HBR.out.output, HBR.out.size, HBR.out.block⟩⟩
                            case measure => simp [intOf]; omega
                      · obtain rfl : k = ca.length := by omega
                        go_wp2_with fail
                        refine (known_any _).mono ?_
                        rintro e w99 ⟨rfl, hb99⟩
                        have HB99 := Lib.hid (bThen HBS.out (bThen HBO.out hb99))
                        clear hb99
                        go_wp2
                        go_ret
                        exact ⟨rfl, HB99.out⟩
      · as_aux_lemma =>
          have c1 : (wh % 3 == 1) = false := beq_eq_false_iff_ne.2 hw5
          have c0 : (wh % 3 == 0) = false := beq_eq_false_iff_ne.2 hw6
          have b0 : ((bs.length : Int) == 0) = false := beq_eq_false_iff_ne.2 (by omega)
          have b1 : ((d : Int) + 1 == 0) = false := beq_eq_false_iff_ne.2 (by omega)
          clear hw5 hw6
          rcases (show g = 0 ∨ g = 1 ∨ g = 2 by omega) with hg | hg | hg
          · as_aux_lemma =>
              obtain rfl : g = 0 := hg
              have px0 : (w2.alloc (.cells #[.slice al bs.length cl, .int .i64 0, .int .i64 ((d : Int) + 1)] 25)).cell? ⟨X, 0, none⟩ = some (.slice a bs.length cap) := bAt (aB w2 _) x0
              have px1 : (w2.alloc (.cells #[.slice al bs.length cl, .int .i64 0, .int .i64 ((d : Int) + 1)] 25)).cell? ⟨X, 1, none⟩ = some (.int .i64 0) := bAt (aB w2 _) x1
              have px2 : (w2.alloc (.cells #[.slice al bs.length cl, .int .i64 0, .int .i64 ((d : Int) + 1)] 25)).cell? ⟨X, 2, none⟩ = some (.int .i64 ((d : Int) + 1)) := bAt (aB w2 _) x2
              have ph := World.alloc_heap_new w2 (.cells #[.slice al bs.length cl, .int .i64 0, .int .i64 ((d : Int) + 1)] 25)
              have py0 : (w2.alloc (.cells #[.slice al bs.length cl, .int .i64 0, .int .i64 ((d : Int) + 1)] 25)).cell? ⟨w2.heap.size, 0, none⟩ = some (.slice al bs.length cl) := by rw [cell_of_heap ph]; rfl
              have py1 : (w2.alloc (.cells #[.slice al bs.length cl, .int .i64 0, .int .i64 ((d : Int) + 1)] 25)).cell? ⟨w2.heap.size, 1, none⟩ = some (.int .i64 0) := by rw [cell_of_heap ph]; rfl
              have py2 : (w2.alloc (.cells #[.slice al bs.length cl, .int .i64 0, .int .i64 ((d : Int) + 1)] 25)).cell? ⟨w2.heap.size, 2, none⟩ = some (.int .i64 ((d : Int) + 1)) := by rw [cell_of_heap ph]; rfl
              have rx0 : (w2.alloc (.cells #[.slice al bs.length cl, .int .i64 2, .int .i64 ((d : Int) + 1)] 25)).cell? ⟨X, 0, none⟩ = some (.slice a bs.length cap) := bAt (aB w2 _) x0
              have rx1 : (w2.alloc (.cells #[.slice al bs.length cl, .int .i64 2, .int .i64 ((d : Int) + 1)] 25)).cell? ⟨X, 1, none⟩ = some (.int .i64 0) := bAt (aB w2 _) x1
              have rx2 : (w2.alloc (.cells #[.slice al bs.length cl, .int .i64 2, .int .i64 ((d : Int) + 1)] 25)).cell? ⟨X, 2, none⟩ = some (.int .i64 ((d : Int) + 1)) := bAt (aB w2 _) x2
              have rh := World.alloc_heap_new w2 (.cells #[.slice al bs.length cl, .int .i64 2, .int .i64 ((d : Int) + 1)] 25)
              have ry0 : (w2.alloc (.cells #[.slice al bs.length cl, .int .i64 2, .int .i64 ((d : Int) + 1)] 25)).cell? ⟨w2.heap.size, 0, none⟩ = some (.slice al bs.length cl) := by rw [cell_of_heap rh]; rfl
              have ry1 : (w2.alloc (.cells #[.slice al bs.length cl, .int .i64 2, .int .i64 ((d : Int) + 1)] 25)).cell? ⟨w2.heap.size, 1, none⟩ = some (.int .i64 2) := by rw [cell_of_heap rh]; rfl
              have ry2 : (w2.alloc (.cells #[.slice al bs.length cl, .int .i64 2, .int .i64 ((d : Int) + 1)] 25)).cell? ⟨w2.heap.size, 2, none⟩ = some (.int .i64 ((d : Int) + 1)) := by rw [cell_of_heap rh]; rfl
              go_wp2_with fail
              obtain ⟨w3, hw3⟩ : ∃ w3, w2.alloc (.cells #[.slice al bs.length cl, .int .i64 2, .int .i64 ((d : Int) + 1)] 25) = w3 := ⟨_, rfl⟩
              have hb3 : Below w2.heap.size w2 w3 := by rw [← hw3]; exact aB _ _
              have hh3 : w3.heap[w2.heap.size]? = some (.cells #[.slice al bs.length cl, .int .i64 2, .int .i64 ((d : Int) + 1)] 25) := by rw [← hw3]; exact World.alloc_heap_new _ _
              have y0 : w3.cell? ⟨w2.heap.size, 0, none⟩ = some (.slice al bs.length cl) := by rw [cell_of_heap hh3]; rfl
              have y1 : w3.cell? ⟨w2.heap.size, 1, none⟩ = some (.int .i64 2) := by rw [cell_of_heap hh3]; rfl
              have y2 : w3.cell? ⟨w2.heap.size, 2, none⟩ = some (.int .i64 ((d : Int) + 1)) := by rw [cell_of_heap hh3]; rfl
              replace x0 := bAt hb3 x0
              replace x1 := bAt hb3 x1
              replace x2 := bAt hb3 x2
              replace HS := Lib.hid (HS.out.below hb3)
              replace HV := Lib.hid (HV.out.below hb3)
              have HBW := Lib.hid (bThen HB2.out hb3)
              have HW3 := Lib.hid hw3
              clear hw3 hb3 hh3
              rw [HW3.out]
              clear ph px0 py0 px1 py1 px2 py2
              clear rh rx0 ry0 rx1 ry1 rx2 ry2
              have hdd : d + 1 ≤ d + 1 := by omega
              have SUB : Hid ((bs).Sublist bs) := Lib.hid (List.Sublist.refl _)
              have GT : Hid (∀ s b, aftOk 2 s b = true → aftOk 0 s b = true) := Lib.hid (gate_wide (by omega))
              have R2 := Lib.hid (rulesOk_gate (g' := 2) HR.out rfl)
              as_aux_lemma =>
                have R2N : rulesOk (bs) 2 ((d + 1) : Nat) = true := by simpa using R2.out
                have MF := more_facts (d := d + 1) (d' := (d + 1)) (by simpa using HR.out) R2N GT.out SUB.out hdd hsb.1 (show s ≤ 1001 by omega)
                have DC : Hid ((((d + 1) : Nat) : Int) = (d : Int) + 1) := Lib.hid (by simp)
                rw [show ((d + 1 : Nat) : Int) = (d : Int) + 1 by simp] at MF
                obtain ⟨⟨m1, m2⟩, m3, m4⟩ := MF
                have NB1 := numOf_bd R2N s
                have NE2 := (numOf_out R2N hsb.1 (show s ≤ 1001 by omega)).2
                rw [DC.out] at NB1 NE2
                have NB2 := numOf_bd (d := d + 1) (by simpa using HR.out) s
                rw [show ((d + 1 : Nat) : Int) = (d : Int) + 1 by simp] at NB2
                obtain ⟨n1, hn1⟩ : ∃ x, numOf bs 0 ((d : Int) + 1) s = x := ⟨_, rfl⟩
                obtain ⟨n2, hn2⟩ : ∃ x, numOf (bs) 2 ((d : Int) + 1) s = x := ⟨_, rfl⟩
                rw [hn1] at m2 NB2
                rw [hn2] at m1 m2 NB1
                have N1 : Hid (numOf bs 0 ((d : Int) + 1) s = n1 ∧ scoreErr bs 0 ((d : Int) + 1) s = 0) := Lib.hid ⟨hn1, by have := (numOf_out (d := d + 1) (by simpa using HR.out) hsb.1 (show s ≤ 1001 by omega)).2; simpa using this⟩
                have N2 : Hid (numOf (bs) 2 ((d : Int) + 1) s = n2 ∧ scoreErr (bs) 2 ((d : Int) + 1) s = 0) := Lib.hid ⟨hn2, NE2⟩
                obtain ⟨fa, hfa⟩ : ∃ x, fewTo 0 bs s = x := ⟨_, rfl⟩
                obtain ⟨fb, hfb⟩ : ∃ x, fewTo 2 (bs) s = x := ⟨_, rfl⟩
                have FA : Hid (fewL bs 0 ((d : Int) + 1) s = fa ∧ mostErr bs 0 ((d : Int) + 1) s = 0) := Lib.hid (by
                  have e := mostErr_ok (s := s) HR.out (by omega)
                  exact ⟨by rw [fewL, if_pos e, Int.toNat_natCast, hfa], e⟩)
                have FB : Hid (fewL (bs) 2 ((d : Int) + 1) s = fb ∧ mostErr (bs) 2 ((d : Int) + 1) s = 0) := Lib.hid (by
                  have e := mostErr_ok (s := s) R2.out (by omega)
                  exact ⟨by rw [fewL, if_pos e, Int.toNat_natCast, hfb], e⟩)
                have FAL : Hid (fa.length = s + 1) := Lib.hid (by rw [← hfa, fewTo_length])
                have FBL : Hid (fb.length = s + 1) := Lib.hid (by rw [← hfb, fewTo_length])
                have FAA : Hid (∀ k (h : k < fa.length), fa[k] = fewAt 0 bs k) := Lib.hid (by intro k h; subst hfa; exact fewTo_get h)
                have FBA : Hid (∀ k (h : k < fb.length), fb[k] = fewAt 2 (bs) k) := Lib.hid (by intro k h; subst hfb; exact fewTo_get h)
                obtain ⟨ca, hca⟩ : ∃ x, bogTo (cnts 0 bs (d + 1) s) (d + 1) s = x := ⟨_, rfl⟩
                obtain ⟨cb, hcb⟩ : ∃ x, bogTo (cnts 2 (bs) (d + 1) s) (d + 1) s = x := ⟨_, rfl⟩
                have CA : Hid (bogL bs 0 ((d : Int) + 1) s = ca ∧ mostErr bs 0 ((d : Int) + 1) s = 0) := Lib.hid (by
                  have e := mostErr_ok (s := s) HR.out (by omega)
                  exact ⟨by rw [bogL, if_pos e, Int.toNat_natCast, show ((d : Int) + 1).toNat = d + 1 by omega, hca], e⟩)
                have CB : Hid (bogL (bs) 2 ((d : Int) + 1) s = cb ∧ mostErr (bs) 2 ((d : Int) + 1) s = 0) := Lib.hid (by
                  have e := mostErr_ok (s := s) R2.out (by omega)
                  exact ⟨by rw [bogL, if_pos e, show (((d : Int) + 1) : Int).toNat = (d + 1) by omega, Int.toNat_natCast, hcb], e⟩)
                obtain ⟨J, j1, j2, j3⟩ := places (hca ▸ bogTo_pairwise _ _ _) (hcb ▸ bogTo_pairwise _ _ _) (by rw [← hca, ← hcb]; exact m4)
                have J1 := Lib.hid j1
                have J2 := Lib.hid j2
                have J3 := Lib.hid j3
                have M3 := Lib.hid m3
                have HLE2 : Hid ((bs).length ≤ 85) := Lib.hid (by have := SUB.out.length_le; omega)
                have HI2 : Hid (∀ b ∈ bs, I64 b) := Lib.hid (fun b hb => HI.out b (SUB.out.subset hb))
                have hcal : ca.length ≤ s := by rw [← hca]; exact bogTo_length _ _ _
                have hcbl : cb.length ≤ s := by rw [← hcb]; exact bogTo_length _ _ _
                clear hn1 hn2 hfa hfb hca hcb j1 j2 j3 m3 m4 NE2 R2N
                go_wp2_with fail
                refine (rules_any bs 0 _ _ _ HS.out HLE.out).mono ?_
                rintro e w21 ⟨v21, rfl, hb21, hv21⟩
                have HU := Lib.hid hv21
                clear hv21
                replace x0 := bAt hb21 x0
                replace x1 := bAt hb21 x1
                replace x2 := bAt hb21 x2
                replace y0 := bAt hb21 y0
                replace y1 := bAt hb21 y1
                replace y2 := bAt hb21 y2
                replace HS := Lib.hid (HS.out.below hb21)
                replace HV := Lib.hid (HV.out.below hb21)
                have HB21 := Lib.hid (bThen HBW.out hb21)
                clear hb21
                go_wp2_with fail
                refine (number_r bs 0 _ s n1 N1 _ _ HU.out HI.out).mono ?_
                rintro e w22 ⟨rfl, hb22⟩
                clear HU
                replace x0 := bAt hb22 x0
                replace x1 := bAt hb22 x1
                replace x2 := bAt hb22 x2
                replace y0 := bAt hb22 y0
                replace y1 := bAt hb22 y1
                replace y2 := bAt hb22 y2
                replace HS := Lib.hid (HS.out.below hb22)
                replace HV := Lib.hid (HV.out.below hb22)
                have HB22 := Lib.hid (bThen HB21.out hb22)
                clear hb22
                go_wp2_with fail
                refine (rules_any (bs) 2 _ _ _ HV.out HLE2.out).mono ?_
                rintro e w23 ⟨v23, rfl, hb23, hv23⟩
                have HU := Lib.hid hv23
                clear hv23
                replace x0 := bAt hb23 x0
                replace x1 := bAt hb23 x1
                replace x2 := bAt hb23 x2
                replace y0 := bAt hb23 y0
                replace y1 := bAt hb23 y1
                replace y2 := bAt hb23 y2
                replace HS := Lib.hid (HS.out.below hb23)
                replace HV := Lib.hid (HV.out.below hb23)
                have HB23 := Lib.hid (bThen HB22.out hb23)
                clear hb23
                go_wp2_with fail
                refine (number_r (bs) 2 _ s n2 N2 _ _ HU.out HI2.out).mono ?_
                rintro e w24 ⟨rfl, hb24⟩
                clear HU
                replace x0 := bAt hb24 x0
                replace x1 := bAt hb24 x1
                replace x2 := bAt hb24 x2
                replace y0 := bAt hb24 y0
                replace y1 := bAt hb24 y1
                replace y2 := bAt hb24 y2
                replace HS := Lib.hid (HS.out.below hb24)
                replace HV := Lib.hid (HV.out.below hb24)
                have HB24 := Lib.hid (bThen HB23.out hb24)
                clear hb24
                go_wp2_with fail
                refine (rules_any bs 0 _ _ _ HS.out HLE.out).mono ?_
                rintro e w25 ⟨v25, rfl, hb25, hv25⟩
                have HU := Lib.hid hv25
                clear hv25
                replace x0 := bAt hb25 x0
                replace x1 := bAt hb25 x1
                replace x2 := bAt hb25 x2
                replace y0 := bAt hb25 y0
                replace y1 := bAt hb25 y1
                replace y2 := bAt hb25 y2
                replace HS := Lib.hid (HS.out.below hb25)
                replace HV := Lib.hid (HV.out.below hb25)
                have HB25 := Lib.hid (bThen HB24.out hb25)
                clear hb25
                go_wp2_with fail
                refine (fewest_r bs 0 _ s fa FA _ _ HU.out HI.out).mono ?_
                rintro e w26 ⟨a1, c1, rfl, hb26, hl26⟩
                rw [FAL.out] at hl26
                rw [FAL.out]
                have HFA := Lib.hid hl26
                clear HU hl26
                replace x0 := bAt hb26 x0
                replace x1 := bAt hb26 x1
                replace x2 := bAt hb26 x2
                replace y0 := bAt hb26 y0
                replace y1 := bAt hb26 y1
                replace y2 := bAt hb26 y2
                replace HS := Lib.hid (HS.out.below hb26)
                replace HV := Lib.hid (HV.out.below hb26)
                have HB26 := Lib.hid (bThen HB25.out hb26)
                clear hb26
                go_wp2_with fail
                refine (rules_any (bs) 2 _ _ _ HV.out HLE2.out).mono ?_
                rintro e w27 ⟨v27, rfl, hb27, hv27⟩
                have HU := Lib.hid hv27
                clear hv27
                replace x0 := bAt hb27 x0
                replace x1 := bAt hb27 x1
                replace x2 := bAt hb27 x2
                replace y0 := bAt hb27 y0
                replace y1 := bAt hb27 y1
                replace y2 := bAt hb27 y2
                replace HS := Lib.hid (HS.out.below hb27)
                replace HV := Lib.hid (HV.out.below hb27)
                replace HFA := Lib.hid (HFA.out.below hb27)
                have HB27 := Lib.hid (bThen HB26.out hb27)
                clear hb27
                go_wp2_with fail
                refine (fewest_r (bs) 2 _ s fb FB _ _ HU.out HI2.out).mono ?_
                rintro e w28 ⟨a2, c2, rfl, hb28, hl28⟩
                rw [FBL.out] at hl28
                rw [FBL.out]
                have HFB := Lib.hid hl28
                clear HU hl28
                replace x0 := bAt hb28 x0
                replace x1 := bAt hb28 x1
                replace x2 := bAt hb28 x2
                replace y0 := bAt hb28 y0
                replace y1 := bAt hb28 y1
                replace y2 := bAt hb28 y2
                replace HS := Lib.hid (HS.out.below hb28)
                replace HV := Lib.hid (HV.out.below hb28)
                replace HFA := Lib.hid (HFA.out.below hb28)
                have HB28 := Lib.hid (bThen HB27.out hb28)
                clear hb28
                go_wp2_with fail
                refine (rules_any bs 0 _ _ _ HS.out HLE.out).mono ?_
                rintro e w29 ⟨v29, rfl, hb29, hv29⟩
                have HU := Lib.hid hv29
                clear hv29
                replace x0 := bAt hb29 x0
                replace x1 := bAt hb29 x1
                replace x2 := bAt hb29 x2
                replace y0 := bAt hb29 y0
                replace y1 := bAt hb29 y1
                replace y2 := bAt hb29 y2
                replace HS := Lib.hid (HS.out.below hb29)
                replace HV := Lib.hid (HV.out.below hb29)
                replace HFA := Lib.hid (HFA.out.below hb29)
                replace HFB := Lib.hid (HFB.out.below hb29)
                have HB29 := Lib.hid (bThen HB28.out hb29)
                clear hb29
                go_wp2_with fail
                refine (bogeys_r bs 0 _ s ca CA _ _ HU.out HI.out).mono ?_
                rintro e w30 ⟨a3, c3, rfl, hb30, hl30⟩
                have HCA := Lib.hid hl30
                clear HU hl30
                replace x0 := bAt hb30 x0
                replace x1 := bAt hb30 x1
                replace x2 := bAt hb30 x2
                replace y0 := bAt hb30 y0
                replace y1 := bAt hb30 y1
                replace y2 := bAt hb30 y2
                replace HS := Lib.hid (HS.out.below hb30)
                replace HV := Lib.hid (HV.out.below hb30)
                replace HFA := Lib.hid (HFA.out.below hb30)
                replace HFB := Lib.hid (HFB.out.below hb30)
                have HB30 := Lib.hid (bThen HB29.out hb30)
                clear hb30
                go_wp2_with fail
                refine (rules_any (bs) 2 _ _ _ HV.out HLE2.out).mono ?_
                rintro e w31 ⟨v31, rfl, hb31, hv31⟩
                have HU := Lib.hid hv31
                clear hv31
                replace x0 := bAt hb31 x0
                replace x1 := bAt hb31 x1
                replace x2 := bAt hb31 x2
                replace y0 := bAt hb31 y0
                replace y1 := bAt hb31 y1
                replace y2 := bAt hb31 y2
                replace HS := Lib.hid (HS.out.below hb31)
                replace HV := Lib.hid (HV.out.below hb31)
                replace HFA := Lib.hid (HFA.out.below hb31)
                replace HFB := Lib.hid (HFB.out.below hb31)
                replace HCA := Lib.hid (HCA.out.below hb31)
                have HB31 := Lib.hid (bThen HB30.out hb31)
                clear hb31
                go_wp2_with fail
                refine (bogeys_r (bs) 2 _ s cb CB _ _ HU.out HI2.out).mono ?_
                rintro e w32 ⟨a4, c4, rfl, hb32, hl32⟩
                have HCB := Lib.hid hl32
                clear HU hl32
                replace x0 := bAt hb32 x0
                replace x1 := bAt hb32 x1
                replace x2 := bAt hb32 x2
                replace y0 := bAt hb32 y0
                replace y1 := bAt hb32 y1
                replace y2 := bAt hb32 y2
                replace HS := Lib.hid (HS.out.below hb32)
                replace HV := Lib.hid (HV.out.below hb32)
                replace HFA := Lib.hid (HFA.out.below hb32)
                replace HFB := Lib.hid (HFB.out.below hb32)
                replace HCA := Lib.hid (HCA.out.below hb32)
                have HB32 := Lib.hid (bThen HB31.out hb32)
                clear hb32
                clear x0 x1 x2 y0 y1 y2 HS HV
                have e1 : decide (n2 < 0) = false := by simp; omega
                have e2 : decide (n1 < n2) = false := by simp; omega
                go_wp2_with fail
                go_loopw [22] (fun i wr => ∃ k : Nat, k ≤ s + 1 ∧ i = .int .i64 k ∧ Below w32.heap.size w32 wr) (fun i _ => s + 1 - (intOf i).toNat)
                case atStart => exact ⟨0, by omega, rfl, Below.refl _ _⟩
                case round =>
                  obtain ⟨k, hk, rfl, hb⟩ := hrel
                  replace HFA := Lib.hid (HFA.out.below hb)
                  replace HFB := Lib.hid (HFB.out.below hb)
                  replace HCA := Lib.hid (HCA.out.below hb)
                  replace HCB := Lib.hid (HCB.out.below hb)
                  have HBL := Lib.hid hb
                  clear hb
                  by_cases hlt : k < s + 1
                  · have d1 : decide (k ≤ s) = true := by simp; omega
                    have hik : (k : Int) < (s : Int) + 1 := by omega
                    obtain ⟨b1, o1, ea1, _, z1⟩ := HFA.out.cell (show k < fa.length by have := FAL.out; omega)
                    cases ea1
                    obtain ⟨b2, o2, ea2, _, z2⟩ := HFB.out.cell (show k < fb.length by have := FBL.out; omega)
                    cases ea2
                    rw [FAA.out k (by have := FAL.out; omega)] at z1
                    rw [FBA.out k (by have := FBL.out; omega)] at z2
                    obtain ⟨ka, hka⟩ : ∃ x, fewAt 0 bs k = x := ⟨_, rfl⟩
                    obtain ⟨kb, hkb⟩ : ∃ x, fewAt 2 (bs) k = x := ⟨_, rfl⟩
                    have MK : 0 ≤ kb → 0 ≤ ka ∧ ka ≤ kb := by rw [← hka, ← hkb]; exact M3.out k
                    rw [hka] at z1
                    rw [hkb] at z2
                    clear hka hkb
                    by_cases hkb0 : 0 ≤ kb
                    · obtain ⟨p1, p2⟩ := MK hkb0
                      have d2 : decide (0 ≤ kb) = true := by simp [hkb0]
                      have d3 : decide (ka < 0) = false := by simp; omega
                      have d4 : decide (kb < ka) = false := by simp; omega
                      clear MK
                      go_wp2_with fail
                      go_quiet (fail)
                      go_wp2_with fail
                      go_roundw
                      case rel => exact ⟨k + 1, by omega, by go_num, ⟨HBL.out.os, HBL.out.tape, HBL.out.output, HBL.out.size, HBL.out.block⟩⟩
                      case measure => simp [intOf]; omega
                    · have d2 : decide (0 ≤ kb) = false := by simp [hkb0]
                      clear MK
                      go_wp2_with fail
                      go_quiet (fail)
                      go_wp2_with fail
                      go_roundw
                      case rel => exact ⟨k + 1, by omega, by go_num, ⟨HBL.out.os, HBL.out.tape, HBL.out.output, HBL.out.size, HBL.out.block⟩⟩
                      case measure => simp [intOf]; omega
                  · obtain rfl : k = s + 1 := by omega
                    have d1 : decide (s + 1 ≤ s) = false := by simp
                    obtain ⟨ws, rfl⟩ : ∃ ws : World, ws = wr := ⟨_, rfl⟩
                    have HBS := Lib.hid (bThen HB32.out HBL.out)
                    clear HFA HFB
                    go_wp2_with fail
                    go_loopw [23, 24] (fun at' i wr => ∃ k t : Nat, k ≤ ca.length ∧ i = .int .i64 k ∧ at' = .int .i64 t ∧ t ≤ cb.length ∧ Hid (∀ _ : k < ca.length, t ≤ J k) ∧ Below ws.heap.size ws wr) (fun _ i _ => ca.length - (intOf i).toNat)
                    case atStart => exact ⟨0, 0, by omega, rfl, rfl, by omega, Lib.hid (fun _ => by omega), Below.refl _ _⟩
                    case round =>
                      obtain ⟨k, t, hk, rfl, rfl, ht, TJ, hb⟩ := hrel
                      obtain ⟨wo, rfl⟩ : ∃ wo : World, wo = wr := ⟨_, rfl⟩
                      replace HCA := Lib.hid (HCA.out.below hb)
                      replace HCB := Lib.hid (HCB.out.below hb)
                      have HBO := Lib.hid hb
                      clear hb
                      by_cases hlk : k < ca.length
                      · have hik : (k : Int) < (ca.length : Int) := by omega
                        obtain ⟨hj, hje⟩ := J1.out k hlk
                        have TK := TJ.out hlk
                        obtain ⟨x, hx⟩ : ∃ x, ca[k] = x := ⟨_, rfl⟩
                        have JX : Hid (∀ q (h : q < cb.length), cb[q] < x ↔ q < J k) := Lib.hid (fun q h => hx ▸ J3.out k hlk q h)
                        have HXK := Lib.hid hx
                        have HJE : Hid (cb[J k] = x) := Lib.hid (hje.trans hx)
                        obtain ⟨jk, hjk⟩ : ∃ jk, J k = jk := ⟨_, rfl⟩
                        rw [hjk] at hj TK JX
                        have HJE2 : Hid (∀ h : jk < cb.length, cb[jk] = x) := Lib.hid (fun h => by subst hjk; exact HJE.out)
                        have J2K : Hid (k + 1 < ca.length → jk < J (k + 1)) := Lib.hid (fun h => hjk ▸ J2.out k h)
                        clear hx hje hjk HJE
                        go_wp2_with fail
                        go_loopw [23] (fun at' wr => ∃ t : Nat, t ≤ jk ∧ at' = .int .i64 t ∧ Below wo.heap.size wo wr) (fun at' _ => cb.length - (intOf at').toNat)
                        case atStart => exact ⟨t, TK, rfl, Below.refl _ _⟩
                        case round =>
                          obtain ⟨t, ht, rfl, hb⟩ := hrel
                          replace HCA := Lib.hid (HCA.out.below hb)
                          replace HCB := Lib.hid (HCB.out.below hb)
                          have HBR := Lib.hid hb
                          clear hb
                          have hit : (t : Int) < (cb.length : Int) := by omega
                          have hlt2 : t < cb.length := by omega
                          have d5 : decide (t < cb.length) = true := by simp; omega
                          have d6 : ((t : Int) == (cb.length : Int)) = false := beq_eq_false_iff_ne.2 (by omega)
                          have d7 : (t == cb.length) = false := beq_eq_false_iff_ne.2 (by omega)
                          obtain ⟨b1, o1, ea1, _, z1⟩ := HCA.out.cell hlk
                          cases ea1
                          obtain ⟨b2, o2, ea2, _, z2⟩ := HCB.out.cell hlt2
                          cases ea2
                          rw [HXK.out] at z1
                          obtain ⟨y, hy⟩ : ∃ y, cb[t] = y := ⟨_, rfl⟩
                          rw [hy] at z2
                          by_cases htj : t < jk
                          · have d8 : decide (y < x) = true := by rw [decide_eq_true_eq, ← hy]; exact (JX.out t hlt2).2 htj
                            clear hy
                            go_wp2_with fail
                            go_quiet (fail)
                            go_wp2_with fail
                            go_roundw
                            case rel => exact ⟨t + 1, by omega, by go_num, ⟨HBR.out.os, HBR.out.tape, HBR.out.output, HBR.out.size, HBR.out.block⟩⟩
                            case measure => simp [intOf]; omega
                          · obtain rfl : t = jk := by omega
                            obtain rfl : y = x := hy.symm.trans (HJE2.out hlt2)
                            have d8 : decide (y < y) = false := by simp
                            clear hy
                            go_wp2_with fail
                            go_quiet (fail)
                            go_wp2_with fail
                            go_quiet (fail)
                            go_wp2_with fail
                            go_roundw
                            case rel => exact ⟨k + 1, t, by omega, by go_num, rfl, by omega, Lib.hid (fun h => by have := J2K.out h; omega), bThen HBO.out ⟨HBR.out.os, HBR.out.tape, HBR.out.output, HBR.out.size, HBR.out.block⟩⟩
                            case measure => simp [intOf]; omega
                      · obtain rfl : k = ca.length := by omega
                        go_wp2_with fail
                        refine (known_any _).mono ?_
                        rintro e w99 ⟨rfl, hb99⟩
                        have HB99 := Lib.hid (bThen HBS.out (bThen HBO.out hb99))
                        clear hb99
                        go_wp2
                        go_ret
                        exact ⟨rfl, HB99.out⟩
          · as_aux_lemma =>
              obtain rfl : g = 1 := hg
              have px0 : (w2.alloc (.cells #[.slice al bs.length cl, .int .i64 1, .int .i64 ((d : Int) + 1)] 25)).cell? ⟨X, 0, none⟩ = some (.slice a bs.length cap) := bAt (aB w2 _) x0
              have px1 : (w2.alloc (.cells #[.slice al bs.length cl, .int .i64 1, .int .i64 ((d : Int) + 1)] 25)).cell? ⟨X, 1, none⟩ = some (.int .i64 1) := bAt (aB w2 _) x1
              have px2 : (w2.alloc (.cells #[.slice al bs.length cl, .int .i64 1, .int .i64 ((d : Int) + 1)] 25)).cell? ⟨X, 2, none⟩ = some (.int .i64 ((d : Int) + 1)) := bAt (aB w2 _) x2
              have ph := World.alloc_heap_new w2 (.cells #[.slice al bs.length cl, .int .i64 1, .int .i64 ((d : Int) + 1)] 25)
              have py0 : (w2.alloc (.cells #[.slice al bs.length cl, .int .i64 1, .int .i64 ((d : Int) + 1)] 25)).cell? ⟨w2.heap.size, 0, none⟩ = some (.slice al bs.length cl) := by rw [cell_of_heap ph]; rfl
              have py1 : (w2.alloc (.cells #[.slice al bs.length cl, .int .i64 1, .int .i64 ((d : Int) + 1)] 25)).cell? ⟨w2.heap.size, 1, none⟩ = some (.int .i64 1) := by rw [cell_of_heap ph]; rfl
              have py2 : (w2.alloc (.cells #[.slice al bs.length cl, .int .i64 1, .int .i64 ((d : Int) + 1)] 25)).cell? ⟨w2.heap.size, 2, none⟩ = some (.int .i64 ((d : Int) + 1)) := by rw [cell_of_heap ph]; rfl
              have rx0 : (w2.alloc (.cells #[.slice al bs.length cl, .int .i64 2, .int .i64 ((d : Int) + 1)] 25)).cell? ⟨X, 0, none⟩ = some (.slice a bs.length cap) := bAt (aB w2 _) x0
              have rx1 : (w2.alloc (.cells #[.slice al bs.length cl, .int .i64 2, .int .i64 ((d : Int) + 1)] 25)).cell? ⟨X, 1, none⟩ = some (.int .i64 1) := bAt (aB w2 _) x1
              have rx2 : (w2.alloc (.cells #[.slice al bs.length cl, .int .i64 2, .int .i64 ((d : Int) + 1)] 25)).cell? ⟨X, 2, none⟩ = some (.int .i64 ((d : Int) + 1)) := bAt (aB w2 _) x2
              have rh := World.alloc_heap_new w2 (.cells #[.slice al bs.length cl, .int .i64 2, .int .i64 ((d : Int) + 1)] 25)
              have ry0 : (w2.alloc (.cells #[.slice al bs.length cl, .int .i64 2, .int .i64 ((d : Int) + 1)] 25)).cell? ⟨w2.heap.size, 0, none⟩ = some (.slice al bs.length cl) := by rw [cell_of_heap rh]; rfl
              have ry1 : (w2.alloc (.cells #[.slice al bs.length cl, .int .i64 2, .int .i64 ((d : Int) + 1)] 25)).cell? ⟨w2.heap.size, 1, none⟩ = some (.int .i64 2) := by rw [cell_of_heap rh]; rfl
              have ry2 : (w2.alloc (.cells #[.slice al bs.length cl, .int .i64 2, .int .i64 ((d : Int) + 1)] 25)).cell? ⟨w2.heap.size, 2, none⟩ = some (.int .i64 ((d : Int) + 1)) := by rw [cell_of_heap rh]; rfl
              go_wp2_with fail
              refine (known_any _).mono ?_
              rintro e w99 ⟨rfl, hb99⟩
              have HB99 := Lib.hid (bThen (bThen HB2.out (aB w2 _)) hb99)
              clear hb99
              clear ph px0 py0 px1 py1 px2 py2
              clear rh rx0 ry0 rx1 ry1 rx2 ry2
              go_wp2
              go_ret
              exact ⟨rfl, HB99.out⟩
          · as_aux_lemma =>
              obtain rfl : g = 2 := hg
              have px0 : (w2.alloc (.cells #[.slice al bs.length cl, .int .i64 2, .int .i64 ((d : Int) + 1)] 25)).cell? ⟨X, 0, none⟩ = some (.slice a bs.length cap) := bAt (aB w2 _) x0
              have px1 : (w2.alloc (.cells #[.slice al bs.length cl, .int .i64 2, .int .i64 ((d : Int) + 1)] 25)).cell? ⟨X, 1, none⟩ = some (.int .i64 2) := bAt (aB w2 _) x1
              have px2 : (w2.alloc (.cells #[.slice al bs.length cl, .int .i64 2, .int .i64 ((d : Int) + 1)] 25)).cell? ⟨X, 2, none⟩ = some (.int .i64 ((d : Int) + 1)) := bAt (aB w2 _) x2
              have ph := World.alloc_heap_new w2 (.cells #[.slice al bs.length cl, .int .i64 2, .int .i64 ((d : Int) + 1)] 25)
              have py0 : (w2.alloc (.cells #[.slice al bs.length cl, .int .i64 2, .int .i64 ((d : Int) + 1)] 25)).cell? ⟨w2.heap.size, 0, none⟩ = some (.slice al bs.length cl) := by rw [cell_of_heap ph]; rfl
              have py1 : (w2.alloc (.cells #[.slice al bs.length cl, .int .i64 2, .int .i64 ((d : Int) + 1)] 25)).cell? ⟨w2.heap.size, 1, none⟩ = some (.int .i64 2) := by rw [cell_of_heap ph]; rfl
              have py2 : (w2.alloc (.cells #[.slice al bs.length cl, .int .i64 2, .int .i64 ((d : Int) + 1)] 25)).cell? ⟨w2.heap.size, 2, none⟩ = some (.int .i64 ((d : Int) + 1)) := by rw [cell_of_heap ph]; rfl
              have rx0 : (w2.alloc (.cells #[.slice al bs.length cl, .int .i64 1, .int .i64 ((d : Int) + 1)] 25)).cell? ⟨X, 0, none⟩ = some (.slice a bs.length cap) := bAt (aB w2 _) x0
              have rx1 : (w2.alloc (.cells #[.slice al bs.length cl, .int .i64 1, .int .i64 ((d : Int) + 1)] 25)).cell? ⟨X, 1, none⟩ = some (.int .i64 2) := bAt (aB w2 _) x1
              have rx2 : (w2.alloc (.cells #[.slice al bs.length cl, .int .i64 1, .int .i64 ((d : Int) + 1)] 25)).cell? ⟨X, 2, none⟩ = some (.int .i64 ((d : Int) + 1)) := bAt (aB w2 _) x2
              have rh := World.alloc_heap_new w2 (.cells #[.slice al bs.length cl, .int .i64 1, .int .i64 ((d : Int) + 1)] 25)
              have ry0 : (w2.alloc (.cells #[.slice al bs.length cl, .int .i64 1, .int .i64 ((d : Int) + 1)] 25)).cell? ⟨w2.heap.size, 0, none⟩ = some (.slice al bs.length cl) := by rw [cell_of_heap rh]; rfl
              have ry1 : (w2.alloc (.cells #[.slice al bs.length cl, .int .i64 1, .int .i64 ((d : Int) + 1)] 25)).cell? ⟨w2.heap.size, 1, none⟩ = some (.int .i64 1) := by rw [cell_of_heap rh]; rfl
              have ry2 : (w2.alloc (.cells #[.slice al bs.length cl, .int .i64 1, .int .i64 ((d : Int) + 1)] 25)).cell? ⟨w2.heap.size, 2, none⟩ = some (.int .i64 ((d : Int) + 1)) := by rw [cell_of_heap rh]; rfl
              go_wp2_with fail
              obtain ⟨w3, hw3⟩ : ∃ w3, w2.alloc (.cells #[.slice al bs.length cl, .int .i64 1, .int .i64 ((d : Int) + 1)] 25) = w3 := ⟨_, rfl⟩
              have hb3 : Below w2.heap.size w2 w3 := by rw [← hw3]; exact aB _ _
              have hh3 : w3.heap[w2.heap.size]? = some (.cells #[.slice al bs.length cl, .int .i64 1, .int .i64 ((d : Int) + 1)] 25) := by rw [← hw3]; exact World.alloc_heap_new _ _
              have y0 : w3.cell? ⟨w2.heap.size, 0, none⟩ = some (.slice al bs.length cl) := by rw [cell_of_heap hh3]; rfl
              have y1 : w3.cell? ⟨w2.heap.size, 1, none⟩ = some (.int .i64 1) := by rw [cell_of_heap hh3]; rfl
              have y2 : w3.cell? ⟨w2.heap.size, 2, none⟩ = some (.int .i64 ((d : Int) + 1)) := by rw [cell_of_heap hh3]; rfl
              replace x0 := bAt hb3 x0
              replace x1 := bAt hb3 x1
              replace x2 := bAt hb3 x2
              replace HS := Lib.hid (HS.out.below hb3)
              replace HV := Lib.hid (HV.out.below hb3)
              have HBW := Lib.hid (bThen HB2.out hb3)
              have HW3 := Lib.hid hw3
              clear hw3 hb3 hh3
              rw [HW3.out]
              clear ph px0 py0 px1 py1 px2 py2
              clear rh rx0 ry0 rx1 ry1 rx2 ry2
              have hdd : d + 1 ≤ d + 1 := by omega
              have SUB : Hid ((bs).Sublist bs) := Lib.hid (List.Sublist.refl _)
              have GT : Hid (∀ s b, aftOk 1 s b = true → aftOk 2 s b = true) := Lib.hid (gate_wide (by omega))
              have R2 := Lib.hid (rulesOk_gate (g' := 1) HR.out rfl)
              as_aux_lemma =>
                have R2N : rulesOk (bs) 1 ((d + 1) : Nat) = true := by simpa using R2.out
                have MF := more_facts (d := d + 1) (d' := (d + 1)) (by simpa using HR.out) R2N GT.out SUB.out hdd hsb.1 (show s ≤ 1001 by omega)
                have DC : Hid ((((d + 1) : Nat) : Int) = (d : Int) + 1) := Lib.hid (by simp)
                rw [show ((d + 1 : Nat) : Int) = (d : Int) + 1 by simp] at MF
                obtain ⟨⟨m1, m2⟩, m3, m4⟩ := MF
                have NB1 := numOf_bd R2N s
                have NE2 := (numOf_out R2N hsb.1 (show s ≤ 1001 by omega)).2
                rw [DC.out] at NB1 NE2
                have NB2 := numOf_bd (d := d + 1) (by simpa using HR.out) s
                rw [show ((d + 1 : Nat) : Int) = (d : Int) + 1 by simp] at NB2
                obtain ⟨n1, hn1⟩ : ∃ x, numOf bs 2 ((d : Int) + 1) s = x := ⟨_, rfl⟩
                obtain ⟨n2, hn2⟩ : ∃ x, numOf (bs) 1 ((d : Int) + 1) s = x := ⟨_, rfl⟩
                rw [hn1] at m2 NB2
                rw [hn2] at m1 m2 NB1
                have N1 : Hid (numOf bs 2 ((d : Int) + 1) s = n1 ∧ scoreErr bs 2 ((d : Int) + 1) s = 0) := Lib.hid ⟨hn1, by have := (numOf_out (d := d + 1) (by simpa using HR.out) hsb.1 (show s ≤ 1001 by omega)).2; simpa using this⟩
                have N2 : Hid (numOf (bs) 1 ((d : Int) + 1) s = n2 ∧ scoreErr (bs) 1 ((d : Int) + 1) s = 0) := Lib.hid ⟨hn2, NE2⟩
                obtain ⟨fa, hfa⟩ : ∃ x, fewTo 2 bs s = x := ⟨_, rfl⟩
                obtain ⟨fb, hfb⟩ : ∃ x, fewTo 1 (bs) s = x := ⟨_, rfl⟩
                have FA : Hid (fewL bs 2 ((d : Int) + 1) s = fa ∧ mostErr bs 2 ((d : Int) + 1) s = 0) := Lib.hid (by
                  have e := mostErr_ok (s := s) HR.out (by omega)
                  exact ⟨by rw [fewL, if_pos e, Int.toNat_natCast, hfa], e⟩)
                have FB : Hid (fewL (bs) 1 ((d : Int) + 1) s = fb ∧ mostErr (bs) 1 ((d : Int) + 1) s = 0) := Lib.hid (by
                  have e := mostErr_ok (s := s) R2.out (by omega)
                  exact ⟨by rw [fewL, if_pos e, Int.toNat_natCast, hfb], e⟩)
                have FAL : Hid (fa.length = s + 1) := Lib.hid (by rw [← hfa, fewTo_length])
                have FBL : Hid (fb.length = s + 1) := Lib.hid (by rw [← hfb, fewTo_length])
                have FAA : Hid (∀ k (h : k < fa.length), fa[k] = fewAt 2 bs k) := Lib.hid (by intro k h; subst hfa; exact fewTo_get h)
                have FBA : Hid (∀ k (h : k < fb.length), fb[k] = fewAt 1 (bs) k) := Lib.hid (by intro k h; subst hfb; exact fewTo_get h)
                obtain ⟨ca, hca⟩ : ∃ x, bogTo (cnts 2 bs (d + 1) s) (d + 1) s = x := ⟨_, rfl⟩
                obtain ⟨cb, hcb⟩ : ∃ x, bogTo (cnts 1 (bs) (d + 1) s) (d + 1) s = x := ⟨_, rfl⟩
                have CA : Hid (bogL bs 2 ((d : Int) + 1) s = ca ∧ mostErr bs 2 ((d : Int) + 1) s = 0) := Lib.hid (by
                  have e := mostErr_ok (s := s) HR.out (by omega)
                  exact ⟨by rw [bogL, if_pos e, Int.toNat_natCast, show ((d : Int) + 1).toNat = d + 1 by omega, hca], e⟩)
                have CB : Hid (bogL (bs) 1 ((d : Int) + 1) s = cb ∧ mostErr (bs) 1 ((d : Int) + 1) s = 0) := Lib.hid (by
                  have e := mostErr_ok (s := s) R2.out (by omega)
                  exact ⟨by rw [bogL, if_pos e, show (((d : Int) + 1) : Int).toNat = (d + 1) by omega, Int.toNat_natCast, hcb], e⟩)
                obtain ⟨J, j1, j2, j3⟩ := places (hca ▸ bogTo_pairwise _ _ _) (hcb ▸ bogTo_pairwise _ _ _) (by rw [← hca, ← hcb]; exact m4)
                have J1 := Lib.hid j1
                have J2 := Lib.hid j2
                have J3 := Lib.hid j3
                have M3 := Lib.hid m3
                have HLE2 : Hid ((bs).length ≤ 85) := Lib.hid (by have := SUB.out.length_le; omega)
                have HI2 : Hid (∀ b ∈ bs, I64 b) := Lib.hid (fun b hb => HI.out b (SUB.out.subset hb))
                have hcal : ca.length ≤ s := by rw [← hca]; exact bogTo_length _ _ _
                have hcbl : cb.length ≤ s := by rw [← hcb]; exact bogTo_length _ _ _
                clear hn1 hn2 hfa hfb hca hcb j1 j2 j3 m3 m4 NE2 R2N
                go_wp2_with fail
                refine (rules_any bs 2 _ _ _ HS.out HLE.out).mono ?_
                rintro e w21 ⟨v21, rfl, hb21, hv21⟩
                have HU := Lib.hid hv21
                clear hv21
                replace x0 := bAt hb21 x0
                replace x1 := bAt hb21 x1
                replace x2 := bAt hb21 x2
                replace y0 := bAt hb21 y0
                replace y1 := bAt hb21 y1
                replace y2 := bAt hb21 y2
                replace HS := Lib.hid (HS.out.below hb21)
                replace HV := Lib.hid (HV.out.below hb21)
                have HB21 := Lib.hid (bThen HBW.out hb21)
                clear hb21
                go_wp2_with fail
                refine (number_r bs 2 _ s n1 N1 _ _ HU.out HI.out).mono ?_
                rintro e w22 ⟨rfl, hb22⟩
                clear HU
                replace x0 := bAt hb22 x0
                replace x1 := bAt hb22 x1
                replace x2 := bAt hb22 x2
                replace y0 := bAt hb22 y0
                replace y1 := bAt hb22 y1
                replace y2 := bAt hb22 y2
                replace HS := Lib.hid (HS.out.below hb22)
                replace HV := Lib.hid (HV.out.below hb22)
                have HB22 := Lib.hid (bThen HB21.out hb22)
                clear hb22
                go_wp2_with fail
                refine (rules_any (bs) 1 _ _ _ HV.out HLE2.out).mono ?_
                rintro e w23 ⟨v23, rfl, hb23, hv23⟩
                have HU := Lib.hid hv23
                clear hv23
                replace x0 := bAt hb23 x0
                replace x1 := bAt hb23 x1
                replace x2 := bAt hb23 x2
                replace y0 := bAt hb23 y0
                replace y1 := bAt hb23 y1
                replace y2 := bAt hb23 y2
                replace HS := Lib.hid (HS.out.below hb23)
                replace HV := Lib.hid (HV.out.below hb23)
                have HB23 := Lib.hid (bThen HB22.out hb23)
                clear hb23
                go_wp2_with fail
                refine (number_r (bs) 1 _ s n2 N2 _ _ HU.out HI2.out).mono ?_
                rintro e w24 ⟨rfl, hb24⟩
                clear HU
                replace x0 := bAt hb24 x0
                replace x1 := bAt hb24 x1
                replace x2 := bAt hb24 x2
                replace y0 := bAt hb24 y0
                replace y1 := bAt hb24 y1
                replace y2 := bAt hb24 y2
                replace HS := Lib.hid (HS.out.below hb24)
                replace HV := Lib.hid (HV.out.below hb24)
                have HB24 := Lib.hid (bThen HB23.out hb24)
                clear hb24
                go_wp2_with fail
                refine (rules_any bs 2 _ _ _ HS.out HLE.out).mono ?_
                rintro e w25 ⟨v25, rfl, hb25, hv25⟩
                have HU := Lib.hid hv25
                clear hv25
                replace x0 := bAt hb25 x0
                replace x1 := bAt hb25 x1
                replace x2 := bAt hb25 x2
                replace y0 := bAt hb25 y0
                replace y1 := bAt hb25 y1
                replace y2 := bAt hb25 y2
                replace HS := Lib.hid (HS.out.below hb25)
                replace HV := Lib.hid (HV.out.below hb25)
                have HB25 := Lib.hid (bThen HB24.out hb25)
                clear hb25
                go_wp2_with fail
                refine (fewest_r bs 2 _ s fa FA _ _ HU.out HI.out).mono ?_
                rintro e w26 ⟨a1, c1, rfl, hb26, hl26⟩
                rw [FAL.out] at hl26
                rw [FAL.out]
                have HFA := Lib.hid hl26
                clear HU hl26
                replace x0 := bAt hb26 x0
                replace x1 := bAt hb26 x1
                replace x2 := bAt hb26 x2
                replace y0 := bAt hb26 y0
                replace y1 := bAt hb26 y1
                replace y2 := bAt hb26 y2
                replace HS := Lib.hid (HS.out.below hb26)
                replace HV := Lib.hid (HV.out.below hb26)
                have HB26 := Lib.hid (bThen HB25.out hb26)
                clear hb26
                go_wp2_with fail
                refine (rules_any (bs) 1 _ _ _ HV.out HLE2.out).mono ?_
                rintro e w27 ⟨v27, rfl, hb27, hv27⟩
                have HU := Lib.hid hv27
                clear hv27
                replace x0 := bAt hb27 x0
                replace x1 := bAt hb27 x1
                replace x2 := bAt hb27 x2
                replace y0 := bAt hb27 y0
                replace y1 := bAt hb27 y1
                replace y2 := bAt hb27 y2
                replace HS := Lib.hid (HS.out.below hb27)
                replace HV := Lib.hid (HV.out.below hb27)
                replace HFA := Lib.hid (HFA.out.below hb27)
                have HB27 := Lib.hid (bThen HB26.out hb27)
                clear hb27
                go_wp2_with fail
                refine (fewest_r (bs) 1 _ s fb FB _ _ HU.out HI2.out).mono ?_
                rintro e w28 ⟨a2, c2, rfl, hb28, hl28⟩
                rw [FBL.out] at hl28
                rw [FBL.out]
                have HFB := Lib.hid hl28
                clear HU hl28
                replace x0 := bAt hb28 x0
                replace x1 := bAt hb28 x1
                replace x2 := bAt hb28 x2
                replace y0 := bAt hb28 y0
                replace y1 := bAt hb28 y1
                replace y2 := bAt hb28 y2
                replace HS := Lib.hid (HS.out.below hb28)
                replace HV := Lib.hid (HV.out.below hb28)
                replace HFA := Lib.hid (HFA.out.below hb28)
                have HB28 := Lib.hid (bThen HB27.out hb28)
                clear hb28
                go_wp2_with fail
                refine (rules_any bs 2 _ _ _ HS.out HLE.out).mono ?_
                rintro e w29 ⟨v29, rfl, hb29, hv29⟩
                have HU := Lib.hid hv29
                clear hv29
                replace x0 := bAt hb29 x0
                replace x1 := bAt hb29 x1
                replace x2 := bAt hb29 x2
                replace y0 := bAt hb29 y0
                replace y1 := bAt hb29 y1
                replace y2 := bAt hb29 y2
                replace HS := Lib.hid (HS.out.below hb29)
                replace HV := Lib.hid (HV.out.below hb29)
                replace HFA := Lib.hid (HFA.out.below hb29)
                replace HFB := Lib.hid (HFB.out.below hb29)
                have HB29 := Lib.hid (bThen HB28.out hb29)
                clear hb29
                go_wp2_with fail
                refine (bogeys_r bs 2 _ s ca CA _ _ HU.out HI.out).mono ?_
                rintro e w30 ⟨a3, c3, rfl, hb30, hl30⟩
                have HCA := Lib.hid hl30
                clear HU hl30
                replace x0 := bAt hb30 x0
                replace x1 := bAt hb30 x1
                replace x2 := bAt hb30 x2
                replace y0 := bAt hb30 y0
                replace y1 := bAt hb30 y1
                replace y2 := bAt hb30 y2
                replace HS := Lib.hid (HS.out.below hb30)
                replace HV := Lib.hid (HV.out.below hb30)
                replace HFA := Lib.hid (HFA.out.below hb30)
                replace HFB := Lib.hid (HFB.out.below hb30)
                have HB30 := Lib.hid (bThen HB29.out hb30)
                clear hb30
                go_wp2_with fail
                refine (rules_any (bs) 1 _ _ _ HV.out HLE2.out).mono ?_
                rintro e w31 ⟨v31, rfl, hb31, hv31⟩
                have HU := Lib.hid hv31
                clear hv31
                replace x0 := bAt hb31 x0
                replace x1 := bAt hb31 x1
                replace x2 := bAt hb31 x2
                replace y0 := bAt hb31 y0
                replace y1 := bAt hb31 y1
                replace y2 := bAt hb31 y2
                replace HS := Lib.hid (HS.out.below hb31)
                replace HV := Lib.hid (HV.out.below hb31)
                replace HFA := Lib.hid (HFA.out.below hb31)
                replace HFB := Lib.hid (HFB.out.below hb31)
                replace HCA := Lib.hid (HCA.out.below hb31)
                have HB31 := Lib.hid (bThen HB30.out hb31)
                clear hb31
                go_wp2_with fail
                refine (bogeys_r (bs) 1 _ s cb CB _ _ HU.out HI2.out).mono ?_
                rintro e w32 ⟨a4, c4, rfl, hb32, hl32⟩
                have HCB := Lib.hid hl32
                clear HU hl32
                replace x0 := bAt hb32 x0
                replace x1 := bAt hb32 x1
                replace x2 := bAt hb32 x2
                replace y0 := bAt hb32 y0
                replace y1 := bAt hb32 y1
                replace y2 := bAt hb32 y2
                replace HS := Lib.hid (HS.out.below hb32)
                replace HV := Lib.hid (HV.out.below hb32)
                replace HFA := Lib.hid (HFA.out.below hb32)
                replace HFB := Lib.hid (HFB.out.below hb32)
                replace HCA := Lib.hid (HCA.out.below hb32)
                have HB32 := Lib.hid (bThen HB31.out hb32)
                clear hb32
                clear x0 x1 x2 y0 y1 y2 HS HV
                have e1 : decide (n2 < 0) = false := by simp; omega
                have e2 : decide (n1 < n2) = false := by simp; omega
                go_wp2_with fail
                go_loopw [22] (fun i wr => ∃ k : Nat, k ≤ s + 1 ∧ i = .int .i64 k ∧ Below w32.heap.size w32 wr) (fun i _ => s + 1 - (intOf i).toNat)
                case atStart => exact ⟨0, by omega, rfl, Below.refl _ _⟩
                case round =>
                  obtain ⟨k, hk, rfl, hb⟩ := hrel
                  replace HFA := Lib.hid (HFA.out.below hb)
                  replace HFB := Lib.hid (HFB.out.below hb)
                  replace HCA := Lib.hid (HCA.out.below hb)
                  replace HCB := Lib.hid (HCB.out.below hb)
                  have HBL := Lib.hid hb
                  clear hb
                  by_cases hlt : k < s + 1
                  · have d1 : decide (k ≤ s) = true := by simp; omega
                    have hik : (k : Int) < (s : Int) + 1 := by omega
                    obtain ⟨b1, o1, ea1, _, z1⟩ := HFA.out.cell (show k < fa.length by have := FAL.out; omega)
                    cases ea1
                    obtain ⟨b2, o2, ea2, _, z2⟩ := HFB.out.cell (show k < fb.length by have := FBL.out; omega)
                    cases ea2
                    rw [FAA.out k (by have := FAL.out; omega)] at z1
                    rw [FBA.out k (by have := FBL.out; omega)] at z2
                    obtain ⟨ka, hka⟩ : ∃ x, fewAt 2 bs k = x := ⟨_, rfl⟩
                    obtain ⟨kb, hkb⟩ : ∃ x, fewAt 1 (bs) k = x := ⟨_, rfl⟩
                    have MK : 0 ≤ kb → 0 ≤ ka ∧ ka ≤ kb := by rw [← hka, ← hkb]; exact M3.out k
                    rw [hka] at z1
                    rw [hkb] at z2
                    clear hka hkb
                    by_cases hkb0 : 0 ≤ kb
                    · obtain ⟨p1, p2⟩ := MK hkb0
                      have d2 : decide (0 ≤ kb) = true := by simp [hkb0]
                      have d3 : decide (ka < 0) = false := by simp; omega
                      have d4 : decide (kb < ka) = false := by simp; omega
                      clear MK
                      go_wp2_with fail
                      go_quiet (fail)
                      go_wp2_with fail
                      go_roundw
                      case rel => exact ⟨k + 1, by omega, by go_num, ⟨HBL.out.os, HBL.out.tape, HBL.out.output, HBL.out.size, HBL.out.block⟩⟩
                      case measure => simp [intOf]; omega
                    · have d2 : decide (0 ≤ kb) = false := by simp [hkb0]
                      clear MK
                      go_wp2_with fail
                      go_quiet (fail)
                      go_wp2_with fail
                      go_roundw
                      case rel => exact ⟨k + 1, by omega, by go_num, ⟨HBL.out.os, HBL.out.tape, HBL.out.output, HBL.out.size, HBL.out.block⟩⟩
                      case measure => simp [intOf]; omega
                  · obtain rfl : k = s + 1 := by omega
                    have d1 : decide (s + 1 ≤ s) = false := by simp
                    obtain ⟨ws, rfl⟩ : ∃ ws : World, ws = wr := ⟨_, rfl⟩
                    have HBS := Lib.hid (bThen HB32.out HBL.out)
                    clear HFA HFB
                    go_wp2_with fail
                    go_loopw [23, 24] (fun at' i wr => ∃ k t : Nat, k ≤ ca.length ∧ i = .int .i64 k ∧ at' = .int .i64 t ∧ t ≤ cb.length ∧ Hid (∀ _ : k < ca.length, t ≤ J k) ∧ Below ws.heap.size ws wr) (fun _ i _ => ca.length - (intOf i).toNat)
                    case atStart => exact ⟨0, 0, by omega, rfl, rfl, by omega, Lib.hid (fun _ => by omega), Below.refl _ _⟩
                    case round =>
                      obtain ⟨k, t, hk, rfl, rfl, ht, TJ, hb⟩ := hrel
                      obtain ⟨wo, rfl⟩ : ∃ wo : World, wo = wr := ⟨_, rfl⟩
                      replace HCA := Lib.hid (HCA.out.below hb)
                      replace HCB := Lib.hid (HCB.out.below hb)
                      have HBO := Lib.hid hb
                      clear hb
                      by_cases hlk : k < ca.length
                      · have hik : (k : Int) < (ca.length : Int) := by omega
                        obtain ⟨hj, hje⟩ := J1.out k hlk
                        have TK := TJ.out hlk
                        obtain ⟨x, hx⟩ : ∃ x, ca[k] = x := ⟨_, rfl⟩
                        have JX : Hid (∀ q (h : q < cb.length), cb[q] < x ↔ q < J k) := Lib.hid (fun q h => hx ▸ J3.out k hlk q h)
                        have HXK := Lib.hid hx
                        have HJE : Hid (cb[J k] = x) := Lib.hid (hje.trans hx)
                        obtain ⟨jk, hjk⟩ : ∃ jk, J k = jk := ⟨_, rfl⟩
                        rw [hjk] at hj TK JX
                        have HJE2 : Hid (∀ h : jk < cb.length, cb[jk] = x) := Lib.hid (fun h => by subst hjk; exact HJE.out)
                        have J2K : Hid (k + 1 < ca.length → jk < J (k + 1)) := Lib.hid (fun h => hjk ▸ J2.out k h)
                        clear hx hje hjk HJE
                        go_wp2_with fail
                        go_loopw [23] (fun at' wr => ∃ t : Nat, t ≤ jk ∧ at' = .int .i64 t ∧ Below wo.heap.size wo wr) (fun at' _ => cb.length - (intOf at').toNat)
                        case atStart => exact ⟨t, TK, rfl, Below.refl _ _⟩
                        case round =>
                          obtain ⟨t, ht, rfl, hb⟩ := hrel
                          replace HCA := Lib.hid (HCA.out.below hb)
                          replace HCB := Lib.hid (HCB.out.below hb)
                          have HBR := Lib.hid hb
                          clear hb
                          have hit : (t : Int) < (cb.length : Int) := by omega
                          have hlt2 : t < cb.length := by omega
                          have d5 : decide (t < cb.length) = true := by simp; omega
                          have d6 : ((t : Int) == (cb.length : Int)) = false := beq_eq_false_iff_ne.2 (by omega)
                          have d7 : (t == cb.length) = false := beq_eq_false_iff_ne.2 (by omega)
                          obtain ⟨b1, o1, ea1, _, z1⟩ := HCA.out.cell hlk
                          cases ea1
                          obtain ⟨b2, o2, ea2, _, z2⟩ := HCB.out.cell hlt2
                          cases ea2
                          rw [HXK.out] at z1
                          obtain ⟨y, hy⟩ : ∃ y, cb[t] = y := ⟨_, rfl⟩
                          rw [hy] at z2
                          by_cases htj : t < jk
                          · have d8 : decide (y < x) = true := by rw [decide_eq_true_eq, ← hy]; exact (JX.out t hlt2).2 htj
                            clear hy
                            go_wp2_with fail
                            go_quiet (fail)
                            go_wp2_with fail
                            go_roundw
                            case rel => exact ⟨t + 1, by omega, by go_num, ⟨HBR.out.os, HBR.out.tape, HBR.out.output, HBR.out.size, HBR.out.block⟩⟩
                            case measure => simp [intOf]; omega
                          · obtain rfl : t = jk := by omega
                            obtain rfl : y = x := hy.symm.trans (HJE2.out hlt2)
                            have d8 : decide (y < y) = false := by simp
                            clear hy
                            go_wp2_with fail
                            go_quiet (fail)
                            go_wp2_with fail
                            go_quiet (fail)
                            go_wp2_with fail
                            go_roundw
                            case rel => exact ⟨k + 1, t, by omega, by go_num, rfl, by omega, Lib.hid (fun h => by have := J2K.out h; omega), bThen HBO.out ⟨HBR.out.os, HBR.out.tape, HBR.out.output, HBR.out.size, HBR.out.block⟩⟩
                            case measure => simp [intOf]; omega
                      · obtain rfl : k = ca.length := by omega
                        go_wp2_with fail
                        refine (known_any _).mono ?_
                        rintro e w99 ⟨rfl, hb99⟩
                        have HB99 := Lib.hid (bThen HBS.out (bThen HBO.out hb99))
                        clear hb99
                        go_wp2
                        go_ret
                        exact ⟨rfl, HB99.out⟩
end Go.Proofs.Ytcnofoopdghjiaa
