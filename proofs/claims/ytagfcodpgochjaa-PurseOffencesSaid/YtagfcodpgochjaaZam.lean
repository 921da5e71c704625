/- The texts CK, BoxB, in build order. -/
import Derived.Test.YtagfcodpgochjaaZal
import Derived.Lib.MinMax

/- Chapter 12: coins: one kind more. -/
namespace Go.Proofs.Ytagfcodpgochjaa
open Go.RowKit Go.Oche Go.Proofs

/-- What the comparison of costs reads. -/
structure KAt (X : World) (p2 p3 p6 : Nat) (W C r : Nat) (Fl : List Int) (sv : Value) (S : Nat → Prop) : Prop where
  k0 : X.cell? ⟨p2, 0, none⟩ = some (.int .i64 W)
  k1 : X.cell? ⟨p2, 1, none⟩ = some (.int .i64 C)
  few : X.cell? ⟨p3, 0, none⟩ = some sv
  rst : X.cell? ⟨p6, 0, none⟩ = some (.int .i64 r)
  sl : Sl S X sv (ints Fl)
theorem KAt.below {X Y : World} {p2 p3 p6 W C r : Nat} {Fl : List Int} {sv : Value} {S : Nat → Prop} (h : KAt X p2 p3 p6 W C r Fl sv S) (hb : Below X.heap.size X Y) : KAt Y p2 p3 p6 W C r Fl sv S :=
  ⟨bAt hb h.k0, bAt hb h.k1, bAt hb h.few, bAt hb h.rst, h.sl.below hb⟩
theorem KAt.grown {X Y : World} {p2 p3 p6 W C r : Nat} {Fl : List Int} {sv : Value} {S : Nat → Prop} {row : Option Nat} (h : KAt X p2 p3 p6 W C r Fl sv S) (hg : X.grownBy Y row) (h1 : some p2 ≠ row) (h2 : some p3 ≠ row) (h3 : some p6 ≠ row) (h4 : ∀ k, S k → some k ≠ row) : KAt Y p2 p3 p6 W C r Fl sv S :=
  ⟨hg.cell h.k0 h1, hg.cell h.k1 h1, hg.cell h.few h2, hg.cell h.rst h3, h.sl.cells fun b o hb hs => by
    obtain ⟨x, hx⟩ := Option.isSome_iff_exists.1 hs
    rw [hx]; exact hg.cell hx (h4 b hb)⟩
set_option maxRecDepth 100000 in
theorem add1_any {S : Nat → Prop} (p2 p3 p6 W C r i : Nat) (Fl : List Int) (sv : Value) (w : World) (h : KAt w p2 p3 p6 W C r Fl sv S) (hi : r + i * W < Fl.length) (_hN : Fl.length ≤ 50000) (hF : ∀ x ∈ Fl, 0 ≤ x ∧ x ≤ noneC) (hi2 : i ≤ 50000) :
    Calls Try.prog 73 #[.int .i64 i, .pointer (some ⟨p3, 0, none⟩), .pointer (some ⟨p6, 0, none⟩), .pointer (some ⟨p2, 0, none⟩)] w fun e w' => e = .returned (.int .i64 (costW (at0 Fl) W r i)) ∧ Below w.heap.size w w' := by
  obtain ⟨k0, -, few, rst, hsl⟩ := h
  obtain ⟨a, cap, rfl, h2, h3⟩ := hsl.form
  simp only [ints_length] at *
  unfold maxLen at h3
  obtain ⟨q, hq⟩ : ∃ q : Nat, r + i * W = q := ⟨_, rfl⟩
  rw [hq] at hi
  obtain ⟨b, off, hal, _, hc⟩ := hsl.cell hi
  cases hal
  obtain ⟨x, hx⟩ : ∃ x, Fl[q] = x := ⟨_, rfl⟩
  have hxb := hx ▸ hF _ (List.getElem_mem hi)
  rw [hx] at hc
  have hm : IntKind.i64.wrap ((i : Int) * (W : Int)) = ((i * W : Nat) : Int) := by
    have h1 : ((i * W : Nat) : Int) = (i : Int) * (W : Int) := by simp
    rw [← h1]; exact wrap_small _ (by omega) (by omega)
  have hs : IntKind.i64.wrap ((r : Int) + ((i * W : Nat) : Int)) = (q : Int) := by
    rw [show (r : Int) + ((i * W : Nat) : Int) = (q : Int) by omega]; exact wrap_small _ (by omega) (by omega)
  have hs2 : IntKind.i64.wrap ((r : Int) + (i : Int) * (W : Int)) = (q : Int) := by
    have h1 : ((i * W : Nat) : Int) = (i : Int) * (W : Int) := by simp
    rw [← h1]; exact hs
  have hd : IntKind.i64.wrap (x - (i : Int)) = x - (i : Int) := by unfold noneC at hxb; exact wrap_small _ (by omega) (by omega)
  have R : Hid (costW (at0 Fl) W r i = x - (i : Int)) := Lib.hid (by rw [costW, hq, at0_eq hi, hx])
  have hm2 : IntKind.i64.wrap ((i : Int) * (W : Int)) = (i : Int) * (W : Int) := by rw [hm]; simp
  clear hsl hF hx hxb hq hm
  go_enter Try.func73, Try.ntmps73
  go_wp2
  go_ret
  exact ⟨ret_int R.out.symm, Below.refl _ _⟩
/-- What has been written when rest r is at step n. -/
def outF (F : Nat → Int) (W C r n a : Nat) : Int := if a % W < r ∨ (a % W = r ∧ a / W < n) then addK F W C a else 0
theorem outF_step {F : Nat → Int} {W C r n a : Nat} (hr : r < W) : (if a = r + n * W then addK F W C (r + n * W) else outF F W C r n a) = outF F W C r (n + 1) a := by
  have hd := Nat.div_add_mod a W
  by_cases e : a = r + n * W
  · rw [if_pos e]
    have h1 : a % W = r := by rw [e, Nat.add_mul_mod_self_right, Nat.mod_eq_of_lt hr]
    have h2 : a / W = n := by rw [e, Nat.add_mul_div_right _ _ (by omega), Nat.div_eq_of_lt hr, Nat.zero_add]
    unfold outF
    rw [if_pos (.inr ⟨h1, by omega⟩), e]
  · rw [if_neg e]
    unfold outF
    have : (a % W < r ∨ a % W = r ∧ a / W < n) ↔ (a % W < r ∨ a % W = r ∧ a / W < n + 1) := by
      constructor
      · rintro (h | ⟨h1, h2⟩)
        · exact .inl h
        · exact .inr ⟨h1, by omega⟩
      · rintro (h | ⟨h1, h2⟩)
        · exact .inl h
        · refine .inr ⟨h1, ?_⟩
          rcases Nat.lt_or_ge (a / W) n with h | h
          · exact h
          · have h3 : a / W = n := by omega
            rw [h1, h3, Nat.mul_comm] at hd
            omega
    simp only [this]
theorem outF_end {F : Nat → Int} {W C r n a N : Nat} (ha : a < N) (hN : N ≤ r + n * W) : outF F W C r n a = outF F W C (r + 1) 0 a := by
  have hd := Nat.div_add_mod a W
  unfold outF
  have : (a % W < r ∨ a % W = r ∧ a / W < n) ↔ (a % W < r + 1 ∨ a % W = r + 1 ∧ a / W < 0) := by
    constructor
    · rintro (h | ⟨h1, h2⟩)
      · exact .inl (by omega)
      · exact .inl (by omega)
    · rintro (h | ⟨h1, h2⟩)
      · rcases Nat.lt_or_ge (a % W) r with h' | h'
        · exact .inl h'
        · have h1 : a % W = r := by omega
          refine .inr ⟨h1, ?_⟩
          rcases Nat.lt_or_ge (a / W) n with h2 | h2
          · exact h2
          · have h3 := Nat.mul_le_mul_right W h2
            rw [h1, Nat.mul_comm W] at hd
            omega
      · exact absurd h2 (Nat.not_lt_zero _)
  simp only [this]
theorem grownBy_other {A B D : World} {row row2 : Option Nat} (h : A.grownBy B row) (k : B.grownBy D row2) (hr : ∀ q, row2 = some q → A.heap.size ≤ q) : A.grownBy D row :=
  ⟨k.os.trans h.os, k.tape.trans h.tape, k.output.trans h.output, Nat.le_trans h.size k.size, fun i hi hn => (k.block i (Nat.lt_of_lt_of_le hi h.size) (fun e => by have := hr i e.symm; omega)).trans (h.block i hi hn)⟩
def casts (xs : List Nat) : List Int := xs.map fun (x : Nat) => (x : Int)
@[simp] theorem casts_length (xs : List Nat) : (casts xs).length = xs.length := by simp [casts]
theorem casts_append (xs ys : List Nat) : casts (xs ++ ys) = casts xs ++ casts ys := by simp [casts]
set_option maxRecDepth 100000 in
set_option maxHeartbeats 8000000 in
theorem kindAdd_any {S : Nat → Prop} (W C : Nat) (Fl : List Int) (v : Value) (w : World) (hs : Sl S w v (ints Fl)) (hW : 1 ≤ W ∧ W ≤ 20000) (hC : C ≤ 1000) (hN : 1 ≤ Fl.length ∧ Fl.length ≤ 20001) (hF : ∀ x ∈ Fl, 0 ≤ x ∧ x ≤ noneC) :
    Calls Try.prog 56 #[.agg #[.int .i64 W, .int .i64 C], v] w fun e w' => ∃ g, e = .returned (.slice (some ⟨g, 0, none⟩) Fl.length Fl.length) ∧ Below w.heap.size w w' ∧ w.heap.size ≤ g ∧ IntBlk w' g 3 Fl.length (addK (at0 Fl) W C) := by
  obtain ⟨a, cap, rfl, h2, h3⟩ := hs.form
  simp only [ints_length] at *
  unfold maxLen at h3
  obtain ⟨N, hNe⟩ : ∃ N, Fl.length = N := ⟨_, rfl⟩
  rw [hNe] at hs hN h2 ⊢
  obtain ⟨w0, hw0⟩ : ∃ w0, (w.alloc (.cells #[.int .i64 W, .int .i64 C] 109)).alloc (.cells #[.slice a N cap] 22) = w0 := ⟨_, rfl⟩
  have hb0 : Below w.heap.size w w0 := by rw [← hw0]; exact (aB _ _).trans ((aB _ _).mono (by simp))
  have hz0 : w0.heap.size = w.heap.size + 2 := by rw [← hw0]; simp
  have k0 : w0.cell? ⟨w.heap.size, 0, none⟩ = some (.int .i64 W) := by rw [← hw0]; simp
  have k1 : w0.cell? ⟨w.heap.size, 1, none⟩ = some (.int .i64 C) := by rw [← hw0]; simp
  have k3 : w0.cell? ⟨w.heap.size + 1, 0, none⟩ = some (.slice a N cap) := by rw [← hw0]; simp
  obtain ⟨R, hR⟩ : ∃ R, w0.heap.size = R := ⟨_, rfl⟩
  obtain ⟨w1, hw1⟩ : ∃ w1, w0.alloc (.cells (madeCells #[.int .i64 0] N) 3) = w1 := ⟨_, rfl⟩
  have hb1 : Below w0.heap.size w0 w1 := by rw [← hw1]; exact aB _ _
  have hI1 : IntBlk w1 R 3 N (outF (at0 Fl) W C 0 0) := by
    rw [← hw1, ← hR]; exact (IntBlk.made w0 3 N).congr fun j hj => by unfold outF; rw [if_neg (by rintro (h | ⟨_, h⟩) <;> exact absurd h (Nat.not_lt_zero _))]
  have hz1 : w1.heap.size = R + 1 := by rw [← hw1]; simp [hR]
  have hK1 : ∀ X, w1.grownBy X (some R) → X.cell? ⟨w.heap.size, 0, none⟩ = some (.int .i64 W) ∧ X.cell? ⟨w.heap.size, 1, none⟩ = some (.int .i64 C) ∧ X.cell? ⟨w.heap.size + 1, 0, none⟩ = some (.slice a N cap) ∧ Sl (fun k => S k ∧ k < w.heap.size) X (.slice a N cap) (ints Fl) := fun X hX =>
    ⟨hX.cell (bAt hb1 k0) (by simp; omega), hX.cell (bAt hb1 k1) (by simp; omega), hX.cell (bAt hb1 k3) (by simp; omega), (hs.lt.below (bThen hb0 hb1)).cells fun b o hb hs => by
      obtain ⟨x, hx⟩ := Option.isSome_iff_exists.1 hs
      rw [hx]; exact hX.cell hx (by have := hb.2; simp; omega)⟩
  have hmk := make_ints N (by omega)
  have HK1 := Lib.hid hK1
  have HI1 := Lib.hid hI1
  have HB1 := Lib.hid (bThen hb0 hb1)
  have HW0 := Lib.hid hw0
  have HW1 := Lib.hid hw1
  have HR := Lib.hid hR
  have HZ0 := Lib.hid hz0
  have HZ1 := Lib.hid hz1
  have HF := Lib.hid hF
  have HNE := Lib.hid hNe
  obtain ⟨M, hM⟩ : ∃ M : Nat, M = min W N := ⟨_, rfl⟩
  obtain ⟨wE, hwE⟩ : ∃ wE, ((w.alloc (.cells #[.int .i64 W, .int .i64 C] 109)).alloc (.cells #[.slice a N cap] 22)).alloc (.cells (madeCells #[.int .i64 0] N) 3) = wE := ⟨_, rfl⟩
  have hwE1 : wE = w1 := by rw [← hwE, hw0, hw1]
  have c0 : (((w.alloc (.cells #[.int .i64 W, .int .i64 C] 109)).alloc (.cells #[.slice a N cap] 22)).alloc (.cells (madeCells #[.int .i64 0] N) 3)).cell? ⟨w.heap.size, 0, none⟩ = some (.int .i64 W) := by rw [hwE, hwE1]; exact bAt hb1 k0
  have c3 : (((w.alloc (.cells #[.int .i64 W, .int .i64 C] 109)).alloc (.cells #[.slice a N cap] 22)).alloc (.cells (madeCells #[.int .i64 0] N) 3)).cell? ⟨w.heap.size + 1, 0, none⟩ = some (.slice a N cap) := by rw [hwE, hwE1]; exact bAt hb1 k3
  have HWE := Lib.hid (hwE.trans hwE1)
  have hR2 : w.heap.size + 1 + 1 = R := by omega
  have HR2 := Lib.hid hR2
  have HM := Lib.hid hM
  clear hs hb0 hb1 hI1 hK1 hw0 hw1 hR hz0 hz1 hF hNe hM hwE hwE1 k0 k1 k3 hR2
  have HG1 : Hid (w1.grownBy w1 (some R)) := Lib.hid ⟨rfl, rfl, rfl, Nat.le_refl _, fun _ _ _ => rfl⟩
  rcases Nat.lt_or_ge N W with hNW | hNW
  all_goals
    first
      | have hi : min (W : Int) (N : Int) = N := by omega
      | have hi : min (W : Int) (N : Int) = W := by omega
    go_enter Try.func56, Try.ntmps56
    go_wp2_with fail
    rw [HWE.out, HR2.out]
    clear hi c0 c3 hmk
    go_loopw [19] (fun iv wr => ∃ (r : Nat), iv = .int .i64 r ∧ r ≤ W ∧ r ≤ N ∧ Hid (IntBlk wr R 3 N (outF (at0 Fl) W C r 0)) ∧ Hid (w1.grownBy wr (some R))) (fun iv _ => N - (intOf iv).toNat)
    case atStart => exact ⟨0, rfl, by omega, by omega, HI1, HG1⟩
    case round =>
      clear HI1 HG1
      obtain ⟨r, rfl, hrW, hrN, HI, HG⟩ := hrel
      obtain ⟨wo, rfl⟩ : ∃ wo : World, wo = wr := ⟨_, rfl⟩
      by_cases hlt : r < W ∧ r < N
      · obtain ⟨hlW, hlN⟩ := hlt
        obtain ⟨wp, hwp⟩ : ∃ wp, wo.alloc (.cells #[.int .i64 r] 3) = wp := ⟨_, rfl⟩
        have hbp : Below wo.heap.size wo wp := by rw [← hwp]; exact aB _ _
        have hgp := grownBy_trans HG.out (grownBy_below (some R) hbp)
        have hRo := HI.out.lt
        obtain ⟨k0, k1, k3, hsl⟩ := HK1.out wp hgp
        obtain ⟨p6, hp6⟩ : ∃ p6, wo.heap.size = p6 := ⟨_, rfl⟩
        have hKp : KAt wp w.heap.size (w.heap.size + 1) p6 W C r Fl (.slice a N cap) (fun k => S k ∧ k < w.heap.size) := ⟨k0, k1, k3, by rw [← hwp, ← hp6]; simp, hsl⟩
        have hIp := HI.out.below hbp
        have HKP := Lib.hid hKp
        have HIP := Lib.hid hIp
        have HGP := Lib.hid hgp
        have HWP := Lib.hid hwp
        have hzp : wp.heap.size = p6 + 1 := by rw [← hwp, ← hp6]; simp
        have HZP := Lib.hid hzp
        have HP6 := Lib.hid hp6
        have hp6R : R < p6 := by omega
        clear hbp hgp k0 k1 k3 hsl hKp hIp hwp hzp hp6 hRo
        go_wp2_with fail
        rw [HWP.out, HP6.out]
        have hWmul : ∀ m : Nat, m ≤ N → m * W ≤ 20001 * 20000 := fun m hm => Nat.mul_le_mul (by omega) hW.2
        have HWM := Lib.hid hWmul
        clear hWmul
        go_loopw [7, 8] (fun wv nv wi => ∃ (n : Nat) (xs : List Nat), nv = .int .i64 n ∧ n ≤ N ∧ xs.length ≤ n ∧ Hid (WinOk (at0 Fl) W r C n xs) ∧ Hid (WinAt (p6 + 1) 3 wi wv (ints (casts xs))) ∧ Hid (IntBlk wi R 3 N (outF (at0 Fl) W C r n)) ∧
          Hid (KAt wi w.heap.size (w.heap.size + 1) p6 W C r Fl (.slice a N cap) (fun k => S k ∧ k < w.heap.size)) ∧ Hid (w1.grownBy wi (some R)) ∧ p6 + 1 ≤ wi.heap.size) (fun _ nv _ => N - (intOf nv).toNat)
        case atStart => exact ⟨0, [], rfl, by omega, by simp, Lib.hid (WinOk.start _ _ _ _), Lib.hid (WinAt.nil _ _ _), HIP, HKP, HGP, by rw [HZP.out]; exact Nat.le_refl _⟩
        case round =>
          clear HIP HKP HGP HI HG HZP HP6 HWP
          obtain ⟨n, xs, rfl, hnN, hxl, HWO, HWA, HI, HK, HG, hsz⟩ := hrel
          obtain ⟨wi, rfl⟩ : ∃ wi : World, wi = wr := ⟨_, rfl⟩
          obtain ⟨q, hq⟩ : ∃ q : Nat, r + n * W = q := ⟨_, rfl⟩
          have hmb := HWM.out n hnN
          have hcm : ((n * W : Nat) : Int) = (n : Int) * (W : Int) := by simp
          have hm2 : IntKind.i64.wrap ((n : Int) * (W : Int)) = (n : Int) * (W : Int) := by rw [← hcm]; exact wrap_small _ (by omega) (by omega)
          have hs2 : IntKind.i64.wrap ((r : Int) + (n : Int) * (W : Int)) = (q : Int) := by
            rw [← hcm, show (r : Int) + ((n * W : Nat) : Int) = (q : Int) by omega]; exact wrap_small _ (by omega) (by omega)
          obtain ⟨k0, k1, k3, k6, -⟩ := HK.out
          have HQ := Lib.hid hq
          clear hq hmb hcm
          by_cases hqN : q < N
          · have hnN2 : n < N := by
              have h1 := HQ.out
              have h2 := Nat.le_mul_of_pos_right n (show 0 < W by omega)
              omega
            go_wp2_with fail
            go_loopw [7] (fun yv wj => ∃ (ys zs : List Nat), Hid (xs = ys ++ zs) ∧ Hid (∀ z ∈ zs, costW (at0 Fl) W r n ≤ costW (at0 Fl) W r z) ∧ Hid (WinAt (p6 + 1) 3 wj yv (ints (casts ys))) ∧ Below wi.heap.size wi wj) (fun yv _ => sliceLen yv)
            case atStart => exact ⟨xs, [], Lib.hid (by simp), Lib.hid (by simp), HWA, Below.refl _ _⟩
            case round =>
              clear HWA
              obtain ⟨ys, zs, HXY, HZ, HWA, hb⟩ := hrel
              obtain ⟨wj, rfl⟩ : ∃ wj : World, wj = wr := ⟨_, rfl⟩
              have HB := Lib.hid hb
              have HKj := Lib.hid (HK.out.below hb)
              clear hb k0 k1 k3 k6
              have hPush : ∀ (ys zs : List Nat), xs = ys ++ zs → (∀ z ∈ zs, costW (at0 Fl) W r n ≤ costW (at0 Fl) W r z) → (∀ y, ys.getLast? = some y → costW (at0 Fl) W r y < costW (at0 Fl) W r n) → WinMid (at0 Fl) W r C n (ys ++ [n]) := fun ys zs h1 h2 h3 => HWO.out.push h1 h2 h3
              have HPU := Lib.hid hPush
              have hxr : ∀ x ∈ xs, r + x * W < N ∧ x ≤ 50000 := fun x hx => by
                have h1 := (HWO.out.rng x hx).1
                have h2 := Nat.mul_le_mul_right W (Nat.le_of_lt h1)
                have h3 := HQ.out
                omega
              have HXR := Lib.hid hxr
              clear hPush hxr
              have hxlen : ys.length ≤ n := by have h1 := congrArg List.length HXY.out; rw [List.length_append] at h1; omega
              rcases List.eq_nil_or_concat ys with hy0 | ⟨l, y, hy0⟩
              case' inl =>
                have hM := HPU.out ys zs HXY.out HZ.out (fun y hy => by rw [hy0] at hy; simp at hy)
                have hWA0 := HWA.out
                have hf0 := hWA0.form
                rw [hy0] at hf0
                obtain ⟨a7, c7, hf, _, _⟩ := hf0
                have HMD := Lib.hid hM
                simp only [ints_length, casts_length, List.length_nil] at hf
                subst hf
                have HWA0 := Lib.hid hWA0
                clear hM hy0 hWA0 HWA HXY HZ
              case' inr =>
                try rw [List.concat_eq_append] at hy0
                have hWA' := HWA.out
                rw [hy0] at hWA'
                obtain ⟨g7, o7, c7, hf, hlc⟩ := hWA'.nonnil (by simp [casts, ints])
                obtain ⟨k, hk⟩ : ∃ k, l.length = k := ⟨_, rfl⟩
                obtain ⟨m, hm⟩ : ∃ m, k + 1 = m := ⟨_, rfl⟩
                have hlm : (ints (casts (l ++ [y]))).length = m := by simp; omega
                rw [hlm] at hf hlc
                subst hf
                have hcl := hWA'.cell (i := k) (by rw [hlm]; omega)
                have hce : (ints (casts (l ++ [y])))[k]'(by rw [hlm]; omega) = .int .i64 (y : Int) := by
                  simp [ints, casts, ← hk]
                rw [hce] at hcl
                have hym : y ∈ xs := by rw [HXY.out, hy0]; simp
                have hyr := HXR.out y hym
                obtain ⟨cy, hcy⟩ : ∃ cy, costW (at0 Fl) W r y = cy := ⟨_, rfl⟩
                obtain ⟨cn, hcn⟩ : ∃ cn, costW (at0 Fl) W r n = cn := ⟨_, rfl⟩
                have hpop : WinAt (p6 + 1) 3 wj (.slice (some ⟨g7, o7, none⟩) k c7) (ints (casts l)) := by
                  have h1 := hWA'
                  rw [casts_append, ints_append] at h1
                  have h2 := WinAt.pop (u := .int .i64 (y : Int)) (ys := ints (casts l)) (by rw [show (ints (casts l)).length + 1 = m by rw [ints_length, casts_length]; omega]; exact h1)
                  rwa [show (ints (casts l)).length = k by simp [hk]] at h2
                have hmn : m ≤ n := by have h1 := congrArg List.length hy0; rw [List.length_append, List.length_singleton] at h1; omega
                have hwm : IntKind.i64.wrap ((m : Int) - 1) = (k : Int) := by rw [IntKind.wrap_i64]; omega
                have d0 : decide ((0 : Int) < (m : Int)) = true := decide_eq_true (by omega)
                have d0n : decide (0 < m) = true := decide_eq_true (by omega)
                have hkm : k < m := by omega
                have hkc : (k : Int) ≤ (c7 : Int) := by omega
                have hkcn : k ≤ c7 := by omega
                have hML : cy < cn → WinMid (at0 Fl) W r C n (ys ++ [n]) := fun h => HPU.out ys zs HXY.out HZ.out (fun y' hy' => by
                  rw [hy0] at hy'
                  simp at hy'
                  subst hy'
                  rw [hcy, hcn]; exact h)
                have hZ2 : cn ≤ cy → ∀ z ∈ y :: zs, costW (at0 Fl) W r n ≤ costW (at0 Fl) W r z := fun h z hz => by
                  rcases List.mem_cons.1 hz with rfl | hz
                  · rw [hcy, hcn]; exact h
                  · exact HZ.out z hz
                have HML := Lib.hid hML
                have HZ2 := Lib.hid hZ2
                have HPOP := Lib.hid hpop
                have HXY2 : Hid (xs = l ++ (y :: zs)) := Lib.hid (by rw [HXY.out, hy0]; simp)
                have HCY := Lib.hid hcy
                have HCN := Lib.hid hcn
                have HYR := Lib.hid hyr
                have HKM := Lib.hid (And.intro hk hm)
                have HWA0 := Lib.hid HWA.out
                clear hML hZ2 hpop hcy hcn hyr hk hm hlm hce hym hlc hy0 hWA' HXY HZ HWA
                go_wp2_with fail
                refine (add1_any w.heap.size (w.heap.size + 1) p6 W C r y Fl _ wj HKj.out (by rw [HNE.out]; exact HYR.out.1) (by have := HNE.out; omega) HF.out HYR.out.2).mono ?_
                rintro e wk ⟨rfl, hbk⟩
                rw [HCY.out]
                have HKk := Lib.hid (HKj.out.below hbk)
                have HBk := Lib.hid (bThen HB.out hbk)
                have HPk := Lib.hid (HPOP.out.below hbk)
                have HWk := Lib.hid (HWA0.out.below hbk)
                clear hbk hcl
                go_wp2_with fail
                refine (add1_any w.heap.size (w.heap.size + 1) p6 W C r n Fl _ wk HKk.out (by rw [HNE.out]; have := HQ.out; omega) (by have := HNE.out; omega) HF.out (by omega)).mono ?_
                rintro e wl ⟨rfl, hbl⟩
                rw [HCN.out]
                replace HKj := Lib.hid (HKk.out.below hbl)
                replace HB := Lib.hid (bThen HBk.out hbl)
                replace HPOP := Lib.hid (HPk.out.below hbl)
                replace HWA0 := Lib.hid (HWk.out.below hbl)
                clear hbl HKk HBk HPk HWk
                by_cases hge : cn ≤ cy
                case' pos =>
                  have dg : decide (cn ≤ cy) = true := decide_eq_true hge
                  have HZ3 := Lib.hid (HZ2.out hge)
                  clear hge
                  go_wp2_with fail
                  go_roundw
                  case rel => exact ⟨l, y :: zs, HXY2, HZ3, HPOP, HB.out⟩
                  case measure => simp [sliceLen]; omega
                case' neg =>
                  have dg : decide (cn ≤ cy) = false := decide_eq_false hge
                  have HMD := Lib.hid (HML.out (by omega))
                  clear hge HZ2 HML HPOP HXY2 HCY HCN HYR HKM d0 d0n hkm hkc hkcn hwm
                  obtain ⟨wj, rfl⟩ : ∃ wj, wj = wl := ⟨_, rfl⟩
              all_goals
                have HIj := Lib.hid (HI.out.below HB.out)
                have HGj := Lib.hid (grownBy_trans HG.out (grownBy_below (some R) HB.out))
                have hszj : p6 + 1 ≤ wj.heap.size := Nat.le_trans hsz HB.out.size
                obtain ⟨wq, hwq⟩ : ∃ wq, wj.alloc (.cells #[.int .i64 n] 3) = wq := ⟨_, rfl⟩
                have hbq : Below wj.heap.size wj wq := by rw [← hwq]; exact aB _ _
                have hcq : wq.cell? ⟨wj.heap.size, 0, none⟩ = some (.int .i64 n) := by rw [← hwq]; simp
                have HWAq := Lib.hid (HWA0.out.below hbq)
                have HKq := Lib.hid (HKj.out.below hbq)
                have HIq := Lib.hid (HIj.out.below hbq)
                have HGq := Lib.hid (grownBy_trans HGj.out (grownBy_below (some R) hbq))
                have hszq : p6 + 1 ≤ wq.heap.size := Nat.le_trans hszj hbq.size
                have HWQ := Lib.hid hwq
                clear hbq hwq HWA0 HKj HIj HGj
                go_wp2_with (at_builtin; rw [HWQ.out]; refine wpList_appendW rfl _ _ 22 rfl (p6 + 1) 3 (.int .i64 0) 8 Try.underlying22 info3 rfl _ _ rfl HWAq.out wj.heap.size 0 1 (.int .i64 n) rfl hcq rfl (by simp; omega) (by decide) hszq ?_)
                intro v8 ws hws hgs
                obtain ⟨x, tl, hxt⟩ : ∃ x tl, ys ++ [n] = x :: tl := List.exists_cons_of_ne_nil (by simp)
                have hws2 : WinAt (p6 + 1) 3 ws v8 (ints (casts (x :: tl))) := by rw [← hxt, casts_append, ints_append]; exact hws
                have hMD := HMD.out
                rw [hxt] at hMD
                have hrow : ∀ q, Value.ownBlock _ = some q → p6 + 1 ≤ q := fun q hq => (HWAq.out.lt q hq).1
                have hne : ∀ b, b ≤ p6 → some b ≠ _ := fun b hb e => by have := hrow b e.symm; omega
                have hwb : w.heap.size + 2 = R := by have := HR2.out; omega
                have HKs := Lib.hid (HKq.out.grown hgs (hne _ (by omega)) (hne _ (by omega)) (hne _ (by omega)) (fun k hk => hne _ (by have := hk.2; omega)))
                have HIs := Lib.hid (HIq.out.keep (hgs.block R HIq.out.lt (hne R (by omega))))
                have HGs := Lib.hid (grownBy_other HGq.out hgs (fun q hq => by have := hrow q hq; have := HZ1.out; omega))
                have hszs : p6 + 1 ≤ ws.heap.size := Nat.le_trans hszq hgs.size
                have hlen8 : tl.length ≤ n := by have h1 := congrArg List.length hxt; simp only [List.length_append, List.length_cons, List.length_nil] at h1; omega
                have HWs := Lib.hid hws2
                have HMDx := Lib.hid hMD
                obtain ⟨g8, o8, c8, hf8, hlc8⟩ := hws2.nonnil (by simp [casts, ints])
                obtain ⟨L8, hL8⟩ : ∃ L8, tl.length + 1 = L8 := ⟨_, rfl⟩
                have hll : (ints (casts (x :: tl))).length = L8 := by rw [ints_length, casts_length, List.length_cons, hL8]
                rw [hll] at hf8 hlc8
                subst hf8
                have hc8 := hws2.cell (i := 0) (by rw [hll]; omega)
                have hce8 : (ints (casts (x :: tl)))[0]'(by rw [hll]; omega) = .int .i64 (x : Int) := by simp [ints, casts]
                rw [hce8, Nat.add_zero] at hc8
                have ks1 := HKs.out.k1
                have hwc : IntKind.i64.wrap ((n : Int) - (C : Int)) = (n : Int) - (C : Int) := wrap_small _ (by omega) (by omega)
                have hL80 : 0 < L8 := by omega
                have hL80i : (0 : Int) < (L8 : Int) := by omega
                have HL8 := Lib.hid hL8
                obtain ⟨bt, hbt⟩ : ∃ b, decide ((x : Int) < (n : Int) - (C : Int)) = b := ⟨_, rfl⟩
                have HBT := Lib.hid hbt
                clear hws hgs hxt hws2 hMD hrow hne hwb hll hce8 hcq HMD HWAq HKq HIq HGq HWQ hL8
                go_wp2_with fail
                go_quiet (fail)
                generalize hwd : World.drewN _ _ = wd
                have hbd : Below ws.heap.size ws wd := by rw [← hwd]; exact bDrew _ _
                have HWd := Lib.hid (HWs.out.below hbd)
                have HKd := Lib.hid (HKs.out.below hbd)
                have HId := Lib.hid (HIs.out.below hbd)
                have HGd := Lib.hid (grownBy_trans HGs.out (grownBy_below (some R) hbd))
                have hszd : p6 + 1 ≤ wd.heap.size := Nat.le_trans hszs hbd.size
                clear hwd hbd ks1 hc8 HWs HKs HIs HGs hbt
                cases bt
                case' true =>
                  have hold : x + C < n := by have := of_decide_eq_true HBT.out; omega
                  obtain ⟨hWO2, hne2⟩ := HMDx.out.drop hold
                  obtain ⟨hd, tl2, htl⟩ := List.exists_cons_of_ne_nil hne2
                  have hL82 : L8 = tl2.length + 1 + 1 := by rw [← HL8.out, htl]; simp
                  have hc81 : ¬ c8 = 1 := by omega
                  have hWT := WinAt.tail (u := .int .i64 (x : Int)) (ys := ints (casts tl)) (by have h1 := HWd.out; simp only [casts, List.map_cons, ints] at h1 ⊢; exact h1)
                  obtain ⟨Ln, hLn⟩ : ∃ Ln, L8 - 1 = Ln := ⟨_, rfl⟩
                  obtain ⟨cn8, hcn8⟩ : ∃ cn8, c8 - 1 = cn8 := ⟨_, rfl⟩
                  obtain ⟨on8, hon8⟩ : ∃ on8, o8 + 1 = on8 := ⟨_, rfl⟩
                  rw [show (ints (casts tl)).length = Ln by rw [ints_length, casts_length]; have := HL8.out; omega, hcn8, hon8, htl] at hWT
                  rw [htl] at hWO2
                  have HWO2 := Lib.hid hWO2
                  have HWT := Lib.hid hWT
                  have h5 := congrArg List.length htl
                  rw [List.length_cons] at h5
                  have hlt2 : tl2.length + 1 ≤ n + 1 := by omega
                  have hch := hWT.cell (i := 0) (by simp)
                  rw [show (ints (casts (hd :: tl2)))[0]'(by simp) = .int .i64 (hd : Int) by simp [ints, casts], Nat.add_zero] at hch
                  have hLp : 0 < Ln := by omega
                  have h1L : (1 : Int) ≤ (L8 : Int) := by omega
                  have h1Ln : 1 ≤ L8 := by omega
                  have HCH := Lib.hid hch
                  clear hold hWO2 hWT hne2 htl hL82 h5 hch
                  go_wp2_with fail
                  have hch := HCH.out
                case' false =>
                  have hold : ¬ x + C < n := by have := of_decide_eq_false HBT.out; omega
                  have hWO2 := HMDx.out.keep hold
                  have HWO2 := Lib.hid hWO2
                  have HWT := HWd
                  obtain ⟨hd, hhd⟩ : ∃ hd, hd = x := ⟨_, rfl⟩
                  obtain ⟨tl2, htl2⟩ : ∃ tl2, tl2 = tl := ⟨_, rfl⟩
                  subst hhd htl2
                  have hlt2 : tl2.length + 1 ≤ n + 1 := by omega
                  have hch := HWT.out.cell (i := 0) (by simp)
                  rw [show (ints (casts (hd :: tl2)))[0]'(by simp) = .int .i64 (hd : Int) by simp [ints, casts], Nat.add_zero] at hch
                  have hLp : 0 < L8 := by omega
                  have HCH := Lib.hid hch
                  clear hold hWO2 hch
                  go_wp2_with fail
                  have hch := HCH.out
                all_goals
                  obtain ⟨j0, j1, j3, j6, -⟩ := HKd.out
                  have hhd := HWO2.out.rng hd (by simp)
                  have hhm := Nat.mul_le_mul_right W (show hd ≤ n by omega)
                  have hhN : r + hd * W < Fl.length := by rw [HNE.out]; have := HQ.out; omega
                  obtain ⟨cst, hcst⟩ : ∃ cst, costW (at0 Fl) W r hd = cst := ⟨_, rfl⟩
                  obtain ⟨A, hA⟩ : ∃ A, addK (at0 Fl) W C q = A := ⟨_, rfl⟩
                  have hAe : min noneC (cst + (n : Int)) = A := by rw [← hA, ← hcst, ← HQ.out]; exact HWO2.out.head hlW
                  have hmin : min (1073741824 : Int) (cst + (n : Int)) = A := by rw [← hAe]; rfl
                  have hcb : -50000 ≤ cst ∧ cst ≤ 1073741824 := by
                    rw [← hcst, costW, at0_eq hhN]
                    have := HF.out _ (List.getElem_mem hhN)
                    unfold noneC at this
                    omega
                  have hwA : IntKind.i64.wrap (cst + (n : Int)) = cst + (n : Int) := wrap_small _ (by omega) (by omega)
                  have hqN2 : (q : Int) < (N : Int) := by omega
                  have HCST := Lib.hid hcst
                  have HA := Lib.hid hA
                  have HHN := Lib.hid hhN
                  clear hhm hhN hcst hA hAe hcb
                  refine wp_region_seq 17 [.is ?_, .is ?_, .is ?_, .is ?_, .is ?_, .is ?_, .is ?_, .is ?_, .is ?_, .is ?_, .is ?_, .is ?_, .is (.int .i64 cst), .is ?_, .is ?_, .is (.int .i64 A), .is ?_] rfl mix (by kernel_rfl) (by kernel_rfl) ?seqm
                  case seqm =>
                    simp only [List.take_succ_cons, List.take_zero]
                    iterate 12
                      refine seq_is rfl (fun w1 hb1 _ => ?_) ?_
                      · have j0' := bAt hb1 j0
                        have j6' := bAt hb1 j6
                        have hch' := bAt hb1 hch
                        simp [opOK, go_sem, j0', j6', hch', hm2, hs2, hLp, Below.refl]
                        try exact rfl
                      simp only [Act.put, List.setIfInBounds_toArray, List.set_cons_succ, List.set_cons_zero]
                    refine seq_is rfl (fun w1 hb1 _ => ?_) ?_
                    · refine opOK_call (f := 73) (args := #[.int .i64 hd, .pointer (some ⟨w.heap.size + 1, 0, none⟩), .pointer (some ⟨p6, 0, none⟩), .pointer (some ⟨w.heap.size, 0, none⟩)]) (by simp [go_sem]) ?_
                      refine (add1_any w.heap.size (w.heap.size + 1) p6 W C r hd Fl _ w1 (HKd.out.below hb1) HHN.out (by have := HNE.out; omega) HF.out (by omega)).mono ?_
                      rintro e w2 ⟨rfl, hb2⟩
                      exact ⟨_, rfl, by rw [HCST.out], hb2⟩
                    simp only [Act.put, List.setIfInBounds_toArray, List.set_cons_succ, List.set_cons_zero]
                    iterate 4
                      refine seq_is rfl (fun w1 hb1 _ => ?_) ?_
                      · simp [opOK, go_sem, hwA, hmin, hqN2, Below.refl]
                        try exact rfl
                      simp only [Act.put, List.setIfInBounds_toArray, List.set_cons_succ, List.set_cons_zero]
                    refine seq_end fun we hbe _ => ?_
                    simp only [List.drop_succ_cons, List.drop_zero]
                    have hIe := HId.out.below hbe
                    have y0 := hIe.cell hqN
                    have y1 := hIe.frozen q
                    have HIe : Hid (IntBlk (we.setCell ⟨R, q, none⟩ (.int .i64 A)) R 3 N (outF (at0 Fl) W C r (n + 1))) := Lib.hid ((hIe.set q A).congr fun j hj => by
                      rw [← HA.out, ← HQ.out]; exact outF_step hlW)
                    have HWe := Lib.hid ((HWT.out.below hbe).kept (W' := we.setCell ⟨R, q, none⟩ (.int .i64 A)) fun g hg => Below.heap_setCell _ _ _ _ (by have := (HWT.out.lt g hg).1; simp; omega))
                    have hgset : we.grownBy (we.setCell ⟨R, q, none⟩ (.int .i64 A)) (some R) := ⟨rfl, rfl, rfl, by simp, fun k _ hk => Below.heap_setCell _ _ _ _ (fun e => hk (by rw [e]))⟩
                    have hwb : w.heap.size + 2 = R := by have := HR2.out; omega
                    have HKe := Lib.hid ((HKd.out.below hbe).grown hgset (by simp; omega) (by simp; omega) (by simp; omega) (fun k hk => by have := hk.2; simp; omega))
                    have HGe := Lib.hid (grownBy_trans (grownBy_trans HGd.out (grownBy_below (some R) hbe)) hgset)
                    have hsze : p6 + 1 ≤ (we.setCell ⟨R, q, none⟩ (.int .i64 A)).heap.size := by have := hbe.size; simp; omega
                    clear hIe hgset hwb hbe j0 j1 j3 j6 hch hhd hmin hwA
                    go_wp2_with fail
                    go_roundw
                    case rel => exact ⟨n + 1, hd :: tl2, by go_num, by omega, by simpa using hlt2, HWO2, HWe, HIe, HKe, HGe, hsze⟩
                    case measure => simp [intOf]; omega
          · go_wp2_with fail
            go_roundw
            case rel => exact ⟨r + 1, by go_num, by omega, by omega, Lib.hid (HI.out.congr fun j hj => outF_end hj (by have := HQ.out; omega)), HG⟩
            case measure => simp [intOf]; omega
      · have hfin : ∀ j, j < N → outF (at0 Fl) W C r 0 j = addK (at0 Fl) W C j := fun j hj => by
          have h1 := Nat.mod_lt j (show 0 < W by omega)
          have h2 := Nat.mod_le j W
          unfold outF; rw [if_pos (.inl (by omega))]
        have HFIN := Lib.hid hfin
        clear hfin
        go_wp2
        go_returns
        exact ⟨R, rfl, HB1.out.trans (below_grownBy HG.out HB1.out.size fun q hq => by cases hq; have := HR2.out; omega), by have := HR2.out; omega, HI.out.congr HFIN.out⟩
end Go.Proofs.Ytagfcodpgochjaa

/- A row of one's own behind a box that is younger than the row. -/
namespace Go.Oche
open Go Go.RowKit
structure BoxB (B bx : Nat) (tb e : TypeId) (size n : Nat) (xs : List Value) (O : Nat → Prop) (lv : Value) (W : World) : Prop where
  o : ∀ k, O k ↔ k = bx ∨ lv.ownBlock = some k
  box : W.heap[bx]? = some (.cells #[lv] tb (0, 0))
  row : W.ownsRow B e size lv n xs
  ne : lv.ownBlock ≠ some bx
section
variable {B bx : Nat} {tb e : TypeId} {size n m : Nat} {xs news : List Value} {O : Nat → Prop} {lv lv' : Value} {W W' Wa Wb : World}
theorem BoxB.stab (h : BoxB B bx tb e size n xs O lv W) (hk : ∀ k, k < W.heap.size → O k → W'.heap[k]? = W.heap[k]?) : BoxB B bx tb e size n xs O lv W' :=
  ⟨h.o, (hk bx (Array.getElem?_eq_some_iff.1 h.box).1 ((h.o bx).2 (.inl rfl))).trans h.box, ownsN_kept h.row fun g hg => hk g (h.row.lt g hg).2 ((h.o g).2 (.inr hg)), h.ne⟩
/-- One more has been appended, and the box written. -/
theorem BoxB.more (h : BoxB B bx tb e size n xs O lv W) (hb : Below W.heap.size W Wa)
    (ho : Wb.ownsRow B e size lv' (n + m) (xs ++ news)) (hg : Wa.grownBy Wb lv.ownBlock) (hat : lv'.ownBlock = lv.ownBlock ∨ lv'.ownBlock = some Wa.heap.size) :
    BoxB B bx tb e size (n + m) (xs ++ news) (fun k => k = bx ∨ lv'.ownBlock = some k) lv' (Wb.setCell ⟨bx, 0, none⟩ lv') ∧ Rel O W (fun k => k = bx ∨ lv'.ownBlock = some k) (Wb.setCell ⟨bx, 0, none⟩ lv') ∧
      Wb.cell? ⟨bx, 0, none⟩ = some lv ∧ Wb.frozen? ⟨bx, 0, none⟩ = false := by
  have hbl : bx < W.heap.size := (Array.getElem?_eq_some_iff.1 h.box).1
  have hba : bx < Wa.heap.size := Nat.lt_of_lt_of_le hbl hb.size
  have hbx : Wb.heap[bx]? = some (.cells #[lv] tb (0, 0)) := (hg.block bx hba (fun e => h.ne e.symm)).trans ((hb.block bx hbl).trans h.box)
  have hne : lv'.ownBlock ≠ some bx := fun e => by
    rcases hat with h1 | h1
    · exact h.ne (h1.symm.trans e)
    · rw [h1] at e; cases e; omega
  refine ⟨⟨fun _ => Iff.rfl, by rw [heap_setCell_at hbx]; rfl, ownsN_kept ho fun g hg => Below.heap_setCell _ _ _ _ (fun e => by simp only at e; subst e; exact hne hg), hne⟩, ⟨hg.os.trans hb.os, hg.tape.trans hb.tape, hg.output.trans hb.output, ?_, fun k hk hn => ?_, fun k hk => ?_, fun k hk => ?_⟩, by rw [cell_of_heap hbx]; rfl, frozen_of_heap hbx⟩
  · have := hg.size; have := hb.size; simp; omega
  · have h1 : ¬ k = bx := fun e => hn ((h.o k).2 (.inl e))
    have h2 : ¬ lv.ownBlock = some k := fun e => hn ((h.o k).2 (.inr e))
    rw [Below.heap_setCell _ _ _ _ h1, hg.block k (Nat.lt_of_lt_of_le hk hb.size) (fun e => h2 e.symm)]
    exact hb.block k hk
  · rcases hk with rfl | hk
    · exact .inl ((h.o k).2 (.inl rfl))
    · rcases hat with e | e
      · exact .inl ((h.o k).2 (.inr (e.symm.trans hk)))
      · rw [e] at hk; cases hk; exact .inr hb.size
  · rcases hk with rfl | hk
    · have := hg.size; simp; omega
    · have := (ho.lt k hk).2; simpa using this
end
end Go.Oche
