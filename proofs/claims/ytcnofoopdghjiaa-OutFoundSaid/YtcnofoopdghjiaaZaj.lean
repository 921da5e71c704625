/- The texts AD, RA, RB, RC, RD, RE, in build order. -/
import Derived.Test.YtcnofoopdghjiaaZai
import Derived.BigQuiet

/- Chapter 2: First. -/
namespace Go.Proofs.Ytcnofoopdghjiaa
open Go.RowKit Go.Oche Go.Proofs
attribute [local go_sem] Oper.semAt_some

def firstE (L : List (List Int)) : Int := if L = [] then 7 else 0
def firstErr (bs : List Int) (g d s : Int) : Int := if scoreErr bs g d s = 0 then firstE (outAll g bs s d.toNat) else scoreErr bs g d s
def firstRes (bs : List Int) (g d s : Int) : List Int := if scoreErr bs g d s = 0 then (outAll g bs s d.toNat).headD [] else []

def FI1 (X : Nat) (pre : List (List Int)) (O : Nat → Prop) (W : World) : Prop :=
  pre = [] ∧ (∀ k, O k ↔ k = X ∨ k = X + 1) ∧ W.heap[X]? = some (.cells #[.slice none 0 0] 22 (0, 0)) ∧ W.heap[X + 1]? = some (.cells #[.int .i64 0] 30 (0, 0))
def FI2 (N0 X : Nat) (c : Code) (pre : List (List Int)) (O : Nat → Prop) (W : World) : Prop :=
  c = .ret ∧ ∃ b pv, pre = [b] ∧ (∀ k, O k ↔ k = X ∨ k = X + 1) ∧ W.heap[X]? = some (.cells #[pv] 22 (0, 0)) ∧ W.heap[X + 1]? = some (.cells #[.int .i64 0] 30 (0, 0)) ∧ PathAt (fun k => N0 ≤ k ∧ Row 61 W k) W pv b
theorem FI1.stab (X N : Nat) : Stab 61 N (FI1 X) := by
  rintro pre O W W' ⟨h1, h2, h3, h4⟩ e1 e2 e3 e4 hk
  have l3 : X < W.heap.size := (Array.getElem?_eq_some_iff.1 h3).1
  have l4 : X + 1 < W.heap.size := (Array.getElem?_eq_some_iff.1 h4).1
  exact ⟨h1, h2, (hk _ l3 (.inl ((h2 _).2 (.inl rfl)))).trans h3, (hk _ l4 (.inl ((h2 _).2 (.inr rfl)))).trans h4⟩
theorem Row.lt {t : TypeId} {W : World} {k : Nat} (h : Row t W k) : k < W.heap.size := by obtain ⟨c, fz, h⟩ := h; exact (Array.getElem?_eq_some_iff.1 h).1
theorem FI2.stab (N0 X N : Nat) (c : Code) : Stab 61 N (FI2 N0 X c) := by
  rintro pre O W W' ⟨h0, b, pv, h1, h2, h3, h4, h5⟩ e1 e2 e3 e4 hk
  have l3 : X < W.heap.size := (Array.getElem?_eq_some_iff.1 h3).1
  have l4 : X + 1 < W.heap.size := (Array.getElem?_eq_some_iff.1 h4).1
  refine ⟨h0, b, pv, h1, h2, (hk _ l3 (.inl ((h2 _).2 (.inl rfl)))).trans h3, (hk _ l4 (.inl ((h2 _).2 (.inr rfl)))).trans h4, ?_⟩
  refine (h5.cells fun b o hb _ => World.cell?_of_block (hk b (Row.lt hb.2) (.inr (.inr hb.2)))).mono fun k hk2 => ⟨hk2.1, hk2.2.keep (hk k (Row.lt hk2.2) (.inr (.inr hk2.2)))⟩

set_option maxRecDepth 100000 in
set_option maxHeartbeats 1000000 in
theorem firstF_ok {S : Nat → Prop} (bs : List Int) (g : Int) (d s : Nat) (v : Value) (w : World) (hs : Sl S w v (ints bs)) (hi : ∀ b ∈ bs, I64 b) (hr : rulesOk bs g d = true) (h1 : 1 ≤ s) (h2 : s ≤ 1001) :
    Calls Try.prog 17 #[.agg #[v, .int .i64 g, .int .i64 d], .int .i64 s] w fun e w' => ∃ lv, e = .returned (.tuple #[lv, .int .i64 (firstE (outAll g bs s d))]) ∧ Below w.heap.size w w' ∧ Sl (fun k => w.heap.size ≤ k) w' lv (ints ((outAll g bs s d).headD [])) := by
  obtain ⟨a, cap, rfl, _, _⟩ := hs.form
  simp only [ints_length] at *
  have hrs := rulesOk_spec hr
  have hbsp := bedsOk_spec hrs.1
  have HBS := Lib.hid hbsp.1
  have hbl := hbsp.2.2.2
  have hd1 := hrs.2.2.1
  have hd9 := hrs.2.2.2
  obtain ⟨w0, hw0⟩ : ∃ w0, w0 = (((w.alloc (.cells #[.slice a bs.length cap, .int .i64 g, .int .i64 d] 25)).alloc (.cells #[.slice none 0 0] 22)).alloc (.cells #[.int .i64 0] 30)) := ⟨_, rfl⟩
  have hb0 : Below w.heap.size w w0 := by rw [hw0]; exact (((Below.refl _ _).alloc (Nat.le_refl _) _).alloc (by simp) _).alloc (by simp; omega) _
  have hz0 : w.heap.size + 3 ≤ w0.heap.size := by rw [hw0]; simp
  have h4 : w0.heap[w.heap.size + 1]? = some (.cells #[.slice none 0 0] 22 (0, 0)) := by
    rw [hw0, Below.heap_alloc _ _ _ (by simp <;> omega)]; have := World.alloc_heap_new (w.alloc (.cells #[.slice a bs.length cap, .int .i64 g, .int .i64 d] 25)) (.cells #[.slice none 0 0] 22); rw [World.size_alloc] at this; exact this
  have h5 : w0.heap[w.heap.size + 1 + 1]? = some (.cells #[.int .i64 0] 30 (0, 0)) := by
    rw [hw0]; have := World.alloc_heap_new ((w.alloc (.cells #[.slice a bs.length cap, .int .i64 g, .int .i64 d] 25)).alloc (.cells #[.slice none 0 0] 22)) (.cells #[.int .i64 0] 30); simp only [World.size_alloc] at this; exact this
  have HS := Lib.hid (hs.below hb0)
  have HI := Lib.hid hi
  have HW := Lib.hid hw0
  have HR := Lib.hid hr
  have H4 := Lib.hid h4
  have H5 := Lib.hid h5
  clear hi hs hw0 hr hrs hbsp h4 h5
  refine (callsIn_wide (n := 0)).1 (callsIn_of_wp_marks Try.func17 rfl trivial ?_ rfl)
  simp only [Try.ntmps17, List.size_toArray, List.length_cons, List.length_nil, Nat.reduceAdd, Nat.reduceSub, Array.replicate_succ, Array.replicate_zero, List.push_toArray, List.append_toArray, List.nil_append, List.cons_append]
  gi_wp2_with fail
  rw [← HW.out]
  refine ⟨trivial, rfl, (callsIn_wide.2 (newFinish_ok bs g d s _ _ HS.out HI.out HR.out h1 h2)).mono ?_⟩
  rintro e w1 ⟨P, rfl, hb1, hBd⟩
  have hz1 := hb1.size
  have HBd := Lib.hid hBd
  have hbw1 : Below w.heap.size w w1 := hb0.trans (hb1.mono (by omega))
  obtain ⟨w2, hw2⟩ : ∃ w2, (w1.alloc (.cells #[.pointer (some ⟨P, 0, none⟩), .slice a bs.length cap, .int .i64 g, .int .i64 d, .int .i64 s] 74)) = w2 := ⟨_, rfl⟩
  have hb2 : Below w1.heap.size w1 w2 := by rw [← hw2]; exact aB _ _
  have hz2 : w2.heap.size = w1.heap.size + 1 := by rw [← hw2]; simp
  have HW2 := Lib.hid hw2
  have HBd2 := Lib.hid (hBd.below hb2)
  obtain ⟨N, hNN⟩ : ∃ N, w.heap.size = N := ⟨_, rfl⟩
  have hbw2 : Below N w w2 := by rw [← hNN]; exact hbw1.trans (hb2.mono (by omega))
  have HX4 : Hid (w2.heap[N + 1]? = some (.cells #[.slice none 0 0] 22 (0, 0))) := Lib.hid (by rw [← hNN]; exact (hb2.block _ (by omega)).trans ((hb1.block (w.heap.size + 1) (by omega)).trans H4.out))
  have HX5 : Hid (w2.heap[N + 1 + 1]? = some (.cells #[.int .i64 0] 30 (0, 0))) := Lib.hid (by rw [← hNN]; exact (hb2.block _ (by omega)).trans ((hb1.block (w.heap.size + 1 + 1) (by omega)).trans H5.out))
  have q5 : w1.cell? ⟨w.heap.size + 1 + 1, 0, none⟩ = some (.int .i64 0) := by rw [cell_of_heap ((hb1.block (w.heap.size + 1 + 1) (by omega)).trans H5.out)]; rfl
  have hsz : N + 3 < w2.heap.size := by omega
  have hS1 : ∀ k, w0.heap.size ≤ k ∧ k < w1.heap.size → k < w2.heap.size ∧ ¬ (k = N + 1 ∨ k = N + 1 + 1) := fun k hk => by omega
  have HNN := Lib.hid hNN
  clear hBd H4 H5 hb1 hw2 hNN
  gi_wp2_with fail
  rw [HW2.out, HNN.out]
  clear q5
  refine wpIn_range (gf := 46) (fa := #[.agg #[.pointer (some ⟨P, 0, none⟩), .slice a bs.length cap, .int .i64 g, .int .i64 d, .int .i64 s]]) (lb := #[]) rfl (enters_of Try.func46 (by kernel_rfl) rfl)
    (all_in g bs (cnts g bs d s) P d s (.slice a bs.length cap) w2 HBS.out (by omega) (by simp) (fun j hj => by have := (cnts_mem (g := g) hbl (show d ≤ 9 by omega) _ (List.getElem_mem hj)).1; omega) h2 ⟨_, _, _, rfl⟩ HBd2.out (fun k hk => (hS1 k hk).1))
    (FI1 (N + 1)) (FI2 w2.heap.size (N + 1)) (FI1.stab _ _) (FI2.stab _ _ _)
    (fun j => j = N + 1 ∨ j = N + 1 + 1) (fun j hj => by omega) (fun j hj => hS1 j hj) ⟨rfl, fun k => Iff.rfl, HX4.out, HX5.out⟩
    (fun b args O W' h => by obtain ⟨pv, rfl, _⟩ := h; rfl) ?round ?done ?stop
  case round =>
    rintro l pre b post args O₁ W₁ hL hl1 hl2 hnl hnl' hrel hI ⟨pv, rfl, hp⟩
    clear hI
    obtain ⟨pa, pn, pc, rfl⟩ := hp.form
    have HP := Lib.hid hp
    clear hL hp
    gi_wp2_with fail
    refine ⟨Below.refl _ _, ?_⟩
    rintro W₃ hon ⟨rfl, i2, i3, i4⟩
    have hp3 : PathAt (fun k => w2.heap.size ≤ k ∧ Row 61 W₃ k) W₃ (.slice pa pn pc) b := (HP.out.cells fun b o _ _ => hon.cell _).mono fun k hk => ⟨hk.2.2.2, hk.2.2.1.keep (hon.block k fun e => hk.2.1 (.inr (.inl e)))⟩
    have hO3 : ∀ k, O₁ k → k < W₃.heap.size := fun k hk => by rw [hon.size]; exact hrel.lt k hk
    have x4 : W₃.cell? ⟨N + 1, 0, none⟩ = some (.slice none 0 0) := by rw [cell_of_heap i3]; rfl
    have f4 : W₃.frozen? ⟨N + 1, 0, none⟩ = false := frozen_of_heap i3
    have x5 : W₃.cell? ⟨N + 1 + 1, 0, none⟩ = some (.int .i64 0) := by rw [cell_of_heap i4]; rfl
    have f5 : W₃.frozen? ⟨N + 1 + 1, 0, none⟩ = false := frozen_of_heap i4
    have I2 := Lib.hid i2
    have I3 := Lib.hid i3
    have I4 := Lib.hid i4
    have HP3 := Lib.hid hp3
    have HO3 := Lib.hid hO3
    clear i2 i3 i4 hp3 hO3 hon HP
    gi_wp2_with fail
    have e3 : ((W₃.setCell ⟨N + 1, 0, none⟩ (.slice pa pn pc)).setCell ⟨N + 1 + 1, 0, none⟩ (.int .i64 0)).heap[N + 1]? = some (.cells #[.slice pa pn pc] 22 (0, 0)) := by
      rw [Below.heap_setCell _ _ _ _ (by simp), heap_setCell_at I3.out]; rfl
    have e4 : ((W₃.setCell ⟨N + 1, 0, none⟩ (.slice pa pn pc)).setCell ⟨N + 1 + 1, 0, none⟩ (.int .i64 0)).heap[N + 1 + 1]? = some (.cells #[.int .i64 0] 30 (0, 0)) := by
      rw [heap_setCell_at (by rw [Below.heap_setCell _ _ _ _ (by simp)]; exact I4.out)]; rfl
    have hrw : ∀ k, Row 61 W₃ k → ((W₃.setCell ⟨N + 1, 0, none⟩ (.slice pa pn pc)).setCell ⟨N + 1 + 1, 0, none⟩ (.int .i64 0)).heap[k]? = W₃.heap[k]? := fun k hk => by
      obtain ⟨c, fz, h⟩ := hk
      rw [Below.heap_setCell _ _ _ _ (fun e => by simp only at e; subst e; rw [I4.out] at h; simp at h), Below.heap_setCell _ _ _ _ (fun e => by simp only at e; subst e; rw [I3.out] at h; simp at h)]
    refine ⟨O₁, ((Rel.refl HO3.out).setCell (p := ⟨N + 1, 0, none⟩) ((I2.out _).2 (.inl rfl)) _).setCell (p := ⟨N + 1 + 1, 0, none⟩) ((I2.out _).2 (.inr rfl)) _, rfl, b, _, rfl, I2.out, e3, e4, ?_⟩
    exact (HP3.out.cells fun b o hb _ => World.cell?_of_block (hrw b hb.2)).mono fun k hk => ⟨hk.1, hk.2.keep (hrw k hk.2)⟩
  case done =>
    rintro D O₁ W' hD hnD hrel ⟨hL, i2, i3, i4⟩ hDD
    have hout : outAll g bs s d = [] := by rw [← allTo_out HBS.out s (Nat.le_refl s), hL]
    have x4 : W'.cell? ⟨N + 1, 0, none⟩ = some (.slice none 0 0) := by rw [cell_of_heap i3]; rfl
    have f4 : W'.frozen? ⟨N + 1, 0, none⟩ = false := frozen_of_heap i3
    have x5 : W'.cell? ⟨N + 1 + 1, 0, none⟩ = some (.int .i64 0) := by rw [cell_of_heap i4]; rfl
    have f5 : W'.frozen? ⟨N + 1 + 1, 0, none⟩ = false := frozen_of_heap i4
    have hB' : Below N w W' := hbw2.trans (hrel.below (by omega) (fun j hj e => by omega))
    have I3 := Lib.hid i3
    have I4 := Lib.hid i4
    have HDD := Lib.hid hDD
    have HOUT := Lib.hid hout
    clear i2 i3 i4 hDD hL hout
    gi_wp2_with fail
    have e3 : ((W'.setCell ⟨N + 1, 0, none⟩ (.slice none 0 0)).setCell ⟨N + 1 + 1, 0, none⟩ (.int .i64 7)).heap[N + 1]? = some (.cells #[.slice none 0 0] 22 (0, 0)) := by
      rw [Below.heap_setCell _ _ _ _ (by simp), heap_setCell_at I3.out]; rfl
    have e4 : ((W'.setCell ⟨N + 1, 0, none⟩ (.slice none 0 0)).setCell ⟨N + 1 + 1, 0, none⟩ (.int .i64 7)).heap[N + 1 + 1]? = some (.cells #[.int .i64 7] 30 (0, 0)) := by
      rw [heap_setCell_at (by rw [Below.heap_setCell _ _ _ _ (by simp)]; exact I4.out)]; rfl
    have hmk : Marks 0 ((W'.setCell ⟨N + 1, 0, none⟩ (.slice none 0 0)).setCell ⟨N + 1 + 1, 0, none⟩ (.int .i64 7)) [D] := (Marks.nil _ _).cons (by rw [Below.heap_setCell _ _ _ _ (by simp; omega), Below.heap_setCell _ _ _ _ (by simp; omega)]; exact HDD.out) (Nat.zero_le _) (by simp)
    refine leave_marks [D] _ hmk fun W'' hp => ?_
    have hz3 : W''.cell? ⟨N + 1, 0, none⟩ = some (.slice none 0 0) := (hp.cell _).trans (by rw [cell_of_heap e3]; rfl)
    have hz4 : W''.cell? ⟨N + 1 + 1, 0, none⟩ = some (.int .i64 7) := (hp.cell _).trans (by rw [cell_of_heap e4]; rfl)
    refine ⟨.tuple #[.slice none 0 0, .int .i64 7], by simp [results, Try.results17, go_sem, hz3, hz4], _, by rw [HOUT.out]; rfl, ?_, by rw [HOUT.out]; exact Sl.nil _ _⟩
    rw [HNN.out]
    exact ((hB'.setCell (p := ⟨N + 1, 0, none⟩) (by simp) _).setCell (p := ⟨N + 1 + 1, 0, none⟩) (by simp; omega) _).trans (hp.below fun E hE => by simp at hE; omega)
  case stop =>
    rintro D c pre O₁ W' hD hnD hpre hrel ⟨rfl, b, pv, rfl, i2, i3, i4, i5⟩ hDD
    obtain ⟨r, hr⟩ := hpre
    have hout : outAll g bs s d = b :: r := by rw [← allTo_out HBS.out s (Nat.le_refl s), ← hr]; rfl
    have hB' : Below N w W' := hbw2.trans (hrel.below (by omega) (fun j hj e => by omega))
    have I3 := Lib.hid i3
    have I4 := Lib.hid i4
    have I5 := Lib.hid i5
    have HDD := Lib.hid hDD
    have HOUT := Lib.hid hout
    clear i2 i3 i4 i5 hDD hr hout
    gi_wp2_with fail
    have hmk : Marks 0 W' [D] := (Marks.nil _ _).cons HDD.out (Nat.zero_le _) (by simp)
    refine leave_marks [D] _ hmk fun W'' hp => ?_
    have hz3 : W''.cell? ⟨N + 1, 0, none⟩ = some pv := (hp.cell _).trans (by rw [cell_of_heap I3.out]; rfl)
    have hz4 : W''.cell? ⟨N + 1 + 1, 0, none⟩ = some (.int .i64 0) := (hp.cell _).trans (by rw [cell_of_heap I4.out]; rfl)
    refine ⟨.tuple #[pv, .int .i64 0], by simp [results, Try.results17, go_sem, hz3, hz4], _, by rw [HOUT.out]; rfl, ?_, ?_⟩
    · rw [HNN.out]; exact hB'.trans (hp.below fun E hE => by simp at hE; omega)
    · rw [HOUT.out]
      exact (I5.out.sl.cells fun b o _ _ => hp.cell _).mono fun k hk => by rw [HNN.out]; omega

set_option maxRecDepth 100000 in
set_option maxHeartbeats 1000000 in
theorem firstF_any {S : Nat → Prop} (bs : List Int) (g d s : Int) (v : Value) (w : World) (hs : Sl S w v (ints bs)) (hi : ∀ b ∈ bs, I64 b) :
    Calls Try.prog 17 #[.agg #[v, .int .i64 g, .int .i64 d], .int .i64 s] w fun e w' => ∃ lv, e = .returned (.tuple #[lv, .int .i64 (firstErr bs g d s)]) ∧ Below w.heap.size w w' ∧ Sl (fun k => w.heap.size ≤ k) w' lv (ints (firstRes bs g d s)) := by
  by_cases herr : scoreErr bs g d s = 0
  · obtain ⟨hr, h1, h2⟩ := scoreErr_zero herr
    have hrs := rulesOk_spec hr
    obtain ⟨s, rfl⟩ : ∃ s' : Nat, s = s' := ⟨s.toNat, by omega⟩
    obtain ⟨d, rfl⟩ : ∃ d' : Nat, d = d' := ⟨d.toNat, by omega⟩
    have := firstF_ok bs g d s v w hs hi hr (by omega) (by omega)
    rw [firstErr, firstRes, if_pos herr, if_pos herr]
    simpa using this
  obtain ⟨a, cap, rfl, _, _⟩ := hs.form
  simp only [ints_length] at *
  obtain ⟨w0, hw0⟩ : ∃ w0, w0 = (((w.alloc (.cells #[.slice a bs.length cap, .int .i64 g, .int .i64 d] 25)).alloc (.cells #[.slice none 0 0] 22)).alloc (.cells #[.int .i64 0] 30)) := ⟨_, rfl⟩
  have hb0 : Below w.heap.size w w0 := by rw [hw0]; exact (((Below.refl _ _).alloc (Nat.le_refl _) _).alloc (by simp) _).alloc (by simp; omega) _
  have hz0 : w.heap.size + 3 ≤ w0.heap.size := by rw [hw0]; simp
  have h4 : w0.heap[w.heap.size + 1]? = some (.cells #[.slice none 0 0] 22 (0, 0)) := by
    rw [hw0, Below.heap_alloc _ _ _ (by simp <;> omega)]; have := World.alloc_heap_new (w.alloc (.cells #[.slice a bs.length cap, .int .i64 g, .int .i64 d] 25)) (.cells #[.slice none 0 0] 22); rw [World.size_alloc] at this; exact this
  have h5 : w0.heap[w.heap.size + 1 + 1]? = some (.cells #[.int .i64 0] 30 (0, 0)) := by
    rw [hw0]; have := World.alloc_heap_new ((w.alloc (.cells #[.slice a bs.length cap, .int .i64 g, .int .i64 d] 25)).alloc (.cells #[.slice none 0 0] 22)) (.cells #[.int .i64 0] 30); simp only [World.size_alloc] at this; exact this
  have HE := Lib.hid herr
  have f0 : (scoreErr bs g d s != 0) = true := by simp [herr]
  have HEE : Hid (firstErr bs g d s = scoreErr bs g d s) := Lib.hid (by rw [firstErr, if_neg herr])
  have HRES : Hid (firstRes bs g d s = []) := Lib.hid (by rw [firstRes, if_neg herr])
  obtain ⟨r, hr⟩ : ∃ r, scoreErr bs g d s = r := ⟨_, rfl⟩
  rw [hr] at f0
  have HR := Lib.hid hr
  have HS := Lib.hid (hs.below hb0)
  have HI := Lib.hid hi
  have HW := Lib.hid hw0
  have H4 := Lib.hid h4
  have H5 := Lib.hid h5
  clear herr hr hs hi hw0 h4 h5
  go_enter Try.func17, Try.ntmps17
  go_wp2_with fail
  rw [← HW.out]
  refine (newFinish_bad bs g d s _ _ HS.out HI.out HE.out).mono ?_
  rw [HR.out]
  rintro e w1 ⟨rfl, hb1⟩
  have hz1 := hb1.size
  have h4' := (hb1.block (w.heap.size + 1) (by omega)).trans H4.out
  have h5' := (hb1.block (w.heap.size + 1 + 1) (by omega)).trans H5.out
  obtain ⟨w2, hw2⟩ : ∃ w2, (w1.alloc (.cells #[.pointer none, .slice none 0 0, .int .i64 0, .int .i64 0, .int .i64 0] 74)) = w2 := ⟨_, rfl⟩
  have hb2 : Below w1.heap.size w1 w2 := by rw [← hw2]; exact aB _ _
  have hz2 := hb2.size
  have HW2 := Lib.hid hw2
  have HB4 := Lib.hid ((hb2.block _ (by omega)).trans h4')
  have HB5 := Lib.hid ((hb2.block _ (by omega)).trans h5')
  have q4 : w2.cell? ⟨w.heap.size + 1, 0, none⟩ = some (.slice none 0 0) := by rw [cell_of_heap HB4.out]; rfl
  have s4 : w2.frozen? ⟨w.heap.size + 1, 0, none⟩ = false := frozen_of_heap HB4.out
  have q5 : w2.cell? ⟨w.heap.size + 1 + 1, 0, none⟩ = some (.int .i64 0) := by rw [cell_of_heap HB5.out]; rfl
  have s5 : w2.frozen? ⟨w.heap.size + 1 + 1, 0, none⟩ = false := frozen_of_heap HB5.out
  have q5' : w1.cell? ⟨w.heap.size + 1 + 1, 0, none⟩ = some (.int .i64 0) := by rw [cell_of_heap h5']; rfl
  rw [← hw2] at q4 s4 q5 s5
  clear h4' h5' hw2
  go_wp2_with fail
  rw [HW2.out]
  have e3 : ((w2.setCell ⟨w.heap.size + 1, 0, none⟩ (.slice none 0 0)).setCell ⟨w.heap.size + 1 + 1, 0, none⟩ (.int .i64 r)).heap[w.heap.size + 1]? = some (.cells #[.slice none 0 0] 22 (0, 0)) := by
    rw [Below.heap_setCell _ _ _ _ (by simp), heap_setCell_at HB4.out]; rfl
  have e4 : ((w2.setCell ⟨w.heap.size + 1, 0, none⟩ (.slice none 0 0)).setCell ⟨w.heap.size + 1 + 1, 0, none⟩ (.int .i64 r)).heap[w.heap.size + 1 + 1]? = some (.cells #[.int .i64 r] 30 (0, 0)) := by
    rw [heap_setCell_at (by rw [Below.heap_setCell _ _ _ _ (by simp)]; exact HB5.out)]; rfl
  have z3 := cell_of_heap (o := 0) e3
  have z4 := cell_of_heap (o := 0) e4
  refine bodyPost_ret (v := .tuple #[.slice none 0 0, .int .i64 r]) (by simp [results, Try.results17, go_sem, z3, z4]) rfl ⟨_, by rw [HEE.out, HR.out], ?_, ?_⟩
  · exact (((hb0.trans (hb1.mono hb0.size)).trans (hb2.mono (by omega))).setCell (p := ⟨w.heap.size + 1, 0, none⟩) (by simp) _).setCell (p := ⟨w.heap.size + 1 + 1, 0, none⟩) (by simp; omega) _
  · rw [HRES.out]; exact Sl.nil _ _
end Go.Proofs.Ytcnofoopdghjiaa

/- Chapter 2, the references: Same, Ints, Equal. -/
namespace Go.Oche
open Go Go.RowKit
theorem Sl.cell {S : Nat → Prop} {w : World} {a : Option Addr} {n cap : Nat} {xs : List Int} (h : Sl S w (.slice a n cap) (ints xs)) {k : Nat} (hk : k < xs.length) : ∃ b off, a = some ⟨b, off, none⟩ ∧ S b ∧ w.cell? ⟨b, off + k, none⟩ = some (.int .i64 xs[k]) := by
  obtain ⟨a', cap', e, _, _, h4⟩ := h
  cases e
  exact h4 k _ (intsAt hk)
end Go.Oche
namespace Go.Proofs.Ytcnofoopdghjiaa
open Go.RowKit Go.Oche Go.Proofs
theorem list_diff {xs ys : List Int} {k : Nat} (h1 : k < xs.length) (h2 : k < ys.length) (h : xs[k] ≠ ys[k]) : xs ≠ ys := fun e => by subst e; exact h rfl
theorem list_same {xs ys : List Int} (hl : xs.length = ys.length) (h : ∀ j, ∀ h1 : j < xs.length, ∀ h2 : j < ys.length, xs[j] = ys[j]) : xs = ys := List.ext_getElem hl fun j h1 h2 => h j h1 h2

set_option maxRecDepth 100000 in
set_option maxHeartbeats 1000000 in
theorem same_any {S S' : Nat → Prop} (xs ys : List Int) (va vb : Value) (w : World) (hs : Sl S w va (ints xs)) (hs' : Sl S' w vb (ints ys)) :
    Calls Try.prog 19 #[va, vb] w fun e w' => e = .returned (.bool (decide (xs = ys))) ∧ Below w.heap.size w w' := by
  obtain ⟨a, ca, rfl, _, h3⟩ := hs.form
  obtain ⟨b, cb, rfl, _, h3'⟩ := hs'.form
  simp only [ints_length] at *
  unfold maxLen at h3 h3'
  have HS := Lib.hid hs
  have HS' := Lib.hid hs'
  clear hs hs'
  by_cases hl : xs.length = ys.length
  · have f0 : ((xs.length : Int) != (ys.length : Int)) = false := by simp [hl]
    have f1 : (xs.length != ys.length) = false := by simp [hl]
    have HL := Lib.hid hl
    have hle : xs.length ≤ ys.length := by omega
    clear hl
    go_enter Try.func19, Try.ntmps19
    go_wp2
    clear f0 f1
    go_loopw [5] (fun i wr => ∃ k : Nat, k ≤ xs.length ∧ i = .int .i64 k ∧ (∀ j, j < k → ∀ h1 : j < xs.length, ∀ h2 : j < ys.length, xs[j] = ys[j]) ∧ Below w.heap.size w wr) (fun i _ => xs.length - (intOf i).toNat)
    case atStart => exact ⟨0, Nat.zero_le _, rfl, fun j hj => by omega, Below.refl _ _⟩
    case round =>
      obtain ⟨k, hk, rfl, hp, hb⟩ := hrel
      have HP := Lib.hid hp
      clear hp
      by_cases hlt : k < xs.length
      · have hlt' : k < ys.length := by omega
        obtain ⟨b1, o1, rfl, _, c1⟩ := HS.out.cell hlt
        obtain ⟨b2, o2, rfl, _, c2⟩ := HS'.out.cell hlt'
        obtain ⟨x, hx⟩ : ∃ x, xs[k] = x := ⟨_, rfl⟩
        obtain ⟨y, hy⟩ : ∃ y, ys[k] = y := ⟨_, rfl⟩
        rw [hx] at c1
        rw [hy] at c2
        replace c1 := bAt hb c1
        replace c2 := bAt hb c2
        have HX := Lib.hid hx
        have HY := Lib.hid hy
        clear hx hy
        by_cases hxy : x = y
        · have g0 : (x != y) = false := by simp [hxy]
          have HXY := Lib.hid hxy
          clear hxy
          go_wp2_with fail
          go_quiet (fail)
          go_wp2
          go_roundw
          case rel => exact ⟨k + 1, by omega, by go_num, fun j hj h1 h2 => by
            by_cases e : j = k
            · subst e; rw [HX.out, HY.out, HXY.out]
            · exact HP.out j (by omega) h1 h2, ⟨hb.os, hb.tape, hb.output, hb.size, hb.block⟩⟩
          case measure => simp [intOf]; omega
        · have g0 : (x != y) = true := by simp [hxy]
          have HXY := Lib.hid hxy
          clear hxy
          go_wp2_with fail
          go_quiet (fail)
          go_wp2
          go_ret
          refine ⟨ret_bool ?_, ⟨hb.os, hb.tape, hb.output, hb.size, hb.block⟩⟩
          rw [decide_eq_false (list_diff hlt hlt' (by rw [HX.out, HY.out]; exact HXY.out))]
      · obtain rfl : k = xs.length := by omega
        go_wp2
        go_ret
        refine ⟨ret_bool ?_, hb⟩
        rw [decide_eq_true (list_same HL.out fun j h1 h2 => HP.out j h1 h1 h2)]
  · have f0 : ((xs.length : Int) != (ys.length : Int)) = true := by simp; omega
    have f1 : (xs.length != ys.length) = true := by simp [hl]
    have hne : xs ≠ ys := fun e => hl (by rw [e])
    have HNE := Lib.hid hne
    clear hl hne
    go_enter Try.func19, Try.ntmps19
    go_wp2
    go_ret
    exact ⟨ret_bool (by rw [decide_eq_false HNE.out]), Below.refl _ _⟩

set_option maxRecDepth 100000 in
set_option maxHeartbeats 1000000 in
theorem ints_any {S S' : Nat → Prop} (xs ys : List Int) (va vb : Value) (w : World) (hs : Sl S w va (ints xs)) (hs' : Sl S' w vb (ints ys)) :
    Calls Try.prog 32 #[va, vb] w fun e w' => e = .returned (.bool (decide (xs = ys))) ∧ Below w.heap.size w w' := by
  obtain ⟨a, ca, rfl, _, h3⟩ := hs.form
  obtain ⟨b, cb, rfl, _, h3'⟩ := hs'.form
  simp only [ints_length] at *
  unfold maxLen at h3 h3'
  have HS := Lib.hid hs
  have HS' := Lib.hid hs'
  clear hs hs'
  by_cases hl : xs.length = ys.length
  · have f0 : ((xs.length : Int) != (ys.length : Int)) = false := by simp [hl]
    have f1 : (xs.length != ys.length) = false := by simp [hl]
    have HL := Lib.hid hl
    have hle : xs.length ≤ ys.length := by omega
    clear hl
    go_enter Try.func32, Try.ntmps32
    go_wp2
    clear f0 f1
    go_loopw [5] (fun i wr => ∃ k : Nat, k ≤ xs.length ∧ i = .int .i64 k ∧ (∀ j, j < k → ∀ h1 : j < xs.length, ∀ h2 : j < ys.length, xs[j] = ys[j]) ∧ Below w.heap.size w wr) (fun i _ => xs.length - (intOf i).toNat)
    case atStart => exact ⟨0, Nat.zero_le _, rfl, fun j hj => by omega, Below.refl _ _⟩
    case round =>
      obtain ⟨k, hk, rfl, hp, hb⟩ := hrel
      have HP := Lib.hid hp
      clear hp
      by_cases hlt : k < xs.length
      · have hlt' : k < ys.length := by omega
        obtain ⟨b1, o1, rfl, _, c1⟩ := HS.out.cell hlt
        obtain ⟨b2, o2, rfl, _, c2⟩ := HS'.out.cell hlt'
        obtain ⟨x, hx⟩ : ∃ x, xs[k] = x := ⟨_, rfl⟩
        obtain ⟨y, hy⟩ : ∃ y, ys[k] = y := ⟨_, rfl⟩
        rw [hx] at c1
        rw [hy] at c2
        replace c1 := bAt hb c1
        replace c2 := bAt hb c2
        have HX := Lib.hid hx
        have HY := Lib.hid hy
        clear hx hy
        by_cases hxy : x = y
        · have g0 : (x != y) = false := by simp [hxy]
          have HXY := Lib.hid hxy
          clear hxy
          go_wp2_with fail
          go_quiet (fail)
          go_wp2
          go_roundw
          case rel => exact ⟨k + 1, by omega, by go_num, fun j hj h1 h2 => by
            by_cases e : j = k
            · subst e; rw [HX.out, HY.out, HXY.out]
            · exact HP.out j (by omega) h1 h2, ⟨hb.os, hb.tape, hb.output, hb.size, hb.block⟩⟩
          case measure => simp [intOf]; omega
        · have g0 : (x != y) = true := by simp [hxy]
          have HXY := Lib.hid hxy
          clear hxy
          go_wp2_with fail
          go_quiet (fail)
          go_wp2
          go_ret
          refine ⟨ret_bool ?_, ⟨hb.os, hb.tape, hb.output, hb.size, hb.block⟩⟩
          rw [decide_eq_false (list_diff hlt hlt' (by rw [HX.out, HY.out]; exact HXY.out))]
      · obtain rfl : k = xs.length := by omega
        go_wp2
        go_ret
        refine ⟨ret_bool ?_, hb⟩
        rw [decide_eq_true (list_same HL.out fun j h1 h2 => HP.out j h1 h1 h2)]
  · have f0 : ((xs.length : Int) != (ys.length : Int)) = true := by simp; omega
    have f1 : (xs.length != ys.length) = true := by simp [hl]
    have hne : xs ≠ ys := fun e => hl (by rw [e])
    have HNE := Lib.hid hne
    clear hl hne
    go_enter Try.func32, Try.ntmps32
    go_wp2
    go_ret
    exact ⟨ret_bool (by rw [decide_eq_false HNE.out]), Below.refl _ _⟩
end Go.Proofs.Ytcnofoopdghjiaa

/- Chapter 2, the references: Equal. -/
namespace Go.Proofs.Ytcnofoopdghjiaa
open Go.RowKit Go.Oche Go.Proofs

theorem lists_diff {xs ys : List (List Int)} {k : Nat} (h1 : k < xs.length) (h2 : k < ys.length) (h : xs[k] ≠ ys[k]) : xs ≠ ys := fun e => by subst e; exact h rfl
theorem lists_same {xs ys : List (List Int)} (hl : xs.length = ys.length) (h : ∀ j, ∀ h1 : j < xs.length, ∀ h2 : j < ys.length, xs[j] = ys[j]) : xs = ys := List.ext_getElem hl fun j h1 h2 => h j h1 h2
theorem Rows2.form {S : Nat → Prop} {w : World} {v : Value} {xss : List (List Int)} (h : Rows2 S w v xss) : ∃ a cap, v = .slice a xss.length cap ∧ xss.length ≤ cap ∧ cap ≤ maxLen := by
  obtain ⟨vs, h1, h2, _⟩ := h
  rw [← h2]; exact h1.form
theorem Rows2.cell {S : Nat → Prop} {w : World} {a : Option Addr} {n cap : Nat} {xss : List (List Int)} (h : Rows2 S w (.slice a n cap) xss) {k : Nat} (hk : k < xss.length) :
    ∃ b off ra rc, a = some ⟨b, off, none⟩ ∧ S b ∧ w.cell? ⟨b, off + k, none⟩ = some (.slice ra xss[k].length rc) ∧ Sl S w (.slice ra xss[k].length rc) (ints xss[k]) := by
  obtain ⟨vs, ⟨a', cap', e, _, _, h4⟩, h2, h3⟩ := h
  cases e
  obtain ⟨u, hu, hs⟩ := h3 k hk
  obtain ⟨ra, rc, rfl, _, _⟩ := hs.form
  rw [ints_length] at *
  obtain ⟨b, off, e1, e2, e3⟩ := h4 k _ hu
  exact ⟨b, off, ra, rc, e1, e2, e3, hs⟩

set_option maxRecDepth 100000 in
set_option maxHeartbeats 1000000 in
theorem equal_any {S S' : Nat → Prop} (xs ys : List (List Int)) (va vb : Value) (w : World) (hs : Rows2 S w va xs) (hs' : Rows2 S' w vb ys) :
    Calls Try.prog 23 #[va, vb] w fun e w' => e = .returned (.bool (decide (xs = ys))) ∧ Below w.heap.size w w' := by
  obtain ⟨a, ca, rfl, _, h3⟩ := Rows2.form hs
  obtain ⟨b, cb, rfl, _, h3'⟩ := Rows2.form hs'
  unfold maxLen at h3 h3'
  have HS := Lib.hid hs
  have HS' := Lib.hid hs'
  clear hs hs'
  by_cases hl : xs.length = ys.length
  · have f0 : ((xs.length : Int) != (ys.length : Int)) = false := by simp [hl]
    have f1 : (xs.length != ys.length) = false := by simp [hl]
    have HL := Lib.hid hl
    have hle : xs.length ≤ ys.length := by omega
    clear hl
    go_enter Try.func23, Try.ntmps23
    go_wp2
    clear f0 f1
    go_loopw [5] (fun i wr => ∃ k : Nat, k ≤ xs.length ∧ i = .int .i64 k ∧ (∀ j, j < k → ∀ h1 : j < xs.length, ∀ h2 : j < ys.length, xs[j] = ys[j]) ∧ Below w.heap.size w wr) (fun i _ => xs.length - (intOf i).toNat)
    case atStart => exact ⟨0, Nat.zero_le _, rfl, fun j hj => by omega, Below.refl _ _⟩
    case round =>
      obtain ⟨k, hk, rfl, hp, hb⟩ := hrel
      have HP := Lib.hid hp
      clear hp
      by_cases hlt : k < xs.length
      · have hlt' : k < ys.length := by omega
        have hi1 : (k : Int) < (xs.length : Int) := by omega
        have hi2 : (k : Int) < (ys.length : Int) := by omega
        obtain ⟨b1, o1, ra, rc, rfl, _, c1, s1⟩ := Rows2.cell HS.out hlt
        obtain ⟨b2, o2, ra', rc', rfl, _, c2, s2⟩ := Rows2.cell HS'.out hlt'
        replace c1 := bAt hb c1
        replace c2 := bAt hb c2
        have S1 := Lib.hid (s1.below hb)
        have S2 := Lib.hid (s2.below hb)
        obtain ⟨r, hr⟩ : ∃ r, decide (xs[k] = ys[k]) = r := ⟨_, rfl⟩
        have HR := Lib.hid hr
        clear s1 s2 hr
        go_wp2_with fail
        refine wp_region_seq 10 [.is ?_, .is ?_, .is ?_, .is ?_, .is ?_, .is ?_, .is ?_, .is ?_, .is (.bool r), .is ?_] rfl mix (by kernel_rfl) (by kernel_rfl) ?seqm
        case seqm =>
          simp only [List.take_succ_cons, List.take_zero]
          iterate 8
            refine seq_is rfl (fun w1 hb1 _ => ?_) ?_
            · have d1 := bAt hb1 c1
              have d2 := bAt hb1 c2
              simp [opOK, go_sem, d1, d2, hi1, hi2, Below.refl]
              try exact rfl
            simp only [Act.put, List.setIfInBounds_toArray, List.set_cons_succ, List.set_cons_zero]
          refine seq_is rfl (fun w1 hb1 _ => ?_) ?_
          · simp [opOK, go_sem]
            exact (same_any _ _ _ _ w1 (S1.out.below hb1) (S2.out.below hb1)).mono fun e w' h => ⟨_, h.1, by rw [HR.out], h.2⟩
          simp only [Act.put, List.setIfInBounds_toArray, List.set_cons_succ, List.set_cons_zero]
          refine seq_is rfl (fun w1 hb1 _ => ?_) ?_
          · simp [opOK, go_sem, Below.refl]
            try exact rfl
          simp only [Act.put, List.setIfInBounds_toArray, List.set_cons_succ, List.set_cons_zero]
          refine seq_end fun w5 hb5 _ => ?_
          simp only [List.drop_succ_cons, List.drop_zero]
          have hb' : Below w.heap.size w w5 := hb.trans (hb5.mono hb.size)
          cases r
          · go_wp2
            go_ret
            exact ⟨ret_bool (by rw [decide_eq_false (lists_diff hlt hlt' (of_decide_eq_false HR.out))]), hb'⟩
          · go_wp2
            go_roundw
            case rel => exact ⟨k + 1, by omega, by go_num, fun j hj h1 h2 => by
              by_cases e : j = k
              · subst e; exact of_decide_eq_true HR.out
              · exact HP.out j (by omega) h1 h2, hb'⟩
            case measure => simp [intOf]; omega
      · obtain rfl : k = xs.length := by omega
        go_wp2
        go_ret
        refine ⟨ret_bool ?_, hb⟩
        rw [decide_eq_true (lists_same HL.out fun j h1 h2 => HP.out j h1 h1 h2)]
  · have f0 : ((xs.length : Int) != (ys.length : Int)) = true := by simp; omega
    have f1 : (xs.length != ys.length) = true := by simp [hl]
    have hne : xs ≠ ys := fun e => hl (by rw [e])
    have HNE := Lib.hid hne
    clear hl hne
    go_enter Try.func23, Try.ntmps23
    go_wp2
    go_ret
    exact ⟨ret_bool (by rw [decide_eq_false HNE.out]), Below.refl _ _⟩
end Go.Proofs.Ytcnofoopdghjiaa

/- Chapter 2, the references: Work. -/
namespace Go.Proofs.Ytcnofoopdghjiaa
open Go.RowKit Go.Oche Go.Proofs

/-- How many lists of k beds there are, as Work counts. -/
def workTo (n : Int) : Nat → Int
  | 0 => 1
  | k + 1 => if workTo n k ≤ 200000 then workTo n k * n else workTo n k
theorem workTo_bd {n : Int} (h1 : 0 ≤ n) (h2 : n ≤ 100) : ∀ k, 0 ≤ workTo n k ∧ workTo n k ≤ 20000000
  | 0 => by simp [workTo]
  | k + 1 => by
    have ih := workTo_bd h1 h2 k
    unfold workTo
    split
    · rename_i h
      refine ⟨Int.mul_nonneg ih.1 h1, ?_⟩
      have := Int.mul_le_mul h h2 h1 (by omega)
      omega
    · exact ih
theorem workTo_stay {n : Int} {k : Nat} (h : 200000 < workTo n k) : ∀ j, workTo n (k + j) = workTo n k
  | 0 => rfl
  | j + 1 => by
    have := workTo_stay h j
    show workTo n (k + j + 1) = _
    rw [workTo, this, if_neg (by omega)]

set_option maxRecDepth 100000 in
set_option maxHeartbeats 1000000 in
theorem work_any {S : Nat → Prop} (bs : List Int) (g : Int) (d : Nat) (v : Value) (w : World) (hs : Sl S w v (ints bs)) (hl : bs.length ≤ 100) (hd : d ≤ 100) :
    Calls Try.prog 42 #[.agg #[v, .int .i64 g, .int .i64 d]] w fun e w' => e = .returned (.int .i64 (workTo bs.length d)) ∧ Below w.heap.size w w' := by
  obtain ⟨a, cap, rfl, _, _⟩ := hs.form
  simp only [ints_length] at *
  clear hs
  go_enter Try.func42, Try.ntmps42
  go_wp2
  go_loop [3, 4] (fun n i => ∃ k : Nat, k ≤ d ∧ i = .int .i64 k ∧ n = .int .i64 (workTo bs.length k)) (fun _ i => d - (intOf i).toNat)
  case atStart => exact ⟨0, Nat.zero_le _, rfl, rfl⟩
  case round =>
    obtain ⟨k, hk, rfl, rfl⟩ := hrel
    have hb := workTo_bd (n := bs.length) (by omega) (by omega) k
    have hb1 := workTo_bd (n := bs.length) (by omega) (by omega) (k + 1)
    have HE := Lib.hid (show workTo bs.length (k + 1) = if workTo bs.length k ≤ 200000 then workTo bs.length k * bs.length else workTo bs.length k from rfl)
    have HST := Lib.hid (fun h : 200000 < workTo bs.length k => workTo_stay h (d - k))
    obtain ⟨x, hx⟩ : ∃ x, workTo bs.length k = x := ⟨_, rfl⟩
    rw [hx] at hb HE HST
    have HX := Lib.hid hx
    rw [hx]
    clear hx
    by_cases hlt : k < d
    · by_cases hle : x ≤ 200000
      · have hm := HE.out
        rw [if_pos hle] at hm
        rw [hm] at hb1
        have HM := Lib.hid hm
        clear hm
        have hw : IntKind.i64.wrap (x * bs.length) = x * bs.length := wrap_small _ (by omega) (by omega)
        go_wp2
        go_round
        case rel => exact ⟨k + 1, by omega, by go_num, by rw [HM.out]⟩
        case measure => simp [intOf]; omega
      · go_wp2
        go_ret
        refine ⟨ret_int ?_, (Below.refl _ _).alloc (Nat.le_refl _) _⟩
        have := HST.out (by omega)
        rw [show k + (d - k) = d by omega] at this
        exact this.symm
    · obtain rfl : k = d := by omega
      go_wp2
      go_ret
      exact ⟨ret_int HX.out.symm, (Below.refl _ _).alloc (Nat.le_refl _) _⟩
end Go.Proofs.Ytcnofoopdghjiaa

/- Chapter 2, the references: Table. -/
namespace Go.Proofs.Ytcnofoopdghjiaa
open Go.RowKit Go.Oche Go.Proofs

theorem own_cell {W : World} {base e n cap g : Nat} {xs : List Value} (h : W.ownsRow base e 1 (.slice (some ⟨g, 0, none⟩) n cap) n xs) {i : Nat} {x : Value} (hi : xs[i]? = some x) : W.cell? ⟨g, i, none⟩ = some x := by
  obtain ⟨a, c, e, _, _, h4⟩ := Sl.of_owns h
  cases e
  obtain ⟨b, off, e, _, hc⟩ := h4 i x hi
  cases e
  simpa using hc
theorem owns_pos {W : World} {base e n : Nat} {v : Value} {xs : List Value} (h : W.ownsRow base e 1 v n xs) (hn : 0 < n) : ∃ g cap, v = .slice (some ⟨g, 0, none⟩) n cap := by
  obtain ⟨n, rfl⟩ : ∃ m, n = m + 1 := ⟨n - 1, by omega⟩
  exact ownsRow_succ h
/-- The table under construction: k rows. -/
structure TB (g : Int) (bs : List Int) (m N : Nat) (w : World) (k : Nat) (v : Value) (Rs : List Nat) (W : World) : Prop where
  below : Below N w W
  own : W.ownsRow N 45 1 v k (Rs.map (rowV m))
  len : Rs.length = k
  rows : ∀ i (h : i < Rs.length), N ≤ Rs[i] ∧ IntBlk W Rs[i] 3 (m + 1) (fun s => (cntRow g bs m i).getD s 0)
theorem psum_take_no {g s : Int} {bs C : List Int} {k : Nat} (hk : k < bs.length) (h : aftOk g s bs[k] = false) : psum C (throwsL g s (bs.take (k + 1))) = psum C (throwsL g s (bs.take k)) := by rw [throwsL_snoc_no hk h]
theorem psum_take_yes {g s : Int} {bs C : List Int} {k : Nat} (hk : k < bs.length) (hs : 0 < s) (h : aftOk g s bs[k] = true) : psum C (throwsL g s (bs.take (k + 1))) = psum C (throwsL g s (bs.take k)) + C.getD (s - worth bs[k]).toNat 0 := by
  rw [throwsL_snoc_yes hk hs h, psum_snoc]

set_option maxRecDepth 100000 in
set_option maxHeartbeats 2000000 in
theorem table_any {S : Nat → Prop} (bs : List Int) (g : Int) (d m : Nat) (v : Value) (w : World) (hs : Sl S w v (ints bs)) (hbs : ∀ b ∈ bs, bedOk b = true) (hbl : bs.length ≤ 82) (hg : gateOk g = true) (hd : d ≤ 9) (hm : m ≤ 1001) :
    Calls Try.prog 54 #[v, .int .i64 g, .int .i64 d, .int .i64 m] w fun e w' => ∃ lv, e = .returned lv ∧ Below w.heap.size w w' ∧ Rows2 (fun k => w.heap.size ≤ k) w' lv (cnts g bs d m) := by
  obtain ⟨a, cap, rfl, _, h3⟩ := hs.form
  simp only [ints_length] at *
  unfold maxLen at h3
  obtain ⟨N, hN⟩ : ∃ N, N = w.heap.size := ⟨_, rfl⟩
  have HS := Lib.hid hs.lt
  have HBS := Lib.hid hbs
  have HG := Lib.hid hg
  clear hs hbs hg
  have hmk := make_row m hm w
  obtain ⟨A, hA⟩ : ∃ A, madeCells #[Value.int IntKind.i64 0] (m + 1) = A := ⟨_, rfl⟩
  have hA0 : ∀ j, j < m + 1 → A[j]? = some (.int .i64 0) := fun j hj => by
    rw [← hA, ← Array.getElem?_toList, toList_madeCells_one]; simp [hj]
  have hAs : A.size = m + 1 := by rw [← hA, size_madeCells]
  have hA1 := hA0 0 (by omega)
  rw [hA] at hmk
  have HA0 := Lib.hid hA0
  have HAS := Lib.hid hAs
  clear hA0 hAs hA
  go_enter Try.func54, Try.ntmps54
  go_wp2_with fail
  obtain ⟨W2, hW2⟩ : ∃ W2, (w.alloc (.cells (A.setIfInBounds 0 (.int .i64 1)) 3)).alloc (.cells #[.slice (some ⟨w.heap.size, 0, none⟩) (m + 1) (m + 1)] 45) = W2 := ⟨_, rfl⟩
  rw [hW2]
  rw [← hN]
  have hI2 : TB g bs m N w 1 (.slice (some ⟨N + 1, 0, none⟩) 1 1) [N] W2 := by
    have hv1 : W2.heap[N + 1]? = some (.cells #[rowV m N] 45 (0, 0)) := by
      rw [← hW2, hN]; have := World.alloc_heap_new (w.alloc (.cells (A.setIfInBounds 0 (.int .i64 1)) 3)) (.cells #[.slice (some ⟨w.heap.size, 0, none⟩) (m + 1) (m + 1)] 45); rw [World.size_alloc] at this; exact this
    have hv0 : W2.heap[N]? = some (.cells (A.setIfInBounds 0 (.int .i64 1)) 3 (0, 0)) := by
      rw [← hW2, hN, Below.heap_alloc _ _ _ (by simp)]; exact World.alloc_heap_new _ _
    refine ⟨by rw [← hW2, hN]; exact (aB _ _).trans ((aB _ _).mono (by simp)), ?_, rfl, fun i hi => ?_⟩
    · refine ⟨rfl, .inr ⟨N + 1, 1, _, rfl, by omega, hv1, by omega, by unfold maxLen; omega, rfl, rfl⟩⟩
    · have : i = 0 := by simpa using hi
      subst this
      refine ⟨Nat.le_refl _, _, hv0, by simp [HAS.out], fun j hj => ?_⟩
      show _ = some (Value.int .i64 ((cntRow g bs m 0).getD j 0))
      rw [cntRow_zero, Array.getElem?_setIfInBounds]
      by_cases e : 0 = j
      · subst e; simp [HAS.out]
      · rw [if_neg e, if_neg (by omega)]; exact HA0.out j hj
  have HW2 := Lib.hid hW2
  have HN := Lib.hid hN
  clear hmk hN hW2 hA1
  go_loopw [9, 10] (fun lv i wr => ∃ (k : Nat) (Rs : List Nat), 1 ≤ k ∧ k ≤ d + 1 ∧ i = .int .i64 k ∧ TB g bs m N w k lv Rs wr) (fun _ i _ => d + 1 - (intOf i).toNat)
  case atStart => exact ⟨1, [N], by omega, by omega, rfl, hI2⟩
  case round =>
    obtain ⟨k, Rs, hk1, hk2, rfl, ⟨hB, hown, hlen, hrows⟩⟩ := hrel
    clear hI2
    by_cases hlt : k ≤ d
    · obtain ⟨k0, hk0⟩ : ∃ k' : Nat, k = k' + 1 := ⟨k - 1, by omega⟩
      have hk01 : k0 < k := by omega
      have hk02 : k0 < d := by omega
      have hwk : IntKind.i64.wrap ((k : Int) - 1) = k0 := by rw [wrap_small _ (by omega) (by omega)]; omega
      have HK0 := Lib.hid hk0
      have HWK := Lib.hid hwk
      have hdec : decide ((k : Int) ≤ (d : Int)) = true := by simp; omega
      obtain ⟨q9, c9, rfl⟩ := owns_pos hown (by omega)
      have hq9 := hown.lt q9 rfl
      obtain ⟨C, hC⟩ : ∃ C, cntRow g bs m k0 = C := ⟨_, rfl⟩
      have hCl : C.length = m + 1 := by rw [← hC]; exact cntRow_length g bs m k0
      have hCb : ∀ c ∈ C, 0 ≤ c ∧ c ≤ (82 : Int) ^ k0 := by rw [← hC]; exact cntRow_bd g hbl m k0
      have hCs : ∀ j, j < m + 1 → (cntRow g bs m k).getD j 0 = rowSum g bs C j := fun j hj => by rw [hk0, cntRow_succ _ _ _ _ _ hj, hC]
      obtain ⟨hRk, hIk⟩ := hrows k0 (by omega)
      obtain ⟨Rk, hRk'⟩ : ∃ Rk, Rs[k0]'(by omega) = Rk := ⟨_, rfl⟩
      rw [hRk'] at hRk hIk
      rw [hC] at hIk
      have hc9 : wr.cell? ⟨q9, k0, none⟩ = some (.slice (some ⟨Rk, 0, none⟩) (m + 1) (m + 1)) := own_cell hown (by rw [List.getElem?_map, List.getElem?_eq_getElem (by omega), hRk']; rfl)
      have hmk2 := make_row m hm wr
      have HCL := Lib.hid hCl
      have HLEN := Lib.hid hlen
      clear hwk hCl
      obtain ⟨R, hR⟩ : ∃ R, wr.heap.size = R := ⟨_, rfl⟩
      obtain ⟨W3, hW3⟩ : ∃ W3, wr.alloc (.cells (madeCells #[.int .i64 0] (m + 1)) 3) = W3 := ⟨_, rfl⟩
      have hb3 : Below R wr W3 := by rw [← hW3, ← hR]; exact aB _ _
      have hI3 : IntBlk W3 R 3 (m + 1) (fun _ => 0) := by rw [← hW3, ← hR]; exact IntBlk.made _ _ _
      have hR3 : R < W3.heap.size := hI3.lt
      rw [hR, hW3] at hmk2
      have hRkR : Rk < R := by rw [← hR]; exact hIk.lt
      have HIK := Lib.hid (hIk.below (hR ▸ hb3))
      have e9 := bAt (hR ▸ hb3) hc9
      have hq9R : q9 < R := by rw [← hR]; exact hq9.2
      have hBN : N ≤ R := by rw [← hR]; have := hB.size; rw [← HN.out] at this; exact this
      have hBW3 : Below N w W3 := hB.trans (hb3.mono hBN)
      have HSL : Hid (Sl (fun j => S j ∧ j < w.heap.size) W3 (.slice a bs.length cap) (ints bs)) := Lib.hid (HS.out.below (HN.out ▸ hBW3))
      have HTB := Lib.hid (TB.mk hB hown hlen hrows)
      have HB3 := Lib.hid hb3
      have HR := Lib.hid hR
      have HCS := Lib.hid hCs
      have HCB := Lib.hid hCb
      have HC := Lib.hid hC
      have hpow : (0 : Int) ≤ 82 ^ k0 ∧ (82 : Int) ^ k0 * 82 ≤ 9223372036854775807 := by
        refine ⟨Int.pow_nonneg (by decide), ?_⟩
        have : ∀ j : Fin 9, (82 : Int) ^ (j : Nat) * 82 ≤ 9223372036854775807 := by decide
        exact this ⟨k0, by omega⟩
      clear hB hown hrows hIk hc9 hW3 hR hRk' hCs hCb hC hb3
      clear hk0 hlen
      obtain ⟨wo, rfl⟩ : ∃ wo : World, wo = wr := ⟨_, rfl⟩
      go_wp2_with fail
      go_loopw [12] (fun i W4 => ∃ s : Nat, 1 ≤ s ∧ s ≤ m + 1 ∧ i = .int .i64 s ∧ Rel (fun j => j = R) W3 (fun j => j = R) W4 ∧ IntBlk W4 R 3 (m + 1) (fun j => if j < s then rowSum g bs C j else 0)) (fun i _ => m + 1 - (intOf i).toNat)
      case atStart => exact ⟨1, by omega, by omega, rfl, Rel.refl (fun j hj => by omega), hI3.congr fun j hj => by
        by_cases e : j < 1
        · obtain rfl : j = 0 := by omega
          simp [rowSum, throwsL, psum]
        · rw [if_neg e]⟩
      case round =>
        obtain ⟨W4, rfl⟩ : ∃ W4 : World, W4 = wr := ⟨_, rfl⟩
        obtain ⟨s, hs1, hs2, rfl, hr4, hI4⟩ := hrel
        by_cases hsm : s ≤ m
        · clear hI3 hmk2
          go_wp2_with fail
          go_loopw [13] (fun i W5 => ∃ q : Nat, q ≤ bs.length ∧ i = .int .i64 q ∧ Rel (fun j => j = R) W3 (fun j => j = R) W5 ∧ IntBlk W5 R 3 (m + 1) (fun j => if j < s then rowSum g bs C j else if j = s then psum C (throwsL g s (bs.take q)) else 0)) (fun i _ => bs.length - (intOf i).toNat)
          case atStart => exact ⟨0, by omega, rfl, hr4, hI4.congr fun j hj => by
            by_cases e : j < s
            · rw [if_pos e, if_pos e]
            · rw [if_neg e, if_neg e]; split <;> simp [psum, throwsL]⟩
          case round =>
            obtain ⟨W5, rfl⟩ : ∃ W5 : World, W5 = wr := ⟨_, rfl⟩
            obtain ⟨q, hq, rfl, hr5, hI5⟩ := hrel
            clear hr4 hI4
            by_cases hql : q < bs.length
            · obtain ⟨b, off, rfl, hSb, hcb⟩ := HSL.out.cell hql
              obtain ⟨x, hx⟩ : ∃ x, bs[q] = x := ⟨_, rfl⟩
              rw [hx] at hcb
              have hxo : bedOk x = true := by rw [← hx]; exact HBS.out _ (List.getElem_mem hql)
              have hwx := worth_bd hxo
              have hbN : b < N := by rw [HN.out]; exact hSb.2
              have f1 := rAt hr5 hcb (by omega)
              have HX := Lib.hid hx
              have HXO := Lib.hid hxo
              clear hcb hx hxo
              have HI5 := Lib.hid hI5
              clear hI5
              cases hao : aftOk g s x
              · have HA := Lib.hid hao
                have hrr : aftR s x g = -1 := by unfold aftR; rw [hao]; rfl
                have HRR := Lib.hid hrr
                clear hao hrr
                go_wp2_with (go_at_call 57; refine (rAfter_any s g x _ HXO.out (by omega) (by omega) HG.out).mono ?_; rintro e w' ⟨rfl, rfl⟩; rw [HRR.out])
                go_roundw
                case rel => exact ⟨q + 1, by omega, by go_num, hr5, HI5.out.congr fun j hj => by
                  rw [psum_take_no hql (by rw [HX.out]; exact HA.out)]⟩
                case measure => simp [intOf]; omega
              · have HA := Lib.hid hao
                have hy0 := aftOk_bd hao
                obtain ⟨y, hy⟩ : ∃ y : Nat, (s : Int) - worth x = y := ⟨((s : Int) - worth x).toNat, by omega⟩
                have hrr : aftR s x g = y := by unfold aftR; rw [hao, ← hy]; rfl
                have HRR := Lib.hid hrr
                have hys : y < s := by omega
                have hym : y < m + 1 := by omega
                have f2 := rAt hr5 e9 (by omega)
                have f3 := rAt hr5 (HIK.out.cell hym) (by omega)
                have f4 := HI5.out.cell (j := s) (by omega)
                simp only [Nat.lt_irrefl, if_false, if_true] at f4
                have hu := psum_bd HCB.out hpow.1 (throwsL g s (bs.take q))
                have hlen2 := throwsL_length g s (bs.take q)
                rw [List.length_take] at hlen2
                have hu2 : (82 : Int) ^ k0 * ((throwsL g s (bs.take q)).length : Int) ≤ 82 ^ k0 * 81 := Int.mul_le_mul_of_nonneg_left (by omega) hpow.1
                have hcb := getD_bd HCB.out hpow.1 y
                have HN2 : Hid (psum C (throwsL g s (bs.take (q + 1))) = psum C (throwsL g s (bs.take q)) + C.getD y 0) := Lib.hid (by
                  rw [psum_take_yes hql (by omega) (by rw [HX.out]; exact HA.out), HX.out, hy]; simp)
                obtain ⟨u, hu'⟩ : ∃ u, psum C (throwsL g s (bs.take q)) = u := ⟨_, rfl⟩
                obtain ⟨c, hc'⟩ : ∃ c, C.getD y 0 = c := ⟨_, rfl⟩
                rw [hu'] at hu f4 HN2
                rw [hc'] at hcb f3 HN2
                have hwk := HWK.out
                have hwr : IntKind.i64.wrap (u + c) = u + c := wrap_small _ (by omega) (by omega)
                have hi1 : (s : Int) < ((m : Int) + 1) := by omega
                have hi2 : (k0 : Int) < (k : Int) := by omega
                have hi3 : (y : Int) < ((m : Int) + 1) := by omega
                have hsm' : s < m + 1 := by omega
                have hR5 : R < W5.heap.size := HI5.out.lt
                clear hao hrr hy hu' hc' hu2 hlen2
                go_wp2_with (go_at_call 57; refine (rAfter_any s g x _ HXO.out (by omega) (by omega) HG.out).mono ?_; rintro e w' ⟨rfl, rfl⟩; rw [HRR.out])
                refine wp_region_seq 14 [.is ?_, .is ?_, .is ?_, .is ?_, .is ?_, .is ?_, .is ?_, .is ?_, .is ?_, .is ?_, .is ?_, .is ?_, .is ?_, .is ?_] rfl mix (by kernel_rfl) (by kernel_rfl) ?seqm
                case seqm =>
                  simp only [List.take_succ_cons, List.take_zero]
                  iterate 14
                    refine seq_is rfl (fun w1 hb1 _ => ?_) ?_
                    · have z2 := bAt hb1 f2
                      have z3 := bAt hb1 f3
                      have z4 := bAt hb1 f4
                      simp [opOK, go_sem, z2, z3, z4, hwk, hwr, hi1, hi2, hi3, Below.refl]
                      try exact rfl
                    simp only [Act.put, List.setIfInBounds_toArray, List.set_cons_succ, List.set_cons_zero]
                  refine seq_end fun W6 hb6 _ => ?_
                  simp only [List.drop_succ_cons, List.drop_zero]
                  have hI6 := HI5.out.below hb6
                  have y1 := hI6.cell (j := s) (by omega)
                  have y2 := hI6.frozen s
                  have HI6 := Lib.hid hI6
                  have hr6 : Rel (fun j => j = R) W3 (fun j => j = R) W6 := hr5.ext hb6
                  clear hI6 f1 f2 f3 f4
                  go_wp2_with fail
                  go_roundw
                  case rel => exact ⟨q + 1, by omega, by go_num, hr6.setCell (p := ⟨R, s, none⟩) rfl _, (HI6.out.set s (u + c)).congr fun j hj => by
                    by_cases e : j = s
                    · subst e; rw [if_pos rfl, if_neg (by omega), if_pos rfl, HN2.out]
                    · rw [if_neg e, if_neg e, if_neg e]⟩
                  case measure => simp [intOf]; omega
            · obtain rfl : q = bs.length := by omega
              go_wp2_with fail
              go_roundw
              case rel => exact ⟨s + 1, by omega, by omega, by go_num, hr5, hI5.congr fun j hj => by
                rw [List.take_length]
                by_cases e : j < s
                · rw [if_pos e, if_pos (by omega)]
                · by_cases e2 : j = s
                  · subst e2; rw [if_neg e, if_pos rfl, if_pos (by omega)]; rfl
                  · rw [if_neg e, if_neg e2, if_neg (by omega)]⟩
              case measure => simp [intOf]; omega
        · obtain rfl : s = m + 1 := by omega
          have hz4 := hr4.size
          have hown4 : W4.ownsRow N 45 1 (.slice (some ⟨q9, 0, none⟩) k c9) k (Rs.map (rowV m)) :=
            owns_keep HTB.out.own (fun q hq => by
              simp [Value.ownBlock] at hq; subst hq
              exact (hr4.block q9 (by omega) (by omega)).trans (HB3.out.block q9 hq9R)) (by have := HR.out; omega)
          have hrows4 : ∀ i (h : i < Rs.length), N ≤ Rs[i] ∧ Rs[i] < R ∧ IntBlk W4 Rs[i] 3 (m + 1) (fun s => (cntRow g bs m i).getD s 0) := fun i h => by
            obtain ⟨h1, h2⟩ := HTB.out.rows i h
            have h3 : Rs[i] < R := by have := h2.lt; rw [HR.out] at this; exact this
            exact ⟨h1, h3, h2.keep ((hr4.block _ (by omega) (by omega)).trans (HB3.out.block _ h3))⟩
          have hB4 : Below N w W4 := hBW3.trans (hr4.below (by omega) (fun j hj e => by omega))
          have HO4 := Lib.hid hown4
          have HR4 := Lib.hid hrows4
          have HI4 := Lib.hid hI4
          have HB4 := Lib.hid hB4
          clear hown4 hrows4 hI4 hB4 hr4 hI3 hmk2
          go_wp2_with (refine wpList_append1 rfl (.tmp 65) (.tmp 67) 85 rfl N 45 (.slice none 0 0) 24 Try.underlying85 info45 rfl _ k _ rfl (HO4.out.alloc _) W4.heap.size 0 1 (rowV m R) rfl (cell_new _ _ _) rfl (by omega) (by omega) (by simp; omega) ?_)
          intro q7 c7 W7 ho hgr hat
          have hkeep : ∀ j, j < W4.heap.size → j ≠ q9 → W7.heap[j]? = W4.heap[j]? := fun j hj hne => (hgr.block j (by simp; omega) (by simp [Value.ownBlock]; exact hne)).trans ((aB W4 _).block j hj)
          have hne9 : ∀ j c f, W4.heap[j]? = some (.cells c 3 f) → j ≠ q9 := fun j c f hj e => by
            subst e
            rcases HO4.out.2 with h | ⟨g', cap', cur, h1, _, h2, _⟩
            · simp at h
            · simp only [Value.slice.injEq, Option.some.injEq, Addr.mk.injEq] at h1
              obtain ⟨⟨rfl, -⟩, -⟩ := h1
              rw [h2] at hj; simp at hj
          have hT : TB g bs m N w (k + 1) (.slice (some ⟨q7, 0, none⟩) (k + 1) c7) (Rs ++ [R]) W7 := by
            refine ⟨(HB4.out.alloc (by omega) _).grown hgr (by simp; omega) (fun j hj => by simp [Value.ownBlock] at hj; omega), by simpa using ho, by simp [HLEN.out], fun i hi => ?_⟩
            have keepI : ∀ (j : Nat) (f : Nat → Int), IntBlk W4 j 3 (m + 1) f → IntBlk W7 j 3 (m + 1) f := fun j f h => h.keep (hkeep j h.lt (by obtain ⟨A, hA, _⟩ := h; exact hne9 j A _ hA))
            by_cases hi2 : i < Rs.length
            · obtain ⟨h1, h2, h3⟩ := HR4.out i hi2
              rw [List.getElem_append_left hi2]
              exact ⟨h1, keepI _ _ h3⟩
            · have : i = Rs.length := by simp at hi; omega
              subst this
              simp only [List.getElem_append_right (Nat.le_refl _), Nat.sub_self, List.getElem_cons_zero]
              refine ⟨hBN, (keepI _ _ HI4.out).congr fun j hj => ?_⟩
              rw [if_pos hj, HLEN.out, HCS.out j hj]
          have HT := Lib.hid hT
          clear ho hgr hat hkeep hne9 hT
          go_wp2_with fail
          go_roundw
          case rel => exact ⟨k + 1, Rs ++ [R], by omega, by omega, by go_num, HT.out⟩
          case measure => simp [intOf]; omega
    · obtain rfl : k = d + 1 := by omega
      obtain ⟨q9, c9, rfl⟩ := ownsRow_succ hown
      go_wp2
      go_ret
      refine ⟨_, rfl, by rw [← HN.out]; exact hB, _, (Sl.of_owns hown).mono (fun j hj => by rw [← HN.out]; exact hj), by simp [hlen], fun i hi => ?_⟩
      have hi' : i < Rs.length := by simp at hi; omega
      obtain ⟨h1, h2⟩ := hrows i hi'
      refine ⟨rowV m Rs[i], by simp [hi'], ?_⟩
      have e : (cnts g bs d m)[i] = (List.range (m + 1)).map (fun s => (cntRow g bs m i).getD s 0) := by
        simp only [cnts, List.getElem_map, List.getElem_range]
        refine List.ext_getElem (by simp [cntRow_length]) fun j h1 h2 => ?_
        simp [List.getD_eq_getElem?_getD, h1]
      rw [e]
      exact (h2.sl (by unfold maxLen; omega)).mono fun j hj => by rw [hj, ← HN.out]; exact h1
end Go.Proofs.Ytcnofoopdghjiaa

/- Chapter 2, the references: Number. -/
namespace Go.Proofs.Ytcnofoopdghjiaa
open Go.RowKit Go.Oche Go.Proofs

theorem colSum_bd {Cs : List (List Int)} {M : Int} (s : Nat) (hM : 0 ≤ M) (h : ∀ r ∈ Cs, ∀ c ∈ r, 0 ≤ c ∧ c ≤ M) : ∀ k, 0 ≤ colSum Cs s k ∧ colSum Cs s k ≤ M * k
  | 0 => by simp [colSum]
  | k + 1 => by
    have ih := colSum_bd s hM h k
    by_cases hk : k + 1 < Cs.length
    · rw [colSum_succ hk]
      have := getD_bd (h _ (List.getElem_mem hk)) hM s
      have e : M * ((k + 1 : Nat) : Int) = M * k + M := by rw [Int.natCast_add, Int.mul_add]; simp
      omega
    · have e : colSum Cs s (k + 1) = colSum Cs s k := by
        unfold colSum
        rw [List.take_of_length_le (by simp; omega), List.take_of_length_le (by simp; omega)]
      have e2 : M * ((k + 1 : Nat) : Int) = M * k + M := by rw [Int.natCast_add, Int.mul_add]; simp
      omega
theorem cnts_colBd {g : Int} {bs : List Int} {d m : Nat} (hb : bs.length ≤ 82) (hd : d ≤ 9) (s k : Nat) (hk : k ≤ 9) : 0 ≤ colSum (cnts g bs d m) s k ∧ colSum (cnts g bs d m) s k ≤ 1508575953687372288 := by
  have h := colSum_bd (Cs := cnts g bs d m) (M := 167619550409708032) s (by decide) (fun r hr => (cnts_mem hb hd r hr).2) k
  refine ⟨h.1, Int.le_trans h.2 ?_⟩
  have := Int.mul_le_mul_of_nonneg_left (show (k : Int) ≤ 9 by omega) (show (0 : Int) ≤ 167619550409708032 by decide)
  simpa using this
theorem getElem_getD {C : List Int} {j : Nat} (h : j < C.length) : C[j] = C.getD j 0 := by rw [List.getD_eq_getElem?_getD]; simp [h]

set_option maxRecDepth 100000 in
set_option maxHeartbeats 1000000 in
theorem rNumber_any {S : Nat → Prop} (bs : List Int) (g : Int) (d s : Nat) (v : Value) (w : World) (hs : Sl S w v (ints bs)) (hbs : ∀ b ∈ bs, bedOk b = true) (hbl : bs.length ≤ 82) (hg : gateOk g = true) (hd : d ≤ 9) (hm : s ≤ 1001) :
    Calls Try.prog 26 #[.agg #[v, .int .i64 g, .int .i64 d], .int .i64 s] w fun e w' => e = .returned (.int .i64 (colSum (cnts g bs d s) s d)) ∧ Below w.heap.size w w' := by
  obtain ⟨a, cap, rfl, _, _⟩ := hs.form
  simp only [ints_length] at *
  obtain ⟨w0, hw0⟩ : ∃ w0, w0 = w.alloc (.cells #[.slice a bs.length cap, .int .i64 g, .int .i64 d] 25) := ⟨_, rfl⟩
  have hb0 : Below w.heap.size w w0 := by rw [hw0]; exact aB _ _
  have h2 : w0.heap[w.heap.size]? = some (.cells #[.slice a bs.length cap, .int .i64 g, .int .i64 d] 25 (0, 0)) := by rw [hw0]; exact World.alloc_heap_new _ _
  have H2 := Lib.hid h2
  have HS := Lib.hid (hs.below hb0)
  have HBS := Lib.hid hbs
  have HG := Lib.hid hg
  have HW := Lib.hid hw0
  have hz0 : w.heap.size < w0.heap.size := (Array.getElem?_eq_some_iff.1 h2).1
  clear hs hbs hg hw0 h2
  go_enter Try.func26, Try.ntmps26
  go_wp2_with fail
  rw [← HW.out]
  refine (table_any bs g d s _ _ HS.out HBS.out hbl HG.out hd hm).mono ?_
  rintro e w1 ⟨lv, rfl, hb1, hR⟩
  obtain ⟨la, lc, rfl, l1, l2⟩ := Rows2.form hR
  rw [cnts_length] at *
  unfold maxLen at l2
  have hbw : Below w.heap.size w w1 := hb0.trans (hb1.mono (by omega))
  have e2 : w1.cell? ⟨w.heap.size, 2, none⟩ = some (.int .i64 d) := by rw [cell_of_heap ((hb1.block _ hz0).trans H2.out)]; rfl
  have HR := Lib.hid hR
  clear hR hb1
  go_wp2_with fail
  go_loop [6, 7] (fun c i => ∃ k : Nat, 1 ≤ k ∧ k ≤ d + 1 ∧ i = .int .i64 k ∧ c = .int .i64 (colSum (cnts g bs d s) s (k - 1))) (fun _ i => d + 1 - (intOf i).toNat)
  case atStart => exact ⟨1, by omega, by omega, rfl, by simp [colSum]⟩
  case round =>
    obtain ⟨k, hk1, hk2, rfl, rfl⟩ := hrel
    by_cases hlt : k ≤ d
    · obtain ⟨b1, o1, ra, rc, rfl, _, c1, s1⟩ := Rows2.cell HR.out (show k < (cnts g bs d s).length by simp; omega)
      have hrl : ((cnts g bs d s)[k]'(by simp; omega)).length = s + 1 := (cnts_mem (g := g) hbl hd _ (List.getElem_mem _)).1
      obtain ⟨b2, o2, rfl, _, c2⟩ := s1.cell (show s < ((cnts g bs d s)[k]'(by simp; omega)).length by omega)
      have hsum : colSum (cnts g bs d s) s k = colSum (cnts g bs d s) s (k - 1) + ((cnts g bs d s)[k]'(by simp; omega)).getD s 0 := by
        have := colSum_succ (Cs := cnts g bs d s) (s := s) (k := k - 1) (by simp; omega)
        simpa only [show k - 1 + 1 = k by omega] using this
      have hb1 := cnts_colBd (g := g) (m := s) hbl hd s (k - 1) (by omega)
      have hb2 := cnts_colBd (g := g) (m := s) hbl hd s k (by omega)
      rw [hrl] at c1
      rw [getElem_getD (by omega)] at c2
      obtain ⟨u, hu⟩ : ∃ u, colSum (cnts g bs d s) s (k - 1) = u := ⟨_, rfl⟩
      obtain ⟨c, hc⟩ : ∃ c, ((cnts g bs d s)[k]'(by simp; omega)).getD s 0 = c := ⟨_, rfl⟩
      rw [hc] at c2 hsum
      rw [hu] at hsum hb1 ⊢
      rw [hsum] at hb2
      have hwr : IntKind.i64.wrap (u + c) = u + c := wrap_small _ (by omega) (by omega)
      have hi1 : (k : Int) < ((d : Int) + 1) := by omega
      have hi2 : (s : Int) < ((s : Int) + 1) := by omega
      have HSUM := Lib.hid hsum
      clear hsum hu hc s1 hrl
      go_wp2
      go_round
      case rel => exact ⟨k + 1, by omega, by omega, by go_num, by rw [show k + 1 - 1 = k by omega, HSUM.out]⟩
      case measure => simp [intOf]; omega
    · obtain rfl : k = d + 1 := by omega
      go_wp2
      go_ret
      exact ⟨ret_int (by simp), hbw⟩
end Go.Proofs.Ytcnofoopdghjiaa
