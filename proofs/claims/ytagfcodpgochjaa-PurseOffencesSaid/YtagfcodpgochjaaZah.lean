/- The texts PA, Ins, SA, in build order. -/
import Derived.Test.YtagfcodpgochjaaZag
import Derived.Handy

/- Chapter 12: Post. -/
namespace Go.Proofs.Ytagfcodpgochjaa
open Go.RowKit Go.Oche Go.Proofs
attribute [local go_sem] Oper.semAt_some

theorem scan_take {n : Int} {ms : List Mv} {k : Nat} {E : Rec} (hk : k < ms.length) : scanMv n (ms.drop k) k E = if enterErr n E ms[k] = 0 then scanMv n (ms.drop (k + 1)) (k + 1) (enterE E k ms[k]) else .error (k, enterErr n E ms[k]) := by
  rw [List.drop_eq_getElem_cons hk, scanMv]
/-- The three results' cells. -/
structure Res3 (N : Nat) (W : World) (r : Value) (x y : Int) : Prop where
  r1 : W.heap[N + 1]? = some (.cells #[r] 22 (0, 0))
  r2 : W.heap[N + 1 + 1]? = some (.cells #[.int .i64 x] 3 (0, 0))
  r3 : W.heap[N + 1 + 1 + 1]? = some (.cells #[.int .i64 y] 25 (0, 0))
theorem Res3.keep {N : Nat} {W W' : World} {r : Value} {x y : Int} (h : Res3 N W r x y) (h1 : W'.heap[N + 1]? = W.heap[N + 1]?) (h2 : W'.heap[N + 1 + 1]? = W.heap[N + 1 + 1]?) (h3 : W'.heap[N + 1 + 1 + 1]? = W.heap[N + 1 + 1 + 1]?) : Res3 N W' r x y := ⟨h1.trans h.r1, h2.trans h.r2, h3.trans h.r3⟩
theorem Res3.lt {N : Nat} {W : World} {r : Value} {x y : Int} (h : Res3 N W r x y) : N + 1 + 1 + 1 < W.heap.size := (Array.getElem?_eq_some_iff.1 h.r3).1
theorem Res3.below {N : Nat} {W W' : World} {r : Value} {x y : Int} (h : Res3 N W r x y) (hb : Below W.heap.size W W') : Res3 N W' r x y := by
  have := h.lt
  exact h.keep (hb.block _ (by omega)) (hb.block _ (by omega)) (hb.block _ (by omega))
theorem Res3.cells {N : Nat} {W : World} {r : Value} {x y : Int} (h : Res3 N W r x y) : W.cell? ⟨N + 1, 0, none⟩ = some r ∧ W.cell? ⟨N + 1 + 1, 0, none⟩ = some (.int .i64 x) ∧ W.cell? ⟨N + 1 + 1 + 1, 0, none⟩ = some (.int .i64 y) :=
  ⟨by rw [cell_of_heap h.r1]; rfl, by rw [cell_of_heap h.r2]; rfl, by rw [cell_of_heap h.r3]; rfl⟩
theorem Res3.free {N : Nat} {W : World} {r : Value} {x y : Int} (h : Res3 N W r x y) : W.frozen? ⟨N + 1, 0, none⟩ = false ∧ W.frozen? ⟨N + 1 + 1, 0, none⟩ = false ∧ W.frozen? ⟨N + 1 + 1 + 1, 0, none⟩ = false :=
  ⟨frozen_of_heap h.r1, frozen_of_heap h.r2, frozen_of_heap h.r3⟩
theorem Res3.set {N : Nat} {W : World} {r : Value} {x y : Int} (h : Res3 N W r x y) (r' : Value) (x' y' : Int) :
    Res3 N (((W.setCell ⟨N + 1, 0, none⟩ r').setCell ⟨N + 1 + 1, 0, none⟩ (.int .i64 x')).setCell ⟨N + 1 + 1 + 1, 0, none⟩ (.int .i64 y')) r' x' y' := by
  refine ⟨?_, ?_, ?_⟩
  · exact (Below.heap_setCell _ _ _ _ (by simp <;> omega)).trans ((Below.heap_setCell _ _ _ _ (by simp <;> omega)).trans (heap_setCell_at h.r1 r'))
  · exact (Below.heap_setCell _ _ _ _ (by simp <;> omega)).trans (heap_setCell_at ((Below.heap_setCell _ _ _ _ (by simp <;> omega)).trans h.r2) _)
  · exact heap_setCell_at ((Below.heap_setCell _ _ _ _ (by simp <;> omega)).trans ((Below.heap_setCell _ _ _ _ (by simp <;> omega)).trans h.r3)) _
theorem Res3.out_ {N : Nat} {W W0 : World} {r' : Value} {x' y' : Int} (hb : Below N W0 W) : Below N W0 (((W.setCell ⟨N + 1, 0, none⟩ r').setCell ⟨N + 1 + 1, 0, none⟩ (.int .i64 x')).setCell ⟨N + 1 + 1 + 1, 0, none⟩ (.int .i64 y')) :=
  ((hb.setCell (by simp) _).setCell (by simp; omega) _).setCell (by simp; omega) _
theorem post_results {N : Nat} {W : World} {r : Value} {x y : Int} (tmps : Array Value) (h4 : tmps[4]? = some (.pointer (some ⟨N + 1, 0, none⟩))) (h5 : tmps[5]? = some (.pointer (some ⟨N + 1 + 1, 0, none⟩))) (h6 : tmps[6]? = some (.pointer (some ⟨N + 1 + 1 + 1, 0, none⟩))) (h : Res3 N W r x y) :
    (results Try.f25 tmps).run Try.prog W = .ok (.tuple #[r, .int .i64 x, .int .i64 y]) W := by
  obtain ⟨z1, z2, z3⟩ := h.cells
  simp [results, Try.results25, go_sem, h4, h5, h6, z1, z2, z3]
theorem Res3.passed {N : Nat} {W W' : World} {r : Value} {x y : Int} {Ds : List Nat} (h : Res3 N W r x y) (hp : Passed Ds W W') (hD : ∀ D ∈ Ds, N + 1 + 1 + 1 < D) : Res3 N W' r x y :=
  h.keep (hp.block _ fun hm => by have := hD _ hm; omega) (hp.block _ fun hm => by have := hD _ hm; omega) (hp.block _ fun hm => by have := hD _ hm; omega)
theorem enterE_length (E : Rec) (k : Nat) (x : Mv) : (enterE E k x).length ≤ E.length + 1 := by
  unfold enterE; split <;> simp
/-- Nobody is below the credit, or has too much. -/
structure HasOk (n : Nat) (ys has : List Int) : Prop where
  len : has.length = n
  bd : ∀ i, i < n → -(ys.getD i 0) ≤ has.getD i 0 ∧ has.getD i 0 ≤ 1000000000
theorem mvL_at {has : List Int} {F T : Nat} {m : Int} (hF : F < has.length) (hT : T < has.length) (hne : F ≠ T) (i : Nat) :
    (mvL has F T m).getD i 0 = if i = T then has.getD T 0 + m else if i = F then has.getD F 0 - m else has.getD i 0 := by
  unfold mvL
  simp only [List.getD_eq_getElem?_getD, List.getElem?_set, List.length_set]
  by_cases h1 : i = T
  · subst h1
    simp [hT, hne]
  · by_cases h2 : i = F
    · subst h2
      simp [h1, Ne.symm h1, hF]
    · simp [h1, h2, Ne.symm h1, Ne.symm h2]
theorem HasOk.step {n : Nat} {ys has : List Int} {F T : Nat} {m : Int} (h : HasOk n ys has) (hF : F < n) (hT : T < n) (hne : F ≠ T) (hm : 1 ≤ m) (h1 : ¬ (mvL has F T m).getD F 0 < -(ys.getD F 0)) (h2 : ¬ 1000000000 < (mvL has F T m).getD T 0) : HasOk n ys (mvL has F T m) := by
  have hl := h.len
  refine ⟨by simp [hl], fun i hi => ?_⟩
  have e := mvL_at (has := has) (m := m) (by omega : F < has.length) (by omega : T < has.length) hne i
  have bi := h.bd i hi
  have bT := h.bd T hT
  have bF := h.bd F hF
  by_cases h3 : i = T
  · subst h3; rw [if_pos rfl] at e; rw [e] at h2 ⊢; omega
  · rw [if_neg h3] at e
    by_cases h4 : i = F
    · subst h4; rw [if_pos rfl] at e; rw [e] at h1 ⊢; omega
    · rw [if_neg h4] at e; rw [e]; exact bi
theorem sortE_mem {E : Rec} (_hn : (E.map (·.1.1)).Nodup) {e : Mv × Nat} (he : e ∈ sortE E) : e ∈ E ∧ numE E e.1.1 = some e := by
  obtain ⟨k, hk, rfl⟩ := List.mem_map.1 he
  have hk2 : k ∈ E.map (·.1.1) := (List.mergeSort_perm _ _).mem_iff.1 hk
  cases hq : numE E k with
  | none => exact absurd hk2 (numE_none hq)
  | some y =>
    obtain ⟨h1, h2⟩ := numE_some hq
    simp only [Option.getD_some]
    exact ⟨h1, by rw [h2]; exact hq⟩
/-- The same memory; what was drawn may have grown. -/
structure SameW (w W : World) : Prop where
  os : W.os = w.os
  tape : W.tape = w.tape
  output : W.output = w.output
  heap : W.heap = w.heap
theorem SameW.drew (w : World) : SameW w w.drew := ⟨rfl, rfl, rfl, rfl⟩
theorem SameW.cell {w W : World} (h : SameW w W) {p : Addr} {v : Value} (hv : w.cell? p = some v) : W.cell? p = some v := by unfold World.cell? at *; rw [h.heap]; exact hv
theorem SameW.frozen {w W : World} (h : SameW w W) {p : Addr} {b : Bool} (hv : w.frozen? p = b) : W.frozen? p = b := by unfold World.frozen? at *; rw [h.heap]; exact hv
theorem SameW.set {w W : World} (h : SameW w W) {b : Nat} {v : Value} {t : TypeId} {fz : Nat × Nat} (hb : w.heap[b]? = some (.cells #[v] t fz)) : SameW w (W.setCell ⟨b, 0, none⟩ v) := by
  refine ⟨h.os, h.tape, h.output, Array.ext_getElem? fun i => ?_⟩
  by_cases e : b = i
  · subst e
    have hb' : W.heap[b]? = some (.cells #[v] t fz) := by rw [h.heap]; exact hb
    rw [heap_setCell_at hb' v, hb]; rfl
  · rw [Below.heap_setCell _ _ _ _ (fun e' => e e'.symm), h.heap]
theorem SameW.rel {w W : World} (h : SameW w W) {O : Nat → Prop} (hO : ∀ k, O k → k < w.heap.size) : Rel O w O W :=
  ⟨h.os, h.tape, h.output, by rw [h.heap]; exact Nat.le_refl _, fun k _ _ => by rw [h.heap], fun _ h => .inl h, fun k hk => by rw [h.heap]; exact hO k hk⟩
theorem Res3.set2 {N : Nat} {W : World} {r : Value} {x y : Int} (h : Res3 N W r x y) (x' y' : Int) :
    Res3 N ((W.setCell ⟨N + 1 + 1, 0, none⟩ (.int .i64 x')).setCell ⟨N + 1 + 1 + 1, 0, none⟩ (.int .i64 y')) r x' y' := by
  refine ⟨?_, ?_, ?_⟩
  · exact (Below.heap_setCell _ _ _ _ (by simp <;> omega)).trans ((Below.heap_setCell _ _ _ _ (by simp <;> omega)).trans h.r1)
  · exact (Below.heap_setCell _ _ _ _ (by simp <;> omega)).trans (heap_setCell_at h.r2 _)
  · exact heap_setCell_at ((Below.heap_setCell _ _ _ _ (by simp <;> omega)).trans h.r3) _
theorem Rel.grown {O : Nat → Prop} {w W : World} {g : Nat} (h : w.grownBy W (some g)) (hg : O g) (hO : ∀ k, O k → k < w.heap.size) : Rel O w O W :=
  ⟨h.os, h.tape, h.output, h.size, fun k hk hn => h.block k hk (fun e => hn (by cases e; exact hg)), fun _ h => .inl h, fun k hk => Nat.lt_of_lt_of_le (hO k hk) h.size⟩
theorem run_step {ys has : List Int} {x0 x3 : Int} {F T i : Nat} {post : Rec} :
    runMv ys has (((x0, (F : Int), (T : Int), x3), i) :: post) = if (mvL has F T x3).getD F 0 < -(ys.getD F 0) then ([], (i : Int), 9) else if 1000000000 < (mvL has F T x3).getD T 0 then ([], (i : Int), 8) else runMv ys (mvL has F T x3) post := by
  simp only [runMv, Int.toNat_natCast]
/-- While the receipts are run: what the accounts have. -/
def PI (N g n c B : Nat) (xs ys : List Int) (L pre : Rec) (O : Nat → Prop) (W : World) : Prop :=
  (∀ q, O q ↔ q = g ∨ q = N + 1 ∨ q = N + 1 + 1 ∨ q = N + 1 + 1 + 1) ∧ ∃ has, W.ownsRow B 3 1 (.slice (some ⟨g, 0, none⟩) n c) n (ints has) ∧ Res3 N W (.slice none 0 0) 0 0 ∧ runMv ys xs L = runMv ys has (L.drop pre.length) ∧ HasOk n ys has
def PX (N g : Nat) (xs ys : List Int) (L : Rec) (O : Nat → Prop) (W : World) : Prop :=
  (∀ q, O q ↔ q = g ∨ q = N + 1 ∨ q = N + 1 + 1 ∨ q = N + 1 + 1 + 1) ∧ ∃ (i : Nat) (er : Int), Res3 N W (.slice none 0 0) i er ∧ runMv ys xs L = ([], (i : Int), er)
theorem PI.keep {N g n c B : Nat} {xs ys : List Int} {L pre : Rec} {O : Nat → Prop} {W W' : World} (h : PI N g n c B xs ys L pre O W) (hk : ∀ q, q < W.heap.size → O q → W'.heap[q]? = W.heap[q]?) : PI N g n c B xs ys L pre O W' := by
  obtain ⟨hO, has, h1, h2, h3⟩ := h
  have hl := h2.lt
  refine ⟨hO, has, owns_kept h1 fun q hq => ?_, h2.keep ?_ ?_ ?_, h3⟩
  · cases hq; exact hk _ (owns_blk h1).2 ((hO _).2 (.inl rfl))
  · exact hk _ (by omega) ((hO _).2 (.inr (.inl rfl)))
  · exact hk _ (by omega) ((hO _).2 (.inr (.inr (.inl rfl))))
  · exact hk _ (by omega) ((hO _).2 (.inr (.inr (.inr rfl))))
theorem PX.keep {N g : Nat} {xs ys : List Int} {L : Rec} {O : Nat → Prop} {W W' : World} (h : PX N g xs ys L O W) (hk : ∀ q, q < W.heap.size → O q → W'.heap[q]? = W.heap[q]?) : PX N g xs ys L O W' := by
  obtain ⟨hO, i, er, h2, h3⟩ := h
  have hl := h2.lt
  refine ⟨hO, i, er, h2.keep ?_ ?_ ?_, h3⟩
  · exact hk _ (by omega) ((hO _).2 (.inr (.inl rfl)))
  · exact hk _ (by omega) ((hO _).2 (.inr (.inr (.inl rfl))))
  · exact hk _ (by omega) ((hO _).2 (.inr (.inr (.inr rfl))))
set_option maxRecDepth 100000 in
set_option maxHeartbeats 8000000 in
theorem post_any {S S' S'' : Nat → Prop} (xs ys : List Int) (ms : List Mv) (va vb v : Value) (w : World) (hsa : Sl S w va (ints xs)) (hsb : Sl S' w vb (ints ys)) (hm : SlN 4 S'' w v (ms.map mvRow)) :
    Calls Try.prog 25 #[.agg #[va, vb], v] w fun e w' => ∃ r, e = .returned (.tuple #[r, .int .i64 (postRes xs ys ms).2.1, .int .i64 (postRes xs ys ms).2.2]) ∧ Below w.heap.size w w' ∧ Sl (fun k => w.heap.size ≤ k) w' r (ints (postRes xs ys ms).1) := by
  obtain ⟨a, cap, rfl, h2, h3⟩ := hsa.form
  obtain ⟨a', cap', rfl, h2', h3'⟩ := hsb.form
  obtain ⟨am, capm, rfl, h2m, h3m⟩ := hm.form
  simp only [ints_length, List.length_map] at *
  unfold maxLen at h3 h3' h3m
  obtain ⟨N, hN⟩ : ∃ N, w.heap.size = N := ⟨_, rfl⟩
  obtain ⟨b1, hb1⟩ : ∃ b, bookOk xs ys = b := ⟨_, rfl⟩
  obtain ⟨rs, hrs⟩ : ∃ x, postRes xs ys ms = x := ⟨_, rfl⟩
  have RS : Hid (rs = if b1 = false then ([], 0, 2) else if 1000 < ms.length then ([], 0, 5) else match scanMv xs.length ms 0 [] with
    | .error (k, e) => ([], (k : Int), e)
    | .ok E => runMv ys xs (sortE E)) := Lib.hid (by rw [← hrs, ← hb1]; rfl)
  have H1 := Lib.hid hb1
  replace hsa := hsa.lt.mono (S' := fun q => q < N) fun q hq => by rw [← hN]; exact hq.2
  replace hsb := hsb.lt.mono (S' := fun q => q < N) fun q hq => by rw [← hN]; exact hq.2
  replace hm := (hm.lt (by decide)).mono (S' := fun q => q < N) fun q hq => by rw [← hN]; exact hq.2
  have HA := Lib.hid hsa
  have HB := Lib.hid hsb
  have HM := Lib.hid hm
  rw [hrs, hN]
  clear hrs hb1 hsa hsb hm
  obtain ⟨w1, hw1⟩ : ∃ w1, (((w.alloc (.cells #[.slice a xs.length cap, .slice a' ys.length cap'] 55)).alloc (.cells #[.slice none 0 0] 22)).alloc (.cells #[.int .i64 0] 3)).alloc (.cells #[.int .i64 0] 25) = w1 := ⟨_, rfl⟩
  have hb1 : Below N w w1 := by rw [← hw1, ← hN]; exact ((((Below.refl _ _).alloc (Nat.le_refl _) _).alloc (by simp) _).alloc (by simp; omega) _).alloc (by simp; omega) _
  have hz1 : w1.heap.size = N + 4 := by rw [← hw1]; simp [hN]
  have B0 : w1.heap[N]? = some (.cells #[.slice a xs.length cap, .slice a' ys.length cap'] 55 (0, 0)) := by
    rw [← hw1, ← hN]; exact (Below.heap_alloc _ _ _ (by simp <;> omega)).trans ((Below.heap_alloc _ _ _ (by simp <;> omega)).trans ((Below.heap_alloc _ _ _ (by simp <;> omega)).trans (World.alloc_heap_new _ _)))
  have R1 : w1.heap[N + 1]? = some (.cells #[.slice none 0 0] 22 (0, 0)) := by
    rw [← hw1, ← hN]
    refine (Below.heap_alloc _ _ _ (by simp <;> omega)).trans ((Below.heap_alloc _ _ _ (by simp <;> omega)).trans ?_)
    have := World.alloc_heap_new (w.alloc (.cells #[.slice a xs.length cap, .slice a' ys.length cap'] 55)) (.cells #[.slice none 0 0] 22)
    rwa [World.size_alloc] at this
  have R2 : w1.heap[N + 1 + 1]? = some (.cells #[.int .i64 0] 3 (0, 0)) := by
    rw [← hw1, ← hN]
    refine (Below.heap_alloc _ _ _ (by simp)).trans ?_
    have := World.alloc_heap_new ((w.alloc (.cells #[.slice a xs.length cap, .slice a' ys.length cap'] 55)).alloc (.cells #[.slice none 0 0] 22)) (.cells #[.int .i64 0] 3)
    simpa only [World.size_alloc] using this
  have R3 : w1.heap[N + 1 + 1 + 1]? = some (.cells #[.int .i64 0] 25 (0, 0)) := by
    rw [← hw1, ← hN]
    have := World.alloc_heap_new (((w.alloc (.cells #[.slice a xs.length cap, .slice a' ys.length cap'] 55)).alloc (.cells #[.slice none 0 0] 22)).alloc (.cells #[.int .i64 0] 3)) (.cells #[.int .i64 0] 25)
    simpa only [World.size_alloc] using this
  have c0 : w1.cell? ⟨N, 0, none⟩ = some (.slice a xs.length cap) := by rw [cell_of_heap B0]; rfl
  have c1 : w1.cell? ⟨N, 1, none⟩ = some (.slice a' ys.length cap') := by rw [cell_of_heap B0]; rfl
  replace HA := Lib.hid (HA.out.below (hN ▸ hb1))
  replace HB := Lib.hid (HB.out.below (hN ▸ hb1))
  replace HM := Lib.hid (HM.out.below (hN ▸ hb1))
  have HB1 := Lib.hid hb1
  have HW1 := Lib.hid hw1
  have HN := Lib.hid hN
  have HZ1 := Lib.hid hz1
  have HR1 := Lib.hid R1
  have HR2 := Lib.hid R2
  have HR3 := Lib.hid R3
  clear hb1 hw1 hz1 R1 R2 R3 B0
  refine (callsIn_wide (n := 0)).1 (callsIn_of_wp_marks Try.func25 rfl trivial ?_ rfl)
  simp only [Try.ntmps25, List.size_toArray, List.length_cons, List.length_nil, Nat.reduceAdd, Nat.reduceSub, Array.replicate_succ, Array.replicate_zero, List.push_toArray, List.append_toArray, List.nil_append, List.cons_append]
  gi_wp2_with fail
  rw [HW1.out]
  refine ⟨trivial, rfl, (callsIn_wide.2 (isBook_any xs ys _ _ w1 HA.out HB.out)).mono ?_⟩
  rintro e w2 ⟨rfl, hb2⟩
  rw [H1.out]
  have HB2 := Lib.hid (HB1.out.trans (hb2.mono (by have := HB1.out.size; have := HZ1.out; omega)))
  have HZ2 := Lib.hid (show N + 4 ≤ w2.heap.size by have := hb2.size; have := HZ1.out; omega)
  have HR := Lib.hid (Res3.below (N := N) ⟨HR1.out, HR2.out, HR3.out⟩ hb2)
  replace HA := Lib.hid (HA.out.below hb2)
  replace HB := Lib.hid (HB.out.below hb2)
  replace HM := Lib.hid (HM.out.below hb2)
  replace c0 := bAt hb2 c0
  replace c1 := bAt hb2 c1
  clear hb2 HW1 HB1 HZ1 HR1 HR2 HR3
  cases b1
  · have rs2 : rs = ([], 0, 2) := RS.out
    clear RS
    subst rs2
    obtain ⟨z1, z2, z3⟩ := HR.out.cells
    obtain ⟨f1, f2, f3⟩ := HR.out.free
    gi_wp2
    refine leave_marks [] _ (Marks.nil 0 _) fun W'' hp => ?_
    exact ⟨_, post_results _ rfl rfl rfl ((HR.out.set (.slice none 0 0) 0 2).passed hp (by simp)), _, rfl, (Res3.out_ HB2.out).trans (hp.below (by simp)), Sl.nil _ _⟩
  · by_cases hl : 1000 < ms.length
    · have d1 : decide ((1000 : Int) < (ms.length : Int)) = true := decide_eq_true (by omega)
      have d1n : decide (1000 < ms.length) = true := decide_eq_true hl
      have rs2 : rs = ([], 0, 5) := by rw [RS.out, if_neg (by decide), if_pos hl]
      clear RS
      subst rs2
      obtain ⟨z1, z2, z3⟩ := HR.out.cells
      obtain ⟨f1, f2, f3⟩ := HR.out.free
      gi_wp2
      refine leave_marks [] _ (Marks.nil 0 _) fun W'' hp => ?_
      exact ⟨_, post_results _ rfl rfl rfl ((HR.out.set (.slice none 0 0) 0 5).passed hp (by simp)), _, rfl, (Res3.out_ HB2.out).trans (hp.below (by simp)), Sl.nil _ _⟩
    · have d1 : decide ((1000 : Int) < (ms.length : Int)) = false := decide_eq_false (by omega)
      have d1n : decide (1000 < ms.length) = false := decide_eq_false hl
      have RS2 : Hid (rs = match scanMv xs.length ms 0 [] with
        | .error (k, e) => ([], (k : Int), e)
        | .ok E => runMv ys xs (sortE E)) := Lib.hid (by rw [RS.out, if_neg (by decide), if_neg hl])
      have HLEN := Lib.hid (show ms.length ≤ 1000 by omega)
      clear RS hl
      obtain ⟨M, hM⟩ : ∃ M, w2.heap.size = M := ⟨_, rfl⟩
      have hmm := @run_makeMap Try.prog
      gi_wp2_with fail
      clear hmm d1 d1n
      obtain ⟨w3, hw3⟩ : ∃ w3, (((w2.alloc (.map #[] 0)).alloc (.map #[] 0)).alloc (.cells #[.slice a xs.length cap, .slice a' ys.length cap', .map (some M), .map (some (M + 1))] 104)).alloc (.cells #[.pointer (some ⟨M + 1 + 1, 0, none⟩)] 101) = w3 := ⟨_, rfl⟩
      have hb3 : Below w2.heap.size w2 w3 := by rw [← hw3]; exact ((((Below.refl _ _).alloc (Nat.le_refl _) _).alloc (by simp) _).alloc (by simp; omega) _).alloc (by simp; omega) _
      have hz3 : w3.heap.size = M + 4 := by rw [← hw3]; simp [hM]
      have hl3 : LedAt w3 (M + 1 + 1) M (M + 1) (.slice a xs.length cap) (.slice a' ys.length cap') [] := by
        have h0 : (w2.alloc (.map #[] 0)).heap.size = M + 1 := by simp [hM]
        have h1 : ((w2.alloc (.map #[] 0)).alloc (.map #[] 0)).heap.size = M + 1 + 1 := by simp [hM]
        have h2 : (((w2.alloc (.map #[] 0)).alloc (.map #[] 0)).alloc (.cells #[.slice a xs.length cap, .slice a' ys.length cap', .map (some M), .map (some (M + 1))] 104)).heap.size = M + 1 + 1 + 1 := by simp [hM]
        rw [← hw3]
        refine ⟨?_, ?_, ?_, by omega⟩
        · refine (Below.heap_alloc _ _ _ (by rw [h2]; omega)).trans ?_
          rw [← h1]; exact World.alloc_heap_new _ _
        · refine MapAt.keep (W := w2.alloc (.map #[] 0)) (by rw [← hM]; exact MapAt.made _ _) ?_
          exact (Below.heap_alloc _ _ _ (by rw [h2]; omega)).trans ((Below.heap_alloc _ _ _ (by rw [h1]; omega)).trans (Below.heap_alloc _ _ _ (by rw [h0]; omega)))
        · refine MapAt.keep (W := (w2.alloc (.map #[] 0)).alloc (.map #[] 0)) (by rw [← h0]; exact MapAt.made _ _) ?_
          exact (Below.heap_alloc _ _ _ (by rw [h2]; omega)).trans (Below.heap_alloc _ _ _ (by rw [h1]; omega))
      have p0 : w3.cell? ⟨M + 1 + 1 + 1, 0, none⟩ = some (.pointer (some ⟨M + 1 + 1, 0, none⟩)) := by
        have h2 : (((w2.alloc (.map #[] 0)).alloc (.map #[] 0)).alloc (.cells #[.slice a xs.length cap, .slice a' ys.length cap', .map (some M), .map (some (M + 1))] 104)).heap.size = M + 1 + 1 + 1 := by simp [hM]
        rw [← hw3, ← h2]; exact cell_new _ _ _
      have HB3 := Lib.hid (HB2.out.trans (hb3.mono (by have := HZ2.out; omega)))
      have HR3 := Lib.hid (HR.out.below hb3)
      have HA3 := Lib.hid (HA.out.below hb3)
      have HBB3 := Lib.hid (HB.out.below hb3)
      have HM3 := Lib.hid (HM.out.below hb3)
      have HMN := Lib.hid (show N + 4 ≤ M by rw [← hM]; exact HZ2.out)
      have HL3 := Lib.hid hl3
      have HW3 := Lib.hid hw3
      have HZ3 := Lib.hid hz3
      have d0 := bAt hb3 c0
      have d1 := bAt hb3 c1
      have HOK := Lib.hid (H1.out)
      have hn60 : 1 ≤ xs.length ∧ xs.length ≤ 60 := by
        have h := HOK.out
        simp [bookOk, isIn] at h
        omega
      have hok : HasOk xs.length ys xs := ⟨rfl, fun i hi => by
        have h := HOK.out
        simp only [bookOk, Bool.and_eq_true, Bool.not_eq_true', List.any_eq_false, List.mem_range] at h
        have := h.2 i hi
        simp only [acctBad, outB, Bool.or_eq_true, decide_eq_true_eq, not_or] at this
        omega⟩
      have hyl : ys.length = xs.length := by
        have h := HOK.out
        simp only [bookOk, Bool.and_eq_true, decide_eq_true_eq] at h
        exact h.1.1.2
      have hyb : ∀ i, i < xs.length → 0 ≤ ys.getD i 0 ∧ ys.getD i 0 ≤ 1000000000 := fun i hi => by
        have h := HOK.out
        simp only [bookOk, Bool.and_eq_true, Bool.not_eq_true', List.any_eq_false] at h
        have := h.1.2 (ys.getD i 0) (by rw [List.getD_eq_getElem?_getD, List.getElem?_eq_getElem (by omega)]; exact List.getElem_mem _)
        simp only [outB, Bool.or_eq_true, decide_eq_true_eq, not_or] at this
        omega
      clear hb3 hl3 hw3 hz3 HB2 HR HA HB HM HZ2 c0 c1 hM
      rw [HW3.out]
      obtain ⟨n, hn⟩ : ∃ n, xs.length = n := ⟨_, rfl⟩
      have HNX := Lib.hid hn
      rw [hn] at hn60 hok hyl hyb
      have HYL := Lib.hid hyl
      have HYB := Lib.hid hyb
      clear hyl hyb
      simp only [hn]
      clear hn
      gi_loopw [28] (fun i wr => ∃ (k : Nat) (E : Rec), k ≤ ms.length ∧ i = .int .i64 k ∧ Hid (scanMv n ms 0 [] = scanMv n (ms.drop k) k E) ∧ Hid (RecOk n E ∧ E.length ≤ k) ∧ Hid (LedAt wr (M + 1 + 1) M (M + 1) (.slice a n cap) (.slice a' ys.length cap') E) ∧ Rel (MO M (M + 1)) w3 (MO M (M + 1)) wr) (fun i _ => ms.length - (intOf i).toNat)
      case atStart => exact ⟨0, [], Nat.zero_le _, rfl, Lib.hid rfl, Lib.hid ⟨RecOk.nil _, Nat.le_refl _⟩, Lib.hid (by rw [← HNX.out]; exact HL3.out), Rel.refl fun q hq => by have := HZ3.out; rcases hq with rfl | rfl <;> omega⟩
      case round =>
        obtain ⟨k, E, hk, rfl, HSC, HE, HL, hr⟩ := hrel
        obtain ⟨wo, rfl⟩ : ∃ wo : World, wo = wr := ⟨_, rfl⟩
        have hMO : ∀ q, MO M (M + 1) q → M ≤ q ∧ q ≤ M + 1 := fun q hq => by rcases hq with rfl | rfl <;> omega
        have HMO := Lib.hid hMO
        clear hMO
        have p0' := rAt hr p0 (fun h => by have := HMO.out _ h; omega)
        have hrN : Res3 N wo (.slice none 0 0) 0 0 := by
          have hlt := HR3.out.lt
          exact HR3.out.keep (hr.block _ (by omega) fun h => by have := HMO.out _ h; have := HMN.out; omega) (hr.block _ (by omega) fun h => by have := HMO.out _ h; have := HMN.out; omega) (hr.block _ (by omega) fun h => by have := HMO.out _ h; have := HMN.out; omega)
        have HRN := Lib.hid hrN
        clear hrN
        by_cases hlt : k < ms.length
        · obtain ⟨b, off, hal, _, _, hc⟩ := (SlN.rel HM3.out hr (fun q hq h => by have := HMO.out _ h; have := HMN.out; omega)).cell (show k < (ms.map mvRow).length by simpa using hlt)
          cases hal
          obtain ⟨⟨x0, x1, x2, x3⟩, hx⟩ : ∃ x, ms[k] = x := ⟨_, rfl⟩
          have z0 := hc 0 (.int .i64 x0) (by simp [mvRow, hx])
          have z1 := hc 1 (.int .i64 x1) (by simp [mvRow, hx])
          have z2 := hc 2 (.int .i64 x2) (by simp [mvRow, hx])
          have z3 := hc 3 (.int .i64 x3) (by simp [mvRow, hx])
          simp only [Nat.add_zero] at z0
          have hstep := scan_take (n := n) (E := E) hlt
          rw [hx] at hstep
          obtain ⟨er, her⟩ : ∃ er, enterErr n E (x0, x1, x2, x3) = er := ⟨_, rfl⟩
          obtain ⟨bq, hbq⟩ : ∃ bq, (er != 0) = bq := ⟨_, rfl⟩
          rw [her, ← HSC.out] at hstep
          have HSTEP := Lib.hid hstep
          have HER := Lib.hid her
          obtain ⟨w4, hw4⟩ : ∃ w4, wo.alloc (.cells #[.int .i64 x0, .int .i64 x1, .int .i64 x2, .int .i64 x3] 44) = w4 := ⟨_, rfl⟩
          have hb4 : Below wo.heap.size wo w4 := by rw [← hw4]; exact aB _ _
          have p4 : (wo.alloc (.cells #[.int .i64 x0, .int .i64 x1, .int .i64 x2, .int .i64 x3] 44)).cell? ⟨M + 1 + 1 + 1, 0, none⟩ = some (.pointer (some ⟨M + 1 + 1, 0, none⟩)) := bAt (aB _ _) p0'
          have HW4 := Lib.hid hw4
          have HB4 := Lib.hid hb4
          have hr4 := hr.ext hb4
          have HL4 := Lib.hid (HL.out.below hb4)
          have HRN4 := Lib.hid (HRN.out.below hb4)
          clear hc hx hstep her hw4 HSC HL hb4 hr
          gi_wp2_with fail
          rw [HW4.out]
          refine ⟨trivial, rfl, (callsIn_wide.2 (enter_any (M + 1 + 1) M (M + 1) n cap k a _ E (x0, x1, x2, x3) w4 HL4.out hn60)).mono ?_⟩
          rintro e w5 ⟨rfl, hr5, hled⟩
          rw [HER.out] at hled ⊢
          have hr6 := hr4.trans hr5
          have hrN5 : Res3 N w5 (.slice none 0 0) 0 0 := by
            have hlt := HRN4.out.lt
            exact HRN4.out.keep (hr5.block _ (by omega) fun h => by have := HMO.out _ h; have := HMN.out; omega) (hr5.block _ (by omega) fun h => by have := HMO.out _ h; have := HMN.out; omega) (hr5.block _ (by omega) fun h => by have := HMO.out _ h; have := HMN.out; omega)
          clear hr4 hr5 z0 z1 z2 z3 p0' p4
          cases bq
          · have he0 : er = 0 := by simpa using hbq
            have HL5 := Lib.hid (hled he0)
            have hrec : RecOk n (enterE E k (x0, x1, x2, x3)) := HE.out.1.enter (HER.out.trans he0)
            have hlen := enterE_length E k (x0, x1, x2, x3)
            have hs5 : scanMv n ms 0 [] = scanMv n (ms.drop (k + 1)) (k + 1) (enterE E k (x0, x1, x2, x3)) := by rw [HSTEP.out, if_pos he0]
            have HS5 := Lib.hid hs5
            have HE5 := Lib.hid (And.intro hrec (show (enterE E k (x0, x1, x2, x3)).length ≤ k + 1 by have := HE.out.2; omega))
            clear hled hrec hlen hs5 hrN5
            gi_wp2
            go_roundw
            case rel => exact ⟨k + 1, _, by omega, by go_num, HS5, HE5, HL5, hr6⟩
            case measure => simp [intOf]; omega
          · have he0 : er ≠ 0 := by simpa using hbq
            have hs5 : rs = ([], (k : Int), er) := by rw [RS2.out, HNX.out, HSTEP.out, if_neg he0]
            clear RS2
            subst hs5
            obtain ⟨z1, z2, z3⟩ := hrN5.cells
            obtain ⟨f1, f2, f3⟩ := hrN5.free
            have HRN5 := Lib.hid hrN5
            have hbN : Below N w w5 := HB3.out.trans (hr6.below (by have := HZ3.out; have := HMN.out; omega) fun q hq h => by have := HMO.out _ h; have := HMN.out; omega)
            clear hled hrN5
            gi_wp2
            refine leave_marks [] _ (Marks.nil 0 _) fun W'' hp => ?_
            exact ⟨_, post_results _ rfl rfl rfl ((HRN5.out.set (.slice none 0 0) k er).passed hp (by simp)), _, rfl, (Res3.out_ hbN).trans (hp.below (by simp)), Sl.nil _ _⟩
        · obtain rfl : k = ms.length := by omega
          have hs5 : scanMv n ms 0 [] = .ok E := by rw [HSC.out, List.drop_eq_nil_of_le (Nat.le_refl _)]; rfl
          have RS3 : Hid (rs = runMv ys xs (sortE E)) := Lib.hid (by rw [RS2.out, HNX.out, hs5])
          clear hs5 RS2 HSC
          have d0' := rAt hr d0 (fun h => by have := HMO.out _ h; have := HMN.out; omega)
          have HAW := Lib.hid (HA3.out.rel hr (fun q hq h => by have := HMO.out _ h; have := HMN.out; omega))
          have HBW := Lib.hid (HBB3.out.rel hr (fun q hq h => by have := HMO.out _ h; have := HMN.out; omega))
          have hbN : Below N w wo := HB3.out.trans (hr.below (by have := HZ3.out; have := HMN.out; omega) fun q hq h => by have := HMO.out _ h; have := HMN.out; omega)
          have HBN := Lib.hid hbN
          have hzN : M + 4 ≤ wo.heap.size := by have := hr.size; have := HZ3.out; omega
          have HZN := Lib.hid hzN
          clear hbN hr HR3 HA3 HBB3 HM3 HB3 HL3 HZ3 HW3 hzN d0 d1 p0
          gi_wp2_with fail
          clear d0'
          refine ⟨trivial, rfl, (callsIn_wide.2 (clone_any xs _ wo HAW.out (by rw [HNX.out]; omega) (by rw [HNX.out]; omega))).mono ?_⟩
          rintro e w5 ⟨g, c, rfl, hb5, hown⟩
          rw [HNX.out] at hown ⊢
          obtain ⟨Q, hQ⟩ : ∃ Q, w5.heap.size = Q := ⟨_, rfl⟩
          obtain ⟨w6, hw6⟩ : ∃ w6, w5.alloc (.cells #[.slice (some ⟨g, 0, none⟩) n c] 96) = w6 := ⟨_, rfl⟩
          have hb6' : Below w5.heap.size w5 w6 := by rw [← hw6]; exact aB _ _
          have hb6 := bThen hb5 hb6'
          have hz6 : w6.heap.size = Q + 1 := by rw [← hw6]; simp [hQ]
          have q0 : w6.cell? ⟨Q, 0, none⟩ = some (.slice (some ⟨g, 0, none⟩) n c) := by rw [← hw6, ← hQ]; exact cell_new _ _ _
          have hgb := owns_blk hown
          have p6 := bAt hb6 p0'
          have p7 : (w5.alloc (.cells #[.slice (some ⟨g, 0, none⟩) n c] 96)).cell? ⟨M + 1 + 1 + 1, 0, none⟩ = some (.pointer (some ⟨M + 1 + 1, 0, none⟩)) := by rw [hw6]; exact p6
          have HOWN := Lib.hid (owns_kept hown (W' := w6) fun q hq => by cases hq; exact hb6'.block _ (owns_blk hown).2)
          have HL6 := Lib.hid (HL.out.below hb6)
          have HR6 := Lib.hid (HRN.out.below hb6)
          have HBB6 := Lib.hid (HBW.out.below hb6)
          have HB6 := Lib.hid (HBN.out.trans (hb6.mono (by have := HZN.out; have := HMN.out; omega)))
          have HG := Lib.hid (show M + 4 ≤ g ∧ g < Q by have := HZN.out; omega)
          have HW6 := Lib.hid hw6
          have HZ6 := Lib.hid hz6
          have HQ := Lib.hid hQ
          have HBASE := Lib.hid (show N ≤ wo.heap.size by have := HZN.out; have := HMN.out; omega)
          clear hb5 hb6' hb6 hw6 hown hgb HAW HBW HL HRN HBN HZN p0'
          gi_wp2_with fail
          rw [HW6.out]
          refine wpIn_range (t := 44) (gf := 44) (fa := #[.pointer (some ⟨M + 1 + 1, 0, none⟩)]) (lb := #[]) rfl (enters_of Try.func44 (by kernel_rfl) rfl)
            (sorted_in (M + 1 + 1) M (M + 1) _ _ E w6 (fun q => q = M + 1 + 1 ∨ q = M) HL6.out (by have := HE.out.2; have := HLEN.out; omega) (.inl rfl) (.inr rfl))
            (fun pre O W => PI N g n c wo.heap.size xs ys (sortE E) pre O W) (fun c' _ O W => c' = .ret ∧ PX N g xs ys (sortE E) O W)
            (fun pre O X Y h _ _ _ _ hk => h.keep fun q h1 h2 => hk q h1 (.inl h2)) (fun c' pre O X Y h _ _ _ _ hk => ⟨h.1, h.2.keep fun q h1 h2 => hk q h1 (.inl h2)⟩)
            (fun q => q = g ∨ q = N + 1 ∨ q = N + 1 + 1 ∨ q = N + 1 + 1 + 1) (fun q hq => by have := HG.out; have := HZ6.out; have := HMN.out; omega) (fun q hq => by have := HG.out; have := HZ6.out; have := HMN.out; omega)
            ⟨fun _ => Iff.rfl, xs, HOWN.out, HR6.out, rfl, hok⟩
            (fun b args O W' h => by subst h; rfl) ?round ?done ?stop
          case round =>
            rintro l pre ⟨⟨x0, x1, x2, x3⟩, i⟩ post args O₁ W₁ hL hl1 hl2 hnl hnl' hrel hI henc
            subst henc
            clear hI
            have hmem := sortE_mem HE.out.1.nodup (e := ((x0, x1, x2, x3), i)) (by rw [hL]; simp)
            obtain ⟨hb0, hbF, hbT, hne, hbm⟩ := moveErr_zero (HE.out.1.valid _ hmem.1)
            simp only at hb0 hbF hbT hne hbm
            obtain ⟨F, rfl⟩ : ∃ F : Nat, x1 = F := ⟨x1.toNat, by omega⟩
            obtain ⟨T, rfl⟩ : ∃ T : Nat, x2 = T := ⟨x2.toNat, by omega⟩
            have HNE := Lib.hid hmem.2
            have HLL := Lib.hid hL
            clear hmem hL
            unfold mvV
            gi_wp2_with fail
            refine ⟨aB _ _, ?_⟩
            rintro W₃ hon ⟨hO, has, how, hres, hrun, hok3⟩
            have keep6 : ∀ (b o : Nat) (u : Value), w6.cell? ⟨b, o, none⟩ = some u → (¬ (b = g ∨ b = N + 1 ∨ b = N + 1 + 1 ∨ b = N + 1 + 1 + 1)) → W₃.cell? ⟨b, o, none⟩ = some u := fun b o u hu hb => (hon.cell _).trans (bAt (aB _ _) (rAt hrel hu hb))
            obtain ⟨bc, oc, hac, hbc, hcc⟩ := HBB6.out.cell (show F < ys.length by rw [HYL.out]; omega)
            cases hac
            obtain ⟨cF, hcF⟩ : ∃ cF, ys[F]'(by rw [HYL.out]; omega) = cF := ⟨_, rfl⟩
            rw [hcF] at hcc
            have hcF2 : ys.getD F 0 = cF := by rw [← hcF, List.getD_eq_getElem?_getD, List.getElem?_eq_getElem (by rw [HYL.out]; omega)]; rfl
            have bF := hok3.bd F (by omega)
            have bT := hok3.bd T (by omega)
            have byF := HYB.out F (by omega)
            have byT := HYB.out T (by omega)
            have hFT : F ≠ T := by omega
            have hlen := hok3.len
            have m0 : W₃.cell? ⟨W₁.heap.size, 0, none⟩ = some (.int .i64 x0) := (hon.cell _).trans (by simp)
            have m1 : W₃.cell? ⟨W₁.heap.size, 1, none⟩ = some (.int .i64 F) := (hon.cell _).trans (by simp)
            have m2 : W₃.cell? ⟨W₁.heap.size, 2, none⟩ = some (.int .i64 T) := (hon.cell _).trans (by simp)
            have m3 : W₃.cell? ⟨W₁.heap.size, 3, none⟩ = some (.int .i64 x3) := (hon.cell _).trans (by simp)
            have q3 := keep6 _ _ _ q0 (by have := HG.out; have := HMN.out; omega)
            have hgW : g < W₁.heap.size := by have := HG.out; have := hrel.size; have := HZ6.out; omega
            have HKEEP := Lib.hid keep6
            clear keep6
            gi_wp2_with fail
            refine ⟨trivial, rfl, (callsIn_open (open_round l) (move_any has wo.heap.size g c n x0 x3 F T W₃ how (by omega) (by omega) (by omega) (by
              have : (has.set F (has.getD F 0 - x3)).getD T 0 = has.getD T 0 := by rw [List.getD_eq_getElem?_getD, List.getElem?_set_ne hFT, ← List.getD_eq_getElem?_getD]
              rw [this]; omega))).mono ?_⟩
            rintro e W4 ⟨rfl, ho4, hg4⟩
            clear q3 m3
            have keep4 : ∀ (b o : Nat) (u : Value), W₃.cell? ⟨b, o, none⟩ = some u → b ≠ g → W4.cell? ⟨b, o, none⟩ = some u := fun b o u hu hb => (World.cell?_of_block (w := W₃) (hg4.block b (World.block_lt_of_cell? W₃ _ hu) (fun e => hb (Option.some.inj e)))).trans hu
            have q4 := keep4 _ _ _ (HKEEP.out _ _ _ q0 (by have := HG.out; have := HMN.out; omega)) (by have := HG.out; omega)
            have p4 := keep4 _ _ _ (HKEEP.out _ _ _ p6 (by have := HG.out; have := HMN.out; omega)) (by have := HG.out; omega)
            have l1 : W4.cell? ⟨M + 1 + 1, 1, none⟩ = some (.slice (some ⟨bc, oc, none⟩) ys.length cap') := keep4 _ _ _ (HKEEP.out _ _ _ (by rw [cell_of_heap HL6.out.box]; rfl) (by have := HG.out; have := HMN.out; omega)) (by have := HG.out; omega)
            have l3 : W4.cell? ⟨M + 1 + 1, 3, none⟩ = some (.map (some (M + 1))) := keep4 _ _ _ (HKEEP.out _ _ _ (by rw [cell_of_heap HL6.out.box]; rfl) (by have := HG.out; have := HMN.out; omega)) (by have := HG.out; omega)
            have cc := keep4 _ _ _ (HKEEP.out _ _ _ hcc (by have := HG.out; have := HMN.out; omega)) (by have := HG.out; have := HMN.out; omega)
            replace m0 := keep4 _ _ _ m0 (by omega)
            replace m1 := keep4 _ _ _ m1 (by omega)
            replace m2 := keep4 _ _ _ m2 (by omega)
            obtain ⟨vF, hvF⟩ : ∃ vF, (mvL has F T x3).getD F 0 = vF := ⟨_, rfl⟩
            obtain ⟨vT, hvT⟩ : ∃ vT, (mvL has F T x3).getD T 0 = vT := ⟨_, rfl⟩
            have nF : W4.cell? ⟨g, F, none⟩ = some (.int .i64 vF) := by rw [ho4.cellAt F (by omega), intsAt (by simp; omega), ← getD_at (by simp; omega), hvF]
            have nT : W4.cell? ⟨g, T, none⟩ = some (.int .i64 vT) := by rw [ho4.cellAt T (by omega), intsAt (by simp; omega), ← getD_at (by simp; omega), hvT]
            have hM4 : W4.heap[M + 1]? = w6.heap[M + 1]? := by
              have h1 : M + 1 < w6.heap.size := HL6.out.at_.lt
              have h2 := hrel.size
              exact (hg4.block _ (by rw [hon.size]; simp; omega) (fun e => by have := HG.out; have := Option.some.inj e; omega)).trans ((hon.block _ (by omega)).trans ((Below.heap_alloc _ _ _ (by omega)).trans (hrel.block _ h1 (by have := HG.out; have := HMN.out; omega))))
            have HM4 := Lib.hid (HL6.out.at_.keep hM4)
            have hlk : ∀ W, MapAt (Value.int .i64) W (M + 1) (firL E) → (Instr.lookup 84 (.map (some (M + 1))) (.int .i64 x0) false).run Try.prog W = .ok (.int .i64 (i : Nat)) W := fun W hW => by
              have := MapAt.lookup int_key (T := 84) (E := 3) (by rfl) (zero_i W) hW x0 false
              rw [this, look_fir, show numE E x0 = _ from HNE.out]; rfl
            have HLK := Lib.hid hlk
            have hO3 : ∀ k, O₁ k → k < W₃.heap.size := fun k hk => by
              have h1 := hres.lt
              have h2 : g < W₃.heap.size := (owns_blk how).2
              rcases (hO k).1 hk with rfl | rfl | rfl | rfl <;> omega
            have HREL4 := Lib.hid (Rel.grown hg4 ((hO g).2 (.inl rfl)) hO3)
            have hr4 : Res3 N W4 (.slice none 0 0) 0 0 := by
              have h1 := hres.lt
              exact hres.keep (hg4.block _ (by omega) fun e => by have := Option.some.inj e; have := HG.out; have := HMN.out; omega) (hg4.block _ (by omega) fun e => by have := Option.some.inj e; have := HG.out; have := HMN.out; omega) (hg4.block _ (by omega) fun e => by have := Option.some.inj e; have := HG.out; have := HMN.out; omega)
            have HR4 := Lib.hid hr4
            have hdrop : (sortE E).drop pre.length = ((x0, (F : Int), (T : Int), x3), i) :: post := by rw [HLL.out, List.drop_left]
            have hdrop2 : (sortE E).drop (pre ++ [(((x0, (F : Int), (T : Int), x3) : Mv), i)]).length = post := by
              rw [List.length_append, ← List.drop_drop, hdrop]; rfl
            have HSTEP : Hid (runMv ys xs (sortE E) = if vF < -cF then ([], (i : Int), 9) else if 1000000000 < vT then ([], (i : Int), 8) else runMv ys (mvL has F T x3) post) := Lib.hid (by rw [hrun, hdrop, run_step, hvF, hvT, hcF2])
            have HD2 := Lib.hid hdrop2
            have HOK3 := Lib.hid hok3
            have HO := Lib.hid hO
            have HO4 := Lib.hid ho4
            have HVF := Lib.hid hvF
            have HVT := Lib.hid hvT
            have HCF := Lib.hid hcF2
            obtain ⟨t1, ht1⟩ : ∃ t, decide (vF < -cF) = t := ⟨_, rfl⟩
            obtain ⟨t2, ht2⟩ : ∃ t, decide (1000000000 < vT) = t := ⟨_, rfl⟩
            have HT1 := Lib.hid ht1
            have HT2 := Lib.hid ht2
            have hFn : F < n := by omega
            have hFy : F < ys.length := by rw [HYL.out]; omega
            have hTn : T < n := by omega
            have hTni : (T : Int) < (n : Int) := by omega
            have hngc : IntKind.i64.wrap (-cF) = -cF := by rw [← hcF2]; exact wrap_small _ (by omega) (by omega)
            have HMB := Lib.hid (And.intro hFT hbm)
            clear hcc hdrop hdrop2 hrun hok3 hres hr4 hO hO3 ho4 hg4 hvF hvT hcF2 hcF how hlk hM4 keep4 hon bF bT byF byT hlen
            gi_wp2_with fail
            refine wpIn_region_seq 17 [.is ?_, .is ?_, .is ?_, .is ?_, .is ?_, .is ?_, .is ?_, .is ?_, .is ?_, .is ?_, .is ?_, .is ?_, .is ?_, .is ?_, .is ?_, .is (.bool t1), .is ?_] rfl mix (open_round l) (by kernel_rfl) (by kernel_rfl) (by kernel_rfl) ?seqm
            case seqm =>
              simp only [List.take_succ_cons, List.take_zero]
              iterate 17
                refine seq_is rfl (fun u1 hb1 _ => ?_) ?_
                · have q4' := bAt hb1 q4
                  have m1' := bAt hb1 m1
                  have nF' := bAt hb1 nF
                  have p4' := bAt hb1 p4
                  have l1' := bAt hb1 l1
                  have cc' := bAt hb1 cc
                  simp [opOK, go_sem, q4', m1', nF', p4', l1', cc', hFn, hFy, hngc, ht1, Below.refl]
                  try exact rfl
                simp only [Act.put, List.setIfInBounds_toArray, List.set_cons_succ, List.set_cons_zero]
              refine seq_end fun W5 hb5 _ => ?_
              simp only [List.drop_succ_cons, List.drop_zero]
              have q5 := bAt hb5 q4
              have p5 := bAt hb5 p4
              replace l3 := bAt hb5 l3
              replace m0 := bAt hb5 m0
              replace m1 := bAt hb5 m1
              replace m2 := bAt hb5 m2
              replace nT := bAt hb5 nT
              have HM5 := Lib.hid (HM4.out.below hb5)
              have HREL5 := Lib.hid (HREL4.out.ext hb5)
              have HR5 := Lib.hid (HR4.out.below hb5)
              have HO5 := Lib.hid (ownsN_below HO4.out hb5)
              clear hb5 q4 p4 l1 cc nF hngc HM4 HREL4 HR4 HO4 ht1
              cases t1
              · cases t2
                · gi_wp2_with fail
                  exact ⟨O₁, HREL5.out, HO.out, mvL has F T x3, HO5.out, HR5.out, by rw [HSTEP.out, if_neg (of_decide_eq_false HT1.out), if_neg (of_decide_eq_false HT2.out), HD2.out], HOK3.out.step hFn hTn HMB.out.1 HMB.out.2.1 (by rw [HVF.out, HCF.out]; exact of_decide_eq_false HT1.out) (by rw [HVT.out]; exact of_decide_eq_false HT2.out)⟩
                · gi_wp2_with fail
                  clear nT ht2
                  refine wpIn_region_gen 8 (fun j v _ => match j with
                    | 0 | 1 => v = .pointer (some ⟨M + 1 + 1, 0, none⟩)
                    | 2 => v = .pointer (some ⟨M + 1 + 1, 3, none⟩)
                    | 3 => v = .map (some (M + 1))
                    | 4 => v = .pointer (some ⟨W₁.heap.size, 0, none⟩)
                    | 5 => v = .int .i64 x0
                    | 6 => v = .int .i64 (i : Nat)
                    | _ => True) (fun _ W => SameW W5 W) mix (open_round l) (by kernel_rfl) (by kernel_rfl) (SameW.drew _) ?_ ?_
                  · refine ⟨?_, ?_, ?_, ?_, ?_, ?_, ?_, ?_, trivial⟩
                    all_goals refine gen_plain rfl fun a W L hSi hJ hpre ht' => ?_
                    all_goals
                      simp [Region.binds] at hpre
                      have t7 := ht' 7 rfl
                      have t12 := ht' 12 rfl
                      have t4 := ht' 4 rfl
                      simp at t7 t12 t4
                      have p5' := hJ.cell p5
                      have l3' := hJ.cell l3
                      have m0' := hJ.cell m0
                      have hlk' := HLK.out W (MapAt.keep HM5.out (by rw [hJ.heap]))
                    iterate 7
                      (· simp [opOK, go_sem, t7, t12, hpre, p5', l3', m0', hlk']
                         exact ⟨hJ, fun j _ _ v h _ => h⟩)
                    · have r1' := hJ.cell HR5.out.cells.1
                      have f1' := hJ.frozen HR5.out.free.1
                      simp [opOK, go_sem, t4, r1', f1']
                      exact ⟨hJ.set HR5.out.r1, fun j _ _ v h _ => h⟩
                  intro W6 hJ
                  simp only [List.take_succ_cons, List.take_zero, List.drop_succ_cons, List.drop_zero, EndAll]
                  rintro _ rfl _ rfl _ rfl _ rfl _ rfl _ rfl _ rfl v7 -
                  have hr6 : Res3 N W6 (.slice none 0 0) 0 0 := HR5.out.keep (by rw [hJ.heap]) (by rw [hJ.heap]) (by rw [hJ.heap])
                  have hrel6 := HREL5.out.trans (hJ.rel HREL5.out.lt)
                  obtain ⟨-, z2, z3⟩ := hr6.cells
                  obtain ⟨-, f2, f3⟩ := hr6.free
                  have hrel7 := (hrel6.setCell (p := ⟨N + 1 + 1, 0, none⟩) ((HO.out _).2 (.inr (.inr (.inl rfl)))) (.int .i64 i)).setCell (p := ⟨N + 1 + 1 + 1, 0, none⟩) ((HO.out _).2 (.inr (.inr (.inr rfl)))) (.int .i64 8)
                  have hres7 := hr6.set2 i 8
                  have HRES7 := Lib.hid hres7
                  have HREL7 := Lib.hid hrel7
                  simp only [Act.put, List.setIfInBounds_toArray, List.set_cons_succ, List.set_cons_zero]
                  clear hr6 hrel6 hrel7 hres7 hJ v7 p5 l3 m0 m1 m2
                  gi_wp2
                  exact ⟨O₁, HREL7.out, rfl, HO.out, i, 8, HRES7.out, by rw [HSTEP.out, if_neg (of_decide_eq_false HT1.out), if_pos (of_decide_eq_true HT2.out)]⟩
              · gi_wp2_with fail
                refine wpIn_region_gen 8 (fun j v _ => match j with
                  | 0 | 1 => v = .pointer (some ⟨M + 1 + 1, 0, none⟩)
                  | 2 => v = .pointer (some ⟨M + 1 + 1, 3, none⟩)
                  | 3 => v = .map (some (M + 1))
                  | 4 => v = .pointer (some ⟨W₁.heap.size, 0, none⟩)
                  | 5 => v = .int .i64 x0
                  | 6 => v = .int .i64 (i : Nat)
                  | _ => True) (fun _ W => SameW W5 W) mix (open_round l) (by kernel_rfl) (by kernel_rfl) (SameW.drew _) ?_ ?_
                · refine ⟨?_, ?_, ?_, ?_, ?_, ?_, ?_, ?_, trivial⟩
                  all_goals refine gen_plain rfl fun a W L hSi hJ hpre ht' => ?_
                  all_goals
                    simp [Region.binds] at hpre
                    have t7 := ht' 7 rfl
                    have t12 := ht' 12 rfl
                    have t4 := ht' 4 rfl
                    simp at t7 t12 t4
                    have p5' := hJ.cell p5
                    have l3' := hJ.cell l3
                    have m0' := hJ.cell m0
                    have hlk' := HLK.out W (MapAt.keep HM5.out (by rw [hJ.heap]))
                  iterate 7
                    (· simp [opOK, go_sem, t7, t12, hpre, p5', l3', m0', hlk']
                       exact ⟨hJ, fun j _ _ v h _ => h⟩)
                  · have r1' := hJ.cell HR5.out.cells.1
                    have f1' := hJ.frozen HR5.out.free.1
                    simp [opOK, go_sem, t4, r1', f1']
                    exact ⟨hJ.set HR5.out.r1, fun j _ _ v h _ => h⟩
                intro W6 hJ
                simp only [List.take_succ_cons, List.take_zero, List.drop_succ_cons, List.drop_zero, EndAll]
                rintro _ rfl _ rfl _ rfl _ rfl _ rfl _ rfl _ rfl v7 -
                have hr6 : Res3 N W6 (.slice none 0 0) 0 0 := HR5.out.keep (by rw [hJ.heap]) (by rw [hJ.heap]) (by rw [hJ.heap])
                have hrel6 := HREL5.out.trans (hJ.rel HREL5.out.lt)
                obtain ⟨-, z2, z3⟩ := hr6.cells
                obtain ⟨-, f2, f3⟩ := hr6.free
                have hrel7 := (hrel6.setCell (p := ⟨N + 1 + 1, 0, none⟩) ((HO.out _).2 (.inr (.inr (.inl rfl)))) (.int .i64 i)).setCell (p := ⟨N + 1 + 1 + 1, 0, none⟩) ((HO.out _).2 (.inr (.inr (.inr rfl)))) (.int .i64 9)
                have hres7 := hr6.set2 i 9
                have HRES7 := Lib.hid hres7
                have HREL7 := Lib.hid hrel7
                simp only [Act.put, List.setIfInBounds_toArray, List.set_cons_succ, List.set_cons_zero]
                clear hr6 hrel6 hrel7 hres7 hJ v7 p5 l3 m0 m1 m2
                gi_wp2
                exact ⟨O₁, HREL7.out, rfl, HO.out, i, 9, HRES7.out, by rw [HSTEP.out, if_pos (of_decide_eq_true HT1.out)]⟩
          case done =>
            rintro D O₁ W' hD hnD hrel ⟨hO, has, how, hres, hrun, hok3⟩ hDD
            have hrs : rs = (has, 0, 0) := by rw [RS3.out, hrun, List.drop_eq_nil_of_le (Nat.le_refl _)]; rfl
            clear RS3
            subst hrs
            have q7 := rAt hrel q0 (by have := HG.out; have := HMN.out; omega)
            obtain ⟨z1, z2, z3⟩ := hres.cells
            obtain ⟨f1, f2, f3⟩ := hres.free
            have hbW : Below N w W' := HB6.out.trans (hrel.below (by have := HZ6.out; have := HG.out; have := HMN.out; omega) fun k hk h => by have := HG.out; have := HMN.out; omega)
            have hDN : N + 1 + 1 + 1 < D ∧ g < D := by have := HZ6.out; have := HG.out; have := HMN.out; omega
            have HR7 := Lib.hid hres
            have HBW' := Lib.hid hbW
            have HDN := Lib.hid hDN
            have HDD := Lib.hid hDD
            have HOW := Lib.hid how
            clear hO how hres hrun hok3 hDD hrel hbW hDN p6 p7 hD hnD hok
            gi_wp2_with fail
            have hmk : Marks 0 W' [D] := (Marks.nil _ _).cons HDD.out (Nat.zero_le _) (by simp)
            refine leave_marks [D] _ (((hmk.setCell ⟨N + 1, 0, none⟩ _ (by have := HDN.out; simp; omega)).setCell ⟨N + 1 + 1, 0, none⟩ _ (by have := HDN.out; simp; omega)).setCell ⟨N + 1 + 1 + 1, 0, none⟩ _ (by have := HDN.out; simp; omega)) fun W'' hp => ?_
            refine ⟨_, post_results _ rfl rfl rfl ((HR7.out.set (.slice (some ⟨g, 0, none⟩) n c) 0 0).passed hp (by intro D' hD'; have := HDN.out; simp at hD'; omega)), _, rfl, (Res3.out_ HBW'.out).trans (hp.below (by intro D' hD'; have := HDN.out; simp at hD'; omega)), ?_⟩
            have hg1 : N + 4 < g := by have := HG.out; have := HMN.out; omega
            refine (Sl.of_owns (owns_kept HOW.out (W' := W'') fun q hq => ?_)).mono fun k hk => Nat.le_trans HBASE.out hk
            cases hq
            refine (hp.block g (by have := HDN.out; simp; omega)).trans ((Below.heap_setCell _ _ _ _ (by simp; omega)).trans ((Below.heap_setCell _ _ _ _ (by simp; omega)).trans (Below.heap_setCell _ _ _ _ (by simp; omega))))
          case stop =>
            rintro D c' pre O₁ W' hD hnD hpre hrel ⟨rfl, hO, i, er, hres, hrun⟩ hDD
            have hrs : rs = ([], (i : Int), er) := by rw [RS3.out, hrun]
            clear RS3
            subst hrs
            have hbW : Below N w W' := HB6.out.trans (hrel.below (by have := HZ6.out; have := HG.out; have := HMN.out; omega) fun k hk h => by have := HG.out; have := HMN.out; omega)
            have hDN : N + 1 + 1 + 1 < D := by have := HZ6.out; have := HG.out; have := HMN.out; omega
            have HR7 := Lib.hid hres
            have HBW' := Lib.hid hbW
            have HDN := Lib.hid hDN
            have HDD := Lib.hid hDD
            clear hO hres hrun hDD hrel hbW hDN p6 p7 hD hnD hok
            gi_wp2_with fail
            have hmk : Marks 0 W' [D] := (Marks.nil _ _).cons HDD.out (Nat.zero_le _) (by simp)
            refine leave_marks [D] _ hmk fun W'' hp => ?_
            exact ⟨_, post_results _ rfl rfl rfl (HR7.out.passed hp (by intro D' hD'; have := HDN.out; simp at hD'; omega)), _, rfl, HBW'.out.trans (hp.below (by intro D' hD'; have := HDN.out; simp at hD'; omega)), Sl.nil _ _⟩
end Go.Proofs.Ytagfcodpgochjaa

/- Insertion sort of distinct things, in plain Lean: r is greater first; of equals the lesser number first. -/
namespace Go.Oche
open Go Go.RowKit

/-- x stands before y. -/
def befo (r : Int → Int) (x y : Int) : Prop := r y < r x ∨ (r x = r y ∧ x < y)
def at0 (l : List Int) (i : Nat) : Int := l.getD i 0
theorem at0_eq {l : List Int} {i : Nat} (h : i < l.length) : at0 l i = l[i] := by rw [at0, List.getD_eq_getElem?_getD, List.getElem?_eq_getElem h]; rfl
/-- The elements from a on, below i, stand in order; the others are where they were. -/
structure SegOk (r : Int → Int) (xs : List Int) (a b i : Nat) (ys : List Int) : Prop where
  len : ys.length = xs.length
  out : ∀ q, q < a ∨ i ≤ q → at0 ys q = at0 xs q
  ord : ∀ p q, a ≤ p → p < q → q < i → befo r (at0 ys p) (at0 ys q)
  low : ∀ p q, a ≤ p → p < i → i ≤ q → q < b → at0 ys p < at0 xs q
  perm : ys.Perm xs
/-- The element of place i has come to place j. -/
structure SlideOk (r : Int → Int) (ys : List Int) (a i j : Nat) (zs : List Int) : Prop where
  len : zs.length = ys.length
  at_ : ∀ q, q < ys.length → at0 zs q = if q < j then at0 ys q else if q = j then at0 ys i else if q ≤ i then at0 ys (q - 1) else at0 ys q
  gt : ∀ q, j ≤ q → q < i → r (at0 ys q) < r (at0 ys i)
  perm : zs.Perm ys
  rng : a ≤ j ∧ j ≤ i
theorem SegOk.start {r : Int → Int} {xs : List Int} {a b : Nat} (_hb : b ≤ xs.length) (h : ∀ p q, a ≤ p → p < q → q < b → at0 xs p < at0 xs q) : SegOk r xs a b (a + 1) xs :=
  ⟨rfl, fun _ _ => rfl, fun p q h1 h2 h3 => by omega, fun p q h1 h2 h3 h4 => h p q h1 (by omega) h4, List.Perm.refl _⟩
theorem SlideOk.start {r : Int → Int} {ys : List Int} {a i : Nat} (ha : a ≤ i) : SlideOk r ys a i i ys := by
  refine ⟨rfl, fun q hq => ?_, fun q h1 h2 => by omega, List.Perm.refl _, ha, Nat.le_refl _⟩
  by_cases h1 : q < i
  · rw [if_pos h1]
  · rw [if_neg h1]
    by_cases h2 : q = i
    · rw [if_pos h2, h2]
    · rw [if_neg h2, if_neg (by omega)]
theorem at0_set {l : List Int} {i : Nat} (h : i < l.length) (x : Int) (q : Nat) : at0 (l.set i x) q = if q = i then x else at0 l q := by
  unfold at0
  by_cases e : q = i
  · subst e; rw [if_pos rfl, List.getD_eq_getElem?_getD, List.getElem?_set_self h]; rfl
  · rw [if_neg e, List.getD_eq_getElem?_getD, List.getElem?_set_ne (fun h => e h.symm), ← List.getD_eq_getElem?_getD]
theorem SlideOk.step {r : Int → Int} {ys zs : List Int} {a i j : Nat} (h : SlideOk r ys a i j zs) (hj : a < j) (hi : i < ys.length) (hlt : r (at0 zs (j - 1)) < r (at0 zs j)) :
    SlideOk r ys a i (j - 1) ((zs.set j (at0 zs (j - 1))).set (j - 1) (at0 zs j)) := by
  obtain ⟨hl, hat, hgt, hp, hr1, hr2⟩ := h
  have e1 : at0 zs (j - 1) = at0 ys (j - 1) := by rw [hat _ (by omega), if_pos (by omega)]
  have e2 : at0 zs j = at0 ys i := by rw [hat _ (by omega), if_neg (by omega), if_pos rfl]
  refine ⟨by simp [hl], fun q hq => ?_, fun q h1 h2 => ?_, ?_, by omega, by omega⟩
  · rw [at0_set (by simp; omega), at0_set (by omega), e1, e2]
    by_cases h1 : q = j - 1
    · rw [if_pos h1, if_neg (by omega), if_pos h1]
    · rw [if_neg h1]
      by_cases h2 : q = j
      · rw [if_pos h2, if_neg (by omega), if_neg (by omega), if_pos (by omega), h2]
      · rw [if_neg h2, hat q hq]
        by_cases h3 : q < j
        · rw [if_pos h3, if_pos (by omega)]
        · rw [if_neg h3, if_neg h2, if_neg (show ¬ q < j - 1 by omega), if_neg h1]
  · by_cases e : q = j - 1
    · subst e; rw [e1, e2] at hlt; exact hlt
    · exact hgt q (by omega) h2
  · refine List.Perm.trans ?_ hp
    have hz1 : j < zs.length := by omega
    have hz2 : j - 1 < zs.length := by omega
    have := List.set_set_perm hz1 hz2
    rw [← at0_eq hz1, ← at0_eq hz2] at this
    exact this
theorem SegOk.next {r : Int → Int} {xs ys zs : List Int} {a b i j : Nat} (h : SegOk r xs a b i ys) (s : SlideOk r ys a i j zs) (hi : i < b) (hb : b ≤ xs.length) (ha : a ≤ i) (hx : ∀ p q, a ≤ p → p < q → q < b → at0 xs p < at0 xs q)
    (hend : j = a ∨ ¬ r (at0 zs (j - 1)) < r (at0 zs j)) : SegOk r xs a b (i + 1) zs := by
  obtain ⟨hl, hout, hord, hlow, hperm⟩ := h
  obtain ⟨sl, sat, sgt, sp, sr1, sr2⟩ := s
  have xi : at0 ys i = at0 xs i := hout i (.inr (Nat.le_refl _))
  have lo : ∀ p, a ≤ p → p < i → at0 ys p < at0 ys i := fun p h1 h2 => by rw [xi]; exact hlow p i h1 h2 (Nat.le_refl _) hi
  have hend' : j = a ∨ r (at0 ys i) ≤ r (at0 ys (j - 1)) := by
    rcases hend with h | h
    · exact .inl h
    · by_cases hja : j = a
      · exact .inl hja
      · right
        rw [sat _ (by omega), if_pos (by omega), sat _ (by omega), if_neg (by omega), if_pos rfl] at h
        omega
  refine ⟨by omega, fun q hq => ?_, fun p q h1 h2 h3 => ?_, fun p q h1 h2 h3 h4 => ?_, sp.trans hperm⟩
  · by_cases hql : q < ys.length
    · rw [sat q hql]
      rcases hq with hq | hq
      · rw [if_pos (by omega)]; exact hout q (.inl hq)
      · rw [if_neg (by omega), if_neg (by omega), if_neg (by omega)]; exact hout q (.inr (by omega))
    · have e1 : at0 zs q = 0 := by rw [at0, List.getD_eq_getElem?_getD, List.getElem?_eq_none (by omega)]; rfl
      have e2 : at0 xs q = 0 := by rw [at0, List.getD_eq_getElem?_getD, List.getElem?_eq_none (by omega)]; rfl
      rw [e1, e2]
  · rw [sat p (by omega), sat q (by omega)]
    by_cases p1 : p < j
    · rw [if_pos p1]
      by_cases q1 : q < j
      · rw [if_pos q1]; exact hord p q h1 h2 (by omega)
      · rw [if_neg q1]
        by_cases q2 : q = j
        · rw [if_pos q2]
          have l1 := lo p h1 (by omega)
          rcases hend' with e | e
          · omega
          · by_cases e3 : p = j - 1
            · subst e3; unfold befo; omega
            · have := hord p (j - 1) h1 (by omega) (by omega)
              have l2 := lo (j - 1) (by omega) (by omega)
              unfold befo at this ⊢
              omega
        · rw [if_neg q2, if_pos (by omega)]; exact hord p (q - 1) h1 (by omega) (by omega)
    · rw [if_neg p1, if_neg (show ¬ q < j by omega), if_neg (show ¬ q = j by omega), if_pos (show q ≤ i by omega)]
      by_cases p2 : p = j
      · rw [if_pos p2]; exact .inl (sgt (q - 1) (by omega) (by omega))
      · rw [if_neg p2, if_pos (by omega)]; exact hord (p - 1) (q - 1) (by omega) (by omega) (by omega)
  · rw [sat p (by omega)]
    by_cases p1 : p < j
    · rw [if_pos p1]; exact hlow p q h1 (by omega) (by omega) h4
    · rw [if_neg p1]
      by_cases p2 : p = j
      · rw [if_pos p2, xi]; exact hx i q ha (by omega) h4
      · rw [if_neg p2, if_pos (by omega)]; exact hlow (p - 1) q (by omega) (by omega) (by omega) h4
end Go.Oche

/- Chapter 12: sharing: which remainder is greater; insertion sort by it. -/
namespace Go.Proofs.Ytagfcodpgochjaa
open Go.RowKit Go.Oche Go.Proofs

/-- The remainder of a weight. -/
def restOf (amount sum : Int) (ws : List Int) (i : Int) : Int := (amount * ws.getD i.toNat 0) % sum
/-- What Share's comparison reads. -/
structure CmpAt (W : World) (pa pw ps : Nat) (amount sum : Int) (ws : List Int) (sv : Value) (S : Nat → Prop) : Prop where
  a : W.cell? ⟨pa, 0, none⟩ = some (.int .i64 amount)
  w : W.cell? ⟨pw, 0, none⟩ = some sv
  s : W.cell? ⟨ps, 0, none⟩ = some (.int .i64 sum)
  sl : Sl S W sv (ints ws)
theorem CmpAt.below {W W' : World} {pa pw ps : Nat} {amount sum : Int} {ws : List Int} {sv : Value} {S : Nat → Prop} (h : CmpAt W pa pw ps amount sum ws sv S) (hb : Below W.heap.size W W') : CmpAt W' pa pw ps amount sum ws sv S :=
  ⟨bAt hb h.a, bAt hb h.w, bAt hb h.s, h.sl.below hb⟩
theorem CmpAt.grown {W W' : World} {pa pw ps g : Nat} {amount sum : Int} {ws : List Int} {sv : Value} {S : Nat → Prop} (h : CmpAt W pa pw ps amount sum ws sv S) (hg : W.grownBy W' (some g)) (h1 : pa ≠ g) (h2 : pw ≠ g) (h3 : ps ≠ g) (h4 : ∀ k, S k → k ≠ g) : CmpAt W' pa pw ps amount sum ws sv S :=
  ⟨hg.cell h.a (by simpa using h1), hg.cell h.w (by simpa using h2), hg.cell h.s (by simpa using h3), h.sl.cells fun b o hb hs => by
    obtain ⟨x, hx⟩ := Option.isSome_iff_exists.1 hs
    rw [hx]; exact hg.cell hx (by simpa using h4 b hb)⟩
theorem mul_bd {a b : Int} (ha : 0 ≤ a ∧ a ≤ 1000000000) (hb : 0 ≤ b ∧ b ≤ 10000) : 0 ≤ a * b ∧ a * b ≤ 10000000000000 :=
  ⟨Int.mul_nonneg ha.1 hb.1, Int.le_trans (Int.mul_le_mul_of_nonneg_right ha.2 hb.1) (by omega)⟩
set_option maxRecDepth 100000 in
theorem share1_any {S : Nat → Prop} (amount sum : Int) (ws : List Int) (sv : Value) (pa pw ps i j : Nat) (w : World) (h : CmpAt w pa pw ps amount sum ws sv S) (ha : 0 ≤ amount ∧ amount ≤ 1000000000) (hw : ∀ x ∈ ws, 0 ≤ x ∧ x ≤ 10000) (hs : 0 < sum ∧ sum ≤ 1000000) (hi : i < ws.length) (hj : j < ws.length) :
    Calls Try.prog 30 #[.int .i64 i, .int .i64 j, .pointer (some ⟨pa, 0, none⟩), .pointer (some ⟨pw, 0, none⟩), .pointer (some ⟨ps, 0, none⟩)] w fun e w' => e = .returned (.int .i64 (restOf amount sum ws j - restOf amount sum ws i)) ∧ Below w.heap.size w w' := by
  obtain ⟨z1, z2, z3, hsl⟩ := h
  obtain ⟨a, cap, rfl, h2, h3⟩ := hsl.form
  simp only [ints_length] at *
  unfold maxLen at h3
  obtain ⟨b, off, hal, _, ci⟩ := hsl.cell hi
  cases hal
  obtain ⟨b', off', hal, _, cj⟩ := hsl.cell hj
  cases hal
  obtain ⟨x, hx⟩ : ∃ x, ws[i] = x := ⟨_, rfl⟩
  obtain ⟨y, hy⟩ : ∃ y, ws[j] = y := ⟨_, rfl⟩
  have hxb := hx ▸ hw _ (List.getElem_mem hi)
  have hyb := hy ▸ hw _ (List.getElem_mem hj)
  rw [hx] at ci
  rw [hy] at cj
  obtain ⟨p, hp⟩ : ∃ p, amount * x = p := ⟨_, rfl⟩
  obtain ⟨q, hq⟩ : ∃ q, amount * y = q := ⟨_, rfl⟩
  have hpb := hp ▸ mul_bd ha hxb
  have hqb := hq ▸ mul_bd ha hyb
  have r1 : IntKind.i64.wrap p = p := wrap_small _ (by omega) (by omega)
  have r2 : IntKind.i64.wrap q = q := wrap_small _ (by omega) (by omega)
  have t1 : p.tmod sum = p % sum := Int.tmod_eq_emod_of_nonneg hpb.1
  have t2 : q.tmod sum = q % sum := Int.tmod_eq_emod_of_nonneg hqb.1
  have m1 := Int.emod_nonneg p (show sum ≠ 0 by omega)
  have m2 := Int.emod_nonneg q (show sum ≠ 0 by omega)
  have m3 := Int.emod_lt_of_pos p hs.1
  have m4 := Int.emod_lt_of_pos q hs.1
  obtain ⟨u, hu⟩ : ∃ u, p % sum = u := ⟨_, rfl⟩
  obtain ⟨v, hv⟩ : ∃ v, q % sum = v := ⟨_, rfl⟩
  rw [hu] at t1 m1 m3
  rw [hv] at t2 m2 m4
  have r5 : IntKind.i64.wrap u = u := wrap_small _ (by omega) (by omega)
  have r6 : IntKind.i64.wrap v = v := wrap_small _ (by omega) (by omega)
  have r3 : IntKind.i64.wrap (v - u) = v - u := wrap_small _ (by omega) (by omega)
  have s0 : ¬ sum = 0 := by omega
  have R : Hid (restOf amount sum ws j - restOf amount sum ws i = v - u) := Lib.hid (by
    unfold restOf
    simp only [Int.toNat_natCast, List.getD_eq_getElem?_getD, List.getElem?_eq_getElem hi, List.getElem?_eq_getElem hj, Option.getD_some, hx, hy, hp, hq, hu, hv])
  clear hx hy hu hv hxb hyb m1 m2 m3 m4 hsl hw hpb hqb ha hs
  go_enter Try.func30, Try.ntmps30
  go_wp2
  go_quiet (fail)
  go_wp2
  go_ret
  exact ⟨ret_int (by rw [R.out]), bDrew _ _⟩
end Go.Proofs.Ytagfcodpgochjaa
