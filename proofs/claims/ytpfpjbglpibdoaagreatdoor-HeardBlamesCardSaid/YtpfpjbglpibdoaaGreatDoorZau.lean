/- The texts SK, SL, KNA, SeqW, in build order. -/
import Derived.Test.YtpfpjbglpibdoaaGreatDoorZat

/- Chapter 5: Drop. -/
namespace Go.Proofs.YtpfpjbglpibdoaaGreatDoor
open Go Go.RowKit Go.Oche Go.Proofs

theorem GameAt.fence {l : Lg} {F : Nat → Prop} {W : World} {gb hb kb R : Nat} (h : GameAt l F W gb hb kb) (hR : ∀ es c, W.heap[R]? ≠ some (.map es c)) : GameAt l (fun q => F q ∨ q = R) W gb hb kb := by
  refine ⟨h.box, h.hits, ?_, .inl h.fg, .inl h.fh, .inl h.fk, h.hk, h.gk⟩
  obtain ⟨L, h1, h2, h3⟩ := h.known
  refine ⟨L, h1, h2, fun p hp => ?_⟩
  obtain ⟨b, hb1, hb2, hb3⟩ := h3 p hp
  refine ⟨b, hb1, fun hf => hf.elim hb2 fun e => ?_, hb3⟩
  obtain ⟨es, c, ho⟩ := holdsM_obj hb3
  exact hR es c (by rw [← e]; exact ho)
structure JD (l : Lg) (w0 : World) (sl : Value) (L : Nat → Bool) (vs : Nat → Value) (W : World) : Prop where
  below : Below w0.heap.size w0 W
  game : L 1 = true → ∃ gb hb kb, vs 1 = .pointer (some ⟨gb, 0, none⟩) ∧ GameAt l (fun q => q = gb ∨ q = hb ∨ q = kb) W gb hb kb ∧ w0.heap.size ≤ gb ∧ w0.heap.size ≤ hb ∧ w0.heap.size ≤ kb
  bld : L 3 = true → L 1 = true ∧ vs 3 = .agg #[vs 1, sl]
  box : L 4 = true → ∃ R, vs 4 = .pointer (some ⟨R, 0, none⟩) ∧ w0.heap.size ≤ R ∧ W.heap[R]? = some (.cells #[.pointer none, .slice none 0 0] 126 (0, 0))
section
variable {l : Lg} {w0 W W' : World} {sl : Value} {L : Nat → Bool} {vs vs' : Nat → Value}
theorem JD.congr (hc : ∀ j, L j = true → vs j = vs' j) (h : JD l w0 sl L vs W) : JD l w0 sl L vs' W :=
  ⟨h.below, fun e => by rw [← hc _ e]; exact h.game e, fun e => ⟨(h.bld e).1, by rw [← hc _ e, ← hc _ (h.bld e).1]; exact (h.bld e).2⟩, fun e => by rw [← hc _ e]; exact h.box e⟩
theorem JD.start (vs : Nat → Value) : JD l w0 sl (fun _ => false) vs w0.drew := ⟨⟨rfl, rfl, rfl, Nat.le_refl _, fun _ _ => rfl⟩, fun h => (by cases h), fun h => (by cases h), fun h => (by cases h)⟩
theorem JD.grow (h : JD l w0 sl L vs W) (hb : Below W.heap.size W W') : JD l w0 sl L vs W' :=
  ⟨bThen h.below hb, fun e => let ⟨g, b, k, e1, e2, e3⟩ := h.game e; ⟨g, b, k, e1, e2.below hb, e3⟩, h.bld, fun e => let ⟨R, e1, e2, e3⟩ := h.box e; ⟨R, e1, e2, (hb.block R (Array.getElem?_eq_some_iff.1 e3).1).trans e3⟩⟩
theorem JD.set (h : JD l w0 sl L vs W) {i : Nat} {v : Value} (h1 : i = 1 → ∃ gb hb kb, v = .pointer (some ⟨gb, 0, none⟩) ∧ GameAt l (fun q => q = gb ∨ q = hb ∨ q = kb) W gb hb kb ∧ w0.heap.size ≤ gb ∧ w0.heap.size ≤ hb ∧ w0.heap.size ≤ kb)
    (h3 : i = 3 → L 1 = true ∧ v = .agg #[vs 1, sl]) (h4 : i = 4 → ∃ R, v = .pointer (some ⟨R, 0, none⟩) ∧ w0.heap.size ≤ R ∧ W.heap[R]? = some (.cells #[.pointer none, .slice none 0 0] 126 (0, 0))) (hL : L i = false) : JD l w0 sl (setB L i) (updV vs i v) W := by
  refine ⟨h.below, fun e => ?_, fun e => ?_, fun e => ?_⟩
  · by_cases c : i = 1
    · subst c; rw [updV_eq]; exact h1 rfl
    · have c' : 1 ≠ i := fun e => c e.symm
      rw [setB_ne c'] at e; rw [updV_ne c']; exact h.game e
  · by_cases c : i = 3
    · subst c; rw [updV_eq, setB_ne (by decide), updV_ne (by decide)]; exact h3 rfl
    · have c' : 3 ≠ i := fun e => c e.symm
      rw [setB_ne c'] at e
      obtain ⟨e1, e2⟩ := h.bld e
      have c1 : 1 ≠ i := fun q => by rw [q] at e1; rw [e1] at hL; cases hL
      rw [setB_ne c1, updV_ne c1, updV_ne c']; exact ⟨e1, e2⟩
  · by_cases c : i = 4
    · subst c; rw [updV_eq]; exact h4 rfl
    · have c' : 4 ≠ i := fun e => c e.symm
      rw [setB_ne c'] at e; rw [updV_ne c']; exact h.box e
end
def dropE (l : Lg) (list : List Rp) : Int := if checkR l list 10 = 0 then (if canL l list (fun _ => false) = true then 0 else 9) else checkR l list 10
set_option maxRecDepth 100000 in
set_option maxHeartbeats 2000000 in
theorem drop_any {S S' : Nat → Prop} (l : Lg) (bv lv : Value) (list : List Rp) (w : World) (hs : Sl S w bv (ints l.beds)) (hbd : BedsIn l) (hl : SlN 3 S' w lv (list.map rpRow)) (hlen : list.length ≤ 5 ∨ 10 < list.length) (hT : Tab5 w) :
    Calls Tryz.prog 30 #[legV l bv, lv] w fun e w' => ∃ v out, e = .returned (.tuple #[v, .int .i64 (dropE l list)]) ∧ Below w.heap.size w w' ∧
      (dropE l list ≠ 0 → v = .slice none 0 0) ∧ (dropE l list = 0 → Drops l list out ∧ SlSl (fun q => w.heap.size ≤ q) w' v (out.map nInts)) := by
  obtain ⟨a, cap, rfl, h2, h3⟩ := hs.form
  obtain ⟨a', cap', rfl, h2', h3'⟩ := hl.form
  simp only [ints_length, List.length_map] at *
  unfold maxLen at h3 h3'
  obtain ⟨n, hn⟩ : ∃ n, list.length = n := ⟨_, rfl⟩
  rw [hn] at h2' hl ⊢
  obtain ⟨w1, hw1⟩ : ∃ x, (w.alloc (.cells #[.int .i64 l.start, .int .i64 l.gin, .int .i64 l.gout, .slice a l.beds.length cap, .int .i64 l.players, .int .i64 l.turns, .bool l.won] 27)).alloc (.cells #[.slice a' n cap'] 53) = x := ⟨_, rfl⟩
  have hb1 : Below w.heap.size w w1 := by rw [← hw1]; exact (aB _ _).alloc (by simp) _
  have k : w1.heap[w.heap.size]? = some (.cells #[.int .i64 l.start, .int .i64 l.gin, .int .i64 l.gout, .slice a l.beds.length cap, .int .i64 l.players, .int .i64 l.turns, .bool l.won] 27 (0, 0)) := by rw [← hw1]; exact (Below.heap_alloc _ _ _ (by simp)).trans (World.alloc_heap_new _ _)
  have kx : w1.heap[w.heap.size + 1]? = some (.cells #[.slice a' n cap'] 53 (0, 0)) := by rw [← hw1, show w.heap.size + 1 = (w.alloc (.cells #[.int .i64 l.start, .int .i64 l.gin, .int .i64 l.gout, .slice a l.beds.length cap, .int .i64 l.players, .int .i64 l.turns, .bool l.won] 27)).heap.size by simp]; exact World.alloc_heap_new _ _
  have hs1 : w1.heap.size = w.heap.size + 2 := by rw [← hw1]; simp
  have c7 : w1.cell? ⟨w.heap.size + 1, 0, none⟩ = some (.slice a' n cap') := by rw [cell_of_heap kx]; rfl
  have c0 : w1.cell? ⟨w.heap.size, 0, none⟩ = some (.int .i64 l.start) := by rw [cell_of_heap k]; rfl
  have c1 : w1.cell? ⟨w.heap.size, 1, none⟩ = some (.int .i64 l.gin) := by rw [cell_of_heap k]; rfl
  have c2 : w1.cell? ⟨w.heap.size, 2, none⟩ = some (.int .i64 l.gout) := by rw [cell_of_heap k]; rfl
  have c3 : w1.cell? ⟨w.heap.size, 3, none⟩ = some (.slice a l.beds.length cap) := by rw [cell_of_heap k]; rfl
  have c4 : w1.cell? ⟨w.heap.size, 4, none⟩ = some (.int .i64 l.players) := by rw [cell_of_heap k]; rfl
  have c5 : w1.cell? ⟨w.heap.size, 5, none⟩ = some (.int .i64 l.turns) := by rw [cell_of_heap k]; rfl
  have c6 : w1.cell? ⟨w.heap.size, 6, none⟩ = some (.bool l.won) := by rw [cell_of_heap k]; rfl
  obtain ⟨ec, hec⟩ : ∃ e, checkR l list 10 = e := ⟨_, rfl⟩
  have HEC := Lib.hid hec
  obtain ⟨de, hde⟩ : ∃ e, dropE l list = e := ⟨_, rfl⟩
  rw [hde]
  have HDE : Hid (de = if ec = 0 then (if canL l list (fun _ => false) = true then 0 else 9) else ec) := Lib.hid (by rw [← hde, ← hec]; rfl)
  clear hde
  have HN := Lib.hid hn
  have HW := Lib.hid hw1
  have HB := Lib.hid hb1
  have HS := Lib.hid (hs.below hb1)
  have HL := Lib.hid ((hl.lt (by decide)).below hb1)
  have HBD := Lib.hid hbd
  have HT := Lib.hid hT
  have HLEN := Lib.hid hlen
  have hsz1 := hb1.size
  clear hw1 hb1 k kx hs hl hbd hec hn hT hlen
  unfold legV legA
  go_enter Tryz.func30, Tryz.ntmps30
  go_upto_region 1 with fail
  rw [HW.out]
  go_wp2_with fail
  have hca := checkR_any l (.slice a l.beds.length cap) (.slice a' n cap') list 10 w1 HS.out HBD.out HL.out
  unfold legV legA at hca
  rw [HEC.out] at hca
  refine hca.mono ?_
  rintro e w2 ⟨rfl, hb2⟩
  have HB2 := Lib.hid (bThen HB.out hb2)
  have HS2 := Lib.hid (HS.out.below hb2)
  have HL2 := Lib.hid (HL.out.below hb2)
  have c0 := bAt hb2 c0
  have c1 := bAt hb2 c1
  have c2 := bAt hb2 c2
  have c3 := bAt hb2 c3
  have c4 := bAt hb2 c4
  have c5 := bAt hb2 c5
  have c6 := bAt hb2 c6
  have c7 := bAt hb2 c7
  have hsz2 := hb2.size
  clear hb2 hca
  obtain ⟨z, hz⟩ : ∃ z, (ec != 0) = z := ⟨_, rfl⟩
  have HZ := Lib.hid hz
  cases z
  · have he : ec = 0 := by simpa using HZ.out
    have hck : checkL l = 0 := by
      have := HEC.out
      unfold checkR at this
      by_cases c : checkL l = 0
      · exact c
      · rw [if_pos c, he] at this; exact (c this).elim
    have hl10 : list.length ≤ 10 := by
      have := HEC.out
      unfold checkR at this
      rw [if_neg (by simp [hck]), he] at this
      by_cases c : (10 : Int) < (list.length : Int)
      · rw [if_pos (decide_eq_true c)] at this; cases this
      · omega
    have hv := valid_of hck
    have hl5 : list.length ≤ 5 := HLEN.out.elim id fun h => by omega
    have hn5 : n ≤ 5 := by rw [← HN.out]; exact hl5
    have HV := Lib.hid hv
    subst he
    clear hv hck hz
    go_upto_region 4 with fail
    have hng : ∀ W, Below w2.heap.size w2 W → Calls Tryz.prog 59 #[.agg #[.int .i64 l.start, .int .i64 l.gin, .int .i64 l.gout, .slice a l.beds.length cap, .int .i64 l.players, .int .i64 l.turns, .bool l.won]] W fun e w' => ∃ gb hb kb, e = .returned (.pointer (some ⟨gb, 0, none⟩)) ∧ Below W.heap.size W w' ∧ GameAt l (fun q => q = gb ∨ q = hb ∨ q = kb) w' gb hb kb ∧ W.heap.size ≤ gb ∧ W.heap.size ≤ hb ∧ W.heap.size ≤ kb := fun W hW =>
      newGame_any l (.slice a l.beds.length cap) W HV.out (HS2.out.below hW) HBD.out
    refine wp_region_seqV 5 ((fun v => v = .agg #[.int .i64 l.start, .int .i64 l.gin, .int .i64 l.gout, .slice a l.beds.length cap, .int .i64 l.players, .int .i64 l.turns, .bool l.won]) :: (fun v => ∃ g, v = .pointer (some ⟨g, 0, none⟩)) :: (fun v => v = .slice a' n cap') :: (fun v => ∃ g, v = .agg #[.pointer (some ⟨g, 0, none⟩), .slice a' n cap']) :: (fun v => ∃ g, v = .pointer (some ⟨g, 0, none⟩)) :: []) (JD l w2 (.slice a' n cap')) rfl mix (by kernel_rfl) (by kernel_rfl) (fun _ _ _ _ hc h => h.congr hc) (fun vs => JD.start vs) ?_
    simp only [List.take_succ_cons, List.take_zero]
    refine sv_new ⟨_, rfl⟩ rfl (fun W L vs hvs hL hj hd => ?_) ?_
    · simp only [List.length_nil] at hL ⊢
      have q0 := bAt hj.below c0
      have q1 := bAt hj.below c1
      have q2 := bAt hj.below c2
      have q3 := bAt hj.below c3
      have q4 := bAt hj.below c4
      have q5 := bAt hj.below c5
      have q6 := bAt hj.below c6
      exact opOK_val (v := .agg #[.int .i64 l.start, .int .i64 l.gin, .int .i64 l.gout, .slice a l.beds.length cap, .int .i64 l.players, .int .i64 l.turns, .bool l.won]) (w' := W) (by simp [go_sem, execOp, q0, q1, q2, q3, q4, q5, q6]) ⟨rfl, hj.set (fun e => by cases e) (fun e => by cases e) (fun e => by cases e) hL⟩
    rintro _ rfl
    simp only [Act.put, List.setIfInBounds_toArray, List.set_cons_succ, List.set_cons_zero]
    refine sv_new ⟨_, 0, rfl⟩ rfl (fun W L vs hvs hL hj hd => ?_) ?_
    · simp only [List.length_append, List.length_cons, List.length_nil, Nat.zero_add] at hL ⊢
      refine opOK_call (f := 59) (args := #[.agg #[.int .i64 l.start, .int .i64 l.gin, .int .i64 l.gout, .slice a l.beds.length cap, .int .i64 l.players, .int .i64 l.turns, .bool l.won]]) (by simp [go_sem]) ?_
      refine (hng W hj.below).mono ?_
      rintro e w' ⟨gb, hb, kb, rfl, hb3, hG3, hg1, hg2, hg3⟩
      have := hj.below.size
      exact ⟨_, rfl, ⟨gb, rfl⟩, (hj.grow hb3).set (fun _ => ⟨gb, hb, kb, rfl, hG3, by omega, by omega, by omega⟩) (fun e => by cases e) (fun e => by cases e) hL⟩
    rintro _ ⟨gv, rfl⟩
    simp only [Act.put, List.setIfInBounds_toArray, List.set_cons_succ, List.set_cons_zero]
    refine sv_new ⟨_, rfl⟩ rfl (fun W L vs hvs hL hj hd => ?_) ?_
    · simp only [List.length_append, List.length_cons, List.length_nil, Nat.zero_add, Nat.reduceAdd] at hL ⊢
      have q7 := bAt hj.below c7
      exact opOK_val (v := .slice a' n cap') (w' := W) (by simp [go_sem, execOp, q7]) ⟨rfl, hj.set (fun e => by cases e) (fun e => by cases e) (fun e => by cases e) hL⟩
    rintro _ rfl
    simp only [Act.put, List.setIfInBounds_toArray, List.set_cons_succ, List.set_cons_zero]
    refine sv_new ⟨_, 0, rfl⟩ rfl (fun W L vs hvs hL hj hd => ?_) ?_
    · simp only [List.length_append, List.length_cons, List.length_nil, Nat.zero_add, Nat.reduceAdd] at hL ⊢
      exact opOK_val (v := .agg #[.pointer (some ⟨gv, 0, none⟩), .slice a' n cap']) (w' := W) (by simp [go_sem, execOp]) ⟨⟨_, rfl⟩, hj.set (fun e => by cases e) (fun _ => ⟨hd ⟨1, .data⟩ (by simp) rfl, by rw [hvs 1 (.pointer (some ⟨gv, 0, none⟩)) (by simp)]⟩) (fun e => by cases e) hL⟩
    rintro _ ⟨gw, rfl⟩
    simp only [Act.put, List.setIfInBounds_toArray, List.set_cons_succ, List.set_cons_zero]
    refine sv_new ⟨_, 0, rfl⟩ rfl (fun W L vs hvs hL hj hd => ?_) ?_
    · simp only [List.length_append, List.length_cons, List.length_nil, Nat.zero_add, Nat.reduceAdd] at hL ⊢
      exact opOK_val (v := .pointer (some ⟨W.heap.size, 0, none⟩)) (w' := W.alloc (.cells #[.pointer none, .slice none 0 0] 126)) (by simp [go_sem, execOp]) ⟨⟨_, rfl⟩, (hj.grow (aB W _)).set (fun e => by cases e) (fun e => by cases e) (fun _ => ⟨_, rfl, hj.below.size, World.alloc_heap_new _ _⟩) hL⟩
    rintro _ ⟨R, rfl⟩
    simp only [Act.put, List.setIfInBounds_toArray, List.set_cons_succ, List.set_cons_zero]
    refine sv_end fun vs w3 hvs hj => ?_
    simp only [List.drop_succ_cons, List.drop_zero]
    have e1 := hvs 1 (.pointer (some ⟨gv, 0, none⟩)) (by simp)
    obtain ⟨-, e3⟩ := hj.bld (by decide)
    rw [hvs 3 (.agg #[.pointer (some ⟨gw, 0, none⟩), .slice a' n cap']) (by simp), e1] at e3
    cases e3
    obtain ⟨gb, hb, kb, e4, hG3, hg1, hg2, hg3⟩ := hj.game (by decide)
    rw [e1] at e4
    cases e4
    obtain ⟨R', e5, hRn, hRk⟩ := hj.box (by decide)
    rw [hvs 4 (.pointer (some ⟨R, 0, none⟩)) (by simp)] at e5
    cases e5
    have HB3 := Lib.hid (bThen HB2.out hj.below)
    have HL3 := Lib.hid (HL2.out.below hj.below)
    have c7 := bAt hj.below c7
    have hRm : ∀ es c, w3.heap[R]? ≠ some (.map es c) := fun es c e => by rw [hRk] at e; cases e
    have hgne : R ≠ gv := fun e => by
      obtain ⟨bv, hbx⟩ := hG3.box
      rw [← e, hRk] at hbx
      cases hbx
    have hhne : R ≠ hb := fun e => by obtain ⟨es, c, ho⟩ := holdsM_obj hG3.hits; exact hRm es c (by rw [e]; exact ho)
    have hkne : R ≠ kb := fun e => by obtain ⟨L, ⟨es, c, ho, _⟩, _⟩ := hG3.known; exact hRm es c (by rw [e]; exact ho)
    have hsz3 := hj.below.size
    have HG3 := Lib.hid (hG3.fence hRm)
    have r0 : w3.cell? ⟨R, 0, none⟩ = some (.pointer none) := by rw [cell_of_heap hRk]; rfl
    have r1 : w3.cell? ⟨R, 1, none⟩ = some (.slice none 0 0) := by rw [cell_of_heap hRk]; rfl
    have fz0 : w3.frozen? ⟨R, 0, none⟩ = false := frozen_of_heap hRk
    have fz1 : w3.frozen? ⟨R, 1, none⟩ = false := frozen_of_heap hRk
    obtain ⟨w4, hw4⟩ : ∃ y, (w3.setCell ⟨R, 0, none⟩ (.pointer (some ⟨gv, 0, none⟩))).setCell ⟨R, 1, none⟩ (.slice a' n cap') = y := ⟨_, rfl⟩
    have hk4 : w4.heap[R]? = some (.cells #[.pointer (some ⟨gv, 0, none⟩), .slice a' n cap'] 126 (0, 0)) := by rw [← hw4]; exact heap_setCell_at (heap_setCell_at hRk _) _
    have hg4 : w3.grownBy w4 (some R) := by
      rw [← hw4]
      refine ⟨rfl, rfl, rfl, by simp, fun q hq hn => ?_⟩
      have hne : q ≠ R := fun e => hn (by rw [e])
      rw [Below.heap_setCell _ _ _ _ hne, Below.heap_setCell _ _ _ _ hne]
    have HG4 : Hid (GameAt l (fun q => q = gv ∨ q = hb ∨ q = kb) w4 gv hb kb) := Lib.hid ((HG3.out.grown hg4 (fun x hx => by cases hx; exact ⟨hkne, hgne, hhne, .inl (.inr rfl)⟩)).less (fun q h => .inl h) (.inl rfl) (.inr (.inl rfl)) (.inr (.inr rfl)))
    have HB4 : Hid (Below w.heap.size w w4) := Lib.hid (HB3.out.trans (below_grownBy hg4 HB3.out.size fun x hx => by cases hx; omega))
    have HL4 : Hid (SlN 3 (fun q => S' q ∧ q < w.heap.size) w4 (.slice a' n cap') (list.map rpRow)) := Lib.hid (HL3.out.grown hg4 fun q hq e => by cases e; have := hq.2; omega)
    have c8 : w4.cell? ⟨w.heap.size + 1, 0, none⟩ = some (.slice a' n cap') := (World.cell?_of_block (w := w3) (hg4.block _ (World.block_lt_of_cell? w3 _ c7) fun e => by have e2 : w.heap.size + 1 = R := Option.some.inj e; omega)).trans c7
    have b0 : w4.cell? ⟨R, 0, none⟩ = some (.pointer (some ⟨gv, 0, none⟩)) := by rw [cell_of_heap hk4]; rfl
    have b1 : w4.cell? ⟨R, 1, none⟩ = some (.slice a' n cap') := by rw [cell_of_heap hk4]; rfl
    have HK4 := Lib.hid hk4
    have HW4 := Lib.hid hw4
    have hlt4 := HG4.out.lt
    have hsz4 := hg4.size
    have hcan := can_any (F0 := fun q => q = gv ∨ q = hb ∨ q = kb) l HV.out list (.slice a' n cap') 0 (by decide) (by omega) w4 HL4.out (fun h => by have := h.2; omega) HG4.out (fun q hq => by rcases hq with rfl | rfl | rfl <;> omega)
    have hc0 : canL l list (fun i => (0 : Nat).testBit i) = canL l list (fun _ => false) := can_congr fun i _ => Nat.zero_testBit i
    rw [hc0] at hcan
    obtain ⟨res, hres⟩ : ∃ b, canL l list (fun _ => false) = b := ⟨_, rfl⟩
    rw [hres] at hcan
    have HRES := Lib.hid hres
    clear hng hvs hj e1 hG3 hRk hRm hk4 hg4 hw4 HG3 HL3 HS2 c0 c1 c2 c3 c4 c5 c6 c7 hc0 hres
    go_upto_region 5 with fail
    rw [HW4.out]
    clear r0 r1 fz0 fz1
    go_wp2_with fail
    refine hcan.mono ?_
    rintro e w5 ⟨rfl, hG5, hC5⟩
    have HG5 := Lib.hid hG5
    have hsz5 := hC5.size
    have HL5 : Hid (SlN 3 (fun q => S' q ∧ q < w.heap.size) w5 (.slice a' n cap') (list.map rpRow)) := Lib.hid (HL4.out.chg hC5 fun q hq e => by have := hq.2; omega)
    have hk5 := (hC5.block R (Array.getElem?_eq_some_iff.1 HK4.out).1 hkne).trans HK4.out
    have c9 : w5.cell? ⟨w.heap.size + 1, 0, none⟩ = some (.slice a' n cap') := (World.cell?_of_block (w := w4) (hC5.block _ (World.block_lt_of_cell? w4 _ c8) (show ¬ w.heap.size + 1 = kb by omega))).trans c8
    have HB5 : Hid (Below w.heap.size w w5) := Lib.hid (HB4.out.trans ⟨hC5.os, hC5.tape, hC5.output, hC5.size, fun q hq => hC5.block q (by omega) (by omega)⟩)
    clear hcan hG5 hC5 b0 b1 c8
    cases res
    · have hde : de = 9 := by rw [HDE.out]; simp [HRES.out]
      have HDE9 := Lib.hid hde
      clear HDE
      subst hde
      go_wp2
      go_returns
      exact ⟨_, [], rfl, HB5.out, fun _ => rfl, fun e => by cases e⟩
    · have hde : de = 0 := by rw [HDE.out]; simp [HRES.out]
      clear HDE
      subst hde
      have hlt5 := HG5.out.lt
      have hp := drop1_ok (gb := gv) (hb := hb) (kb := kb) l HV.out list (.slice a' n cap') R (w.heap.size + 1) w5 HL5.out (fun h => by have := h.2; omega) hl5 hk5 hkne c9 (by omega)
      rw [HN.out] at hp
      have hszw := HT.out.lt
      have hsm := smallest_any (F0 := fun q => q = gv ∨ q = hb ∨ q = kb) l n _ _ _ hn5 w5 hp HG5.out (fun q hq => by rcases hq with rfl | rfl | rfl <;> omega) (HT.out.below HB5.out) (by omega)
      clear hp hk5
      go_wp2_with fail
      refine hsm.mono ?_
      rintro e w6 ⟨v, out, rfl, hmin, hsl, hG6, hC6⟩
      have HMIN : Hid (Drops l list out) := Lib.hid (by unfold Drops; rw [HN.out]; exact hmin)
      have HSL := Lib.hid (hsl.mono (S' := fun q => w.heap.size ≤ q) fun q hq => by omega)
      have HB6 : Hid (Below w.heap.size w w6) := Lib.hid (HB5.out.trans ⟨hC6.os, hC6.tape, hC6.output, hC6.size, fun q hq => hC6.block q (by omega) (by omega)⟩)
      clear hsm hmin hsl hG6 hC6
      go_wp2
      go_returns
      exact ⟨v, rfl, HB6.out, out, HMIN.out, HSL.out⟩
  · have HNE : Hid (ec ≠ 0) := Lib.hid (by simpa using HZ.out)
    have hde : de = ec := by rw [HDE.out, if_neg HNE.out]
    clear HDE c0 c1 c2 c3 c4 c5 c6 c7
    subst hde
    go_wp2
    go_returns
    exact ⟨_, [], rfl, HB2.out, fun _ => rfl, fun e => (HNE.out e).elim⟩
end Go.Proofs.YtpfpjbglpibdoaaGreatDoor

/- Chapter 5: the statements' small helpers: leg, to, alike, equal. -/
namespace Go.Proofs.YtpfpjbglpibdoaaGreatDoor
open Go Go.RowKit Go.Oche Go.Proofs

def leg5K : Lg := { start := 50, gin := 0, gout := 1, beds := [101, 120, 201, 220, 320], players := 2, turns := 4, won := true }
theorem to_any (a b : Int) (w : World) : Calls Tryz.prog 23 #[.int .i64 a, .int .i64 b] w fun e w' => e = .returned (.agg #[.int .i64 a, .int .i64 b]) ∧ Below w.heap.size w w' := by
  obtain ⟨w1, hw1⟩ : ∃ x, w.alloc (.cells #[.int .i64 a, .int .i64 b] 48) = x := ⟨_, rfl⟩
  have hb1 : Below w.heap.size w w1 := by rw [← hw1]; exact aB _ _
  have k : w1.heap[w.heap.size]? = some (.cells #[.int .i64 a, .int .i64 b] 48 (0, 0)) := by rw [← hw1]; exact World.alloc_heap_new _ _
  have c0 : w1.cell? ⟨w.heap.size, 0, none⟩ = some (.int .i64 a) := by rw [cell_of_heap k]; rfl
  have c1 : w1.cell? ⟨w.heap.size, 1, none⟩ = some (.int .i64 b) := by rw [cell_of_heap k]; rfl
  have HW := Lib.hid hw1
  have HB := Lib.hid hb1
  clear hw1 hb1 k
  go_enter Tryz.func23, Tryz.ntmps23
  go_wp2
  rw [HW.out]
  refine bodyPost_ret (v := .agg #[.int .i64 a, .int .i64 b]) (by simp [results, Tryz.results23, go_sem, c0, c1]) rfl ?_
  exact ⟨rfl, HB.out⟩
set_option maxRecDepth 100000 in
theorem leg_any (w : World) : Calls Tryz.prog 40 #[] w fun e w' => ∃ bv, e = .returned (legV leg5K bv) ∧ Below w.heap.size w w' ∧ Sl (fun q => w.heap.size ≤ q) w' bv (ints leg5K.beds) := by
  go_enter Tryz.func40, Tryz.ntmps40
  obtain ⟨w1, hw1⟩ : ∃ x, (w.alloc (.cells #[.int .i64 50, .int .i64 0, .int .i64 1, .slice (some ⟨w.heap.size + 1, 0, none⟩) 5 5, .int .i64 2, .int .i64 4, .bool true] 27)).alloc (.cells #[.int .i64 101, .int .i64 120, .int .i64 201, .int .i64 220, .int .i64 320] 95) = x := ⟨_, rfl⟩
  have hb1 : Below w.heap.size w w1 := by rw [← hw1]; exact (aB _ _).alloc (by simp) _
  have k : w1.heap[w.heap.size]? = some (.cells #[.int .i64 50, .int .i64 0, .int .i64 1, .slice (some ⟨w.heap.size + 1, 0, none⟩) 5 5, .int .i64 2, .int .i64 4, .bool true] 27 (0, 0)) := by rw [← hw1]; exact (Below.heap_alloc _ _ _ (by simp)).trans (World.alloc_heap_new _ _)
  have k2 : w1.heap[w.heap.size + 1]? = some (.cells (ints [101, 120, 201, 220, 320]).toArray 95 (0, 0)) := by
    rw [← hw1]
    have := World.alloc_heap_new (w.alloc (.cells #[.int .i64 50, .int .i64 0, .int .i64 1, .slice (some ⟨w.heap.size + 1, 0, none⟩) 5 5, .int .i64 2, .int .i64 4, .bool true] 27)) (.cells #[.int .i64 101, .int .i64 120, .int .i64 201, .int .i64 220, .int .i64 320] 95)
    simp only [World.size_alloc] at this
    exact this
  have c0 : w1.cell? ⟨w.heap.size, 0, none⟩ = some (.int .i64 50) := by rw [cell_of_heap k]; rfl
  have c1 : w1.cell? ⟨w.heap.size, 1, none⟩ = some (.int .i64 0) := by rw [cell_of_heap k]; rfl
  have c2 : w1.cell? ⟨w.heap.size, 2, none⟩ = some (.int .i64 1) := by rw [cell_of_heap k]; rfl
  have c3 : w1.cell? ⟨w.heap.size, 3, none⟩ = some (.slice (some ⟨w.heap.size + 1, 0, none⟩) 5 5) := by rw [cell_of_heap k]; rfl
  have c4 : w1.cell? ⟨w.heap.size, 4, none⟩ = some (.int .i64 2) := by rw [cell_of_heap k]; rfl
  have c5 : w1.cell? ⟨w.heap.size, 5, none⟩ = some (.int .i64 4) := by rw [cell_of_heap k]; rfl
  have c6 : w1.cell? ⟨w.heap.size, 6, none⟩ = some (.bool true) := by rw [cell_of_heap k]; rfl
  have hsl : Sl (fun q => w.heap.size ≤ q) w1 (.slice (some ⟨w.heap.size + 1, 0, none⟩) 5 5) (ints leg5K.beds) := ⟨_, 5, rfl, by decide, by decide, fun i x hx => ⟨_, 0, rfl, by omega, by
    rw [cell_of_heap k2, Nat.zero_add]; simpa [leg5K] using hx⟩⟩
  have HW := Lib.hid hw1
  have HB := Lib.hid hb1
  have HSL := Lib.hid hsl
  clear hw1 hb1 k k2 hsl
  go_wp2
  rw [HW.out]
  refine bodyPost_ret (v := legV leg5K (.slice (some ⟨w.heap.size + 1, 0, none⟩) 5 5)) (by simp [results, Tryz.results40, go_sem, c0, c1, c2, c3, c4, c5, c6, legV, legA, leg5K]) rfl ?_
  exact ⟨_, rfl, HB.out, HSL.out⟩
set_option maxRecDepth 100000 in
set_option maxHeartbeats 1000000 in
theorem alike_any {S S' : Nat → Prop} (xs ys : List Int) (u v : Value) (w : World) (hx : Sl S w u (ints xs)) (hy : Sl S' w v (ints ys)) :
    Calls Tryz.prog 21 #[u, v] w fun e w' => e = .returned (.bool (decide (xs = ys))) ∧ Below w.heap.size w w' := by
  obtain ⟨a, cap, rfl, h2, h3⟩ := hx.form
  obtain ⟨a', cap', rfl, h2', h3'⟩ := hy.form
  simp only [ints_length] at *
  unfold maxLen at h3 h3'
  obtain ⟨res, hres⟩ : ∃ r, decide (xs = ys) = r := ⟨_, rfl⟩
  rw [hres]
  have HR := Lib.hid hres
  have HX := Lib.hid hx
  have HY := Lib.hid hy
  obtain ⟨n, hn⟩ : ∃ n, xs.length = n := ⟨_, rfl⟩
  obtain ⟨m, hm⟩ : ∃ n, ys.length = n := ⟨_, rfl⟩
  have HN := Lib.hid hn
  have HM := Lib.hid hm
  rw [hn] at h2 HX ⊢
  rw [hm] at h2' HY ⊢
  clear hres hx hy hn hm
  go_enter Tryz.func21, Tryz.ntmps21
  by_cases hnm : n = m
  · have d0 : ((n : Int) == (m : Int)) = true := by rw [beq_iff_eq]; omega
    have d0b : ((n : Int) != (m : Int)) = false := by rw [bne_eq_false_iff_eq]; omega
    have HNM := Lib.hid hnm
    clear hnm
    go_wp2
    go_loopw [5] (fun iv wr => ∃ i : Nat, i ≤ n ∧ iv = .int .i64 i ∧ Hid (xs.take i = ys.take i) ∧ Hid (Below w.heap.size w wr)) (fun iv _ => n - (intOf iv).toNat)
    case atStart => exact ⟨0, by omega, by go_num, Lib.hid rfl, Lib.hid (Below.refl _ _)⟩
    case round =>
      obtain ⟨i, hi, rfl, HI, HB⟩ := hrel
      obtain ⟨wo, rfl⟩ : ∃ wo : World, wo = wr := ⟨_, rfl⟩
      by_cases hlt : i < n
      · have hltm : i < m := by have := HNM.out; omega
        obtain ⟨x, hxx⟩ : ∃ x, xs[i]'(by rw [HN.out]; exact hlt) = x := ⟨_, rfl⟩
        obtain ⟨y, hyy⟩ : ∃ y, ys[i]'(by rw [HM.out]; exact hltm) = y := ⟨_, rfl⟩
        obtain ⟨b, off, rfl, -, hc⟩ := Sl.at_ (HX.out.below HB.out) (intsAt (by rw [HN.out]; exact hlt))
        obtain ⟨b', off', rfl, -, hc'⟩ := Sl.at_ (HY.out.below HB.out) (intsAt (by rw [HM.out]; exact hltm))
        rw [hxx] at hc
        rw [hyy] at hc'
        obtain ⟨z, hz⟩ : ∃ z, (x != y) = z := ⟨_, rfl⟩
        have HXX := Lib.hid hxx
        have HYY := Lib.hid hyy
        have HZ := Lib.hid hz
        clear hxx hyy hz
        go_upto_region 6 with fail
        refine wp_region_seq 9 [.is (.slice (some ⟨b, off, none⟩) n cap), .is (.int .i64 (i : Int)), .is (.pointer (some ⟨b, off + i, none⟩)), .is (.int .i64 x), .is (.slice (some ⟨b', off', none⟩) m cap'), .is (.int .i64 (i : Int)), .is (.pointer (some ⟨b', off' + i, none⟩)), .is (.int .i64 y), .is (.bool z)] rfl mix (by kernel_rfl) (by kernel_rfl) ?seqm
        case seqm =>
          simp only [List.take_succ_cons, List.take_zero]
          iterate 9
            refine seq_on (by rfl) (fun w3 hb3 _ => ?_) ?_
            · have k1 := bAt hb3 hc
              have k2 := bAt hb3 hc'
              simp [opOK, go_sem, k1, k2, hlt, hltm, HZ.out, Below.refl]
              try exact rfl
            simp only [Act.put, List.setIfInBounds_toArray, List.set_cons_succ, List.set_cons_zero]
          refine seq_end fun w3 hb3 _ => ?_
          simp only [List.drop_succ_cons, List.drop_zero]
          have HB3 := Lib.hid (bThen HB.out hb3)
          clear hb3 hc hc'
          cases z
          · have hxy : x = y := by simpa using HZ.out
            have HI2 : Hid (xs.take (i + 1) = ys.take (i + 1)) := Lib.hid (by
              rw [List.take_succ_eq_append_getElem (by rw [HN.out]; exact hlt), List.take_succ_eq_append_getElem (by rw [HM.out]; exact hltm), HI.out, HXX.out, HYY.out, hxy])
            have hwi : IntKind.i64.wrap ((i : Int) + 1) = (i : Int) + 1 := wrap_small _ (by omega) (by omega)
            clear hxy
            go_wp2
            go_roundw
            case rel => exact ⟨i + 1, by omega, by go_num, HI2, HB3⟩
            case measure => simp [intOf]; omega
          · have hr : res = false := by
              rw [← HR.out, decide_eq_false_iff_not]
              intro e
              have h1 : x ≠ y := by simpa using HZ.out
              subst e
              exact h1 (by rw [← HXX.out, ← HYY.out])
            clear HR
            subst hr
            go_wp2
            go_returns
            exact ⟨rfl, HB3.out⟩
      · obtain rfl : i = n := by omega
        have hr : res = true := by
          rw [← HR.out, decide_eq_true_eq]
          have := HI.out
          rw [List.take_of_length_le (by rw [HN.out]; omega), List.take_of_length_le (by rw [HM.out]; have := HNM.out; omega)] at this
          exact this
        clear HR
        subst hr
        go_wp2
        go_returns
        exact ⟨rfl, HB.out⟩
  · have d0 : ((n : Int) == (m : Int)) = false := beq_eq_false_iff_ne.2 (by omega)
    have d0b : ((n : Int) != (m : Int)) = true := by rw [bne_iff_ne]; omega
    have hr : res = false := by rw [← HR.out, decide_eq_false_iff_not]; intro e; apply hnm; rw [← HN.out, ← HM.out, e]
    clear HR
    subst hr
    go_wp2
    go_returns
    exact ⟨rfl, Below.refl _ _⟩
set_option maxRecDepth 100000 in
set_option maxHeartbeats 1000000 in
theorem equal_any {S S' : Nat → Prop} (xs ys : List (List Int)) (u v : Value) (w : World) (hx : SlSl S w u xs) (hy : SlSl S' w v ys) :
    Calls Tryz.prog 31 #[u, v] w fun e w' => e = .returned (.bool (decide (xs = ys))) ∧ Below w.heap.size w w' := by
  obtain ⟨a, cap, rfl, h2, h3⟩ := hx.form
  obtain ⟨a', cap', rfl, h2', h3'⟩ := hy.form
  unfold maxLen at h3 h3'
  obtain ⟨res, hres⟩ : ∃ r, decide (xs = ys) = r := ⟨_, rfl⟩
  rw [hres]
  have HR := Lib.hid hres
  have HX := Lib.hid hx
  have HY := Lib.hid hy
  obtain ⟨n, hn⟩ : ∃ n, xs.length = n := ⟨_, rfl⟩
  obtain ⟨m, hm⟩ : ∃ n, ys.length = n := ⟨_, rfl⟩
  have HN := Lib.hid hn
  have HM := Lib.hid hm
  rw [hn] at h2 HX ⊢
  rw [hm] at h2' HY ⊢
  clear hres hx hy hn hm
  go_enter Tryz.func31, Tryz.ntmps31
  by_cases hnm : n = m
  · have d0 : ((n : Int) == (m : Int)) = true := by rw [beq_iff_eq]; omega
    have d0b : ((n : Int) != (m : Int)) = false := by rw [bne_eq_false_iff_eq]; omega
    have HNM := Lib.hid hnm
    clear hnm
    go_wp2
    go_loopw [5] (fun iv wr => ∃ i : Nat, i ≤ n ∧ iv = .int .i64 i ∧ Hid (xs.take i = ys.take i) ∧ Hid (Below w.heap.size w wr)) (fun iv _ => n - (intOf iv).toNat)
    case atStart => exact ⟨0, by omega, by go_num, Lib.hid rfl, Lib.hid (Below.refl _ _)⟩
    case round =>
      obtain ⟨i, hi, rfl, HI, HB⟩ := hrel
      obtain ⟨wo, rfl⟩ : ∃ wo : World, wo = wr := ⟨_, rfl⟩
      by_cases hlt : i < n
      · have hltm : i < m := by have := HNM.out; omega
        obtain ⟨x, hxx⟩ : ∃ x, xs[i]'(by rw [HN.out]; exact hlt) = x := ⟨_, rfl⟩
        obtain ⟨y, hyy⟩ : ∃ y, ys[i]'(by rw [HM.out]; exact hltm) = y := ⟨_, rfl⟩
        obtain ⟨b, off, p, rfl, -, hc, hpx⟩ := (HX.out.below HB.out).cell (i := i) (by rw [HN.out]; exact hlt)
        obtain ⟨b', off', q, rfl, -, hc', hqy⟩ := (HY.out.below HB.out).cell (i := i) (by rw [HM.out]; exact hltm)
        rw [hxx] at hpx
        rw [hyy] at hqy
        obtain ⟨pa, pc, rfl, -, -⟩ := hpx.form
        obtain ⟨qa, qc, rfl, -, -⟩ := hqy.form
        simp only [ints_length] at hpx hqy hc hc'
        have HPX := Lib.hid hpx
        have HQY := Lib.hid hqy
        clear hpx hqy
        obtain ⟨z, hz⟩ : ∃ z, (!decide (x = y)) = z := ⟨_, rfl⟩
        have HXX := Lib.hid hxx
        have HYY := Lib.hid hyy
        have HZ := Lib.hid hz
        clear hxx hyy hz
        go_upto_region 6 with fail
        refine wp_region_seq 10 [.is (.slice (some ⟨b, off, none⟩) n cap), .is (.int .i64 (i : Int)), .is (.pointer (some ⟨b, off + i, none⟩)), .is (.slice pa x.length pc), .is (.slice (some ⟨b', off', none⟩) m cap'), .is (.int .i64 (i : Int)), .is (.pointer (some ⟨b', off' + i, none⟩)), .is (.slice qa y.length qc), .is (.bool (decide (x = y))), .is (.bool z)] rfl mix (by kernel_rfl) (by kernel_rfl) ?seqm
        case seqm =>
          simp only [List.take_succ_cons, List.take_zero]
          iterate 8
            refine seq_on (by rfl) (fun w3 hb3 _ => ?_) ?_
            · have k1 := bAt hb3 hc
              have k2 := bAt hb3 hc'
              simp [opOK, go_sem, k1, k2, hlt, hltm, Below.refl]
              try exact rfl
            simp only [Act.put, List.setIfInBounds_toArray, List.set_cons_succ, List.set_cons_zero]
          refine seq_on (by rfl) (fun w3 hb3 _ => ?_) ?_
          · refine opOK_call (f := 21) (args := #[.slice pa x.length pc, .slice qa y.length qc]) (by simp [go_sem]) ?_
            refine (alike_any x y _ _ w3 (HPX.out.below hb3) (HQY.out.below hb3)).mono ?_
            rintro e W' ⟨rfl, hb⟩
            exact ⟨_, rfl, rfl, hb⟩
          simp only [Act.put, List.setIfInBounds_toArray, List.set_cons_succ, List.set_cons_zero]
          refine seq_on (by rfl) (fun w3 hb3 _ => ?_) ?_
          · have hz := HZ.out
            simp [opOK, go_sem, Below.refl]
            first | exact rfl | exact hz | simpa using hz
          simp only [Act.put, List.setIfInBounds_toArray, List.set_cons_succ, List.set_cons_zero]
          refine seq_end fun w3 hb3 _ => ?_
          simp only [List.drop_succ_cons, List.drop_zero]
          have HB3 := Lib.hid (bThen HB.out hb3)
          clear hb3 hc hc'
          cases z
          · have hxy : x = y := by simpa using HZ.out
            have HI2 : Hid (xs.take (i + 1) = ys.take (i + 1)) := Lib.hid (by
              rw [List.take_succ_eq_append_getElem (by rw [HN.out]; exact hlt), List.take_succ_eq_append_getElem (by rw [HM.out]; exact hltm), HI.out, HXX.out, HYY.out, hxy])
            have hwi : IntKind.i64.wrap ((i : Int) + 1) = (i : Int) + 1 := wrap_small _ (by omega) (by omega)
            clear hxy
            go_wp2
            go_roundw
            case rel => exact ⟨i + 1, by omega, by go_num, HI2, HB3⟩
            case measure => simp [intOf]; omega
          · have hr : res = false := by
              rw [← HR.out, decide_eq_false_iff_not]
              intro e
              have h1 : x ≠ y := by simpa using HZ.out
              subst e
              exact h1 (by rw [← HXX.out, ← HYY.out])
            clear HR
            subst hr
            go_wp2
            go_returns
            exact ⟨rfl, HB3.out⟩
      · obtain rfl : i = n := by omega
        have hr : res = true := by
          rw [← HR.out, decide_eq_true_eq]
          have := HI.out
          rw [List.take_of_length_le (by rw [HN.out]; omega), List.take_of_length_le (by rw [HM.out]; have := HNM.out; omega)] at this
          exact this
        clear HR
        subst hr
        go_wp2
        go_returns
        exact ⟨rfl, HB.out⟩
  · have d0 : ((n : Int) == (m : Int)) = false := beq_eq_false_iff_ne.2 (by omega)
    have d0b : ((n : Int) != (m : Int)) = true := by rw [bne_iff_ne]; omega
    have hr : res = false := by rw [← HR.out, decide_eq_false_iff_not]; intro e; apply hnm; rw [← HN.out, ← HM.out, e]
    clear HR
    subst hr
    go_wp2
    go_returns
    exact ⟨rfl, Below.refl _ _⟩
end Go.Proofs.YtpfpjbglpibdoaaGreatDoor

/- Chapter 5, in plain Lean: the document's examples. -/
namespace Go.Proofs.YtpfpjbglpibdoaaGreatDoor
open Go.RowKit Go.Oche Go.Proofs
set_option maxRecDepth 100000

def repK : List Rp := [⟨1, -1, 44⟩, ⟨3, 6, -1⟩, ⟨0, 40, -1⟩]
theorem k_open : openE leg5K ⟨2, true⟩ = 0 := by decide +kernel
theorem k_wins : winsL leg5K ⟨2, true⟩ = true := by decide +kernel
theorem k_vis : (vis5 leg5K ⟨2, true⟩).all (fun p => p.1.won || decide ((2 : Int) - p.1.left = 0)) = true := by decide +kernel
theorem k_vis0 : (vis5 leg5K ⟨2, true⟩).any (fun p => !p.1.won && decide ((2 : Int) - p.1.left = 0)) = true := by decide +kernel
theorem k_scores {xs : List Int} (h : IsScores leg5K ⟨2, true⟩ xs) : xs = [0] := by
  obtain ⟨h1, h2⟩ := h
  have a1 : ∀ x ∈ xs, x = 0 := fun x hx => by
    obtain ⟨p, hp, hw, hd⟩ := (h2 x).1 hx
    have := List.all_eq_true.1 k_vis p hp
    rw [hw, Bool.false_or, decide_eq_true_eq] at this
    rw [← hd]; exact this
  have a2 : (0 : Int) ∈ xs := by
    obtain ⟨p, hp, hq⟩ := List.any_eq_true.1 k_vis0
    rw [Bool.and_eq_true, decide_eq_true_eq, Bool.not_eq_true'] at hq
    exact (h2 0).2 ⟨p, hp, hq.1, hq.2⟩
  match xs, h1, a1, a2 with
  | [], _, _, h => cases h
  | [x], _, a1, _ => rw [a1 x (by simp)]
  | x :: y :: xs, h1, a1, _ =>
    rw [List.pairwise_cons] at h1
    have := h1.1 y (by simp)
    rw [a1 x (by simp), a1 y (by simp)] at this
    omega
theorem k_waysE : waysE leg5K ⟨2, true⟩ 0 = 0 := by decide +kernel
theorem k_waysR : waysR leg5K ⟨2, true⟩ 0 = ⟨13, 1, 3⟩ := by decide +kernel
theorem k_truth : truthE leg5K [] = 0 := by decide +kernel
theorem k_truth9 : truthE leg5K repK = 9 := by decide +kernel
theorem k_score : ((List.range leg5K.turns.toNat).map fun t => (trL (keptL leg5K (allS []) t)).score) = [(0, 44), (6, 44), (0, 44), (6, 44)] := by decide +kernel
theorem k_left : ((List.range leg5K.turns.toNat).map fun t => (trL (keptL leg5K (allS []) t)).left) = [(6, 50), (6, 44), (2, 50), (0, 0)] := by decide +kernel
theorem k_darts : ((List.range leg5K.turns.toNat).map fun t => (trL (keptL leg5K (allS []) t)).darts) = [(1, 3), (3, 3), (1, 3), (3, 3)] := by decide +kernel
theorem k_blameE : blameE leg5K repK = 0 := by decide +kernel
theorem k_dropE : dropE leg5K repK = 0 := by decide +kernel
theorem k_isBlame : ∀ s : Fin 8, isBlame leg5K repK s.val = (s.val == 3 || s.val == 7) := by decide +kernel
theorem k_isDrop : ∀ s : Fin 8, isDrop leg5K repK s.val = (s.val != 0 && s.val != 4) := by decide +kernel
theorem k_blame {out : List (List Nat)} (h : Blames leg5K repK out) : out = [[0, 1]] := by
  have hi : LeastInv 3 (isBlame leg5K repK) (2 ^ 3) 2 [3] := by
    refine ⟨by simp, fun s => ?_, fun s hs hi => ?_, by decide, fun e => by cases e⟩
    · by_cases c : s < 8
      · rw [show isBlame leg5K repK s = _ from k_isBlame ⟨s, c⟩]
        have : ∀ s : Fin 8, s.val ∈ [3] ↔ s.val < 2 ^ 3 ∧ (s.val == 3 || s.val == 7) = true ∧ (bitsN 3 s.val).length = 2 := by decide +kernel
        exact this ⟨s, c⟩
      · constructor
        · intro e; rw [List.mem_singleton] at e; omega
        · intro e; have := e.1; omega
    · rw [show isBlame leg5K repK s = _ from k_isBlame ⟨s, hs⟩] at hi
      have : ∀ s : Fin 8, (s.val == 3 || s.val == 7) = true → 2 ≤ (bitsN 3 s.val).length := by decide +kernel
      exact this ⟨s, hs⟩ hi
  have h0 := hi.done (by decide) (ys := [kS 3]) (List.Perm.refl _) (fun p q h1 h2 => by simp at h2; omega)
  exact IsMin.unique h h0
theorem k_drop {out : List (List Nat)} (h : Drops leg5K repK out) : out = [[0], [1]] := by
  have hi : LeastInv 3 (isDrop leg5K repK) (2 ^ 3) 1 [1, 2] := by
    refine ⟨by simp, fun s => ?_, fun s hs hi => ?_, by decide, fun e => by cases e⟩
    · by_cases c : s < 8
      · rw [show isDrop leg5K repK s = _ from k_isDrop ⟨s, c⟩]
        have : ∀ s : Fin 8, s.val ∈ [1, 2] ↔ s.val < 2 ^ 3 ∧ (s.val != 0 && s.val != 4) = true ∧ (bitsN 3 s.val).length = 1 := by decide +kernel
        exact this ⟨s, c⟩
      · constructor
        · intro e; simp at e; omega
        · intro e; have := e.1; omega
    · rw [show isDrop leg5K repK s = _ from k_isDrop ⟨s, hs⟩] at hi
      have : ∀ s : Fin 8, (s.val != 0 && s.val != 4) = true → 1 ≤ (bitsN 3 s.val).length := by decide +kernel
      exact this ⟨s, hs⟩ hi
  have h0 := hi.done (by decide) (ys := [kS 1, kS 2]) (List.Perm.refl _) (fun p q h1 h2 => by
    have : p = 0 ∧ q = 1 := by simp at h2; omega
    rw [this.1, this.2]; decide)
  exact IsMin.unique h h0
end Go.Proofs.YtpfpjbglpibdoaaGreatDoor

/- A region that draws its order, walked in the text's order (Seq), all of it. -/
namespace Go.Oche
open Go Go.RowKit
theorem wp_region_seqW {P : Program} {id : Nat} {l : List Oper} {a : Act} {w : World} {Q : Exit → Act → World → Prop} (ks : List Kn) (hlk : ks.length = l.length) (hmix : P.follows .mixedOrders = true) (hB : freeB l.toArray l.length a.tmps.size = true) (hR : readsB l.toArray l.length = true)
    (h : SeqAll P l.toArray w ks (fun a H => ∀ w', Below w.heap.size w w' → (∀ j, j < l.length → H j w') → wpList P l.toArray Q [] a w') ks l a (fun _ _ => True) 0) : (Code.region id l.toArray true).wp P Q a w :=
  wp_region_seq l.length ks hlk hmix hB hR (by rw [List.take_length, List.drop_length]; exact h)
end Go.Oche
