/- The texts EN, LY, AppN, SO, CA, IT, in build order. -/
import Derived.Test.YtagfcodpgochjaaZae
import Derived.Laws.StructEq
import Derived.Shelf.Small.Bits
import Derived.Shelf.Sort.Plain
import Derived.Shelf.Bits.Mul64
import Derived.Ground.Names2Prog
import Derived.Test.YtagfcodpgochjaaProg
import Derived.Handy
import Derived.RangeFuncBound
import Derived.RangeFuncLeaves
import Derived.Shelf.Abstract
import Derived.Shelf.RegionOpen
import Derived.OwnWalkIn
import Derived.TacticsInMore
import Derived.LoopNIn
import Derived.LoopIn

/- Chapter 12: one move is entered (enter). -/
namespace Go.Proofs.Ytagfcodpgochjaa
open Go.RowKit Go.Oche Go.Proofs

theorem zero_mv (w : World) : (zeroValue 44).run Try.prog w = .ok (mvV (0, 0, 0, 0)) w := by kernel_rfl
theorem mv_equal (x y : Mv) (w : World) : (Op.equal 44 (mvV x) (mvV y)).run Try.prog w = .ok (decide (x = y)) w := by
  have hf : Try.prog.underlying 44 = some (.struct (Try.prog.fieldsOf 44)) := by kernel_rfl
  have hp : Try.prog.stoodInHeld 44 = false := by kernel_rfl
  obtain ⟨a, b, c, d⟩ := x
  obtain ⟨a', b', c', d'⟩ := y
  have hd : decide (((a, b, c, d) : Mv) = (a', b', c', d')) = (a == a' && b == b' && c == c' && d == d') := by
    rw [Bool.eq_iff_iff]
    simp [Bool.and_eq_true, Prod.mk.injEq, and_assoc]
  rw [hd]
  unfold mvV Op.equal
  rw [show Op.maxDepth = 9999 + 1 from rfl, run_equalIn_agg w 9999 _ _ _ hf hp]
  simp [Program.fieldsOf, Op.eqFields, go_sem, Try.underlying44]
  by_cases h : a = a' <;> by_cases h2 : b = b' <;> by_cases h3 : c = c' <;> by_cases h4 : d = d' <;> simp [h, h2, h3, h4]
theorem ne_mv (x y : Mv) (w : World) : (binOp .neq 44 (mvV x) (mvV y)).run Try.prog w = .ok (.bool (!decide (x = y))) w := by
  have := mv_equal x y w
  unfold mvV Op.equal at *
  rw [show Op.maxDepth = 10000 from rfl] at this
  rw [run_neq_struct, this]
  rfl
theorem sl_blk {w : World} {b : Nat} {t : TypeId} {xs : List Value} (h : w.heap[b]? = some (.cells xs.toArray t (0, 0))) (hl : xs.length ≤ maxLen) : Sl (fun _ => True) w (.slice (some ⟨b, 0, none⟩) xs.length xs.length) xs :=
  ⟨_, _, rfl, Nat.le_refl _, hl, fun i x hx => ⟨b, 0, rfl, trivial, by unfold World.cell?; rw [h]; simpa using hx⟩⟩
/-- A slice of so many values, in a block of its own. -/
def kSl (t : TypeId) (xs : List Value) : Kn where
  s := fun v => ∃ b, v = .slice (some ⟨b, 0, none⟩) xs.length xs.length
  p := fun v w => ∃ b, v = .slice (some ⟨b, 0, none⟩) xs.length xs.length ∧ w.heap[b]? = some (.cells xs.toArray t (0, 0))
  m := fun _ _ _ hb ⟨b, h1, h2⟩ => ⟨b, h1, (hb.block b (Array.getElem?_eq_some_iff.1 h2).1).trans h2⟩
/-- The receipts' blocks. -/
def MO (M1 M2 : Nat) : Nat → Prop := fun q => q = M1 ∨ q = M2
set_option maxRecDepth 100000 in
set_option maxHeartbeats 4000000 in
theorem enter_any (l M1 M2 n cap k : Nat) (a : Option Addr) (vb : Value) (E : Rec) (x : Mv) (w : World) (h : LedAt w l M1 M2 (.slice a n cap) vb E) (hn : 1 ≤ n ∧ n ≤ 60) :
    Calls Try.prog 43 #[.pointer (some ⟨l, 0, none⟩), .int .i64 k, mvV x] w fun e w' => e = .returned (.int .i64 (enterErr n E x)) ∧ Rel (MO M1 M2) w (MO M1 M2) w' ∧ (enterErr n E x = 0 → LedAt w' l M1 M2 (.slice a n cap) vb (enterE E k x)) := by
  obtain ⟨nr, fr, to, am⟩ := x
  obtain ⟨er, her⟩ : ∃ er, enterErr n E (nr, fr, to, am) = er := ⟨_, rfl⟩
  obtain ⟨⟨y0, y1, y2, y3⟩, hy⟩ : ∃ y : Mv, ((numE E nr).map (·.1)).getD (0, 0, 0, 0) = y := ⟨_, rfl⟩
  obtain ⟨kn, hkn⟩ : ∃ b, (numE E nr).isSome = b := ⟨_, rfl⟩
  have hlk : ∀ w' : World, MapAt (Value.int .i64) w' M1 (recL E) → (Instr.lookup 102 (.map (some M1)) (.int .i64 nr) true).run Try.prog w' = .ok (.tuple #[.agg #[.int .i64 y0, .int .i64 y1, .int .i64 y2, .int .i64 y3], .bool kn]) w' := fun w' hM => by
    have := MapAt.lookup int_key (T := 102) (E := 44) (by rfl) (zero_mv w') hM nr true
    rw [this, look_rec, if_pos rfl]
    rw [← hkn]
    cases hq : numE E nr with
    | none => rw [hq] at hy; simp at hy; obtain ⟨rfl, rfl, rfl, rfl⟩ := hy; rfl
    | some e => rw [hq] at hy; simp at hy; simp [mvV, hy]
  rw [her]
  unfold mvV
  obtain ⟨w0, hw0⟩ : ∃ w0, w.alloc (.cells #[.int .i64 nr, .int .i64 fr, .int .i64 to, .int .i64 am] 44) = w0 := ⟨_, rfl⟩
  have hb0 : Below w.heap.size w w0 := by rw [← hw0]; exact aB _ _
  have x0 : w0.cell? ⟨w.heap.size, 0, none⟩ = some (.int .i64 nr) := by rw [← hw0]; simp
  have x1 : w0.cell? ⟨w.heap.size, 1, none⟩ = some (.int .i64 fr) := by rw [← hw0]; simp
  have x2 : w0.cell? ⟨w.heap.size, 2, none⟩ = some (.int .i64 to) := by rw [← hw0]; simp
  have x3 : w0.cell? ⟨w.heap.size, 3, none⟩ = some (.int .i64 am) := by rw [← hw0]; simp
  have h0 := h.below hb0
  have l0 : w0.cell? ⟨l, 0, none⟩ = some (.slice a n cap) := by rw [cell_of_heap h0.box]; rfl
  have l2 : w0.cell? ⟨l, 2, none⟩ = some (.map (some M1)) := by rw [cell_of_heap h0.box]; rfl
  have l3 : w0.cell? ⟨l, 3, none⟩ = some (.map (some M2)) := by rw [cell_of_heap h0.box]; rfl
  have HB0 := Lib.hid hb0
  have HL0 := Lib.hid h0
  have HW0 := Lib.hid hw0
  have HER := Lib.hid her
  have HY := Lib.hid hy
  have HKN := Lib.hid hkn
  have HLK := Lib.hid hlk
  have HO := Lib.hid h
  clear hb0 h0 hw0 her hy hkn hlk h
  go_enter Try.func43, Try.ntmps43
  go_wp2_with fail
  rw [HW0.out]
  refine wp_region_gen 13 (fun i v _ => match i with
    | 0 | 1 => v = .pointer (some ⟨l, 0, none⟩)
    | 2 => v = .pointer (some ⟨l, 2, none⟩)
    | 3 => v = .map (some M1)
    | 4 => v = .pointer (some ⟨w.heap.size, 0, none⟩)
    | 5 => v = .int .i64 nr
    | 6 | 7 => v = .tuple #[.agg #[.int .i64 y0, .int .i64 y1, .int .i64 y2, .int .i64 y3], .bool kn]
    | 8 => v = .agg #[.int .i64 y0, .int .i64 y1, .int .i64 y2, .int .i64 y3]
    | 9 => v = .bool kn
    | 10 => v = .pointer (some ⟨w0.heap.size, 0, none⟩)
    | 12 => v = .bool kn
    | _ => True) (JBox w0 10 11 44 #[.int .i64 0, .int .i64 0, .int .i64 0, .int .i64 0] #[.int .i64 y0, .int .i64 y1, .int .i64 y2, .int .i64 y3]) mix (by kernel_rfl) JBox.start ?_ ?_
  · refine ⟨?_, ?_, ?_, ?_, ?_, ?_, ?_, ?_, ?_, ?_, ?_, ?_, ?_, trivial⟩
    all_goals refine gen_plain rfl fun a W L hSi hJ hpre ht' => ?_
    all_goals
      simp [Region.binds] at hpre
      have t5 := ht' 5 rfl
      simp at t5
      have x0' := bAt hJ.below x0
      have l2' := bAt hJ.below l2
      have hl' := HLK.out W (HL0.out.mv.below hJ.below)
    · have t0 := ht' 0 rfl
      simp at t0
      simp [opOK, go_sem, t0]
      exact ⟨hJ.read (by omega) (by omega), fun j _ _ v h _ => h⟩
    iterate 9
      (· simp [opOK, go_sem, t5, hpre, x0', l2', hl']
         exact ⟨hJ.read (by omega) (by omega), fun j _ _ v h _ => h⟩)
    · exact opOK_val (v := .pointer (some ⟨W.heap.size, 0, none⟩)) (w' := W.alloc (.cells #[.int .i64 0, .int .i64 0, .int .i64 0, .int .i64 0] 44)) (by simp [go_sem, execOp]) ⟨(hJ.alloc hSi (by omega)).1, fun j _ _ v h _ => h, by show Value.pointer (some ⟨W.heap.size, 0, none⟩) = Value.pointer (some ⟨w0.heap.size, 0, none⟩); rw [(hJ.alloc hSi (by omega)).2]⟩
    · have t7 := hpre.1.2
      have t17 := hpre.2.1.2
      have h10 := hpre.1.1
      clear hpre
      exact opOK_store_row 44 (.tmp 7) (.tmp 17) rfl w0.heap.size #[.int .i64 y0, .int .i64 y1, .int .i64 y2, .int .i64 y3] (by simp [Act.eval, t7]) (by simp [Act.eval, t17]) 44 _ (hJ.on h10 hSi) (by kernel_rfl) rfl (by simp [Value.oneCell']) ⟨hJ.store h10 hSi (by omega), fun j _ _ v h _ => h, trivial⟩
    · simp [opOK, go_sem, hpre]
      exact ⟨hJ.read (by omega) (by omega), fun j _ _ v h _ => h⟩
  intro w1 hJ
  simp only [List.take_succ_cons, List.take_zero, List.drop_succ_cons, List.drop_zero, EndAll]
  rintro _ rfl _ rfl _ rfl _ rfl _ rfl _ rfl _ rfl _ rfl _ rfl _ rfl _ rfl v1 - _ rfl
  have hst := hJ.st (by decide)
  have HB1 := Lib.hid (bThen HB0.out hJ.below)
  have HL1 := Lib.hid (HL0.out.below hJ.below)
  replace x0 := bAt hJ.below x0
  replace x1 := bAt hJ.below x1
  replace x2 := bAt hJ.below x2
  replace x3 := bAt hJ.below x3
  replace l0 := bAt hJ.below l0
  replace l2 := bAt hJ.below l2
  replace l3 := bAt hJ.below l3
  have k0 : w1.cell? ⟨w0.heap.size, 0, none⟩ = some (.int .i64 y0) := by rw [cell_of_heap hst]; rfl
  have k1 : w1.cell? ⟨w0.heap.size, 1, none⟩ = some (.int .i64 y1) := by rw [cell_of_heap hst]; rfl
  have k2 : w1.cell? ⟨w0.heap.size, 2, none⟩ = some (.int .i64 y2) := by rw [cell_of_heap hst]; rfl
  have k3 : w1.cell? ⟨w0.heap.size, 3, none⟩ = some (.int .i64 y3) := by rw [cell_of_heap hst]; rfl
  simp only [Act.put, List.setIfInBounds_toArray, List.set_cons_succ, List.set_cons_zero]
  clear hJ hst v1
  obtain ⟨b1, hb1⟩ : ∃ b, isIn nr 0 1000000 = b := ⟨_, rfl⟩
  obtain ⟨b2, hb2⟩ : ∃ b, [fr, to].any (outB 0 ((n : Int) - 1)) = b := ⟨_, rfl⟩
  obtain ⟨b3, hb3⟩ : ∃ b, decide (fr = to) = b := ⟨_, rfl⟩
  obtain ⟨b4, hb4⟩ : ∃ b, isIn am 1 1000000000 = b := ⟨_, rfl⟩
  obtain ⟨b5, hb5⟩ : ∃ b, decide (((y0, y1, y2, y3) : Mv) = (nr, fr, to, am)) = b := ⟨_, rfl⟩
  have HE : Hid (er = if b1 = false then 2 else if b2 = true then 7 else if b3 = true then 6 else if b4 = false then 3 else if (kn && !b5) = true then 4 else 0) := Lib.hid (by
    have h2 : (isIn fr 0 ((n : Int) - 1) && isIn to 0 ((n : Int) - 1)) = !b2 := by
      rw [← hb2, Bool.eq_iff_iff]; simp [outB, isIn]
    have h3 : (fr = to) ↔ b3 = true := by rw [← hb3]; simp
    rw [← HER.out, enterErr, moveErr]
    simp only [hb1, h2, h3, hb4]
    have hy := HY.out
    have hk := HKN.out
    cases hq : numE E nr with
    | none => rw [hq] at hk; subst hk; cases b1 <;> cases b2 <;> cases b3 <;> cases b4 <;> simp
    | some e =>
      rw [hq] at hk hy; simp at hy; subst hk
      rw [← hb5, ← hy]
      cases b1 <;> cases b2 <;> cases b3 <;> cases b4 <;> simp)
  have H1 := Lib.hid hb1
  have H2 := Lib.hid hb2
  have H4 := Lib.hid hb4
  have H5 := Lib.hid hb5
  have hw1 : IntKind.i64.wrap ((n : Int) - 1) = (n : Int) - 1 := wrap_small _ (by omega) (by omega)
  clear hb1 hb2 hb4 hb5
  go_wp2_with fail
  refine (within_one' 0 1000000 nr b1 H1 _ _ (Sl.new1 (fun _ => True) w1 trivial 3 (.int .i64 nr))).mono ?_
  rintro e w2 ⟨rfl, hb2⟩
  replace hb2 := bThen (aB _ _) hb2
  have HB2 := Lib.hid (bThen HB1.out hb2)
  have HL2 := Lib.hid (HL1.out.below hb2)
  replace x0 := bAt hb2 x0
  replace x1 := bAt hb2 x1
  replace x2 := bAt hb2 x2
  replace x3 := bAt hb2 x3
  replace l0 := bAt hb2 l0
  replace l2 := bAt hb2 l2
  replace l3 := bAt hb2 l3
  replace k0 := bAt hb2 k0
  replace k1 := bAt hb2 k1
  replace k2 := bAt hb2 k2
  replace k3 := bAt hb2 k3
  clear hb2
  have hMO : ∀ q, MO M1 M2 q → q < w.heap.size := fun q hq => by rcases hq with rfl | rfl; exact HO.out.mv.lt; exact HO.out.at_.lt
  have HMO := Lib.hid hMO
  clear hMO
  cases b1
  · have he : er = 2 := HE.out
    clear HE
    subst he
    go_wp2
    go_ret
    exact ⟨rfl, Rel.of_below HB2.out HMO.out, fun h => by cases h⟩
  go_wp2_with fail
  refine wp_region_seq 15 [.is ?_, .is ?_, .is ?_, .is ?_, .is ?_, .is ?_, .is ?_, .is ?_, .is ?_, .is ?_, .is ?_, kSl 3 [.int .i64 fr, .int .i64 to], .is (.bool (!b2)), .is ?_, .is ?_] rfl mix (by kernel_rfl) (by kernel_rfl) ?seqm
  case seqm =>
    simp only [List.take_succ_cons, List.take_zero]
    iterate 11
      refine seq_is rfl (fun w3 hb3 _ => ?_) ?_
      · have x1' := bAt hb3 x1
        have x2' := bAt hb3 x2
        have l0' := bAt hb3 l0
        simp [opOK, go_sem, x1', x2', l0', hw1, Below.refl]
        try exact rfl
      simp only [Act.put, List.setIfInBounds_toArray, List.set_cons_succ, List.set_cons_zero]
    refine seq_new ⟨_, 0, rfl⟩ (by rfl) (fun w3 hb3 _ => ?_) ?_
    · refine opOK_val (v := .slice (some ⟨w3.heap.size, 0, none⟩) 2 2) (w' := w3.alloc (.cells #[.int .i64 fr, .int .i64 to] 3)) (by simp [go_sem, execOp]) ⟨aB _ _, ⟨_, rfl⟩, _, rfl, World.alloc_heap_new _ _⟩
    rintro v ⟨bs, rfl⟩
    simp only [Act.put, List.setIfInBounds_toArray, List.set_cons_succ, List.set_cons_zero]
    refine seq_is rfl (fun w3 hb3 hH => ?_) ?_
    · have hs := hH ⟨11, .data⟩ (by simp) rfl
      simp [addH, kSl] at hs
      refine opOK_call (f := 28) (args := #[.int .i64 0, .int .i64 ((n : Int) - 1), .slice (some ⟨bs, 0, none⟩) 2 2]) (by simp [go_sem]) ?_
      exact (within_r 0 ((n : Int) - 1) [fr, to] b2 H2 _ _ (sl_blk (t := 3) (xs := ints [fr, to]) hs (by simp [maxLen]))).mono fun e W' ⟨he, hb⟩ => ⟨_, he, rfl, hb⟩
    simp only [Act.put, List.setIfInBounds_toArray, List.set_cons_succ, List.set_cons_zero]
    iterate 2
      refine seq_is rfl (fun w3 hb3 _ => ?_) ?_
      · simp [opOK, go_sem, Below.refl]
        try exact rfl
      simp only [Act.put, List.setIfInBounds_toArray, List.set_cons_succ, List.set_cons_zero]
    refine seq_end fun w3 hb3 _ => ?_
    simp only [List.drop_succ_cons, List.drop_zero]
    have HB3 := Lib.hid (bThen HB2.out hb3)
    have HL3 := Lib.hid (HL2.out.below hb3)
    replace x0 := bAt hb3 x0
    replace x1 := bAt hb3 x1
    replace x2 := bAt hb3 x2
    replace x3 := bAt hb3 x3
    replace l0 := bAt hb3 l0
    replace l2 := bAt hb3 l2
    replace l3 := bAt hb3 l3
    replace k0 := bAt hb3 k0
    replace k1 := bAt hb3 k1
    replace k2 := bAt hb3 k2
    replace k3 := bAt hb3 k3
    clear hb3 HB2 HL2 HL1 HB1 HL0
    have hq3 : (fr == to) = b3 := by rw [← hb3]; rfl
    cases b2
    · cases b3
      · go_wp2_with fail
        refine (within_one' 1 1000000000 am b4 H4 _ _ (Sl.new1 (fun _ => True) w3 trivial 3 (.int .i64 am))).mono ?_
        rintro e w4 ⟨rfl, hb4⟩
        replace hb4 := bThen (aB _ _) hb4
        have HB4 := Lib.hid (bThen HB3.out hb4)
        have HL4 := Lib.hid (HL3.out.below hb4)
        replace x0 := bAt hb4 x0
        replace x1 := bAt hb4 x1
        replace x2 := bAt hb4 x2
        replace x3 := bAt hb4 x3
        replace l0 := bAt hb4 l0
        replace l2 := bAt hb4 l2
        replace l3 := bAt hb4 l3
        replace k0 := bAt hb4 k0
        replace k1 := bAt hb4 k1
        replace k2 := bAt hb4 k2
        replace k3 := bAt hb4 k3
        clear hb4 HB3 HL3
        cases b4
        · have he : er = 3 := HE.out
          clear HE
          subst he
          go_wp2
          go_ret
          exact ⟨rfl, Rel.of_below HB4.out HMO.out, fun h => by cases h⟩
        · have hne : ∀ w, (binOp .neq 44 (.agg #[.int .i64 y0, .int .i64 y1, .int .i64 y2, .int .i64 y3]) (.agg #[.int .i64 nr, .int .i64 fr, .int .i64 to, .int .i64 am])).run Try.prog w = .ok (.bool (!b5)) w := fun w => by
            have := ne_mv (y0, y1, y2, y3) (nr, fr, to, am) w
            rw [H5.out] at this
            exact this
          cases kn
          · have he : er = 0 := HE.out
            clear HE
            subst he
            go_wp2_with fail
            have hnone : numE E nr = none := Option.isNone_iff_eq_none.1 (by rw [← Option.not_isSome, HKN.out]; rfl)
            obtain ⟨es1, c1, h11, h12, h13, h14⟩ := HL4.out.mv
            obtain ⟨es2, c2, h21, h22, h23, h24⟩ := HL4.out.at_
            have hne12 := HL4.out.ne
            have hdf := HL4.out.diff
            have hbx : w.heap.size ≠ M1 ∧ w.heap.size ≠ M2 := ⟨fun e => Nat.lt_irrefl _ (HMO.out M1 (.inl rfl) |> fun h => by rw [← e] at h; exact h), fun e => Nat.lt_irrefl _ (HMO.out M2 (.inr rfl) |> fun h => by rw [← e] at h; exact h)⟩
            have h12' : es1.toList.map (·.key) = ((recL E).map (·.1)).map (Value.int .i64) := by rw [h12, List.map_map]; rfl
            have h22' : es2.toList.map (·.key) = ((firL E).map (·.1)).map (Value.int .i64) := by rw [h22, List.map_map]; rfl
            have hnin1 : nr ∉ (recL E).map (·.1) := by have := numE_none hnone; simpa [recL, Function.comp_def] using this
            have hnin2 : nr ∉ (firL E).map (·.1) := by have := numE_none hnone; simpa [firL, Function.comp_def] using this
            have hbn1 : ∀ e' ∈ es1.toList, e'.born ≠ c1 := fun e' he' e => by have := h14.2 e' he'; omega
            have hbn2 : ∀ e' ∈ es2.toList, e'.born ≠ c2 := fun e' he' e => by have := h24.2 e' he'; omega
            refine wp_region_gen 20 (fun i v _ => match i with
              | 0 | 1 => v = .pointer (some ⟨l, 0, none⟩)
              | 2 => v = .pointer (some ⟨l, 2, none⟩)
              | 3 => v = .map (some M1)
              | 4 => v = .pointer (some ⟨w.heap.size, 0, none⟩)
              | 5 => v = .int .i64 nr
              | 6 | 7 => v = .pointer (some ⟨l, 0, none⟩)
              | 8 => v = .pointer (some ⟨l, 3, none⟩)
              | 9 => v = .map (some M2)
              | 10 => v = .pointer (some ⟨w.heap.size, 0, none⟩)
              | 11 => v = .int .i64 nr
              | 12 => v = .agg #[.int .i64 nr, .int .i64 fr, .int .i64 to, .int .i64 am]
              | 13 => v = .int .i64 k
              | 14 => v = .tuple #[mvV (0, 0, 0, 0), .int .i64 (c1 : Nat)]
              | 15 => v = .int .i64 (c1 : Nat)
              | 17 => v = .tuple #[.int .i64 0, .int .i64 (c2 : Nat)]
              | 18 => v = .int .i64 (c2 : Nat)
              | _ => True) (JTwoM w4 M1 M2 14 16 17 19 (.map es1 c1) (.map (es1.push { key := .int .i64 nr, val := mvV (0, 0, 0, 0), born := c1 }) (c1 + 1)) (.map (es1.push { key := .int .i64 nr, val := mvV (nr, fr, to, am), born := c1 }) (c1 + 1))
                (.map es2 c2) (.map (es2.push { key := .int .i64 nr, val := .int .i64 0, born := c2 }) (c2 + 1)) (.map (es2.push { key := .int .i64 nr, val := .int .i64 k, born := c2 }) (c2 + 1))) mix (by kernel_rfl) (JTwoM.start h11 h21) ?_ ?_
            · refine ⟨?_, ?_, ?_, ?_, ?_, ?_, ?_, ?_, ?_, ?_, ?_, ?_, ?_, ?_, ?_, ?_, ?_, ?_, ?_, ?_, trivial⟩
              all_goals refine gen_plain rfl fun a W L hSi hJ hpre ht' => ?_
              all_goals
                simp [Region.binds] at hpre
                have t5 := ht' 5 rfl
                simp at t5
                have x0' := hJ.cell x0 hbx.1 hbx.2
                have x1' := hJ.cell x1 hbx.1 hbx.2
                have x2' := hJ.cell x2 hbx.1 hbx.2
                have x3' := hJ.cell x3 hbx.1 hbx.2
                have l2' := hJ.cell l2 hdf.1 hdf.2
                have l3' := hJ.cell l3 hdf.1 hdf.2
              · have t0 := ht' 0 rfl
                simp at t0
                simp [opOK, go_sem, t0]
                exact ⟨hJ.read (by omega) (by omega) (by omega) (by omega), fun j _ _ v h _ => h⟩
              iterate 5
                (· simp [opOK, go_sem, t5, hpre, x0', l2']
                   exact ⟨hJ.read (by omega) (by omega) (by omega) (by omega), fun j _ _ v h _ => h⟩)
              · have t0 := ht' 0 rfl
                simp at t0
                simp [opOK, go_sem, t0]
                exact ⟨hJ.read (by omega) (by omega) (by omega) (by omega), fun j _ _ v h _ => h⟩
              iterate 5
                (· simp [opOK, go_sem, t5, hpre, x0', l3']
                   exact ⟨hJ.read (by omega) (by omega) (by omega) (by omega), fun j _ _ v h _ => h⟩)
              · simp [opOK, go_sem, t5, x0', x1', x2', x3']
                exact ⟨hJ.read (by omega) (by omega) (by omega) (by omega), fun j _ _ v h _ => h⟩
              · have t1 := ht' 1 rfl
                simp at t1
                simp [opOK, go_sem, t1]
                exact ⟨hJ.read (by omega) (by omega) (by omega) (by omega), fun j _ _ v h _ => h⟩
              · have e := run_entry_new int_key (T := 102) (E := 44) (by rfl) (zero_mv W) nr (hJ.a0 hSi).2 h12' hnin1
                exact opOK_val (v := .tuple #[mvV (0, 0, 0, 0), .int .i64 (c1 : Nat)]) (w' := putAt W M1 _) (by simp [go_sem, execOp, hpre]; rw [e]; rfl) ⟨hJ.entry hSi hne12 (by omega) (by omega) (by omega), fun j _ _ v h _ => h, rfl⟩
              · simp [opOK, go_sem, hpre]
                exact ⟨hJ.read (by omega) (by omega) (by omega) (by omega), fun j _ _ v h _ => h⟩
              · have h14 := hpre.2.2.2.1.1
                have e : (Instr.entryStore 102 (.map (some M1)) (.int .i64 (c1 : Nat)) (.agg #[.int .i64 nr, .int .i64 fr, .int .i64 to, .int .i64 am])).run Try.prog W = _ := run_store_new (P := Try.prog) (T := 102) (hJ.a1 h14 hSi) hbn1 (mvV (nr, fr, to, am))
                exact opOK_skip (w' := putAt W M1 _) (by simp [go_sem, execOp, hpre]; rw [e]; rfl) ⟨hJ.store h14 hSi hne12 (by omega) (by omega) (by omega), fun j _ _ v h _ => h, trivial⟩
              · have e := run_entry_new int_key (T := 84) (E := 3) (by rfl) (zero_i W) nr (hJ.b0 hSi).2 h22' hnin2
                exact opOK_val (v := .tuple #[.int .i64 0, .int .i64 (c2 : Nat)]) (w' := putAt W M2 _) (by simp [go_sem, execOp, hpre]; rw [e]; rfl) ⟨(hJ.swap.entry hSi hne12.symm (by omega) (by omega) (by omega)).swap, fun j _ _ v h _ => h, rfl⟩
              · simp [opOK, go_sem, hpre]
                exact ⟨hJ.read (by omega) (by omega) (by omega) (by omega), fun j _ _ v h _ => h⟩
              · have h17 := hpre.2.2.2.1.1
                have e : (Instr.entryStore 84 (.map (some M2)) (.int .i64 (c2 : Nat)) (.int .i64 k)).run Try.prog W = _ := run_store_new (P := Try.prog) (T := 84) (hJ.b1 h17 hSi) hbn2 (.int .i64 k)
                exact opOK_skip (w' := putAt W M2 _) (by simp [go_sem, execOp, hpre]; rw [e]; rfl) ⟨(hJ.swap.store h17 hSi hne12.symm (by omega) (by omega) (by omega)).swap, fun j _ _ v h _ => h, trivial⟩
            intro w5 hJ
            simp only [List.take_succ_cons, List.take_zero, List.drop_succ_cons, List.drop_zero, EndAll]
            rintro _ rfl _ rfl _ rfl _ rfl _ rfl _ rfl _ rfl _ rfl _ rfl _ rfl _ rfl _ rfl _ rfl _ rfl _ rfl _ rfl v16 - _ rfl _ rfl v19 -
            simp only [Act.put, List.setIfInBounds_toArray, List.set_cons_succ, List.set_cons_zero]
            have hrel : Rel (MO M1 M2) w (MO M1 M2) w5 := ⟨hJ.os.trans HB4.out.os, hJ.tape.trans HB4.out.tape, hJ.output.trans HB4.out.output, by rw [hJ.size]; exact HB4.out.size,
              fun q hq hn => (hJ.block q (fun e => hn (.inl e)) (fun e => hn (.inr e))).trans (HB4.out.block q hq), fun q hq => .inl hq, fun q hq => by rw [hJ.size]; exact Nat.lt_of_lt_of_le (HMO.out q hq) HB4.out.size⟩
            have hled : LedAt w5 l M1 M2 (.slice a n cap) vb (enterE E k (nr, fr, to, am)) := by
              have : enterE E k (nr, fr, to, am) = E ++ [((nr, fr, to, am), k)] := by unfold enterE; rw [hnone]; rfl
              rw [this]
              exact ⟨(hJ.block l hdf.1 hdf.2).trans HL4.out.box, ⟨_, _, hJ.a2 (by decide), by simp [h12, recL], by simp [h13, recL], h14.push _ _⟩, ⟨_, _, hJ.b2 (by decide), by simp [h22, firL], by simp [h23, firL], h24.push _ _⟩, hne12⟩
            have HREL := Lib.hid hrel
            have HLED := Lib.hid hled
            clear hrel hled hJ h11 h12 h13 h14 h21 h22 h23 h24 v16 v19 hbn1 hbn2 hnin1 hnin2 h12' h22'
            go_wp2
            go_ret
            exact ⟨rfl, HREL.out, HLED.out⟩
          · cases b5
            · have he : er = 4 := HE.out
              clear HE
              subst he
              go_wp2
              go_ret
              exact ⟨rfl, Rel.of_below HB4.out HMO.out, fun h => by cases h⟩
            · have he : er = 0 := HE.out
              clear HE
              subst he
              go_wp2
              go_ret
              refine ⟨rfl, Rel.of_below HB4.out HMO.out, ?_⟩
              have : enterE E k (nr, fr, to, am) = E := by unfold enterE; rw [HKN.out]; rfl
              rw [this]; exact HL4.out
      · have he : er = 6 := HE.out
        clear HE
        subst he
        go_wp2
        go_ret
        exact ⟨rfl, Rel.of_below HB3.out HMO.out, fun h => by cases h⟩
    · have he : er = 7 := HE.out
      clear HE
      subst he
      go_wp2
      go_ret
      exact ⟨rfl, Rel.of_below HB3.out HMO.out, fun h => by cases h⟩
end Go.Proofs.Ytagfcodpgochjaa

/- Chapter 12: three contracts of the library, laid over this program by the kit's lay-shelf and lay-plain. -/
namespace Go.Proofs
open Go.Shelf
def Try.lays125_ren : Go.Shelf.Ren := ⟨fun | 125 => 78 | 128 => 93 | 129 => 94 | n => n, fun | 46 => 136 | 3 => 3 | 51 => 46 | 53 => 149 | 4 => 4 | 5 => 5 | 9 => 9 | n => n, fun | n => n⟩
theorem Try.lays125 : Go.Proofs.Lays.n125 Try.prog Try.lays125_ren := {
  mixed := by kernel_rfl
  f125 := Try.func78.trans (congrArg some (by kernel_rfl))
  f128 := Try.func93.trans (congrArg some (by kernel_rfl))
  f129 := Try.func94.trans (congrArg some (by kernel_rfl))
  t3 := Try.underlying3
  a3 := Try.isAgg3
  z3 := Try.sizeOf3
  v3 := Try.zeroValue3
  t4 := Try.underlying4
  a4 := Try.isAgg4
  z4 := Try.sizeOf4
  v4 := Try.zeroValue4
  t5 := Try.underlying5
  a5 := Try.isAgg5
  z5 := Try.sizeOf5
  v5 := Try.zeroValue5
  t9 := Try.underlying9
  a9 := Try.isAgg9
  z9 := Try.sizeOf9
  v9 := Try.zeroValue9
  t46 := Try.underlying136
  a46 := Try.isAgg136
  z46 := Try.sizeOf136
  v46 := Try.zeroValue136
  t51 := Try.underlying46
  a51 := Try.isAgg46
  z51 := Try.sizeOf46
  v51 := Try.zeroValue46
  t53 := Try.underlying149
  a53 := Try.isAgg149
  z53 := Try.sizeOf149
  v53 := Try.zeroValue149 }
theorem Try.bits_Len (x : Int) (w : World) (h0 : 0 ≤ x) (h1 : x ≤ 18446744073709551615) :
    Calls Try.prog 78 #[.int .u64 x] w fun e w' => e = .returned (.int .i64 (Lib.bitLen x.toNat)) ∧ w' = w := Any.bits_Len Try.lays125 x w h0 h1
def Try.lays189_ren : Go.Shelf.Ren := ⟨fun | 189 => 65 | 125 => 78 | 257 => 77 | 128 => 93 | 129 => 94 | 294 => 84 | 295 => 85 | 296 => 86 | 297 => 87 | 298 => 88 | 299 => 89 | 216 => 90 | 300 => 91 | 301 => 92 | 328 => 104 | 329 => 105 | 330 => 106 | 331 => 107 | 332 => 108 | 215 => 70 | 343 => 112 | n => n, fun | 28 => 22 | 3 => 3 | 46 => 136 | 0 => 0 | 51 => 46 | 53 => 149 | 4 => 4 | 183 => 154 | 182 => 153 | 131 => 126 | 5 => 5 | 9 => 9 | 218 => 167 | 222 => 171 | 228 => 175 | 229 => 176 | n => n, fun | n => n⟩
theorem Try.lays189 : Go.Proofs.Lays.n189 Try.prog Try.lays189_ren := {
  mixed := by kernel_rfl
  f125 := Try.func78.trans (congrArg some (by kernel_rfl))
  f128 := Try.func93.trans (congrArg some (by kernel_rfl))
  f129 := Try.func94.trans (congrArg some (by kernel_rfl))
  f189 := Try.func65.trans (congrArg some (by kernel_rfl))
  f215 := Try.func70.trans (congrArg some (by kernel_rfl))
  f216 := Try.func90.trans (congrArg some (by kernel_rfl))
  f257 := Try.func77.trans (congrArg some (by kernel_rfl))
  f294 := Try.func84.trans (congrArg some (by kernel_rfl))
  f295 := Try.func85.trans (congrArg some (by kernel_rfl))
  f296 := Try.func86.trans (congrArg some (by kernel_rfl))
  f297 := Try.func87.trans (congrArg some (by kernel_rfl))
  f298 := Try.func88.trans (congrArg some (by kernel_rfl))
  f299 := Try.func89.trans (congrArg some (by kernel_rfl))
  f300 := Try.func91.trans (congrArg some (by kernel_rfl))
  f301 := Try.func92.trans (congrArg some (by kernel_rfl))
  f328 := Try.func104.trans (congrArg some (by kernel_rfl))
  f329 := Try.func105.trans (congrArg some (by kernel_rfl))
  f330 := Try.func106.trans (congrArg some (by kernel_rfl))
  f331 := Try.func107.trans (congrArg some (by kernel_rfl))
  f332 := Try.func108.trans (congrArg some (by kernel_rfl))
  f343 := Try.func112.trans (congrArg some (by kernel_rfl))
  t0 := Try.underlying0
  a0 := Try.isAgg0
  z0 := Try.sizeOf0
  v0 := Try.zeroValue0
  t3 := Try.underlying3
  a3 := Try.isAgg3
  z3 := Try.sizeOf3
  v3 := Try.zeroValue3
  t4 := Try.underlying4
  a4 := Try.isAgg4
  z4 := Try.sizeOf4
  v4 := Try.zeroValue4
  t5 := Try.underlying5
  a5 := Try.isAgg5
  z5 := Try.sizeOf5
  v5 := Try.zeroValue5
  t9 := Try.underlying9
  a9 := Try.isAgg9
  z9 := Try.sizeOf9
  v9 := Try.zeroValue9
  t28 := Try.underlying22
  a28 := Try.isAgg22
  z28 := Try.sizeOf22
  v28 := Try.zeroValue22
  t46 := Try.underlying136
  a46 := Try.isAgg136
  z46 := Try.sizeOf136
  v46 := Try.zeroValue136
  t51 := Try.underlying46
  a51 := Try.isAgg46
  z51 := Try.sizeOf46
  v51 := Try.zeroValue46
  t53 := Try.underlying149
  a53 := Try.isAgg149
  z53 := Try.sizeOf149
  v53 := Try.zeroValue149
  t131 := Try.underlying126
  a131 := Try.isAgg126
  z131 := Try.sizeOf126
  v131 := Try.zeroValue126
  t182 := Try.underlying153
  a182 := Try.isAgg153
  z182 := Try.sizeOf153
  v182 := Try.zeroValue153
  t183 := Try.underlying154
  a183 := Try.isAgg154
  z183 := Try.sizeOf154
  v183 := Try.zeroValue154
  t218 := Try.underlying167
  a218 := Try.isAgg167
  z218 := Try.sizeOf167
  v218 := Try.zeroValue167
  t222 := Try.underlying171
  a222 := Try.isAgg171
  z222 := Try.sizeOf171
  v222 := Try.zeroValue171
  t228 := Try.underlying175
  a228 := Try.isAgg175
  z228 := Try.sizeOf175
  v228 := Try.zeroValue175
  t229 := Try.underlying176
  a229 := Try.isAgg176
  z229 := Try.sizeOf176
  v229 := Try.zeroValue176 }
open Go.Sort Go.RowKit in
theorem Try.slices_Sort_int (blk off cap : Nat) (zs : List Int) (w : World) (hH : Holds (Value.int .i64) w blk off zs.toArray) (hblk : blk < w.heap.size) (hsz : zs.length < 4611686018427387904) :
    Calls Try.prog 65 #[.slice (some ⟨blk, off, none⟩) zs.length cap] w fun e w' =>
      e = .returned (.tuple #[]) ∧ ∃ n os, w' = grow (putRow (Value.int .i64) (Sort.ahead w n) blk off (zs.mergeSort fun x y => decide (x ≤ y)).toArray) os := Any.slices_Sort_int Try.lays189 blk off cap zs w hH hblk hsz
def Try.lays212_ren : Go.Shelf.Ren := ⟨fun | 212 => 71 | 263 => 81 | 264 => 82 | n => n, fun | 46 => 136 | 51 => 46 | 146 => 147 | 53 => 149 | 148 => 150 | n => n, fun | n => n⟩
theorem Try.lays212 : Go.Proofs.Lays.n212 Try.prog Try.lays212_ren := {
  mixed := by kernel_rfl
  f212 := Try.func71.trans (congrArg some (by kernel_rfl))
  f263 := Try.func81.trans (congrArg some (by kernel_rfl))
  f264 := Try.func82.trans (congrArg some (by kernel_rfl))
  t46 := Try.underlying136
  a46 := Try.isAgg136
  z46 := Try.sizeOf136
  v46 := Try.zeroValue136
  t51 := Try.underlying46
  a51 := Try.isAgg46
  z51 := Try.sizeOf46
  v51 := Try.zeroValue46
  t53 := Try.underlying149
  a53 := Try.isAgg149
  z53 := Try.sizeOf149
  v53 := Try.zeroValue149
  t146 := Try.underlying147
  a146 := Try.isAgg147
  z146 := Try.sizeOf147
  v146 := Try.zeroValue147
  t148 := Try.underlying150
  a148 := Try.isAgg150
  z148 := Try.sizeOf150
  v148 := Try.zeroValue150 }
open Go.RowKit Go.Lib in
theorem Try.bits_Mul (x y : Nat) (hx : x < 18446744073709551616) (hy : y < 18446744073709551616) (w : World) :
    Calls Try.prog 71 #[.int .u64 x, .int .u64 y] w fun e w' => e = .returned (.tuple #[.int .u64 ((x * y / 18446744073709551616 : Nat) : Int), .int .u64 ((x * y % 18446744073709551616 : Nat) : Int)]) ∧ w' = w := Any.bits_Mul Try.lays212 x y hx hy w
end Go.Proofs

/- Appending to a row of one's own, with elements of any size; what that leaves behind a box. -/
namespace Go.Oche
open Go Go.RowKit
section
variable {P : Program} {ops : Array Oper} {Q : Exit → Act → World → Prop} {o : Oper} {rest : List Oper} {a : Act} {w : World}
theorem opOK_appendN_at (s x : Operand) (t : TypeId) (ho : o.op = .call { callee := .builtin .append, args := #[s, x], argTypes := #[t, t] })
    (base : Nat) (e : TypeId) (z : Value) (size bytes : Nat) (ht : P.underlying t = some (.slice e)) (hi : (P.info? e).map (fun i => (i.zero, i.size, i.bytes)) = some (some z, size, bytes)) (hzs : z.cells.size = size) (hsz : 0 < size)
    (v : Value) (n : Nat) (xs : List Value) (hs : a.eval s = v) (hown : w.ownsRow base e size v n xs) (b off m c : Nat) (news : List Value) (hx : a.eval x = .slice (some ⟨b, off, none⟩) m c) (hl : news.length = m * size) (hnews : ∀ j u, news[j]? = some u → w.cell? ⟨b, off + j, none⟩ = some u) (h1 : ∀ u ∈ news, u.oneCell' = true)
    (h63 : n + m ≤ 100000) (hbytes : bytes ≤ 1000) (hbase : base ≤ w.heap.size) :
    opOK P o a w (fun v' w' => w'.ownsRow base e size v' (n + m) (xs ++ news) ∧ w.grownBy w' v.ownBlock ∧ (v'.ownBlock = v.ownBlock ∨ v'.ownBlock = some w.heap.size)) := by
  obtain ⟨i, hi, hz0, hz1, hz2⟩ := info_parts hi
  have hmul : (n + m) * bytes ≤ 100000 * 1000 := Nat.mul_le_mul h63 hbytes
  obtain ⟨v', w', hr, h2, h3, h4, h5⟩ := run_append_own_at (P := P) w base t o.type e i z size bytes ht hi hz0 hz1 hz2 hzs hsz v n xs hown ⟨b, off, none⟩ m c news hl
    (fun j y hj => by rw [addr_at]; exact hnews j y hj) h1 (by unfold maxLen; omega) (by omega) hbase
  unfold opOK execOp
  simp only [ho, resolve, invoke, builtin, Sem.run_bind, Sem.run_pure, Result.andThen_ok, List.map_toArray, List.map_cons, List.map_nil, hs, hx, hr]
  exact ⟨h2, h3, h5⟩
theorem wpList_appendN (hg : o.guard = none) (s x : Operand) (t : TypeId) (ho : o.op = .call { callee := .builtin .append, args := #[s, x], argTypes := #[t, t] })
    (base : Nat) (e : TypeId) (z : Value) (size bytes : Nat) (ht : P.underlying t = some (.slice e)) (hi : (P.info? e).map (fun i => (i.zero, i.size, i.bytes)) = some (some z, size, bytes)) (hzs : z.cells.size = size) (hsz : 0 < size)
    (v : Value) (n : Nat) (xs : List Value) (hs : a.eval s = v) (hown : w.ownsRow base e size v n xs) (b off m c : Nat) (news : List Value) (hx : a.eval x = .slice (some ⟨b, off, none⟩) m c) (hl : news.length = m * size) (hnews : ∀ j u, news[j]? = some u → w.cell? ⟨b, off + j, none⟩ = some u) (h1 : ∀ u ∈ news, u.oneCell' = true)
    (h63 : n + m ≤ 100000) (hbytes : bytes ≤ 1000) (hbase : base ≤ w.heap.size)
    (hK : ∀ v' w', w'.ownsRow base e size v' (n + m) (xs ++ news) → w.grownBy w' v.ownBlock → (v'.ownBlock = v.ownBlock ∨ v'.ownBlock = some w.heap.size) → wpList P ops Q rest (a.put o.dst v') w') : wpList P ops Q (o :: rest) a w :=
  wpList_opOK hg (opOK_appendN_at s x t ho base e z size bytes ht hi hzs hsz v n xs hs hown b off m c news hx hl hnews h1 h63 hbytes hbase) fun v' w' ⟨h1, h2, h3⟩ => hK v' w' h1 h2 h3
theorem wpListIn_appendN {F : Fence} (hF : Open F) (hg : o.guard = none) (s x : Operand) (t : TypeId) (ho : o.op = .call { callee := .builtin .append, args := #[s, x], argTypes := #[t, t] })
    (base : Nat) (e : TypeId) (z : Value) (size bytes : Nat) (ht : P.underlying t = some (.slice e)) (hi : (P.info? e).map (fun i => (i.zero, i.size, i.bytes)) = some (some z, size, bytes)) (hzs : z.cells.size = size) (hsz : 0 < size)
    (v : Value) (n : Nat) (xs : List Value) (hs : a.eval s = v) (hown : w.ownsRow base e size v n xs) (b off m c : Nat) (news : List Value) (hx : a.eval x = .slice (some ⟨b, off, none⟩) m c) (hl : news.length = m * size) (hnews : ∀ j u, news[j]? = some u → w.cell? ⟨b, off + j, none⟩ = some u) (h1 : ∀ u ∈ news, u.oneCell' = true)
    (h63 : n + m ≤ 100000) (hbytes : bytes ≤ 1000) (hbase : base ≤ w.heap.size)
    (hK : ∀ v' w', w'.ownsRow base e size v' (n + m) (xs ++ news) → w.grownBy w' v.ownBlock → (v'.ownBlock = v.ownBlock ∨ v'.ownBlock = some w.heap.size) → wpListIn F 0 P ops Q rest (a.put o.dst v') w') : wpListIn F 0 P ops Q (o :: rest) a w :=
  wpListIn_opOK hF hg (fun c hc => by rw [ho] at hc; cases hc) (opOK_appendN_at s x t ho base e z size bytes ht hi hzs hsz v n xs hs hown b off m c news hx hl hnews h1 h63 hbytes hbase) fun v' w' ⟨h1, h2, h3⟩ => hK v' w' h1 h2 h3
/-- A row of one's own, and the box with its slice. -/
structure BoxRow (bx : Nat) (tb e : TypeId) (size n : Nat) (xs : List Value) (O : Nat → Prop) (lv : Value) (W : World) : Prop where
  o : ∀ k, O k ↔ k = bx ∨ lv.ownBlock = some k
  box : W.heap[bx]? = some (.cells #[lv] tb (0, 0))
  row : W.ownsRow (bx + 1) e size lv n xs
theorem BoxRow.stab {bx : Nat} {tb e : TypeId} {size n : Nat} {xs : List Value} {O : Nat → Prop} {lv : Value} {A B : World} (h : BoxRow bx tb e size n xs O lv A) (hk : ∀ k, k < A.heap.size → O k → B.heap[k]? = A.heap[k]?) : BoxRow bx tb e size n xs O lv B :=
  ⟨h.o, (hk bx (Array.getElem?_eq_some_iff.1 h.box).1 ((h.o bx).2 (.inl rfl))).trans h.box, ownsN_kept h.row fun g hg => hk g (h.row.lt g hg).2 ((h.o g).2 (.inr hg))⟩
/-- One more has been appended, and the box written. -/
theorem BoxRow.more {bx : Nat} {tb e : TypeId} {size n m : Nat} {xs news : List Value} {O : Nat → Prop} {lv lv' : Value} {W Wa Wb : World} (h : BoxRow bx tb e size n xs O lv W) (hb : Below W.heap.size W Wa)
    (ho : Wb.ownsRow (bx + 1) e size lv' (n + m) (xs ++ news)) (hg : Wa.grownBy Wb lv.ownBlock) (hat : lv'.ownBlock = lv.ownBlock ∨ lv'.ownBlock = some Wa.heap.size) :
    BoxRow bx tb e size (n + m) (xs ++ news) (fun k => k = bx ∨ lv'.ownBlock = some k) lv' (Wb.setCell ⟨bx, 0, none⟩ lv') ∧ Rel O W (fun k => k = bx ∨ lv'.ownBlock = some k) (Wb.setCell ⟨bx, 0, none⟩ lv') ∧
      Wb.cell? ⟨bx, 0, none⟩ = some lv ∧ Wb.frozen? ⟨bx, 0, none⟩ = false := by
  have hbl : bx < W.heap.size := (Array.getElem?_eq_some_iff.1 h.box).1
  have hba : bx < Wa.heap.size := Nat.lt_of_lt_of_le hbl hb.size
  have hbx : Wb.heap[bx]? = some (.cells #[lv] tb (0, 0)) := (hg.block bx hba (fun e => by have := (h.row.lt bx e.symm).1; omega)).trans ((hb.block bx hbl).trans h.box)
  have hne : ∀ g, lv'.ownBlock = some g → g ≠ bx := fun g hg e => by have := (ho.lt g hg).1; omega
  refine ⟨⟨fun _ => Iff.rfl, by rw [heap_setCell_at hbx]; rfl, ownsN_kept ho fun g hg => Below.heap_setCell _ _ _ _ (hne g hg)⟩, ⟨hg.os.trans hb.os, hg.tape.trans hb.tape, hg.output.trans hb.output, ?_, fun k hk hn => ?_, fun k hk => ?_, fun k hk => ?_⟩, by rw [cell_of_heap hbx]; rfl, frozen_of_heap hbx⟩
  · have := hg.size; have := hb.size; simp; omega
  · have h1 : ¬ k = bx := fun e => hn ((h.o k).2 (.inl e))
    have h2 : ¬ lv.ownBlock = some k := fun e => hn ((h.o k).2 (.inr e))
    rw [Below.heap_setCell _ _ _ _ h1, hg.block k (Nat.lt_of_lt_of_le hk hb.size) (fun e => h2 e.symm)]
    exact hb.block k hk
  · rcases hk with rfl | hk
    · exact .inl ((h.o k).2 (.inl rfl))
    · rcases hat with e | e
      · exact .inl ((h.o k).2 (.inr (e.symm.trans hk)))
      · rw [e] at hk; cases hk; exact .inr hb.size
  · rcases hk with rfl | hk
    · have := hg.size; simp; omega
    · have := (ho.lt k hk).2; simpa using this
end
end Go.Oche

/- Chapter 12: slices.Sort of a row of one's own, or of no row. -/
namespace Go.Proofs.Ytagfcodpgochjaa
open Go.RowKit Go.Oche Go.Proofs

theorem insNil_any (w : World) : Calls Try.prog 84 #[.slice none 0 0, .int .i64 0, .int .i64 0] w fun e w' => e = .returned (.tuple #[]) ∧ Below w.heap.size w w' := by
  go_enter Try.func84, Try.ntmps84
  go_wp2
  refine wp_loop_rounds 1 ?_
  rw [rounds_succ]
  go_wp2
  go_returns
  exact ⟨rfl, Below.refl _ _⟩
theorem pdqNil_any (lim : Int) (w : World) : Calls Try.prog 77 #[.slice none 0 0, .int .i64 0, .int .i64 0, .int .i64 lim] w fun e w' => e = .returned (.tuple #[]) ∧ Below w.heap.size w w' := by
  go_enter Try.func77, Try.ntmps77
  go_wp2
  refine wp_loop_rounds 1 ?_
  rw [rounds_succ]
  go_wp2_with fail
  refine (insNil_any w).mono ?_
  rintro e w1 ⟨rfl, hb1⟩
  go_wp2
  go_returns
  exact ⟨rfl, hb1⟩
theorem sortNil_any (w : World) : Calls Try.prog 65 #[.slice none 0 0] w fun e w' => e = .returned (.tuple #[]) ∧ Below w.heap.size w w' := by
  go_enter Try.func65, Try.ntmps65
  go_wp2_with fail
  refine (Try.bits_Len 0 w (by omega) (by omega)).mono ?_
  rintro e w1 ⟨rfl, rfl⟩
  go_wp2_with fail
  refine (pdqNil_any _ w1).mono ?_
  rintro e w2 ⟨rfl, hb2⟩
  go_wp2
  go_returns
  exact ⟨rfl, hb2⟩
/-- Ascending. -/
def ascL (xs : List Int) : List Int := xs.mergeSort fun x y => decide (x ≤ y)
@[simp] theorem ascL_length (xs : List Int) : (ascL xs).length = xs.length := List.length_mergeSort _
theorem ascL_perm {xs ys : List Int} (h : xs.Perm ys) : ascL xs = ascL ys := by
  have hp : ∀ l : List Int, (ascL l).Pairwise fun a b => a ≤ b := fun l => by
    have := List.pairwise_mergeSort (le := fun x y : Int => decide (x ≤ y)) (fun a b c => by simp; omega) (fun a b => by simp; omega) l
    exact this.imp fun h => by simpa using h
  exact List.Perm.eq_of_pairwise (le := fun a b : Int => a ≤ b) (fun a b _ _ h1 h2 => by omega) (hp xs) (hp ys) (((List.mergeSort_perm _ _).trans h).trans (List.mergeSort_perm _ _).symm)
theorem sortOwn_any (base g c n : Nat) (ks : List Int) (w : World) (ho : w.ownsRow base 3 1 (.slice (some ⟨g, 0, none⟩) n c) n (ints ks)) (hn : n ≤ 100000) :
    Calls Try.prog 65 #[.slice (some ⟨g, 0, none⟩) n c] w fun e w' => e = .returned (.tuple #[]) ∧ Sl (fun q => q = g) w' (.slice (some ⟨g, 0, none⟩) n c) (ints (ascL ks)) ∧ w.grownBy w' (some g) := by
  have hl : n = ks.length := by have := owns_len ho; simpa using this.symm
  have hg := owns_blk ho
  have hH : Go.Sort.Holds (Value.int .i64) w g 0 ks.toArray := by
    intro j hj
    have hj' : j < ks.length := by simpa using hj
    have hc := ho.cellAt j (by omega)
    rw [intsAt hj'] at hc
    refine ⟨?_, ?_⟩
    · rw [Nat.zero_add, hc]; simp [hj']
    · rcases ho.2 with ⟨h, _⟩ | ⟨g', cap', cur, h, _, hb, _⟩
      · cases h
      · simp only [Value.slice.injEq, Option.some.injEq, Addr.mk.injEq, and_true, true_and] at h
        obtain ⟨rfl, _⟩ := h
        exact frozen_of_heap hb
  have hcap : n ≤ c ∧ c ≤ maxLen := by
    rcases ho.2 with ⟨h, _⟩ | ⟨g', cap', cur, h, _, hb, h1, h2, _⟩
    · cases h
    · simp only [Value.slice.injEq, Option.some.injEq, Addr.mk.injEq, and_true, true_and] at h
      obtain ⟨_, rfl⟩ := h
      exact ⟨h1, h2⟩
  subst hl
  refine (Try.slices_Sort_int g 0 c ks w hH hg.2 (by omega)).mono ?_
  rintro e w' ⟨rfl, m, os, rfl⟩
  have hsz : (ascL ks).toArray.size = ks.toArray.size := by simp
  refine ⟨rfl, ⟨_, _, by simp, by simpa using hcap.1, hcap.2, fun i x hx => ⟨g, 0, rfl, rfl, ?_⟩⟩, rfl, rfl, rfl, by simp, fun q hq hne => ?_⟩
  · have hi : i < (ascL ks).length := by have := (List.getElem?_eq_some_iff.1 hx).1; simpa using this
    have hcell := Go.Sort.cell?_putRow (Value.int .i64) (Go.Sort.ahead w m) g 0 ks.toArray (ascL ks).toArray hH hsz i (by simpa using hi)
    rw [intsAt hi] at hx
    cases hx
    obtain ⟨cc, e, fr, hb, hc⟩ := Go.Sort.cells_of_cell? hcell
    have hg2 : (Go.Sort.grow (Go.Sort.putRow (Value.int .i64) (Go.Sort.ahead w m) g 0 (ascL ks).toArray) os).heap[g]? = some (.cells cc e fr) := by
      show (_ ++ os)[g]? = _
      rw [Array.getElem?_append_left (Array.getElem?_eq_some_iff.1 hb).1]
      exact hb
    show World.cell? (Go.Sort.grow (Go.Sort.putRow (Value.int .i64) (Go.Sort.ahead w m) g 0 (ascL ks).toArray) os) ⟨g, 0 + i, none⟩ = _
    unfold World.cell?
    rw [hg2]
    simp only
    rw [hc]
    simp
    rw [List.getElem?_eq_getElem hi]; rfl
  · have hgq : g ≠ q := fun e => hne (by rw [e])
    show ((Go.Sort.putRow (Value.int .i64) (Go.Sort.ahead w m) g 0 (ascL ks).toArray).heap ++ os)[q]? = w.heap[q]?
    rw [Array.getElem?_append_left (by simpa using hq)]
    show (w.heap.modify g _)[q]? = _
    rw [Array.getElem?_modify, if_neg hgq]
theorem sort_any (base n : Nat) (v : Value) (ks : List Int) (w : World) (ho : w.ownsRow base 3 1 v n (ints ks)) (hn : n ≤ 100000) (hb : base ≤ w.heap.size) :
    Calls Try.prog 65 #[v] w fun e w' => e = .returned (.tuple #[]) ∧ Sl (fun q => base ≤ q) w' v (ints (ascL ks)) ∧ Below base w w' := by
  rcases ho.2 with ⟨rfl, rfl⟩ | ⟨g, c, cur, rfl, hg, _⟩
  · have : ks = [] := by have := owns_len ho; simpa using this
    subst this
    refine (sortNil_any w).mono ?_
    rintro e w' ⟨rfl, hb'⟩
    exact ⟨rfl, by simpa [ascL, ints] using Sl.nil _ _, hb'.mono hb⟩
  · refine (sortOwn_any base g c n ks w ho hn).mono ?_
    rintro e w' ⟨rfl, hs, hgr⟩
    exact ⟨rfl, hs.mono fun q hq => by rw [hq]; exact hg, below_grownBy hgr hb fun q hq => by cases hq; exact hg⟩
end Go.Proofs.Ytagfcodpgochjaa

/- Chapter 12: coins that came in. -/
namespace Go.Proofs.Ytagfcodpgochjaa
open Go.RowKit Go.Oche Go.Proofs

def coinBad (c : Int × Int) : Bool := !(isIn c.1 1 20000 && isIn c.2 0 1000)
def coinRow (c : Int × Int) : List Value := [.int .i64 c.1, .int .i64 c.2]
def coinV (c : Int × Int) : Value := .agg #[.int .i64 c.1, .int .i64 c.2]
theorem kindValid_any (f m : Int) (w : World) : Calls Try.prog 47 #[.agg #[.int .i64 f, .int .i64 m]] w fun e w' => e = .returned (.bool (!coinBad (f, m))) ∧ Below w.heap.size w w' := by
  obtain ⟨w0, hw0⟩ : ∃ w0, (w.alloc (.cells #[.int .i64 f, .int .i64 m] 109)) = w0 := ⟨_, rfl⟩
  have hz : w0.heap.size = w.heap.size + 1 := by rw [← hw0]; simp
  have hb0 : Below w.heap.size w w0 := by rw [← hw0]; exact aB _ _
  obtain ⟨r1, hr1⟩ : ∃ r, isIn f 1 20000 = r := ⟨_, rfl⟩
  obtain ⟨r2, hr2⟩ : ∃ r, isIn m 0 1000 = r := ⟨_, rfl⟩
  have HT : Hid (coinBad (f, m) = !(r1 && r2)) := Lib.hid (by rw [← hr1, ← hr2]; rfl)
  have x1 : w0.cell? ⟨w.heap.size, 1, none⟩ = some (.int .i64 m) := by rw [← hw0]; simp
  have HW0 := Lib.hid hw0
  have HR1 := Lib.hid hr1
  have HR2 := Lib.hid hr2
  have HZ := Lib.hid hz
  obtain ⟨w1, hw1⟩ : ∃ w1, w0.alloc (.cells #[.int .i64 f] 3) = w1 := ⟨_, rfl⟩
  have HW1 := Lib.hid hw1
  clear hw0 hr1 hr2 hz hw1
  go_enter Try.func47, Try.ntmps47
  go_wp2_with fail
  rw [HW0.out, HW1.out, ← HZ.out]
  refine (within_one' 1 20000 f r1 HR1 _ w1 (by rw [← HW1.out]; exact Sl.new1 (fun _ => True) w0 trivial 3 (.int .i64 f))).mono ?_
  rintro e w2 ⟨rfl, hb2⟩
  have hb12 : Below w0.heap.size w0 w2 := bThen (by rw [← HW1.out]; exact aB _ _) hb2
  have x2 := bAt hb12 x1
  have HBW := Lib.hid (bThen hb0 hb12)
  clear hb2 hb12 x1
  cases r1
  · go_wp2
    go_ret
    exact ⟨ret_bool (by rw [HT.out]; rfl), HBW.out⟩
  · go_wp2_with fail
    refine (within_one' 0 1000 m r2 HR2 _ _ (Sl.new1 (fun _ => True) w2 trivial 3 (.int .i64 m))).mono ?_
    rintro e w3 ⟨rfl, hb3⟩
    have HB3 := Lib.hid (bThen HBW.out (bThen (aB w2 _) hb3))
    clear hb3 x2
    go_wp2
    go_ret
    exact ⟨ret_bool (by rw [HT.out]; simp), HB3.out⟩
theorem coins1_any (c : Int × Int) (w : World) : Calls Try.prog 46 #[coinV c] w fun e w' => e = .returned (.bool (coinBad c)) ∧ Below w.heap.size w w' := by
  obtain ⟨f, m⟩ := c
  unfold coinV
  obtain ⟨w0, hw0⟩ : ∃ w0, (w.alloc (.cells #[.int .i64 f, .int .i64 m] 66)) = w0 := ⟨_, rfl⟩
  have hb0 : Below w.heap.size w w0 := by rw [← hw0]; exact aB _ _
  have HW0 := Lib.hid hw0
  clear hw0
  go_enter Try.func46, Try.ntmps46
  go_wp2_with fail
  rw [HW0.out]
  refine (kindValid_any f m _).mono ?_
  rintro e w1 ⟨rfl, hb1⟩
  have HB := Lib.hid (bThen hb0 hb1)
  clear hb0 hb1
  go_wp2
  go_ret
  exact ⟨ret_bool (by simp), HB.out⟩
/-- The first bad kind. -/
def coinIdx (ts : List (Int × Int)) : Int := if ts.any coinBad then (ts.findIdx coinBad : Nat) else -1
theorem coinIndex_any {S : Nat → Prop} (ts : List (Int × Int)) (v : Value) (w : World) (hs : SlN 2 S w v (ts.map coinRow)) :
    Calls Try.prog 66 #[v, .func (.func 46) #[] #[]] w fun e w' => e = .returned (.int .i64 (coinIdx ts)) ∧ Below w.heap.size w w' := by
  obtain ⟨a, cap, rfl, h2, h3⟩ := hs.form
  simp only [List.length_map] at *
  unfold maxLen at h3
  have HS := Lib.hid hs
  clear hs
  go_enter Try.func66, Try.ntmps66
  go_wp2
  go_loopw [5, 8] (fun _ i wr => ∃ k : Nat, k ≤ ts.length ∧ i = .int .i64 k ∧ Hid (∀ j, j < k → ∀ h : j < ts.length, coinBad ts[j] = false) ∧ Below w.heap.size w wr) (fun _ i _ => ts.length - (intOf i).toNat)
  case atStart => exact ⟨0, Nat.zero_le _, rfl, Lib.hid (fun j hj => by omega), Below.refl _ _⟩
  case round =>
    obtain ⟨k, hk, rfl, HP, hb⟩ := hrel
    by_cases hlt : k < ts.length
    · obtain ⟨b, off, rfl, _, _, hc⟩ := (HS.out.below hb).cell (show k < (ts.map coinRow).length by simpa using hlt)
      obtain ⟨t, ht⟩ : ∃ t, ts[k] = t := ⟨_, rfl⟩
      have z0 := hc 0 (.int .i64 t.1) (by simp [coinRow, ht])
      have z1 := hc 1 (.int .i64 t.2) (by simp [coinRow, ht])
      simp only [Nat.add_zero] at z0
      obtain ⟨bd, hbd⟩ : ∃ x, coinBad t = x := ⟨_, rfl⟩
      have HT := Lib.hid ht
      have HBD := Lib.hid hbd
      have HB := Lib.hid hb
      clear hc ht hbd hb
      go_wp2_with fail
      refine (coins1_any t _).mono ?_
      rintro e w1 ⟨rfl, hb1⟩
      rw [HBD.out]
      have HB1 := Lib.hid (bThen HB.out hb1)
      clear hb1 z0 z1
      cases bd
      · go_wp2_with fail
        go_roundw
        case rel => exact ⟨k + 1, by omega, by go_num, Lib.hid (fun j hj h => by
          by_cases hjk : j = k
          · subst hjk; rw [HT.out]; exact HBD.out
          · exact HP.out j (by omega) h), HB1.out⟩
        case measure => simp [intOf]; omega
      · go_wp2_with fail
        go_ret
        refine ⟨ret_int ?_, HB1.out⟩
        have h1 : ts.any coinBad = true := List.any_eq_true.2 ⟨ts[k], List.getElem_mem hlt, by rw [HT.out]; exact HBD.out⟩
        have h2 : ts.findIdx coinBad = k := (List.findIdx_eq hlt).2 ⟨by rw [HT.out]; exact HBD.out, fun j hj => by simpa using HP.out j hj (by omega)⟩
        simp [coinIdx, h1, h2]
    · obtain rfl : k = ts.length := by omega
      go_wp2
      go_ret
      refine ⟨ret_int ?_, hb⟩
      have h1 : ts.any coinBad = false := by
        rw [List.any_eq_false]
        intro x hx
        obtain ⟨j, hj, rfl⟩ := List.mem_iff_getElem.1 hx
        simp [HP.out j hj hj]
      simp [coinIdx, h1]
theorem coinContains_any {S : Nat → Prop} (ts : List (Int × Int)) (v : Value) (w : World) (hs : SlN 2 S w v (ts.map coinRow)) :
    Calls Try.prog 45 #[v, .func (.func 46) #[] #[]] w fun e w' => e = .returned (.bool (ts.any coinBad)) ∧ Below w.heap.size w w' := by
  go_enter Try.func45, Try.ntmps45
  go_wp2_with fail
  refine (coinIndex_any ts _ _ hs).mono ?_
  rintro e w1 ⟨rfl, hb1⟩
  have HB := Lib.hid hb1
  clear hb1
  go_wp2
  go_ret
  refine ⟨ret_bool ?_, HB.out⟩
  unfold coinIdx
  cases ts.any coinBad <;> simp <;> omega
end Go.Proofs.Ytagfcodpgochjaa

/- Chapter 12: the iterators over coins. -/
namespace Go.Proofs.Ytagfcodpgochjaa
open Go.RowKit Go.Oche Go.Proofs
attribute [local go_sem] Oper.semAt_some

def encC : Int × Int → Array Value → (Nat → Prop) → World → Prop := fun c args _ _ => args = #[coinV c]
theorem SlN.rel {k : Nat} {S O O' : Nat → Prop} {w w' : World} {v : Value} {rows : List (List Value)} (h : SlN k S w v rows) (hr : Rel O w O' w') (hS : ∀ q, S q → ¬ O q) : SlN k S w' v rows :=
  h.cells fun b o s hs => by
    obtain ⟨x, hx⟩ := Option.isSome_iff_exists.1 hs
    rw [hx]; exact hr.cell hx (hS b s)
set_option maxRecDepth 100000 in
set_option maxHeartbeats 1000000 in
theorem values1_in {S : Nat → Prop} (cs : List (Int × Int)) (pb : Nat) (v : Value) (w : World) (Rs : Nat → Prop)
    (cb : w.cell? ⟨pb, 0, none⟩ = some v) (hsl : SlN 2 S w v (cs.map coinRow)) (r1 : Rs pb) (r2 : ∀ k, S k → k < w.heap.size → Rs k) :
    IterIn 3 Try.prog 69 #[] #[.pointer (some ⟨pb, 0, none⟩)] encC cs Rs w := by
  intro l J Jx O W hBW hO hRs hJ hJx hY h0
  have hsl' := ((hsl.lt (by decide)).mono (S' := Rs) fun k hk => r2 k hk.1 hk.2).below hBW
  obtain ⟨a, cap, rfl, h2, h3⟩ := hsl'.form
  simp only [List.length_map] at *
  unfold maxLen at h3
  have cb' := bAt hBW cb
  clear cb hsl
  have HS := Lib.hid hsl'
  have HY := Lib.hid hY
  have HRS : Hid (∀ k, Rs k → ¬ O k) := Lib.hid (fun k hk => (hRs k hk).2)
  have n1 := (hRs pb r1).2
  clear hsl' hY hRs
  refine callsIn_of_wp Try.func69 rfl trivial ?_ rfl
  simp only [Try.ntmps69, List.size_toArray, List.length_cons, List.length_nil, Nat.reduceAdd, Nat.reduceSub, Array.replicate_succ, Array.replicate_zero, List.push_toArray, List.append_toArray, List.nil_append, List.cons_append]
  gi_wp2
  gi_loopw [7] (fun i wr => ∃ (k : Nat) (O₁ : Nat → Prop), k ≤ cs.length ∧ i = .int .i64 k ∧ Rel O W O₁ wr ∧ J (cs.take k) O₁ wr) (fun i _ => cs.length - (intOf i).toNat)
  case atStart => exact ⟨0, O, Nat.zero_le _, rfl, Rel.refl hO, by simpa using h0⟩
  case round =>
    obtain ⟨k, O₁, hk, rfl, hr, hj⟩ := hrel
    have HJ := Lib.hid hj
    clear hj cb'
    by_cases hlt : k < cs.length
    · obtain ⟨b, off, hal, _, _, hc⟩ := (SlN.rel HS.out hr HRS.out).cell (show k < (cs.map coinRow).length by simpa using hlt)
      cases hal
      obtain ⟨x, hx⟩ : ∃ x, cs[k] = x := ⟨_, rfl⟩
      have z0 := hc 0 (.int .i64 x.1) (by simp [coinRow, hx])
      have z1 := hc 1 (.int .i64 x.2) (by simp [coinRow, hx])
      simp only [Nat.add_zero] at z0
      have HX := Lib.hid hx
      obtain ⟨w1, hw1⟩ : ∃ w1, wr.alloc (.cells #[.int .i64 x.1, .int .i64 x.2] 66) = w1 := ⟨_, rfl⟩
      have hb1 : Below wr.heap.size wr w1 := by rw [← hw1]; exact aB _ _
      have hr1 := hr.ext hb1
      have HJ1 := Lib.hid (Stab.ext hJ HJ.out hb1)
      have hsplit : cs = cs.take k ++ x :: cs.drop (k + 1) := by rw [← hx, ← List.drop_eq_getElem_cons hlt, List.take_append_drop]
      have htk : cs.take k ++ [x] = cs.take (k + 1) := by rw [List.take_succ_eq_append_getElem hlt, hx]
      have HTK := Lib.hid htk
      obtain ⟨fn, tmps, assign, body, hy, hR⟩ := HY.out (cs.take k) x (cs.drop (k + 1)) #[.agg #[.int .i64 x.1, .int .i64 x.2]] O₁ w1 hsplit hr1 HJ1.out rfl
      have HRo := Lib.hid hR
      clear hR hsplit hc hx htk hb1 HJ
      subst hw1
      gi_wp2_with fail
      refine ⟨rfl, RoundIn.mono HRo.out ?_⟩
      rintro e W3 ⟨O', hr3, (⟨rfl, hj3⟩ | ⟨rfl, hj3⟩)⟩
      · have HJ3 := Lib.hid (show J (cs.take (k + 1)) O' W3 by rw [← HTK.out]; exact hj3)
        have hr4 := hr1.trans hr3
        clear hj3
        gi_wp2
        go_roundw
        case rel => exact ⟨k + 1, O', by omega, by go_num, hr4, HJ3.out⟩
        case measure => simp [intOf]; omega
      · have HJ3 := Lib.hid (show Jx (cs.take (k + 1)) O' W3 by rw [← HTK.out]; exact hj3)
        have hr4 := hr1.trans hr3
        clear hj3
        gi_wp2
        refine bodyPost_ret (results_none rfl _ _ _) rfl ?_
        exact ⟨⟨_, rfl⟩, O', hr4, .inr ⟨_, List.take_prefix _ _, HJ3.out⟩⟩
    · obtain rfl : k = cs.length := by omega
      gi_wp2
      go_end0
      exact ⟨⟨_, rfl⟩, O₁, hr, .inl (by simpa using HJ.out)⟩
def encB : Nat × Int × Int → Array Value → (Nat → Prop) → World → Prop := fun c args _ _ => args = #[.int .i64 c.1, .agg #[.int .i64 c.2.1, .int .i64 c.2.2]]
/-- From the last one back. -/
def backL (cs : List (Int × Int)) : List (Nat × Int × Int) := (List.range cs.length).reverse.map fun i => (i, cs.getD i (0, 0))
@[simp] theorem backL_length (cs : List (Int × Int)) : (backL cs).length = cs.length := by simp [backL]
theorem backL_at {cs : List (Int × Int)} {m : Nat} (h : m < cs.length) (h2 : cs.length - (m + 1) < (backL cs).length) : (backL cs)[cs.length - (m + 1)] = (m, cs[m]) := by
  have e : cs.length - 1 - (cs.length - (m + 1)) = m := by omega
  simp [backL, e, List.getD_eq_getElem?_getD, h]
set_option maxRecDepth 100000 in
set_option maxHeartbeats 1000000 in
theorem back1_in {S : Nat → Prop} (cs : List (Int × Int)) (pb : Nat) (v : Value) (w : World) (Rs : Nat → Prop)
    (cb : w.cell? ⟨pb, 0, none⟩ = some v) (hsl : SlN 2 S w v (cs.map coinRow)) (hcl : cs.length ≤ 1000) (r1 : Rs pb) (r2 : ∀ k, S k → k < w.heap.size → Rs k) :
    IterIn 3 Try.prog 72 #[] #[.pointer (some ⟨pb, 0, none⟩)] encB (backL cs) Rs w := by
  intro l J Jx O W hBW hO hRs hJ hJx hY h0
  have hsl' := ((hsl.lt (by decide)).mono (S' := Rs) fun k hk => r2 k hk.1 hk.2).below hBW
  obtain ⟨a, cap, rfl, h2, h3⟩ := hsl'.form
  simp only [List.length_map] at *
  unfold maxLen at h3
  have cb' := bAt hBW cb
  clear cb hsl
  have HS := Lib.hid hsl'
  have HY := Lib.hid hY
  have HRS : Hid (∀ k, Rs k → ¬ O k) := Lib.hid (fun k hk => (hRs k hk).2)
  have n1 := (hRs pb r1).2
  have hw0 : IntKind.i64.wrap ((cs.length : Int) - 1) = (cs.length : Int) - 1 := wrap_small _ (by omega) (by omega)
  clear hsl' hY hRs
  refine callsIn_of_wp Try.func72 rfl trivial ?_ rfl
  simp only [Try.ntmps72, List.size_toArray, List.length_cons, List.length_nil, Nat.reduceAdd, Nat.reduceSub, Array.replicate_succ, Array.replicate_zero, List.push_toArray, List.append_toArray, List.nil_append, List.cons_append]
  gi_wp2
  have CB := Lib.hid cb'
  clear hw0 cb'
  gi_loopw [3] (fun i wr => ∃ (k : Nat) (I : Int) (O₁ : Nat → Prop), k ≤ cs.length ∧ i = .int .i64 I ∧ Hid (I = (k : Int) - 1) ∧ Rel O W O₁ wr ∧ J ((backL cs).take (cs.length - k)) O₁ wr) (fun i _ => ((intOf i) + 1).toNat)
  case atStart => exact ⟨cs.length, _, O, Nat.le_refl _, rfl, Lib.hid rfl, Rel.refl hO, by simpa using h0⟩
  case round =>
    obtain ⟨k, I, O₁, hk, rfl, HI, hr, hj⟩ := hrel
    have HJ := Lib.hid hj
    clear hj
    cases k with
    | succ m =>
      obtain rfl : I = (m : Int) := by rw [HI.out]; omega
      have hlt : m < cs.length := by omega
      have cbr := rAt hr CB.out n1
      obtain ⟨b, off, hal, _, _, hc⟩ := (SlN.rel HS.out hr HRS.out).cell (show m < (cs.map coinRow).length by simpa using hlt)
      cases hal
      obtain ⟨x, hx⟩ : ∃ x, cs[m] = x := ⟨_, rfl⟩
      have z0 := hc 0 (.int .i64 x.1) (by simp [coinRow, hx])
      have z1 := hc 1 (.int .i64 x.2) (by simp [coinRow, hx])
      simp only [Nat.add_zero] at z0
      have hbl : cs.length - (m + 1) < (backL cs).length := by simp; omega
      have hat := backL_at hlt hbl
      rw [hx] at hat
      have hsplit : backL cs = (backL cs).take (cs.length - (m + 1)) ++ (m, x) :: (backL cs).drop (cs.length - (m + 1) + 1) := by rw [← hat, ← List.drop_eq_getElem_cons hbl, List.take_append_drop]
      have htk : (backL cs).take (cs.length - (m + 1)) ++ [(m, x)] = (backL cs).take (cs.length - m) := by
        rw [show cs.length - m = cs.length - (m + 1) + 1 by omega, List.take_succ_eq_append_getElem hbl, hat]
      have HTK := Lib.hid htk
      have hwm : IntKind.i64.wrap ((m : Int) - 1) = (m : Int) - 1 := wrap_small _ (by omega) (by omega)
      obtain ⟨fn, tmps, assign, body, hy, hR⟩ := HY.out ((backL cs).take (cs.length - (m + 1))) (m, x) ((backL cs).drop (cs.length - (m + 1) + 1)) #[.int .i64 m, .agg #[.int .i64 x.1, .int .i64 x.2]] O₁ wr hsplit hr HJ.out rfl
      have HRo := Lib.hid hR
      clear hR hsplit hc hx htk hat hbl HJ
      gi_wp2_with fail
      refine ⟨rfl, RoundIn.mono HRo.out ?_⟩
      rintro e W3 ⟨O', hr3, (⟨rfl, hj3⟩ | ⟨rfl, hj3⟩)⟩
      · have HJ3 := Lib.hid (show J ((backL cs).take (cs.length - m)) O' W3 by rw [← HTK.out]; exact hj3)
        have hr4 := hr.trans hr3
        clear hj3 z0 z1 cbr hr hr3
        gi_wp2
        go_roundw
        case rel => exact ⟨m, _, O', by omega, rfl, Lib.hid rfl, hr4, HJ3.out⟩
        case measure => simp [intOf]
      · have HJ3 := Lib.hid (show Jx ((backL cs).take (cs.length - m)) O' W3 by rw [← HTK.out]; exact hj3)
        have hr4 := hr.trans hr3
        clear hj3 z0 z1 cbr hr hr3
        gi_wp2
        refine bodyPost_ret (results_none rfl _ _ _) rfl ?_
        exact ⟨⟨_, rfl⟩, O', hr4, .inr ⟨_, List.take_prefix _ _, HJ3.out⟩⟩
    | zero =>
      obtain rfl : I = -1 := by rw [HI.out]; rfl
      have HJ2 : Hid (J (backL cs) O₁ wr) := Lib.hid (by have := HJ.out; rwa [Nat.sub_zero, show cs.length = (backL cs).length by simp, List.take_length] at this)
      clear HJ
      gi_wp2
      go_end0
      exact ⟨⟨_, rfl⟩, O₁, hr, .inl HJ2.out⟩
end Go.Proofs.Ytagfcodpgochjaa
