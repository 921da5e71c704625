/- The texts SM, PS2, SlN, Own, Seq2, SF, BK, in build order. -/
import Derived.Test.YtagfcodpgochjaaZac
import Derived.Laws.OwnMore
import Derived.Handy
import Derived.Laws.CopyOwn
import Derived.Maps.AppendAt

/- Chapter 12: settling: a move, a copy. -/
namespace Go.Proofs.Ytagfcodpgochjaa
open Go.RowKit Go.Oche Go.Proofs

theorem eq_nil22 (b off n cap : Nat) (w : World) : (binOp .eql 22 (.slice (some ⟨b, off, none⟩) n cap) (.slice none 0 0)).run Try.prog w = .ok (.bool false) w := Lib.run_eql_slice_nil w 22 3 _ _ _ _ _ Try.underlying22
set_option maxRecDepth 100000 in
theorem clone_any {S : Nat → Prop} (bs : List Int) (v : Value) (w : World) (hs : Sl S w v (ints bs)) (h0 : 0 < bs.length) (hl : bs.length ≤ 1000) :
    Calls Try.prog 38 #[v] w fun e w' => ∃ g c, e = .returned (.slice (some ⟨g, 0, none⟩) bs.length c) ∧ Below w.heap.size w w' ∧ w'.ownsRow w.heap.size 3 1 (.slice (some ⟨g, 0, none⟩) bs.length c) bs.length (ints bs) := by
  obtain ⟨a, cap, rfl, h2, h3, h4⟩ := hs
  simp only [ints_length] at *
  obtain ⟨b, off, rfl, _, _⟩ := h4 0 _ (intsAt h0)
  obtain ⟨i0, hi, hz0', hz1, hz2⟩ := info_parts info3
  have HI0 := Lib.hid (And.intro hi (And.intro hz0' (And.intro hz1 hz2)))
  have H4 := Lib.hid h4
  clear hi hz0' hz1 hz2 h4
  have heq := fun w => eq_nil22 b off bs.length cap w
  obtain ⟨w0, hw0⟩ : ∃ w0, w0 = w.alloc (.cells #[] 3) := ⟨_, rfl⟩
  have hb0 : Below w.heap.size w w0 := by rw [hw0]; exact aB _ _
  have hown0 : w0.ownsRow w.heap.size 3 1 (.slice (some ⟨w.heap.size, 0, none⟩) 0 0) 0 [] := by
    rw [hw0]; exact World.ownsRow_made w #[] 0 (Nat.le_refl _) (Nat.zero_le _) rfl
  have hz0 : w.heap.size < w0.heap.size := by rw [hw0]; simp
  have HW := Lib.hid hw0
  clear hw0
  go_enter Try.func38, Try.ntmps38
  go_wp2_with (at_builtin; rw [← HW.out]; refine wpList_append_own _ rfl _ _ 22 rfl w.heap.size 3 i0 (.int .i64 0) 1 8 Try.underlying22 HI0.out.1 HI0.out.2.1 HI0.out.2.2.1 HI0.out.2.2.2 rfl (by decide) _ _ _ rfl hown0 ⟨b, off, none⟩ bs.length cap (ints bs) rfl (by simp) ?c1 ?c2 ?c3 ?c4 ?c5 ?_)
  case c1 =>
    intro j u hj
    obtain ⟨b', off', e, _, hc⟩ := H4.out j u hj
    cases e
    have hc2 := bAt hb0 hc
    have : (⟨b, off, none⟩ : Addr).add j = ⟨b, off + j, none⟩ := by unfold Addr.add; split <;> simp_all
    rw [this]; exact hc2
  case c2 => intro u hu; simp [ints] at hu; obtain ⟨_, _, rfl⟩ := hu; rfl
  case c3 => unfold maxLen; omega
  case c4 => omega
  case c5 => omega
  intro v' w1 hown' hgrow _
  go_wp2
  go_ret
  try simp only [List.nil_append, Nat.zero_add] at hown'
  obtain ⟨m, hm⟩ : ∃ m, bs.length = m + 1 := ⟨bs.length - 1, by omega⟩
  rw [hm] at hown'
  obtain ⟨g, c, rfl⟩ := ownsRow_succ hown'
  rw [← hm] at hown'
  refine ⟨g, c, by rw [hm]; rfl, hb0.trans (below_grownBy hgrow (by omega) (fun q hq => by simp [Value.ownBlock] at hq; omega)), hown'⟩

theorem owns_len {W : World} {base n : Nat} {e : TypeId} {v : Value} {xs : List Value} (h : W.ownsRow base e 1 v n xs) : xs.length = n := by have := h.1; simpa using this
theorem ints_set (xs : List Int) (i : Nat) (x : Int) : (ints xs).set i (.int .i64 x) = ints (xs.set i x) := by simp [ints, List.map_set]
/-- A move: From has the amount less, To has it more. -/
def mvL (xs : List Int) (f t : Nat) (m : Int) : List Int := (xs.set f (xs.getD f 0 - m)).set t ((xs.set f (xs.getD f 0 - m)).getD t 0 + m)
@[simp] theorem mvL_length (xs : List Int) (f t : Nat) (m : Int) : (mvL xs f t m).length = xs.length := by simp [mvL]
set_option maxRecDepth 100000 in
theorem move_any (xs : List Int) (base g c n : Nat) (nr m : Int) (f t : Nat) (w : World) (ho : w.ownsRow base 3 1 (.slice (some ⟨g, 0, none⟩) n c) n (ints xs)) (hf : f < n) (ht : t < n)
    (h1 : -9223372036854775808 ≤ xs.getD f 0 - m ∧ xs.getD f 0 - m ≤ 9223372036854775807) (h2 : -9223372036854775808 ≤ (xs.set f (xs.getD f 0 - m)).getD t 0 + m ∧ (xs.set f (xs.getD f 0 - m)).getD t 0 + m ≤ 9223372036854775807) :
    Calls Try.prog 41 #[.slice (some ⟨g, 0, none⟩) n c, .agg #[.int .i64 nr, .int .i64 f, .int .i64 t, .int .i64 m]] w fun e w' => e = .returned (.tuple #[]) ∧ w'.ownsRow base 3 1 (.slice (some ⟨g, 0, none⟩) n c) n (ints (mvL xs f t m)) ∧ w.grownBy w' (some g) := by
  have hl := owns_len ho
  simp only [ints_length] at hl
  obtain ⟨x, hx⟩ : ∃ x, xs.getD f 0 = x := ⟨_, rfl⟩
  obtain ⟨y, hy⟩ : ∃ y, (xs.set f (x - m)).getD t 0 = y := ⟨_, rfl⟩
  rw [hx] at h1 h2
  rw [hy] at h2
  have hr1 : IntKind.i64.wrap (x - m) = x - m := wrap_small _ h1.1 h1.2
  have hr2 : IntKind.i64.wrap (y + m) = y + m := wrap_small _ h2.1 h2.2
  have MV : Hid (mvL xs f t m = (xs.set f (x - m)).set t (y + m)) := Lib.hid (by rw [mvL, hx, hy])
  obtain ⟨w0, hw0⟩ : ∃ w0, w.alloc (.cells #[.int .i64 nr, .int .i64 f, .int .i64 t, .int .i64 m] 44) = w0 := ⟨_, rfl⟩
  have ho0 : w0.ownsRow base 3 1 (.slice (some ⟨g, 0, none⟩) n c) n (ints xs) := by rw [← hw0]; exact ho.alloc _
  have hg := owns_blk ho
  have z1 : w0.cell? ⟨w.heap.size, 1, none⟩ = some (.int .i64 f) := by rw [← hw0]; simp
  have z2 : w0.cell? ⟨w.heap.size, 2, none⟩ = some (.int .i64 t) := by rw [← hw0]; simp
  have z3 : w0.cell? ⟨w.heap.size, 3, none⟩ = some (.int .i64 m) := by rw [← hw0]; simp
  have c1 : w0.cell? ⟨g, f, none⟩ = some (.int .i64 x) := by rw [ho0.cellAt f (by omega), intsAt (by omega), ← getD_at (by omega), hx]
  have hgb : w.grownBy w0 (some g) := by rw [← hw0]; exact grownBy_below _ (aB _ _)
  have HO0 := Lib.hid ho0
  have HG := Lib.hid hgb
  have HW := Lib.hid hw0
  have HX := Lib.hid hx
  have HY := Lib.hid hy
  clear ho ho0 hgb hw0 hx hy h1 h2
  have hfi : (f : Int) < (n : Int) := by omega
  have hti : (t : Int) < (n : Int) := by omega
  go_enter Try.func41, Try.ntmps41
  go_wp2_with fail
  rw [HW.out]
  refine wp_region_seq 9 [.is ?_, .is ?_, .is ?_, .is ?_, .is ?_, .is ?_, .is ?_, .is ?_, .is ?_] rfl mix (by kernel_rfl) (by kernel_rfl) ?seqm
  case seqm =>
    simp only [List.take_succ_cons, List.take_zero]
    iterate 9
      refine seq_is rfl (fun w1 hb1 _ => ?_) ?_
      · have z1' := bAt hb1 z1
        have z3' := bAt hb1 z3
        have c1' := bAt hb1 c1
        simp [opOK, go_sem, z1', z3', c1', hf, hr1, Below.refl]
        try exact rfl
      simp only [Act.put, List.setIfInBounds_toArray, List.set_cons_succ, List.set_cons_zero]
    refine seq_end fun w1 hb1 _ => ?_
    simp only [List.drop_succ_cons, List.drop_zero]
    have ho1 := owns_kept HO0.out (fun q hq => by cases hq; exact hb1.block g (owns_blk HO0.out).2)
    have s0 := ho1.cellAt f (by omega)
    rw [intsAt (by omega), ← getD_at (by omega), HX.out] at s0
    have s1 := ho1.frozenAt f
    have hst := ho1.stored f (.int .i64 (x - m))
    rw [ints_set] at hst
    obtain ⟨w2, hw2⟩ : ∃ w2, w1.setCell ⟨g, f, none⟩ (.int .i64 (x - m)) = w2 := ⟨_, rfl⟩
    rw [hw2] at hst
    have HST := Lib.hid hst
    have HW2 := Lib.hid hw2
    have hg2 := grownBy_trans (grownBy_trans HG.out (grownBy_below _ hb1)) hst.2
    have HG2 := Lib.hid hg2
    have hgw : g ≠ w.heap.size := by omega
    have y2 : w2.cell? ⟨w.heap.size, 2, none⟩ = some (.int .i64 t) := by rw [← hw2, World.cell?_setCell_other _ _ _ _ (by simp)]; exact bAt hb1 z2
    have y3 : w2.cell? ⟨w.heap.size, 3, none⟩ = some (.int .i64 m) := by rw [← hw2, World.cell?_setCell_other _ _ _ _ (by simp)]; exact bAt hb1 z3
    have c2 : w2.cell? ⟨g, t, none⟩ = some (.int .i64 y) := by rw [hst.1.cellAt t (by omega), intsAt (by simpa [hl] using ht), ← getD_at (by simpa [hl] using ht), HY.out]
    clear hst hw2 hg2 ho1 hgw
    go_wp2_with fail
    rw [HW2.out]
    clear s0 s1 c1 z1 z2 z3
    refine wp_region_seq 9 [.is ?_, .is ?_, .is ?_, .is ?_, .is ?_, .is ?_, .is ?_, .is ?_, .is ?_] rfl mix (by kernel_rfl) (by kernel_rfl) ?seqn
    case seqn =>
      simp only [List.take_succ_cons, List.take_zero]
      iterate 9
        refine seq_is rfl (fun w1 hb1 _ => ?_) ?_
        · have z2' := bAt hb1 y2
          have z3' := bAt hb1 y3
          have c1' := bAt hb1 c2
          simp [opOK, go_sem, z2', z3', c1', ht, hr2, Below.refl]
          try exact rfl
        simp only [Act.put, List.setIfInBounds_toArray, List.set_cons_succ, List.set_cons_zero]
      refine seq_end fun w3 hb3 _ => ?_
      simp only [List.drop_succ_cons, List.drop_zero]
      have ho3 := owns_kept HST.out.1 (fun q hq => by cases hq; exact hb3.block g (owns_blk HST.out.1).2)
      have s0 := ho3.cellAt t (by omega)
      rw [intsAt (by simpa [hl] using ht), ← getD_at (by simpa [hl] using ht), HY.out] at s0
      have s1 := ho3.frozenAt t
      have hst := ho3.stored t (.int .i64 (y + m))
      rw [ints_set, ← MV.out] at hst
      have HST3 := Lib.hid hst
      have HG3 := Lib.hid (grownBy_trans (grownBy_trans HG2.out (grownBy_below _ hb3)) hst.2)
      clear hst ho3
      go_wp2
      go_returns
      exact ⟨rfl, HST3.out.1, HG3.out⟩
end Go.Proofs.Ytagfcodpgochjaa

/- Chapter 12, settling, in plain Lean: payment after payment. -/
namespace Go.Proofs.Ytagfcodpgochjaa
open Go.RowKit Go.Oche Go.Proofs

/-- The amounts after some payments. -/
def stN : Nat → List Int → List Int
  | 0, l => l
  | k + 1, l => payL (stN k l)
@[simp] theorem stN_length : ∀ (k : Nat) (l : List Int), (stN k l).length = l.length
  | 0, _ => rfl
  | k + 1, l => by rw [stN, payL_length, stN_length k l]
def mxV (l : List Int) : Int := l.getD (amax l l.length) 0
def payT (l : List Int) : Nat × Nat × Int := (amin l l.length, amax l l.length, payAmt l)
theorem setl_step : ∀ (n k : Nat) (l : List Int), k ≤ n → (∀ i, i < k → mxV (stN i l) ≠ 0) → mxV (stN k l) = 0 → k < n → setl n l = (List.range k).map fun i => payT (stN i l)
  | 0, k, l, hk, _, _, h => by omega
  | n + 1, 0, l, _, _, h0, _ => by
    have : l.getD (amax l l.length) 0 = 0 := h0
    rw [setl, if_pos this]; rfl
  | n + 1, k + 1, l, hk, hi, h0, hn => by
    have h1 : ¬ l.getD (amax l l.length) 0 = 0 := hi 0 (by omega)
    have sh : ∀ i, stN i (payL l) = stN (i + 1) l := by
      intro i
      induction i with
      | zero => rfl
      | succ i ih => rw [stN, ih]; rfl
    rw [setl, if_neg h1, setl_step n k (payL l) (by omega) (fun i hik => by rw [sh]; exact hi (i + 1) (by omega)) (by rw [sh]; exact h0) (by omega), List.range_succ_eq_map, List.map_cons]
    simp only [List.map_map]
    congr 1
    refine List.map_congr_left fun i _ => ?_
    simp [sh]
def setErr (xs : List Int) : Int := if isIn xs.length 1 60 = false then 4 else if xs.any (outB (-1000000000) 1000000000) = true then 2 else if xs.sum ≠ 0 then 9 else 0
def setRes (xs : List Int) : List (Nat × Nat × Int) := if setErr xs = 0 then setl (xs.length + 1) xs else []
def payRow (i : Nat) (p : Nat × Nat × Int) : List Value := [.int .i64 i, .int .i64 p.1, .int .i64 p.2.1, .int .i64 p.2.2]
def payRows (l : List (Nat × Nat × Int)) : List (List Value) := l.mapIdx payRow
theorem payRow_length (i : Nat) (p : Nat × Nat × Int) : (payRow i p).length = 4 := rfl
@[simp] theorem payRows_length (l : List (Nat × Nat × Int)) : (payRows l).length = l.length := by simp [payRows]
theorem payRows_four (l : List (Nat × Nat × Int)) : ∀ r ∈ payRows l, r.length = 4 := by
  intro r hr
  simp only [payRows, List.mem_mapIdx] at hr
  obtain ⟨i, hi, rfl⟩ := hr
  rfl
theorem payRows_snoc (l : List (Nat × Nat × Int)) (p : Nat × Nat × Int) : payRows (l ++ [p]) = payRows l ++ [payRow l.length p] := by simp [payRows, List.mapIdx_append]
/-- The payments so far. -/
def payTo (xs : List Int) (k : Nat) : List (Nat × Nat × Int) := (List.range k).map fun i => payT (stN i xs)
@[simp] theorem payTo_length (xs : List Int) (k : Nat) : (payTo xs k).length = k := by simp [payTo]
theorem payTo_succ (xs : List Int) (k : Nat) : payTo xs (k + 1) = payTo xs k ++ [payT (stN k xs)] := by simp [payTo, List.range_succ]

structure StOk (xs : List Int) (k : Nat) (l : List Int) : Prop where
  eq : l = stN k xs
  len : l.length = xs.length
  sum : l.sum = 0
  nz : nz l + k ≤ xs.length
  bd : ∀ x ∈ l, -1000000000 ≤ x ∧ x ≤ 1000000000
  pos : ∀ i, i < k → mxV (stN i xs) ≠ 0
theorem nz_le (l : List Int) : nz l ≤ l.length := List.countP_le_length
theorem outB_spec {lo hi x : Int} (h : outB lo hi x = false) : lo ≤ x ∧ x ≤ hi := by
  simp only [outB, Bool.or_eq_false_iff, decide_eq_false_iff_not] at h
  omega
theorem any_outB {lo hi : Int} {xs : List Int} (h : xs.any (outB lo hi) = false) : ∀ x ∈ xs, lo ≤ x ∧ x ≤ hi := fun x hx => outB_spec (by
  rw [List.any_eq_false] at h
  simpa using h x hx)
theorem StOk.start {xs : List Int} (hs : xs.sum = 0) (hb : ∀ x ∈ xs, -1000000000 ≤ x ∧ x ≤ 1000000000) : StOk xs 0 xs := ⟨rfl, rfl, hs, nz_le xs, hb, fun i h => by omega⟩
theorem StOk.facts {xs l : List Int} {k : Nat} (h : StOk xs k l) (h0 : 0 < xs.length) : 0 ≤ mxV l ∧ amax l l.length < l.length ∧ amin l l.length < l.length := by
  have hl := h.len
  exact ⟨(settle_signs h.sum (by omega)).1, amax_lt _ _ (by omega), amin_lt _ _ (by omega)⟩
theorem getD_bd {l : List Int} {lo hi : Int} (h : ∀ x ∈ l, lo ≤ x ∧ x ≤ hi) {i : Nat} (hi' : i < l.length) : lo ≤ l.getD i 0 ∧ l.getD i 0 ≤ hi := by
  rw [List.getD_eq_getElem?_getD, List.getElem?_eq_getElem hi']
  exact h _ (List.getElem_mem hi')
theorem StOk.next {xs l : List Int} {k : Nat} (h : StOk xs k l) (h0 : 0 < xs.length) (hm : mxV l ≠ 0) : StOk xs (k + 1) (payL l) ∧ 0 < payAmt l ∧ payAmt l ≤ mxV l ∧ payAmt l ≤ -(l.getD (amin l l.length) 0) ∧ l.getD (amin l l.length) 0 < 0 ∧ amin l l.length ≠ amax l l.length ∧ k < xs.length := by
  have hl := h.len
  obtain ⟨n1, n2, n3⟩ := nz_payL h.sum (by omega) hm
  have n4 := (settle_signs h.sum (by omega)).2.2 hm
  have b1 := getD_bd h.bd (amin_lt l l.length (by omega))
  have b2 := getD_bd h.bd (amax_lt l l.length (by omega))
  have p1 : payAmt l ≤ mxV l := by unfold payAmt mxV; omega
  have p2 : payAmt l ≤ -(l.getD (amin l l.length) 0) := by unfold payAmt; omega
  refine ⟨⟨by rw [stN, ← h.eq], by simp [hl], by rw [payL_sum (by omega) n2]; exact h.sum, by have := h.nz; omega, fun x hx => ?_, fun i hi => ?_⟩, n3, p1, p2, n4, n2, by have := h.nz; omega⟩
  · unfold payL at hx
    simp only at hx
    unfold mxV at p1
    rcases List.mem_or_eq_of_mem_set hx with hx | rfl
    · rcases List.mem_or_eq_of_mem_set hx with hx | rfl
      · exact h.bd x hx
      · omega
    · omega
  · by_cases e : i = k
    · subst e; rw [← h.eq]; exact hm
    · exact h.pos i (by omega)
theorem StOk.done {xs l : List Int} {k : Nat} (h : StOk xs k l) (hm : mxV l = 0) : setl (xs.length + 1) xs = payTo xs k :=
  setl_step _ _ _ (by have := h.nz; omega) h.pos (by rw [← h.eq]; exact hm) (by have := h.nz; omega)
end Go.Proofs.Ytagfcodpgochjaa

/- A slice of structs: each element a row of k cells. -/
namespace Go.Oche
open Go Go.RowKit

def SlN (k : Nat) (S : Nat → Prop) (w : World) (v : Value) (rows : List (List Value)) : Prop :=
  ∃ (a : Option Addr) (cap : Nat), v = .slice a rows.length cap ∧ rows.length ≤ cap ∧ cap ≤ maxLen ∧
    ∀ i r, rows[i]? = some r → r.length = k ∧ ∃ b off, a = some ⟨b, off, none⟩ ∧ S b ∧ ∀ j x, r[j]? = some x → w.cell? ⟨b, off + i * k + j, none⟩ = some x
section
variable {k : Nat} {S S' : Nat → Prop} {w w' : World} {v : Value} {rows : List (List Value)}
theorem SlN.mono (h : SlN k S w v rows) (hS : ∀ q, S q → S' q) : SlN k S' w v rows := by
  obtain ⟨a, cap, h1, h2, h3, h4⟩ := h
  exact ⟨a, cap, h1, h2, h3, fun i r hr => let ⟨hl, b, off, e, s, c⟩ := h4 i r hr; ⟨hl, b, off, e, hS b s, c⟩⟩
theorem SlN.cells (h : SlN k S w v rows) (hc : ∀ b o, S b → (w.cell? ⟨b, o, none⟩).isSome → w'.cell? ⟨b, o, none⟩ = w.cell? ⟨b, o, none⟩) : SlN k S w' v rows := by
  obtain ⟨a, cap, h1, h2, h3, h4⟩ := h
  exact ⟨a, cap, h1, h2, h3, fun i r hr => let ⟨hl, b, off, e, s, c⟩ := h4 i r hr; ⟨hl, b, off, e, s, fun j x hx => (hc b _ s (by rw [c j x hx]; rfl)).trans (c j x hx)⟩⟩
theorem SlN.below (h : SlN k S w v rows) (hb : Below w.heap.size w w') : SlN k S w' v rows := by
  obtain ⟨a, cap, h1, h2, h3, h4⟩ := h
  exact ⟨a, cap, h1, h2, h3, fun i r hr => let ⟨hl, b, off, e, s, c⟩ := h4 i r hr; ⟨hl, b, off, e, s, fun j x hx => bAt hb (c j x hx)⟩⟩
theorem SlN.lt (h : SlN k S w v rows) (hk : 0 < k) : SlN k (fun q => S q ∧ q < w.heap.size) w v rows := by
  obtain ⟨a, cap, h1, h2, h3, h4⟩ := h
  refine ⟨a, cap, h1, h2, h3, fun i r hr => ?_⟩
  obtain ⟨hl, b, off, e, s, c⟩ := h4 i r hr
  exact ⟨hl, b, off, e, ⟨s, World.block_lt_of_cell? w _ (c 0 r[0] (List.getElem?_eq_getElem (by omega)))⟩, c⟩
theorem SlN.nil (k : Nat) (S : Nat → Prop) (w : World) : SlN k S w (.slice none 0 0) [] := ⟨none, 0, rfl, Nat.le_refl _, Nat.zero_le _, fun i x hx => by simp at hx⟩
theorem SlN.form (h : SlN k S w v rows) : ∃ a cap, v = .slice a rows.length cap ∧ rows.length ≤ cap ∧ cap ≤ maxLen := by
  obtain ⟨a, cap, h1, h2, h3, _⟩ := h
  exact ⟨a, cap, h1, h2, h3⟩
theorem SlN.cell {a : Option Addr} {n cap : Nat} (h : SlN k S w (.slice a n cap) rows) {i : Nat} (hi : i < rows.length) : ∃ b off, a = some ⟨b, off, none⟩ ∧ S b ∧ rows[i].length = k ∧ ∀ j x, (rows[i])[j]? = some x → w.cell? ⟨b, off + i * k + j, none⟩ = some x := by
  obtain ⟨a', cap', e, _, _, h4⟩ := h
  cases e
  obtain ⟨hl, b, off, e, s, c⟩ := h4 i _ (List.getElem?_eq_getElem hi)
  exact ⟨b, off, e, s, hl, c⟩
/-- A row of one's own reads so. -/
theorem SlN.of_owns {base n g c : Nat} {e : TypeId} (h : w.ownsRow base e k (.slice (some ⟨g, 0, none⟩) n c) n rows.flatten) (hr : ∀ r ∈ rows, r.length = k) (hl : rows.length = n) (hc : n ≤ c) (hm : c ≤ maxLen) : SlN k (fun q => q = g) w (.slice (some ⟨g, 0, none⟩) n c) rows := by
  subst hl
  refine ⟨_, c, rfl, hc, hm, fun i r hi => ⟨hr r (List.mem_of_getElem? hi), g, 0, rfl, rfl, fun j x hx => ?_⟩⟩
  have hil : i < rows.length := (List.getElem?_eq_some_iff.1 hi).1
  have hjk : j < k := by have := (List.getElem?_eq_some_iff.1 hx).1; rw [hr r (List.mem_of_getElem? hi)] at this; exact this
  have hlt : i * k + j < rows.length * k := by
    have : (i + 1) * k ≤ rows.length * k := Nat.mul_le_mul_right k hil
    rw [Nat.add_mul] at this; omega
  rw [Nat.zero_add, h.cellAt _ hlt]
  exact flat_at hr hi hx
where
  flat_at {k : Nat} : ∀ {rows : List (List Value)} {i j : Nat} {r : List Value} {x : Value}, (∀ r ∈ rows, r.length = k) → rows[i]? = some r → r[j]? = some x → rows.flatten[i * k + j]? = some x
    | [], i, j, r, x, _, hi, _ => by simp at hi
    | r0 :: rows, 0, j, r, x, hr, hi, hx => by
      simp only [List.getElem?_cons_zero, Option.some.injEq] at hi
      subst hi
      have hj := (List.getElem?_eq_some_iff.1 hx).1
      rw [List.flatten_cons, Nat.zero_mul, Nat.zero_add, List.getElem?_append_left hj]; exact hx
    | r0 :: rows, i + 1, j, r, x, hr, hi, hx => by
      have h0 := hr r0 (by simp)
      rw [List.flatten_cons, List.getElem?_append_right (by rw [h0, Nat.add_mul]; omega), h0]
      have : (i + 1) * k + j - k = i * k + j := by rw [Nat.add_mul]; omega
      rw [this]
      exact flat_at (fun r h => hr r (by simp [h])) (by simpa using hi) hx
end
end Go.Oche

/- Rows of one's own, with elements of any size. -/
namespace Go.Oche
open Go Go.RowKit
theorem addr_at (b o j : Nat) : (⟨b, o, none⟩ : Addr).add j = ⟨b, o + j, none⟩ := by unfold Addr.add; split <;> simp_all
section
variable {W W' : World} {base base' n n' k k' : Nat} {e e' : TypeId} {v v' : Value} {xs xs' : List Value}
theorem ownsN_kept (h : W.ownsRow base e k v n xs) (hk : ∀ g, v.ownBlock = some g → W'.heap[g]? = W.heap[g]?) : W'.ownsRow base e k v n xs := by
  refine ⟨h.1, ?_⟩
  rcases h.2 with h | ⟨g, cap, cur, rfl, h1, h2, h3⟩
  · exact .inl h
  · exact .inr ⟨g, cap, cur, rfl, h1, by rw [hk g (by simp [Value.ownBlock])]; exact h2, h3⟩
theorem ownsN_below (h : W.ownsRow base e k v n xs) (hb : Below W.heap.size W W') : W'.ownsRow base e k v n xs :=
  ownsN_kept h fun g hg => hb.block g (h.lt g hg).2
/-- Rows of different types lie in different blocks. -/
theorem ownsN_ne (h : W.ownsRow base e k v n xs) (h' : W.ownsRow base' e' k' v' n' xs') (he : e ≠ e') : v.ownBlock = none ∨ v.ownBlock ≠ v'.ownBlock := by
  rcases h.2 with ⟨rfl, _⟩ | ⟨g, cap, cur, rfl, _, hg, _⟩
  · exact .inl rfl
  · right
    rcases h'.2 with ⟨rfl, _⟩ | ⟨g', cap', cur', rfl, _, hg', _⟩
    · simp [Value.ownBlock]
    · simp only [Value.ownBlock, ne_eq, Option.some.injEq]
      intro e2
      subst e2
      rw [hg] at hg'
      simp at hg'
      exact he hg'.2
theorem ownsN_ne_blk (h : W.ownsRow base e k v n xs) {q : Nat} {c : Array Value} {f : Nat × Nat} (hq : W.heap[q]? = some (.cells c e' f)) (he : e ≠ e') : v.ownBlock = none ∨ v.ownBlock ≠ some q := by
  rcases h.2 with ⟨rfl, _⟩ | ⟨g, cap, cur, rfl, _, hg, _⟩
  · exact .inl rfl
  · right
    simp only [Value.ownBlock, ne_eq, Option.some.injEq]
    intro e2
    subst e2
    rw [hg] at hq
    simp at hq
    exact he hq.2.1
/-- A row of one's own reads so. -/
theorem SlN.of_ownsN {rows : List (List Value)} (h : W.ownsRow base e k v rows.length rows.flatten) (hr : ∀ r ∈ rows, r.length = k) : SlN k (fun q => base ≤ q) W v rows := by
  rcases h.2 with ⟨rfl, h0⟩ | ⟨g, cap, cur, rfl, h1, h2, h3, h4, h5⟩
  · have : rows = [] := List.eq_nil_of_length_eq_zero h0
    subst this
    exact SlN.nil _ _ _
  · exact (SlN.of_owns h hr rfl h3 h4).mono fun q hq => by subst hq; exact h1
theorem owns_form (h : W.ownsRow base e k v n xs) : ∃ a c, v = .slice a n c := by
  rcases h.2 with ⟨rfl, rfl⟩ | ⟨g, cap, cur, rfl, _⟩
  · exact ⟨_, _, rfl⟩
  · exact ⟨_, _, rfl⟩
theorem _root_.Go.World.ownsRow.form' {g c : Nat} (h : W.ownsRow base e k (.slice (some ⟨g, 0, none⟩) n c) n xs) : n ≤ c ∧ c ≤ maxLen := by
  rcases h.2 with ⟨h, _⟩ | ⟨g, cap, cur, h, _, _, h1, h2, _⟩
  · cases h
  · cases h; exact ⟨h1, h2⟩
theorem ownsN_alloc (h : W.ownsRow base e k v n xs) (ob : Obj) : (W.alloc ob).ownsRow base e k v n xs := h.alloc ob
/-- Another base. -/
theorem ownsN_base (h : W.ownsRow base e k v n xs) (hb : base' ≤ base) : W.ownsRow base' e k v n xs := by
  refine ⟨h.1, ?_⟩
  rcases h.2 with h | ⟨g, cap, cur, rfl, h1, h2⟩
  · exact .inl h
  · exact .inr ⟨g, cap, cur, rfl, by omega, h2⟩
end
end Go.Oche

/- A new block within a region that draws its order. -/
namespace Go.Oche
open Go Go.RowKit
/-- A pointer to a new block (not below N). -/
def kBox (N : Nat) (t : TypeId) (cs : Array Value) : Kn where
  s := fun v => ∃ b, v = .pointer (some ⟨b, 0, none⟩)
  p := fun v w => ∃ b, v = .pointer (some ⟨b, 0, none⟩) ∧ N ≤ b ∧ w.heap[b]? = some (.cells cs t (0, 0))
  m := fun _ _ _ hb ⟨b, h1, h2, h3⟩ => ⟨b, h1, h2, (hb.block b (Array.getElem?_eq_some_iff.1 h3).1).trans h3⟩
theorem opOK_alloc {P : Program} {o : Oper} {a : Act} {w : World} {N : Nat} {t : TypeId} {cs : Array Value} (hr : (execOp a.eval o).run P w = .ok (.value (.pointer (some ⟨w.heap.size, 0, none⟩))) (w.alloc (.cells cs t))) (hN : N ≤ w.heap.size) :
    opOK P o a w (fun v w' => Below w.heap.size w w' ∧ (kBox N t cs).s v ∧ (kBox N t cs).p v w') := by
  unfold opOK
  rw [hr]
  exact ⟨⟨rfl, rfl, rfl, by simp, fun k hk => Below.heap_alloc _ _ _ hk⟩, ⟨_, rfl⟩, _, rfl, hN, World.alloc_heap_new _ _⟩
end Go.Oche

/- Chapter 12: Settle. -/
namespace Go.Proofs.Ytagfcodpgochjaa
open Go.RowKit Go.Oche Go.Proofs

theorem foldW {B : Int} (hB : 0 ≤ B) : ∀ (xs : List Int) (a : Int), (∀ x ∈ xs, -B ≤ x ∧ x ≤ B) → -4000000000000000000 ≤ a - B * xs.length → a + B * xs.length ≤ 4000000000000000000 → xs.foldl (fun s n => wrap64 (s + n)) a = a + xs.sum
  | [], a, _, _, _ => by simp
  | x :: xs, a, h, h1, h2 => by
    have hx := h x (by simp)
    simp only [List.length_cons, Int.natCast_add, Int.natCast_one, Int.mul_add, Int.mul_one] at h1 h2
    have hp : 0 ≤ B * (xs.length : Int) := Int.mul_nonneg hB (by omega)
    have hw : wrap64 (a + x) = a + x := by unfold wrap64; omega
    rw [List.foldl_cons, hw, foldW hB xs (a + x) (fun y hy => h y (by simp [hy])) (by omega) (by omega), List.sum_cons]
    omega
theorem sumW_sum {B : Int} (hB : 0 ≤ B) (xs : List Int) (h : ∀ x ∈ xs, -B ≤ x ∧ x ≤ B) (h2 : B * xs.length ≤ 4000000000000000000) : sumW xs = xs.sum := by
  rw [sumW, foldW hB xs 0 h (by omega) (by omega)]; omega
theorem within_r {S : Nat → Prop} (lo hi : Int) (xs : List Int) (r : Bool) (hr : Hid (xs.any (outB lo hi) = r)) (v : Value) (w : World) (hs : Sl S w v (ints xs)) :
    Calls Try.prog 28 #[.int .i64 lo, .int .i64 hi, v] w fun e w' => e = .returned (.bool (!r)) ∧ Below w.heap.size w w' := by rw [← hr.out]; exact within_any lo hi xs v w hs
def sliceLen : Value → Nat
  | .slice _ n _ => n
  | _ => 0
theorem info44 : (Try.prog.info? 44).map (fun i => (i.zero, i.size, i.bytes)) = some (some (.agg #[.int .i64 0, .int .i64 0, .int .i64 0, .int .i64 0]), 4, 32) := by kernel_rfl
theorem payL_mv (l : List Int) (h : amin l l.length ≠ amax l l.length) : mvL l (amax l l.length) (amin l l.length) (payAmt l) = payL l := by
  unfold mvL payL
  simp only
  rw [List.set_comm _ _ h]
  congr 1
  rw [List.getD_eq_getElem?_getD, List.getElem?_set_ne (fun e => h e.symm), ← List.getD_eq_getElem?_getD]

set_option maxRecDepth 100000 in
set_option maxHeartbeats 4000000 in
theorem settle_any {S : Nat → Prop} (xs : List Int) (v : Value) (w : World) (hs : Sl S w v (ints xs)) :
    Calls Try.prog 21 #[v] w fun e w' => ∃ r, e = .returned (.tuple #[r, .int .i64 (setErr xs)]) ∧ Below w.heap.size w w' ∧ SlN 4 (fun k => w.heap.size ≤ k) w' r (payRows (setRes xs)) := by
  obtain ⟨a, cap, rfl, h2, h3⟩ := hs.form
  simp only [ints_length] at *
  unfold maxLen at h3
  obtain ⟨b1, hb1⟩ : ∃ b, isIn (xs.length : Int) 1 60 = b := ⟨_, rfl⟩
  obtain ⟨b2, hb2⟩ : ∃ b, xs.any (outB (-1000000000) 1000000000) = b := ⟨_, rfl⟩
  obtain ⟨er, her⟩ : ∃ x, setErr xs = x := ⟨_, rfl⟩
  obtain ⟨rs, hrs⟩ : ∃ x, setRes xs = x := ⟨_, rfl⟩
  have ER : Hid (er = if b1 = false then 4 else if b2 = true then 2 else if xs.sum ≠ 0 then 9 else 0) := Lib.hid (by rw [← her, ← hb1, ← hb2]; rfl)
  have RS : Hid (rs = if er = 0 then setl (xs.length + 1) xs else []) := Lib.hid (by rw [← hrs, ← her]; rfl)
  have H1 := Lib.hid hb1
  have H2 := Lib.hid hb2
  have HS := Lib.hid hs
  rw [her, hrs]
  clear her hrs hb1 hb2 hs
  have NOK : Hid (er ≠ 0 → payRows rs = []) := Lib.hid (fun h => by rw [RS.out, if_neg h]; rfl)
  go_enter Try.func21, Try.ntmps21
  go_wp2_with fail
  refine (within_one' 1 60 xs.length b1 H1 _ _ (Sl.new1 (fun _ => True) w trivial 3 (.int .i64 xs.length))).mono ?_
  rintro e w1 ⟨rfl, hb1⟩
  have HB1 := Lib.hid (bThen (aB w _) hb1)
  replace HS := Lib.hid (HS.out.below HB1.out)
  clear hb1
  cases b1
  · have er2 : er = 4 := ER.out
    clear ER RS
    subst er2
    go_wp2
    go_ret2
    exact ⟨_, rfl, HB1.out, by rw [NOK.out (by decide)]; exact SlN.nil _ _ _⟩
  · go_wp2_with fail
    refine (within_r _ _ xs b2 H2 _ _ HS.out).mono ?_
    rintro e w2 ⟨rfl, hb2⟩
    have HB2 := Lib.hid (bThen HB1.out hb2)
    replace HS := Lib.hid (HS.out.below hb2)
    clear hb2
    cases b2
    · go_wp2_with fail
      refine (total_any xs _ _ HS.out).mono ?_
      rintro e w3 ⟨rfl, rfl⟩
      have hlen : 1 ≤ xs.length ∧ xs.length ≤ 60 := by have := H1.out; simp [isIn] at this; omega
      have hbd : ∀ x ∈ xs, -1000000000 ≤ x ∧ x ≤ 1000000000 := any_outB H2.out
      have hsum : sumW xs = xs.sum := sumW_sum (B := 1000000000) (by decide) xs hbd (by omega)
      rw [hsum]
      by_cases hs0 : xs.sum = 0
      · have er2 : er = 0 := by rw [ER.out]; simp [hs0]
        clear ER
        subst er2
        have rs2 : rs = setl (xs.length + 1) xs := by have := RS.out; simpa using this
        clear RS NOK
        subst rs2
        have HST := Lib.hid (StOk.start hs0 hbd)
        have f0 : ((xs.sum : Int) != 0) = false := by simp [hs0]
        have HLEN := Lib.hid hlen
        clear hbd hsum hs0
        go_wp2_with fail
        clear f0
        refine (clone_any xs _ _ HS.out (by omega) (by omega)).mono ?_
        rintro e w4 ⟨g, c, rfl, hb4, ho4⟩
        have HO4 := Lib.hid ho4
        have HB4 := Lib.hid (bThen HB2.out hb4)
        have B2 := Lib.hid HB2.out.size
        clear hb4 ho4
        go_wp2_with fail
        refine (most_any xs _ _ (owns_sl HO4.out) (by omega)).mono ?_
        rintro e w5 ⟨rfl, rfl⟩
        go_wp2_with fail
        go_loopw [2, 5] (fun lv ti wr => ∃ (k : Nat) (l : List Int), ti = .int .i64 (amax l l.length : Nat) ∧ Hid (StOk xs k l) ∧ Hid (wr.ownsRow w2.heap.size 3 1 (.slice (some ⟨g, 0, none⟩) xs.length c) xs.length (ints l)) ∧ Hid (wr.ownsRow w2.heap.size 44 4 lv k (payRows (payTo xs k)).flatten) ∧ Below w.heap.size w wr) (fun lv _ _ => xs.length - sliceLen lv)
        case atStart => exact ⟨0, xs, rfl, HST, HO4, Lib.hid (World.ownsRow_nil _ _ _ _), HB4.out⟩
        case round =>
          obtain ⟨k, l, rfl, HK, HO, HL, hb⟩ := hrel
          clear HST HO4
          obtain ⟨q1, q2, q3⟩ := HK.out.facts (by omega)
          have hln := HK.out.len
          obtain ⟨T, hT⟩ : ∃ T, amax l l.length = T := ⟨_, rfl⟩
          obtain ⟨F, hF⟩ : ∃ F, amin l l.length = F := ⟨_, rfl⟩
          obtain ⟨M, hM⟩ : ∃ M, mxV l = M := ⟨_, rfl⟩
          obtain ⟨al, cl, hlv⟩ : ∃ al cl, u2 = .slice al k cl := by
            rcases HL.out.2 with ⟨h1, h2⟩ | ⟨g, cap, cur, h1, _⟩
            · exact ⟨_, _, by rw [h1, h2]⟩
            · exact ⟨_, _, h1⟩
          rw [hT] at q2 ⊢
          rw [hF] at q3
          rw [hM] at q1
          have c0 : wr.cell? ⟨g, T, none⟩ = some (.int .i64 M) := by rw [HO.out.cellAt T (by omega), intsAt (by omega), ← getD_at (by omega), ← hT, ← hM]; rfl
          have hTi : (T : Int) < (xs.length : Int) := by omega
          have HT := Lib.hid hT
          have HF := Lib.hid hF
          have HM := Lib.hid hM
          have HB := Lib.hid hb
          have HLV := Lib.hid hlv
          have HQ := Lib.hid (And.intro q1 (And.intro q2 (And.intro q3 hln)))
          clear hT hF hM hb hlv q1 q2 q3 hln
          by_cases hM0 : M = 0
          · subst hM0
            go_wp2
            go_ret2
            refine ⟨_, rfl, HB.out, ?_⟩
            rw [HK.out.done HM.out]
            have h1 := HL.out
            rw [show k = (payRows (payTo xs k)).length by simp] at h1
            exact (SlN.of_ownsN (rows := payRows (payTo xs k)) (by simpa using h1) (payRows_four _)).mono fun q hq => Nat.le_trans B2.out hq
          · have d1 : decide (0 < M) = true := decide_eq_true (by have := HQ.out; omega)
            obtain ⟨HK2, p1, p2, p3, p4, p5, p6⟩ := HK.out.next (by omega) (by rw [HM.out]; exact hM0)
            obtain ⟨A, hA⟩ : ∃ A, payAmt l = A := ⟨_, rfl⟩
            obtain ⟨m, hm⟩ : ∃ m, l.getD F 0 = m := ⟨_, rfl⟩
            rw [hA] at p1 p2 p3
            rw [HM.out] at p2
            rw [HF.out, hm] at p3 p4
            have hAm : A = min M (-m) := by rw [← hA, payAmt, HF.out, hm, ← HM.out]; rfl
            have HK3 := Lib.hid HK2
            have P := Lib.hid (And.intro p1 (And.intro p2 (And.intro p3 (And.intro p4 (And.intro p5 p6)))))
            have HA := Lib.hid hA
            have HMM := Lib.hid hm
            have HAM := Lib.hid hAm
            have bm := getD_bd HK.out.bd (i := F) (by have := HQ.out; omega)
            have bM := getD_bd HK.out.bd (i := T) (by have := HQ.out; omega)
            rw [hm] at bm
            have cm : wr.cell? ⟨g, F, none⟩ = some (.int .i64 m) := by rw [HO.out.cellAt F (by have := HQ.out; omega), intsAt (by have := HQ.out; omega), ← getD_at (by have := HQ.out; omega), hm]
            clear HK2 p1 p2 p3 p4 p5 p6 hA hm hAm
            have hngm : IntKind.i64.wrap (-m) = -m := wrap_small _ (by omega) (by omega)
            have hFi : (F : Int) < (xs.length : Int) := by have := HQ.out; omega
            have hFx : F < xs.length := by have := HQ.out; omega
            have hTx : T < xs.length := by have := HQ.out; omega
            go_wp2_with fail
            refine (least_any l _ _ (owns_sl HO.out) (by have := HQ.out; omega)).mono ?_
            rintro e w6 ⟨rfl, rfl⟩
            rw [HF.out]
            clear d1
            have hlv := HLV.out
            subst hlv
            go_wp2_with fail
            have hAmin : (if -m < M then -m else M) = A := by rw [HAM.out]; split <;> omega
            refine wp_region_seq 16 [.is ?_, .is ?_, .is ?_, .is ?_, .is ?_, .is ?_, .is ?_, .is ?_, .is ?_, .is ?_, .is ?_, .is ?_, .is ?_, .is ?_, .is ?_, kBox wr.heap.size 44 #[.int .i64 0, .int .i64 0, .int .i64 0, .int .i64 0]] rfl mix (by kernel_rfl) (by kernel_rfl) ?seqm
            case seqm =>
              simp only [List.take_succ_cons, List.take_zero]
              iterate 15
                refine seq_is rfl (fun w1 hb1 _ => ?_) ?_
                · have c0' := bAt hb1 c0
                  have cm' := bAt hb1 cm
                  simp [opOK, go_sem, c0', cm', hFx, hTx, hngm, hAmin, Below.refl]
                  try exact rfl
                simp only [Act.put, List.setIfInBounds_toArray, List.set_cons_succ, List.set_cons_zero]
              refine seq_new ⟨_, 0, rfl⟩ (by rfl) (fun w1 hb1 _ => ?_) ?_
              · exact opOK_alloc (by simp [go_sem, execOp]) hb1.size
              rintro v ⟨b, rfl⟩
              simp only [Act.put, List.setIfInBounds_toArray, List.set_cons_succ, List.set_cons_zero]
              refine seq_end fun w7 hb7 hH => ?_
              simp only [List.drop_succ_cons, List.drop_zero]
              obtain ⟨b', e1, hbN, hblk⟩ := hH 15 (by decide)
              cases e1
              refine wpList_store_row rfl 44 _ _ rfl b #[.int .i64 k, .int .i64 F, .int .i64 T, .int .i64 A] rfl (by simp [Act.eval]) 44 _ hblk (by kernel_rfl) rfl (by simp [Value.oneCell']) ?_
              obtain ⟨w8, hw8⟩ : ∃ w8, w7.setRow b #[.int .i64 k, .int .i64 F, .int .i64 T, .int .i64 A] = w8 := ⟨_, rfl⟩
              have hblk8 : w8.heap[b]? = some (.cells #[.int .i64 k, .int .i64 F, .int .i64 T, .int .i64 A] 44 (0, 0)) := by rw [← hw8]; exact setRow_heap _ _ _ _ _ _ hblk
              have hb8 : Below wr.heap.size wr w8 := by rw [← hw8]; exact below_setRow hb7 hbN _
              rw [hw8]
              have k0 : w8.cell? ⟨b, 0, none⟩ = some (.int .i64 k) := by rw [cell_of_heap hblk8]; rfl
              have k1 : w8.cell? ⟨b, 1, none⟩ = some (.int .i64 F) := by rw [cell_of_heap hblk8]; rfl
              have k2 : w8.cell? ⟨b, 2, none⟩ = some (.int .i64 T) := by rw [cell_of_heap hblk8]; rfl
              have k3 : w8.cell? ⟨b, 3, none⟩ = some (.int .i64 A) := by rw [cell_of_heap hblk8]; rfl
              have HBN := Lib.hid hbN
              have HBLK := Lib.hid hblk8
              have HB8 := Lib.hid hb8
              clear hH hbN hblk hb7 c0 cm hblk8 hw8 hb8 hAmin
              simp only [Act.put]
              obtain ⟨w9, hw9⟩ : ∃ w9, w8.alloc (.cells #[.int .i64 k, .int .i64 F, .int .i64 T, .int .i64 A] 44) = w9 := ⟨_, rfl⟩
              have hb9 : Below w8.heap.size w8 w9 := by rw [← hw9]; exact aB _ _
              have hL9 : w9.ownsRow w2.heap.size 44 4 (.slice al k cl) k (payRows (payTo xs k)).flatten := ownsN_below (ownsN_below HL.out HB8.out) hb9
              have hn9 : ∀ j u, [Value.int .i64 k, .int .i64 F, .int .i64 T, .int .i64 A][j]? = some u → w9.cell? ((⟨w8.heap.size, 0, none⟩ : Addr).add j) = some u := by
                intro j u hj
                rw [addr_at, ← hw9]
                unfold World.cell?
                rw [World.alloc_heap_new]
                simpa using hj
              have HW9 := Lib.hid hw9
              have HL9 := Lib.hid hL9
              have HN9 := Lib.hid hn9
              have HB9 := Lib.hid hb9
              have hz9 : w2.heap.size ≤ w9.heap.size := by
                have h1 := HL.out
                have h2 := HB8.out.size
                have h3 := hb9.size
                have h4 := owns_blk HO.out
                omega
              clear hw9 hL9 hn9 hb9
              obtain ⟨i0, hi, hz0', hz1, hz2⟩ := info_parts info44
              have HI0 := Lib.hid (And.intro hi (And.intro hz0' (And.intro hz1 hz2)))
              have hkx : k ≤ 60 := by have := P.out.2.2.2.2.2; omega
              clear hi hz0' hz1 hz2
              go_wp2_with (at_builtin; rw [HW9.out]; refine wpList_append_own_at _ rfl _ _ 40 rfl w2.heap.size 44 i0 _ 4 32 Try.underlying40 HI0.out.1 HI0.out.2.1 HI0.out.2.2.1 HI0.out.2.2.2 rfl (by decide) _ _ _ rfl HL9.out ⟨w8.heap.size, 0, none⟩ 1 1 _ rfl (by simp) HN9.out ?c2 ?c3 ?c4 hz9 ?_)
              case c2 => intro u hu; simp at hu; rcases hu with rfl | rfl | rfl | rfl <;> rfl
              case c3 => unfold maxLen; omega
              case c4 => omega
              intro v' w10 ho10 hg10 _ hat
              have hbrow : ∀ q, (Value.slice al k cl).ownBlock = some q → q < wr.heap.size := fun q hq => (HL.out.lt q hq).2
              have hbb : b < w9.heap.size := by
                have h1 := (Array.getElem?_eq_some_iff.1 HBLK.out).1
                have h2 := HB9.out.size
                omega
              have hne : some b ≠ (Value.slice al k cl).ownBlock := fun e => by have := hbrow b e.symm; have := HBN.out; omega
              have hblk10 : w10.heap[b]? = some (.cells #[.int .i64 k, .int .i64 F, .int .i64 T, .int .i64 A] 44 (0, 0)) :=
                (hg10.block b hbb hne).trans ((HB9.out.block b (Array.getElem?_eq_some_iff.1 HBLK.out).1).trans HBLK.out)
              have hO9 := ownsN_below (ownsN_below HO.out HB8.out) HB9.out
              have hO10 := hO9.kept hg10 (ownsN_ne hO9 HL9.out (by decide))
              have z0 : w10.cell? ⟨b, 0, none⟩ = some (.int .i64 k) := by rw [cell_of_heap hblk10]; rfl
              have z1 : w10.cell? ⟨b, 1, none⟩ = some (.int .i64 F) := by rw [cell_of_heap hblk10]; rfl
              have z2 : w10.cell? ⟨b, 2, none⟩ = some (.int .i64 T) := by rw [cell_of_heap hblk10]; rfl
              have z3 : w10.cell? ⟨b, 3, none⟩ = some (.int .i64 A) := by rw [cell_of_heap hblk10]; rfl
              have y1 : w10.frozen? ⟨b, 1, none⟩ = false := frozen_of_heap hblk10
              have y2 : w10.frozen? ⟨b, 2, none⟩ = false := frozen_of_heap hblk10
              have hgr : w.heap.size ≤ g := Nat.le_trans B2.out (owns_blk HO.out).1
              have hb10 : Below w.heap.size w w10 := by
                have s1 := bThen HB.out HB8.out
                have s2 := bThen s1 HB9.out
                exact s2.trans (below_grownBy hg10 s2.size fun q hq => Nat.le_trans B2.out (HL.out.lt q hq).1)
              have hvb : v'.ownBlock ≠ some b := fun e => by
                rcases hat with h | h
                · exact hne (e.symm.trans h)
                · rw [e] at h; cases h; omega
              have HO10 := Lib.hid hO10
              have HL10 := Lib.hid ho10
              have HBLK10 := Lib.hid hblk10
              have HB10 := Lib.hid hb10
              clear hat ho10 hg10 hbrow hbb hne hblk10 hO9 hO10 hb10 k0 k1 k2 k3
              have hgb : g ≠ b := fun e => by have := (owns_blk HO.out).2; have := HBN.out; omega
              go_wp2_with fail
              obtain ⟨w11, hw11⟩ : ∃ w11, (w10.setCell ⟨b, 1, none⟩ (.int .i64 T)).setCell ⟨b, 2, none⟩ (.int .i64 F) = w11 := ⟨_, rfl⟩
              have hO11 : w11.ownsRow w2.heap.size 3 1 (.slice (some ⟨g, 0, none⟩) xs.length c) xs.length (ints l) := by
                rw [← hw11]
                exact ownsRow_setCell_other (ownsRow_setCell_other HO10.out (by simpa [Value.ownBlock] using hgb) _) (by simpa [Value.ownBlock] using hgb) _
              have hL11 : w11.ownsRow w2.heap.size 44 4 v' (k + 1) ((payRows (payTo xs k)).flatten ++ [.int .i64 k, .int .i64 F, .int .i64 T, .int .i64 A]) := by
                rw [← hw11]
                exact ownsRow_setCell_other (ownsRow_setCell_other HL10.out hvb _) hvb _
              have hb11 : Below w.heap.size w w11 := by
                rw [← hw11]
                have hwb : w.heap.size ≤ b := Nat.le_trans HB.out.size HBN.out
                exact (HB10.out.setCell hwb _).setCell hwb _
              rw [hw11]
              have HL11 := Lib.hid hL11
              have HB11 := Lib.hid hb11
              clear hw11 hL11 hb11 z0 z1 z2 z3 y1 y2 hvb
              have hln := HQ.out.2.2.2
              have e1 : l.getD T 0 = M := by rw [← HT.out]; exact HM.out
              have e2 : (l.set T (l.getD T 0 - A)).getD F 0 = m := by
                rw [List.getD_eq_getElem?_getD, List.getElem?_set_ne (by rw [← HT.out, ← HF.out]; exact fun e => P.out.2.2.2.2.1 e.symm), ← List.getD_eq_getElem?_getD]; exact HMM.out
              refine (move_any l _ g c xs.length k A T F _ hO11 hTx hFx (by rw [e1]; have := P.out; omega) (by rw [e2]; have := P.out; omega)).mono ?_
              rintro e w12 ⟨rfl, hO12, hg12⟩
              have hmv : mvL l T F A = payL l := by rw [← HT.out, ← HF.out, ← HA.out]; exact payL_mv l P.out.2.2.2.2.1
              rw [hmv] at hO12
              have hL12 := HL11.out.kept hg12 (ownsN_ne HL11.out hO11 (by decide))
              have hb12 : Below w.heap.size w w12 := HB11.out.trans (below_grownBy hg12 HB11.out.size fun q hq => by cases hq; exact hgr)
              have hrow : (payRows (payTo xs k)).flatten ++ [Value.int .i64 k, .int .i64 F, .int .i64 T, .int .i64 A] = (payRows (payTo xs (k + 1))).flatten := by
                rw [payTo_succ, payRows_snoc, List.flatten_append, payTo_length, ← HK.out.eq, payT, HT.out, HF.out, HA.out]; simp [payRow]
              rw [hrow] at hL12
              have HO12 := Lib.hid hO12
              have HL12 := Lib.hid hL12
              have HB12 := Lib.hid hb12
              clear hO12 hL12 hb12 hO11 hg12 hmv hrow e1 e2 hln
              go_wp2_with fail
              refine (most_any (payL l) _ _ (owns_sl HO12.out) (by have := HQ.out; simp; omega)).mono ?_
              rintro e w13 ⟨rfl, rfl⟩
              go_wp2
              go_roundw
              case rel => exact ⟨k + 1, payL l, by rw [payL_length], HK3, HO12, HL12, HB12.out⟩
              case measure =>
                have h1 : sliceLen v' = k + 1 := by
                  rcases HL12.out.2 with ⟨h1, h2⟩ | ⟨g, cap, cur, h1, _⟩
                  · omega
                  · rw [h1]; rfl
                rw [h1]
                have := P.out.2.2.2.2.2
                simp only [sliceLen]; omega
      · have er2 : er = 9 := by rw [ER.out]; simp [hs0]
        clear ER RS
        subst er2
        have f0 : ((xs.sum : Int) != 0) = true := by simp [hs0]
        clear hs0 hsum
        go_wp2
        go_ret2
        exact ⟨_, rfl, HB2.out, by rw [NOK.out (by decide)]; exact SlN.nil _ _ _⟩
    · have er2 : er = 2 := ER.out
      clear ER RS
      subst er2
      go_wp2
      go_ret2
      exact ⟨_, rfl, HB2.out, by rw [NOK.out (by decide)]; exact SlN.nil _ _ _⟩
end Go.Proofs.Ytagfcodpgochjaa

/- Chapter 12: Post's check of a book (isBook). -/
namespace Go.Proofs.Ytagfcodpgochjaa
open Go.RowKit Go.Oche Go.Proofs

/-- One account within its bounds. -/
def acctBad (xs ys : List Int) (i : Nat) : Bool := outB (-(ys.getD i 0)) 1000000000 (xs.getD i 0)
def bookOk (xs ys : List Int) : Bool := isIn (xs.length : Int) 1 60 && decide (ys.length = xs.length) && !(ys.any (outB 0 1000000000)) && !((List.range xs.length).any (acctBad xs ys))

set_option maxRecDepth 100000 in
set_option maxHeartbeats 4000000 in
theorem isBook_any {S : Nat → Prop} (xs ys : List Int) (va vb : Value) (w : World) (hsa : Sl S w va (ints xs)) (hsb : Sl S w vb (ints ys)) :
    Calls Try.prog 42 #[.agg #[va, vb]] w fun e w' => e = .returned (.bool (bookOk xs ys)) ∧ Below w.heap.size w w' := by
  obtain ⟨a, cap, rfl, h2, h3⟩ := hsa.form
  obtain ⟨a', cap', rfl, h2', h3'⟩ := hsb.form
  simp only [ints_length] at *
  unfold maxLen at h3 h3'
  obtain ⟨b1, hb1⟩ : ∃ b, isIn (xs.length : Int) 1 60 = b := ⟨_, rfl⟩
  obtain ⟨b2, hb2⟩ : ∃ b, (((ys.length : Nat) : Int) != (xs.length : Int)) = b := ⟨_, rfl⟩
  obtain ⟨b3, hb3⟩ : ∃ b, ys.any (outB 0 1000000000) = b := ⟨_, rfl⟩
  obtain ⟨er, her⟩ : ∃ x, bookOk xs ys = x := ⟨_, rfl⟩
  have ER : Hid (bookOk xs ys = er) := Lib.hid her
  have H1 := Lib.hid hb1
  have H2 := Lib.hid hb2
  have H3 := Lib.hid hb3
  have HA := Lib.hid hsa
  have HB := Lib.hid hsb
  rw [her]
  clear her hb1 hb2 hb3 hsa hsb
  go_enter Try.func42, Try.ntmps42
  go_wp2_with fail
  have hc := within_one' 1 60 xs.length b1 H1 _ _ (Sl.new1 (fun _ => True) (w.alloc (.cells #[.slice a xs.length cap, .slice a' ys.length cap'] 55)) trivial 3 (.int .i64 xs.length))
  rw [show (w.alloc (.cells #[.slice a xs.length cap, .slice a' ys.length cap'] 55)).heap.size = w.heap.size + 1 by simp] at hc
  refine hc.mono ?_
  clear hc
  rintro e w1 ⟨rfl, hb1⟩
  have h01 : Below w.heap.size w w1 := bThen (aB w _) (bThen (aB _ _) hb1)
  have k0 : w1.cell? ⟨w.heap.size, 0, none⟩ = some (.slice a xs.length cap) := bAt (bThen (aB _ _) hb1) (by simp)
  have k1 : w1.cell? ⟨w.heap.size, 1, none⟩ = some (.slice a' ys.length cap') := bAt (bThen (aB _ _) hb1) (by simp)
  have HB1 := Lib.hid h01
  replace HA := Lib.hid (HA.out.below HB1.out)
  replace HB := Lib.hid (HB.out.below HB1.out)
  clear hb1 h01
  have ERX : Hid (er = (b1 && (!b2 && (!b3 && !((List.range xs.length).any (acctBad xs ys)))))) := Lib.hid (by
    have h2 : decide (ys.length = xs.length) = !b2 := by rw [← H2.out]; simp [bne, Bool.beq_eq_decide_eq]; omega
    rw [← ER.out, bookOk, H1.out, H3.out, h2]; simp [Bool.and_assoc])
  clear ER
  have hq := H2.out
  cases b1
  · have er2 : er = false := ERX.out
    clear ERX
    subst er2
    go_wp2
    go_ret
    exact ⟨rfl, HB1.out⟩
  · cases b2
    · go_wp2_with fail
      refine (within_r _ _ ys b3 H3 _ _ HB.out).mono ?_
      rintro e w2 ⟨rfl, hb2⟩
      have j0 := bAt hb2 k0
      have j1 := bAt hb2 k1
      have HB2 := Lib.hid (bThen HB1.out hb2)
      replace HA := Lib.hid (HA.out.below hb2)
      replace HB := Lib.hid (HB.out.below hb2)
      clear hb2 k0 k1
      cases b3
      · go_wp2_with fail
        have hlen : ys.length = xs.length := by have := H2.out; simp at this; omega
        have hn60 : 1 ≤ xs.length ∧ xs.length ≤ 60 := by have := H1.out; simp [isIn] at this; omega
        obtain ⟨n, hn⟩ : ∃ n, xs.length = n := ⟨_, rfl⟩
        have HN := Lib.hid hn
        have HL := Lib.hid hlen
        clear hq hlen
        go_loopw [29] (fun iv wr => ∃ i : Nat, i ≤ n ∧ iv = .int .i64 i ∧ Hid (∀ k, k < i → acctBad xs ys k = false) ∧ Below w2.heap.size w2 wr) (fun iv _ => n - (intOf iv).toNat)
        case atStart => exact ⟨0, by omega, by go_num, Lib.hid (fun k h => by omega), Below.refl _ _⟩
        case round =>
          obtain ⟨i, hi, rfl, HI, hb⟩ := hrel
          obtain ⟨wo, rfl⟩ : ∃ wo : World, wo = wr := ⟨_, rfl⟩
          by_cases hlt : i < n
          · have hix : i < xs.length := by rw [HN.out]; exact hlt
            have hiy : i < ys.length := by rw [HL.out]; exact hix
            obtain ⟨b', off', hal, _, hc⟩ := (HA.out.below hb).cell hix
            cases hal
            obtain ⟨b'', off'', hal, _, hc'⟩ := (HB.out.below hb).cell hiy
            cases hal
            obtain ⟨x, hx⟩ : ∃ x, xs[i] = x := ⟨_, rfl⟩
            obtain ⟨y, hy⟩ : ∃ y, ys[i] = y := ⟨_, rfl⟩
            rw [hx] at hc
            rw [hy] at hc'
            have l0 := bAt hb j0
            have l1 := bAt hb j1
            have hyb : 0 ≤ y ∧ y ≤ 1000000000 := by
              have h1 := H3.out
              rw [List.any_eq_false] at h1
              have h2 := h1 y (hy ▸ List.getElem_mem hiy)
              simp [outB] at h2
              omega
            have hwy : IntKind.i64.wrap (-y) = -y := wrap_small _ (by omega) (by omega)
            obtain ⟨bb, hbb⟩ : ∃ bb, isIn x (-y) 1000000000 = bb := ⟨_, rfl⟩
            have hac : acctBad xs ys i = !bb := by
              unfold acctBad
              rw [getD_at hix, getD_at hiy, hx, hy, ← hbb, Bool.eq_iff_iff]; simp [outB, isIn]
            have HAC := Lib.hid hac
            have HBB := Lib.hid hbb
            have HBO := Lib.hid hb
            have HIY := Lib.hid (And.intro hix hiy)
            have hly : i < ys.length := hiy
            clear hx hy hac hbb hb hn
            go_wp2_with fail
            refine (within_one' (-y) 1000000000 x bb HBB _ _ (Sl.new1 (fun _ => True) wo trivial 3 (.int .i64 x))).mono ?_
            rintro e w3 ⟨rfl, hb3⟩
            have HB3 := Lib.hid (bThen HBO.out (bThen (aB wo _) hb3))
            clear hb3
            cases bb
            · have er2 : er = false := by
                rw [ERX.out, show (List.range xs.length).any (acctBad xs ys) = true from List.any_eq_true.2 ⟨i, List.mem_range.2 HIY.out.1, by rw [HAC.out]; rfl⟩]; rfl
              clear ERX
              subst er2
              have HBO := Lib.hid (bThen HB2.out HB3.out)
              go_wp2
              go_ret
              exact ⟨rfl, HBO.out⟩
            · go_wp2
              go_roundw
              case rel => exact ⟨i + 1, by omega, by go_num, Lib.hid (fun k hk => by
                by_cases e : k = i
                · rw [e, HAC.out]; rfl
                · exact HI.out k (by omega)), HB3.out⟩
              case measure => simp [intOf]; omega
          · obtain rfl : i = n := by omega
            have er2 : er = true := by
              rw [ERX.out, show (List.range xs.length).any (acctBad xs ys) = false by
                rw [List.any_eq_false]; intro k hk; rw [List.mem_range, HN.out] at hk; simp [HI.out k hk]]; rfl
            clear ERX
            subst er2
            have HBO := Lib.hid (bThen HB2.out hb)
            clear hb
            go_wp2
            go_ret
            exact ⟨rfl, HBO.out⟩
      · have er2 : er = false := ERX.out
        clear ERX
        subst er2
        go_wp2
        go_ret
        exact ⟨rfl, HB2.out⟩
    · have er2 : er = false := ERX.out
      clear ERX
      subst er2
      go_wp2
      go_ret
      exact ⟨rfl, HB1.out⟩
end Go.Proofs.Ytagfcodpgochjaa
