/- The texts LE, Two, NV, in build order. -/
import Derived.Test.YtcnofoopdghjiaaZao
import Derived.ArgAppend
import Derived.Laws.OwnMore

/- Chapter 2: a copy of a list of bools. -/
namespace Go.Proofs.Ytcnofoopdghjiaa
open Go.RowKit Go.Oche Go.Proofs
theorem info4 : (Try.prog.info? 4).map (fun i => (i.zero, i.size, i.bytes)) = some (some (.bool false), 1, 1) := by kernel_rfl
theorem bools_one {l : List Bool} : ∀ u ∈ bools l, u.oneCell' = true := fun u hu => by
  obtain ⟨x, _, rfl⟩ := List.mem_map.1 hu; rfl
theorem noSpot {S : Nat → Prop} {W : World} {a : Addr} {n c : Nat} {xs : List Value} (h : Sl S W (.slice (some a) n c) xs) : ∀ j u, xs[j]? = some u → W.cell? (a.add j) = some u := fun j u hj => by
  obtain ⟨a', c', e, _, _, h4⟩ := h
  cases e
  obtain ⟨b, o, e, _, hc⟩ := h4 j u hj
  cases e
  rw [addr_add]; exact hc
theorem run_append_noneB (W : World) (b c2 : Nat) (ad : Option Addr) : (Builtin.append_ #[44, 44] 44 #[.slice (some ⟨b, 0, none⟩) 0 0, .slice ad 0 c2]).run Try.prog W = .ok (.slice (some ⟨b, 0, none⟩) 0 0) W := by
  obtain ⟨i0, hi, hz0', hz1, hz2⟩ := info_parts info4
  cases ad <;> simp [Builtin.append_, run_underlying Try.underlying44, sizeOf, typeInfo, hi, Builtin.lenOf, Builtin.firstCells, loadCells, loadCellsFrom, storeCells]
/-- A copy of a list of bools. -/
theorem copyB_run {S : Nat → Prop} {W : World} {v : Value} {xs : List Bool} (h : Sl S W v (bools xs)) (hl : xs.length ≤ 1100) (b : Nat) :
    ∃ v' W', (Builtin.append_ #[44, 44] 44 #[.slice (some ⟨b, 0, none⟩) 0 0, v]).run Try.prog W = .ok v' W' ∧ (∃ b' c', v' = .slice (some ⟨b', 0, none⟩) xs.length c') ∧ Sl (fun k => W.heap.size ≤ k) W' v' (bools xs) ∧ Below W.heap.size W W' := by
  obtain ⟨a', c', rfl, _, _⟩ := h.form
  rw [bools_length] at *
  by_cases h0 : xs.length = 0
  · have : xs = [] := List.eq_nil_of_length_eq_zero h0
    subst this
    exact ⟨_, W, run_append_noneB W b c' a', ⟨b, 0, rfl⟩, ⟨some ⟨b, 0, none⟩, 0, rfl, Nat.le_refl _, Nat.zero_le _, fun i x hx => by simp [bools] at hx⟩, Below.refl _ _⟩
  · cases a' with
    | none =>
      obtain ⟨_, _, e, _, _, h4⟩ := h
      rw [bools_length] at e
      cases e
      obtain ⟨_, _, e, _⟩ := h4 0 _ (bools_at (by omega))
      cases e
    | some ad =>
      obtain ⟨i0, hi, hz0', hz1, hz2⟩ := info_parts info4
      obtain ⟨v', W', hr, ho, hg⟩ := run_append_arg_grows (P := Try.prog) W 44 44 4 i0 (.bool false) 1 1 Try.underlying44 hi hz0' hz1 hz2 rfl (by decide) ⟨b, 0, none⟩ 0 0 [] rfl (fun j u hj => by simp at hj) ad xs.length c' (bools xs) (by simp) (noSpot h) (by simp; omega) (by unfold maxLen; simp; omega) (by simp; omega)
      have hb : Below W.heap.size W W' := below_grownBy hg (Nat.le_refl _) (fun k hk => by cases hk)
      simp only [Nat.zero_add, List.nil_append] at ho
      obtain ⟨g, cap, rfl⟩ := owns_pos ho (by omega)
      exact ⟨_, W', hr, ⟨g, cap, rfl⟩, Sl.of_owns ho, hb⟩
end Go.Proofs.Ytcnofoopdghjiaa

/- Two slices of one's own that grow side by side; a store into one. -/
namespace Go.Oche
open Go Go.RowKit
theorem owns_kept {W W' : World} {base n : Nat} {e : TypeId} {v : Value} {xs : List Value} (h : W.ownsRow base e 1 v n xs) (hk : ∀ g, v.ownBlock = some g → W'.heap[g]? = W.heap[g]?) : W'.ownsRow base e 1 v n xs := by
  refine ⟨h.1, ?_⟩
  rcases h.2 with h | ⟨g, cap, cur, rfl, h1, h2, h3⟩
  · exact .inl h
  · exact .inr ⟨g, cap, cur, rfl, h1, by rw [hk g (by simp [Value.ownBlock])]; exact h2, h3⟩
theorem owns_blk {W : World} {base n g c : Nat} {e : TypeId} {xs : List Value} (h : W.ownsRow base e 1 (.slice (some ⟨g, 0, none⟩) n c) n xs) : base ≤ g ∧ g < W.heap.size := by
  rcases h.2 with ⟨h', _⟩ | ⟨g', cap', cur, h', hb, hg, _⟩
  · simp at h'
  · simp only [Value.slice.injEq, Option.some.injEq, Addr.mk.injEq, and_true, true_and] at h'
    obtain ⟨rfl, rfl⟩ := h'
    exact ⟨hb, (Array.getElem?_eq_some_iff.1 hg).1⟩
/-- Two rows of one's own, in different blocks. -/
structure Two (B : Nat) (e e' : TypeId) (W : World) (g c g' c' n m : Nat) (xs ys : List Value) : Prop where
  o : W.ownsRow B e 1 (.slice (some ⟨g, 0, none⟩) n c) n xs
  o' : W.ownsRow B e' 1 (.slice (some ⟨g', 0, none⟩) m c') m ys
  ne : g ≠ g'
section
variable {B : Nat} {e e' : TypeId} {W W' : World} {g c g' c' n m h d : Nat} {xs ys zs : List Value}
theorem Two.swap (t : Two B e e' W g c g' c' n m xs ys) : Two B e' e W g' c' g c m n ys xs := ⟨t.o', t.o, fun h => t.ne h.symm⟩
theorem Two.below (t : Two B e e' W g c g' c' n m xs ys) (hb : Below W.heap.size W W') : Two B e e' W' g c g' c' n m xs ys :=
  ⟨owns_kept t.o (fun q hq => by cases hq; exact hb.block g (owns_blk t.o).2), owns_kept t.o' (fun q hq => by cases hq; exact hb.block g' (owns_blk t.o').2), t.ne⟩
/-- The first one has grown, or moved, behind a new block. -/
theorem Two.grown {ob : Obj} (t : Two B e e' W g c g' c' n m xs ys) (ho : W'.ownsRow B e 1 (.slice (some ⟨h, 0, none⟩) (n + 1) d) (n + 1) zs) (hg : (W.alloc ob).grownBy W' (some g)) (hat : some g = some h ∨ h = W.heap.size + 1) :
    Two B e e' W' h d g' c' (n + 1) m zs ys ∧ W.heap.size ≤ W'.heap.size ∧ ∀ b, b ≤ W.heap.size → Below b W W' ∨ g < b := by
  have l1 := owns_blk t.o
  have l2 := owns_blk t.o'
  have hs := hg.size
  rw [World.size_alloc] at hs
  have hkeep : ∀ k, k < W.heap.size → k ≠ g → W'.heap[k]? = W.heap[k]? := fun k hk hne => by
    rw [hg.block k (by simp; omega) (fun e => hne (by cases e; rfl)), Below.heap_alloc _ _ _ hk]
  refine ⟨⟨ho, owns_kept t.o' (fun q hq => by cases hq; exact hkeep g' l2.2 fun e => t.ne e.symm), ?_⟩, by omega, fun b hb => ?_⟩
  · rcases hat with hat | hat
    · cases hat; exact t.ne
    · omega
  · by_cases hgb : g < b
    · exact .inr hgb
    · exact .inl ⟨hg.os.trans rfl, hg.tape.trans rfl, hg.output.trans rfl, by omega, fun k hk => hkeep k (by omega) (by omega)⟩
end
/-- What an append to one's own row leaves below it. -/
theorem below_own {W W' : World} {ob : Obj} {g b : Nat} (hg : (W.alloc ob).grownBy W' (some g)) (hb : b ≤ W.heap.size) (hgb : b ≤ g) : Below b W W' :=
  ((aB W ob).mono hb).trans (below_grownBy hg (by simp; omega) (fun k hk => by cases hk; exact hgb))
theorem owns_sl {W : World} {base n g c : Nat} {e : TypeId} {xs : List Value} (h : W.ownsRow base e 1 (.slice (some ⟨g, 0, none⟩) n c) n xs) : Sl (fun k => k = g) W (.slice (some ⟨g, 0, none⟩) n c) xs := by
  obtain ⟨a, cap, e1, h1, h2, h3⟩ := Sl.of_owns h
  refine ⟨a, cap, e1, h1, h2, fun i x hx => ?_⟩
  obtain ⟨b, off, e2, _, h4⟩ := h3 i x hx
  subst e2
  simp only [Value.slice.injEq, Option.some.injEq, Addr.mk.injEq, and_true] at e1
  exact ⟨b, off, rfl, e1.1.1.symm, h4⟩
theorem Sl.cellU {S : Nat → Prop} {w : World} {a : Option Addr} {n cap : Nat} {xs : List Int} (h : Sl S w (.slice a n cap) (xs.map (Value.int .u8))) {k : Nat} (hk : k < xs.length) : ∃ b off, a = some ⟨b, off, none⟩ ∧ S b ∧ w.cell? ⟨b, off + k, none⟩ = some (.int .u8 xs[k]) := by
  obtain ⟨a', cap', e, _, _, h4⟩ := h
  cases e
  exact h4 k _ (by simp [hk])
end Go.Oche

/- Chapter 2, law OutNever: the walk. (Printed by gen_NV.py.) -/
namespace Go.Proofs.Ytcnofoopdghjiaa
open Go.RowKit Go.Oche Go.Proofs

def nvTo (g : Int) (bs : List Int) (k : Nat) : List Bool := (List.range k).map fun s => decide (fewAt g bs s = -1)
def smAt (xb : List Int) (s : Nat) : Bool := decide (0 < xb.length) && decide (0 < (xb.getD (s % xb.length) 0) % 3)
def smTo (xb : List Int) (k : Nat) : List Bool := (List.range k).map (smAt xb)
theorem nvTo_succ (g : Int) (bs : List Int) (k : Nat) : nvTo g bs (k + 1) = nvTo g bs k ++ [decide (fewAt g bs k = -1)] := by simp [nvTo, List.range_succ]
theorem smTo_succ (xb : List Int) (k : Nat) : smTo xb (k + 1) = smTo xb k ++ [smAt xb k] := by simp [smTo, List.range_succ]
@[simp] theorem nvTo_length (g : Int) (bs : List Int) (k : Nat) : (nvTo g bs k).length = k := by simp [nvTo]
@[simp] theorem smTo_length (xb : List Int) (k : Nat) : (smTo xb k).length = k := by simp [smTo]
theorem nvTo_getD {g : Int} {bs : List Int} {k s : Nat} (h : s < k) : (nvTo g bs k).getD s false = decide (fewAt g bs s = -1) := by
  rw [List.getD_eq_getElem?_getD, nvTo]; simp [h]
theorem smTo_getD {xb : List Int} {k s : Nat} (h : s < k) : (smTo xb k).getD s false = smAt xb s := by
  rw [List.getD_eq_getElem?_getD, smTo]; simp [h]
theorem nvTo_at {g : Int} {bs : List Int} {k s : Nat} (h : s < (nvTo g bs k).length) : (nvTo g bs k)[s] = decide (fewAt g bs s = -1) := by simp [nvTo]
theorem smTo_at {xb : List Int} {k s : Nat} (h : s < (smTo xb k).length) : (smTo xb k)[s] = smAt xb s := by simp [smTo]
theorem fewTo_get {g : Int} {bs : List Int} {n k : Nat} (h : k < (fewTo g bs n).length) : (fewTo g bs n)[k] = fewAt g bs k := by
  have h' := h
  rw [fewTo_length] at h'
  rw [← fewTo_at (g := g) (bs := bs) (s := k) (m := n) (by omega), List.getD_eq_getElem?_getD, List.getElem?_eq_getElem h]; rfl
/-- The scores that are never ended are a proof. -/
theorem nvTo_closed {g : Int} {bs : List Int} (hbs : ∀ b ∈ bs, bedOk b = true) (k : Nat) : closedB g bs (nvTo g bs k) = true :=
  never_closed hbs fun s hs => nvTo_getD (by simpa using hs)
/-- .. and one more that can be ended is none. -/
theorem nvTo_more {g : Int} {bs : List Int} (hbs : ∀ b ∈ bs, bedOk b = true) {k s : Nat} (hs : s < k) (h : 0 ≤ fewAt g bs s) : closedB g bs ((nvTo g bs k).set s true) = false := by
  cases hc : closedB g bs ((nvTo g bs k).set s true)
  · rfl
  · have := closed_never hbs hc s (by rw [List.getD_eq_getElem?_getD, List.getElem?_set_self (by simpa using hs)]; rfl)
    omega
theorem fewAt_ge (g : Int) (bs : List Int) (s : Nat) : -1 ≤ fewAt g bs s := fewTo_ge g bs s s
/-- A copy of a list of bools that is one's own. -/
theorem copyB_own {S : Nat → Prop} {W : World} {v : Value} {xs : List Bool} (h : Sl S W v (bools xs)) (hl : xs.length ≤ 1100) (h0 : 0 < xs.length) (b : Nat) :
    ∃ g c W', (Builtin.append_ #[44, 44] 44 #[.slice (some ⟨b, 0, none⟩) 0 0, v]).run Try.prog W = .ok (.slice (some ⟨g, 0, none⟩) xs.length c) W' ∧ W'.ownsRow W.heap.size 4 1 (.slice (some ⟨g, 0, none⟩) xs.length c) xs.length (bools xs) ∧ Below W.heap.size W W' := by
  obtain ⟨a', c', rfl, _, _⟩ := h.form
  rw [bools_length] at *
  cases a' with
  | none =>
    obtain ⟨_, _, e, _, _, h4⟩ := h
    rw [bools_length] at e
    cases e
    obtain ⟨_, _, e, _⟩ := h4 0 _ (bools_at h0)
    cases e
  | some ad =>
    obtain ⟨i0, hi, hz0', hz1, hz2⟩ := info_parts info4
    obtain ⟨v', W', hr, ho, hg⟩ := run_append_arg_grows (P := Try.prog) W 44 44 4 i0 (.bool false) 1 1 Try.underlying44 hi hz0' hz1 hz2 rfl (by decide) ⟨b, 0, none⟩ 0 0 [] rfl (fun j u hj => by simp at hj) ad xs.length c' (bools xs) (by simp) (noSpot h) (by simp; omega) (by unfold maxLen; simp; omega) (by simp; omega)
    have hb : Below W.heap.size W W' := below_grownBy hg (Nat.le_refl _) (fun k hk => by cases hk)
    simp only [Nat.zero_add, List.nil_append] at ho
    obtain ⟨g, cap, rfl⟩ := owns_pos ho h0
    exact ⟨g, cap, W', hr, ho, hb⟩
theorem closed_r {S S' : Nat → Prop} (bs : List Int) (g d : Int) (nv : List Bool) (r : Bool) (hr : Hid (closedErr bs g d nv.length = 0 ∧ closedRes bs g d nv = r)) (v vn : Value) (w : World) (hs : Sl S w v (ints bs)) (hn : Sl S' w vn (bools nv)) (hi : ∀ b ∈ bs, I64 b) :
    Calls Try.prog 30 #[.agg #[v, .int .i64 g, .int .i64 d], vn] w fun e w' => e = .returned (.tuple #[.bool r, .int .i64 0]) ∧ Below w.heap.size w w' := by
  have := closed_any bs g d nv v vn w hs hn hi
  rw [hr.out.1, hr.out.2] at this
  exact this
theorem closed_facts {bs : List Int} {g d : Int} {nv : List Bool} (hr : rulesOk bs g d = true) (hl : nv.length ≤ 1002) : closedErr bs g d nv.length = 0 ∧ closedRes bs g d nv = closedB g bs nv := by
  have h : closedErr bs g d nv.length = 0 := by rw [closedErr, if_pos hr, if_pos hl]
  exact ⟨h, by rw [closedRes, h]; rfl⟩

set_option maxRecDepth 100000 in
set_option maxHeartbeats 8000000 in
theorem OutNever_any {S S' : Nat → Prop} (bs : List Int) (g d sc : Int) (xb : List Int) (v vb : Value) (w : World) (hs : Sl S w v (ints bs)) (hx : Sl S' w vb (xb.map (Value.int .u8))) (hi : ∀ b ∈ bs, I64 b) (hxr : ∀ b ∈ xb, 0 ≤ b ∧ b ≤ 255) (hsc : 0 ≤ sc ∧ sc ≤ 65535) :
    Calls Try.prog 9 #[.agg #[v, .int .i64 g, .int .i64 d], vb, .int .u16 sc] w fun e w' => e = .returned (.bool true) ∧ Below w.heap.size w w' := by
  obtain ⟨a, cap, rfl, _, h3⟩ := hs.form
  obtain ⟨ab, capb, rfl, _, h3b⟩ := hx.form
  simp only [ints_length, List.length_map] at *
  unfold maxLen at h3 h3b
  obtain ⟨w0, hw0⟩ : ∃ w0, w0 = w.alloc (.cells #[.slice a bs.length cap, .int .i64 g, .int .i64 d] 25) := ⟨_, rfl⟩
  have hb0 : Below w.heap.size w w0 := by rw [hw0]; exact aB _ _
  have h2 : w0.heap[w.heap.size]? = some (.cells #[.slice a bs.length cap, .int .i64 g, .int .i64 d] 25 (0, 0)) := by rw [hw0]; exact World.alloc_heap_new _ _
  have x0 : w0.cell? ⟨w.heap.size, 0, none⟩ = some (.slice a bs.length cap) := by rw [cell_of_heap h2]; rfl
  have x1 : w0.cell? ⟨w.heap.size, 1, none⟩ = some (.int .i64 g) := by rw [cell_of_heap h2]; rfl
  have x2 : w0.cell? ⟨w.heap.size, 2, none⟩ = some (.int .i64 d) := by rw [cell_of_heap h2]; rfl
  have HS := Lib.hid (hs.below hb0)
  have HX := Lib.hid (hx.below hb0)
  have HI := Lib.hid hi
  have HXR := Lib.hid hxr
  have HW := Lib.hid hw0
  have HB0 := Lib.hid hb0
  clear hs hi hw0 h2 hb0 hx hxr
  obtain ⟨n, hm, hm2⟩ : ∃ m : Nat, sc.tmod 301 = m ∧ m < 301 := ⟨(sc.tmod 301).toNat, by have := Int.tmod_nonneg 301 hsc.1; have := Int.tmod_lt_of_pos sc (show (0 : Int) < 301 by decide); omega, by have := Int.tmod_nonneg 301 hsc.1; have := Int.tmod_lt_of_pos sc (show (0 : Int) < 301 by decide); omega⟩
  have hw1 : IntKind.i64.wrap sc = sc := wrap_small _ (by omega) (by omega)
  have hw2 : IntKind.i64.wrap (n : Int) = n := wrap_small _ (by omega) (by omega)
  clear hsc
  obtain ⟨r, hr⟩ : ∃ b, rulesOk bs g d = b := ⟨_, rfl⟩
  have HR := Lib.hid hr
  clear hr
  obtain ⟨lg, hlg⟩ : ∃ b, decide ((40 : Int) < (xb.length : Int)) = b := ⟨_, rfl⟩
  go_enter Try.func9, Try.ntmps9
  go_wp2_with fail
  rw [← HW.out]
  refine (sound_r bs g d _ HR _ _ HS.out HI.out).mono ?_
  rintro e w1 ⟨rfl, hb1⟩
  replace x0 := bAt hb1 x0
  replace x1 := bAt hb1 x1
  replace x2 := bAt hb1 x2
  replace HS := Lib.hid (HS.out.below hb1)
  replace HX := Lib.hid (HX.out.below hb1)
  have HB1 := Lib.hid (bThen HB0.out hb1)
  clear hb1
  cases r
  · go_wp2_with fail
    refine (known_any _).mono ?_
    rintro e w2 ⟨rfl, hb2⟩
    have HB2 := Lib.hid (bThen HB1.out hb2)
    clear hb2
    go_wp2
    go_ret
    exact ⟨rfl, HB2.out⟩
  · cases lg
    · obtain ⟨q1, q2, q3, q4⟩ := rulesOk_spec HR.out
      obtain ⟨d, rfl⟩ : ∃ n : Nat, d = (n : Int) := ⟨d.toNat, by omega⟩
      have BO := Lib.hid (bedsOk_spec q1)
      have HLE : Hid (bs.length ≤ 85) := Lib.hid (by have := (bedsOk_spec q1).2.2.2; omega)
      have ME0 : Hid (mostErr bs g d n = 0) := Lib.hid (by
        have e1 : isIn (n : Int) 0 1001 = true := by simp [isIn]; omega
        rw [mostErr, if_pos HR.out, if_pos e1])
      obtain ⟨fw, hfw⟩ : ∃ x, fewTo g bs n = x := ⟨_, rfl⟩
      have FWL : Hid (fewL bs g d n = fw) := Lib.hid (by rw [fewL, if_pos ME0.out, Int.toNat_natCast, hfw])
      have FLN : Hid (fw.length = n + 1) := Lib.hid (by rw [← hfw, fewTo_length])
      have FWA : Hid (∀ k (h : k < fw.length), fw[k] = fewAt g bs k) := Lib.hid (by intro k h; subst hfw; exact fewTo_get h)
      have FW0 : Hid (fewAt g bs 0 = 0) := Lib.hid rfl
      clear q1 q2 q3 q4 hfw
      go_wp2_with fail
      refine (rules_any bs g d _ _ HS.out HLE.out).mono ?_
      rintro e w2 ⟨v2, rfl, hb2, hv2⟩
      have HV1 := Lib.hid hv2
      clear hv2
      replace x0 := bAt hb2 x0
      replace x1 := bAt hb2 x1
      replace x2 := bAt hb2 x2
      replace HS := Lib.hid (HS.out.below hb2)
      replace HX := Lib.hid (HX.out.below hb2)
      have HB2 := Lib.hid (bThen HB1.out hb2)
      clear hb2
      go_wp2_with fail
      refine (fewest_any bs g d n _ _ HV1.out HI.out).mono ?_
      rintro e w3 ⟨l3, rfl, hb3, hl3⟩
      rw [ME0.out]
      rw [FWL.out] at hl3
      obtain ⟨af, cf, rfl, _, hcf⟩ := hl3.form
      simp only [ints_length] at *
      rw [FLN.out] at hl3
      rw [FLN.out]
      have HF := Lib.hid hl3
      clear hl3
      replace x0 := bAt hb3 x0
      replace x1 := bAt hb3 x1
      replace x2 := bAt hb3 x2
      replace HS := Lib.hid (HS.out.below hb3)
      replace HX := Lib.hid (HX.out.below hb3)
      have HB3 := Lib.hid (bThen HB2.out hb3)
      clear hb3
      obtain ⟨bf, off, eaf, _, z0⟩ := HF.out.cell (show 0 < fw.length by have := FLN.out; omega)
      cases eaf
      rw [FWA.out 0 (by have := FLN.out; omega), FW0.out] at z0
      simp only [Nat.add_zero] at z0
      obtain ⟨w6, hw6⟩ : ∃ w6, w6 = (w3.alloc (.cells #[] 4)).alloc (.cells #[] 4) := ⟨_, rfl⟩
      have hT : Two w3.heap.size 4 4 w6 w3.heap.size 0 (w3.heap.size + 1) 0 0 0 (bools (nvTo g bs 0)) (bools (smTo xb 0)) := by
        have a1 := World.alloc_heap_new w3 (.cells #[] 4)
        have a2 := World.alloc_heap_new (w3.alloc (.cells #[] 4)) (.cells #[] 4)
        rw [World.size_alloc] at a2
        rw [hw6]
        exact ⟨owns_empty (by rw [Below.heap_alloc _ _ _ (by simp)]; exact a1) (Nat.le_refl _) rfl, owns_empty a2 (by omega) rfl, by omega⟩
      have hb6 : Below w3.heap.size w3 w6 := by rw [hw6]; exact (aB _ _).trans ((aB _ _).mono (by simp))
      have HT := Lib.hid hT
      have HW6 := Lib.hid hw6
      clear hT hw6
      replace HX := Lib.hid (HX.out.lt.mono (S' := fun q => q < w3.heap.size) (fun q hq => hq.2))
      go_wp2_with fail
      rw [← HW6.out]
      go_loopw [10, 11, 12] (fun nv sv i wr => ∃ (k g1 c1 g2 c2 : Nat), k ≤ n + 1 ∧ i = .int .i64 k ∧ nv = .slice (some ⟨g1, 0, none⟩) k c1 ∧ sv = .slice (some ⟨g2, 0, none⟩) k c2 ∧ Hid (Two w3.heap.size 4 4 wr g1 c1 g2 c2 k k (bools (nvTo g bs k)) (bools (smTo xb k))) ∧ Below w3.heap.size w3 wr) (fun _ _ i _ => n + 1 - (intOf i).toNat)
      case atStart => exact ⟨0, w3.heap.size, 0, w3.heap.size + 1, 0, by omega, rfl, rfl, rfl, HT, hb6⟩
      case round =>
        obtain ⟨k, g1, c1, g2, c2, hk, rfl, rfl, rfl, HT, hb⟩ := hrel
        obtain ⟨wo, rfl⟩ : ∃ wo : World, wo = wr := ⟨_, rfl⟩
        replace x0 := bAt hb x0
        replace x1 := bAt hb x1
        replace x2 := bAt hb x2
        replace HS := Lib.hid (HS.out.below hb)
        replace HX := Lib.hid (HX.out.below hb)
        replace HF := Lib.hid (HF.out.below hb)
        have HBO := Lib.hid hb
        have hBw : w3.heap.size ≤ wo.heap.size := hb.size
        clear hb hb6 z0
        by_cases hlt : k < n + 1
        · have d1 : decide (k ≤ n) = true := by simp; omega
          obtain ⟨fk, hfk⟩ : ∃ x, fewAt g bs k = x := ⟨_, rfl⟩
          obtain ⟨bf2, of2, eaf, _, z1⟩ := HF.out.cell (show k < fw.length by have := FLN.out; omega)
          cases eaf
          rw [FWA.out k (by have := FLN.out; omega), hfk] at z1
          obtain ⟨nb, hnb⟩ : ∃ x, (fk == -1) = x := ⟨_, rfl⟩
          have NX : Hid (bools (nvTo g bs (k + 1)) = bools (nvTo g bs k) ++ [.bool nb]) := Lib.hid (by
            rw [nvTo_succ, hfk, ← hnb]; simp [bools]; rfl)
          clear hfk
          by_cases hx0 : xb.length = 0
          · have SX : Hid (bools (smTo xb (k + 1)) = bools (smTo xb k) ++ [.bool false]) := Lib.hid (by rw [smTo_succ, smAt, hx0]; simp [bools])
            have d2 : decide (0 < xb.length) = false := by simp [hx0]
            clear hx0
            go_wp2_with (refine wpList_append1 rfl (.tmp 62) (.tmp 68) 44 rfl w3.heap.size 4 (.bool false) 1 Try.underlying44 info4 rfl _ _ _ rfl (HT.out.o.alloc _) wo.heap.size 0 1 (.bool nb) rfl (cell_new _ _ _) rfl (by omega) (by omega) (by simp; omega) ?_)
            intro q7 c7 W8 ho hgr hat
            obtain ⟨hT8, hz8, _⟩ := HT.out.grown ho hgr (by simpa [Value.ownBlock] using hat)
            have hb8 : Below w3.heap.size wo W8 := below_own hgr hBw (owns_blk HT.out.o).1
            rw [← NX.out] at hT8
            have HT8 := Lib.hid hT8
            have HB8 := Lib.hid (HBO.out.trans hb8)
            clear ho hgr hat hT8 hb8
            go_wp2_with (refine wpList_append1 rfl (.tmp 70) (.tmp 85) 44 rfl w3.heap.size 4 (.bool false) 1 Try.underlying44 info4 rfl _ _ _ rfl (HT8.out.o'.alloc _) W8.heap.size 0 1 (.bool false) rfl (cell_new _ _ _) rfl (by omega) (by omega) (by simp; omega) ?_)
            intro q9 c9 W9 ho hgr hat
            obtain ⟨hT9, hz9, _⟩ := HT8.out.swap.grown ho hgr (by simpa [Value.ownBlock] using hat)
            have hb9 : Below w3.heap.size W8 W9 := below_own hgr (by omega) (owns_blk HT8.out.o').1
            rw [← SX.out] at hT9
            have HT9 := Lib.hid hT9.swap
            have HB9 := Lib.hid (HB8.out.trans hb9)
            clear ho hgr hat hT9 hb9
            go_wp2_with fail
            go_roundw
            case rel => exact ⟨k + 1, _, _, _, _, by omega, by go_num, rfl, rfl, HT9, HB9.out⟩
            case measure => simp [intOf]; omega
          · have d2 : decide (0 < xb.length) = true := by simp; omega
            obtain ⟨pm, hpm⟩ : ∃ p, k % xb.length = p := ⟨_, rfl⟩
            have hpl : pm < xb.length := hpm ▸ Nat.mod_lt _ (by omega)
            have hmod : (k : Int) % (xb.length : Int) = (pm : Int) := by rw [← hpm]; simp
            have hip : (pm : Int) < (xb.length : Int) := by omega
            obtain ⟨bb, ob, eab, _, z2⟩ := HX.out.cellU hpl
            cases eab
            obtain ⟨xv, hxv⟩ : ∃ x, xb[pm] = x := ⟨_, rfl⟩
            have hxr : 0 ≤ xv ∧ xv ≤ 255 := hxv ▸ HXR.out _ (List.getElem_mem hpl)
            rw [hxv] at z2
            obtain ⟨sb, hsb⟩ : ∃ x, decide (0 < xv % 3) = x := ⟨_, rfl⟩
            have SX : Hid (bools (smTo xb (k + 1)) = bools (smTo xb k) ++ [.bool sb]) := Lib.hid (by
              rw [smTo_succ, smAt, hpm, List.getD_eq_getElem?_getD, List.getElem?_eq_getElem hpl, Option.getD_some, hxv, d2, hsb]; simp [bools])
            have HXV := Lib.hid hxv
            clear hpm hxv
            go_wp2_with (refine wpList_append1 rfl (.tmp 62) (.tmp 68) 44 rfl w3.heap.size 4 (.bool false) 1 Try.underlying44 info4 rfl _ _ _ rfl (HT.out.o.alloc _) wo.heap.size 0 1 (.bool nb) rfl (cell_new _ _ _) rfl (by omega) (by omega) (by simp; omega) ?_)
            intro q7 c7 W8 ho hgr hat
            obtain ⟨hT8, hz8, _⟩ := HT.out.grown ho hgr (by simpa [Value.ownBlock] using hat)
            have hb8 : Below w3.heap.size wo W8 := below_own hgr hBw (owns_blk HT.out.o).1
            rw [← NX.out] at hT8
            have HT8 := Lib.hid hT8
            have HB8 := Lib.hid (HBO.out.trans hb8)
            have HX8 := Lib.hid (HX.out.cells (w' := W8) (fun b o hb _ => hb8.cell (p := ⟨b, o, none⟩) hb))
            obtain ⟨_, _, eab, _, z3⟩ := HX8.out.cellU hpl
            cases eab
            rw [HXV.out] at z3
            clear ho hgr hat hT8 hb8
            go_wp2_with (refine wpList_append1 rfl (.tmp 70) (.tmp 85) 44 rfl w3.heap.size 4 (.bool false) 1 Try.underlying44 info4 rfl _ _ _ rfl (HT8.out.o'.alloc _) W8.heap.size 0 1 (.bool sb) rfl (cell_new _ _ _) rfl (by omega) (by omega) (by simp; omega) ?_)
            intro q9 c9 W9 ho hgr hat
            obtain ⟨hT9, hz9, _⟩ := HT8.out.swap.grown ho hgr (by simpa [Value.ownBlock] using hat)
            have hb9 : Below w3.heap.size W8 W9 := below_own hgr (by omega) (owns_blk HT8.out.o').1
            rw [← SX.out] at hT9
            have HT9 := Lib.hid hT9.swap
            have HB9 := Lib.hid (HB8.out.trans hb9)
            clear ho hgr hat hT9 hb9
            go_wp2_with fail
            go_roundw
            case rel => exact ⟨k + 1, _, _, _, _, by omega, by go_num, rfl, rfl, HT9, HB9.out⟩
            case measure => simp [intOf]; omega
        · obtain rfl : k = n + 1 := by omega
          have d1 : decide (n + 1 ≤ n) = false := by simp
          have HSN := Lib.hid (owns_sl HT.out.o)
          have HSS := Lib.hid (owns_sl HT.out.o')
          have CLN : Hid (closedErr bs g d (nvTo g bs (n + 1)).length = 0 ∧ closedRes bs g d (nvTo g bs (n + 1)) = true) := Lib.hid (by
            have := closed_facts (nv := nvTo g bs (n + 1)) HR.out (by simp; omega)
            exact ⟨this.1, this.2.trans (nvTo_closed BO.out.1 _)⟩)
          obtain ⟨pt, hpt⟩ : ∃ x, closedB g bs (smTo xb (n + 1)) = x := ⟨_, rfl⟩
          have CLS : Hid (closedErr bs g d (smTo xb (n + 1)).length = 0 ∧ closedRes bs g d (smTo xb (n + 1)) = pt) := Lib.hid (by
            have := closed_facts (nv := smTo xb (n + 1)) HR.out (by simp; omega)
            exact ⟨this.1, this.2.trans hpt⟩)
          have CP : Hid (pt = true → ∀ q, q < n + 1 → smAt xb q = true → fewAt g bs q = -1) := Lib.hid (fun h q hq hsq => closed_never BO.out.1 (hpt.trans h) q (by rw [smTo_getD hq]; exact hsq))
          have CM : Hid (∀ q, q < n + 1 → 0 ≤ fewAt g bs q → closedErr bs g d ((nvTo g bs (n + 1)).set q true).length = 0 ∧ closedRes bs g d ((nvTo g bs (n + 1)).set q true) = false) := Lib.hid (fun q hq h => by
            have := closed_facts (nv := (nvTo g bs (n + 1)).set q true) HR.out (by simp; omega)
            exact ⟨this.1, this.2.trans (nvTo_more BO.out.1 hq h)⟩)
          have HB6 := Lib.hid (bThen HB3.out HBO.out)
          clear hpt HX
          go_wp2_with fail
          refine (rules_any bs g d _ _ HS.out HLE.out).mono ?_
          rintro e w7 ⟨v7, rfl, hb7, hv7⟩
          have HV7 := Lib.hid hv7
          clear hv7
          replace x0 := bAt hb7 x0
          replace x1 := bAt hb7 x1
          replace x2 := bAt hb7 x2
          replace HS := Lib.hid (HS.out.below hb7)
          replace HF := Lib.hid (HF.out.below hb7)
          replace HSN := Lib.hid (HSN.out.below hb7)
          replace HSS := Lib.hid (HSS.out.below hb7)
          have HB7 := Lib.hid (bThen HB6.out hb7)
          clear hb7
          obtain ⟨vb7, wb7, hrb, ⟨bb7, cb7, rfl⟩, hslb, hbb⟩ := copyB_run (HSN.out.below (aB w7 (.cells #[] 4))) (by simp; omega) w7.heap.size
          rw [nvTo_length] at hrb hslb
          have HRB7 := Lib.hid hrb
          have HC7 := Lib.hid hslb
          have hb7b := bThen (aB w7 (.cells #[] 4)) hbb
          clear hrb hslb hbb
          go_wp2_with (refine wpList_opOK rfl (opOK_append_run (v1 := .slice (some ⟨w7.heap.size, 0, none⟩) 0 0) (v2 := .slice (some ⟨g1, 0, none⟩) (n + 1) c1) (R := fun v'' W'' => v'' = .slice (some ⟨bb7, 0, none⟩) (n + 1) cb7 ∧ wb7 = W'') (.tmp 90) (.tmp 91) 44 rfl rfl rfl HRB7.out ⟨rfl, rfl⟩) ?_; rintro _ _ ⟨rfl, rfl⟩)
          replace x0 := bAt hb7b x0
          replace x1 := bAt hb7b x1
          replace x2 := bAt hb7b x2
          replace HS := Lib.hid (HS.out.below hb7b)
          replace HF := Lib.hid (HF.out.below hb7b)
          replace HSN := Lib.hid (HSN.out.below hb7b)
          replace HSS := Lib.hid (HSS.out.below hb7b)
          replace HV7 := Lib.hid (HV7.out.below hb7b)
          have HB8 := Lib.hid (bThen HB7.out hb7b)
          clear hb7b
          refine (closed_r bs g d (nvTo g bs (n + 1)) true CLN _ _ _ HV7.out HC7.out HI.out).mono ?_
          rintro e w9 ⟨rfl, hb9⟩
          replace x0 := bAt hb9 x0
          replace x1 := bAt hb9 x1
          replace x2 := bAt hb9 x2
          replace HS := Lib.hid (HS.out.below hb9)
          replace HF := Lib.hid (HF.out.below hb9)
          replace HSN := Lib.hid (HSN.out.below hb9)
          replace HSS := Lib.hid (HSS.out.below hb9)
          have HB9 := Lib.hid (bThen HB8.out hb9)
          clear hb9 HV7 HC7
          go_wp2_with fail
          refine (rules_any bs g d _ _ HS.out HLE.out).mono ?_
          rintro e w10 ⟨v10, rfl, hb10, hv10⟩
          have HV10 := Lib.hid hv10
          clear hv10
          replace x0 := bAt hb10 x0
          replace x1 := bAt hb10 x1
          replace x2 := bAt hb10 x2
          replace HS := Lib.hid (HS.out.below hb10)
          replace HF := Lib.hid (HF.out.below hb10)
          replace HSN := Lib.hid (HSN.out.below hb10)
          replace HSS := Lib.hid (HSS.out.below hb10)
          have HB10 := Lib.hid (bThen HB9.out hb10)
          clear hb10
          obtain ⟨vb10, wb10, hrb, ⟨bb10, cb10, rfl⟩, hslb, hbb⟩ := copyB_run (HSS.out.below (aB w10 (.cells #[] 4))) (by simp; omega) w10.heap.size
          rw [smTo_length] at hrb hslb
          have HRB10 := Lib.hid hrb
          have HC10 := Lib.hid hslb
          have hb10b := bThen (aB w10 (.cells #[] 4)) hbb
          clear hrb hslb hbb
          go_wp2_with (refine wpList_opOK rfl (opOK_append_run (v1 := .slice (some ⟨w10.heap.size, 0, none⟩) 0 0) (v2 := .slice (some ⟨g2, 0, none⟩) (n + 1) c2) (R := fun v'' W'' => v'' = .slice (some ⟨bb10, 0, none⟩) (n + 1) cb10 ∧ wb10 = W'') (.tmp 99) (.tmp 100) 44 rfl rfl rfl HRB10.out ⟨rfl, rfl⟩) ?_; rintro _ _ ⟨rfl, rfl⟩)
          replace x0 := bAt hb10b x0
          replace x1 := bAt hb10b x1
          replace x2 := bAt hb10b x2
          replace HS := Lib.hid (HS.out.below hb10b)
          replace HF := Lib.hid (HF.out.below hb10b)
          replace HSN := Lib.hid (HSN.out.below hb10b)
          replace HSS := Lib.hid (HSS.out.below hb10b)
          replace HV10 := Lib.hid (HV10.out.below hb10b)
          have HB11 := Lib.hid (bThen HB10.out hb10b)
          clear hb10b
          refine (closed_r bs g d (smTo xb (n + 1)) pt CLS _ _ _ HV10.out HC10.out HI.out).mono ?_
          rintro e w12 ⟨rfl, hb12⟩
          replace x0 := bAt hb12 x0
          replace x1 := bAt hb12 x1
          replace x2 := bAt hb12 x2
          replace HS := Lib.hid (HS.out.below hb12)
          replace HF := Lib.hid (HF.out.below hb12)
          replace HSN := Lib.hid (HSN.out.below hb12)
          replace HSS := Lib.hid (HSS.out.below hb12)
          have HB12 := Lib.hid (bThen HB11.out hb12)
          clear hb12 HV10 HC10 HT
          go_wp2_with fail
          go_loopw [17] (fun i wr => ∃ k : Nat, k ≤ n + 1 ∧ i = .int .i64 k ∧ Below w12.heap.size w12 wr) (fun i _ => n + 1 - (intOf i).toNat)
          case atStart => exact ⟨0, by omega, rfl, Below.refl _ _⟩
          case round =>
            obtain ⟨k, hk, rfl, hb⟩ := hrel
            obtain ⟨wo, rfl⟩ : ∃ wo : World, wo = wr := ⟨_, rfl⟩
            replace x0 := bAt hb x0
            replace x1 := bAt hb x1
            replace x2 := bAt hb x2
            replace HS := Lib.hid (HS.out.below hb)
            replace HF := Lib.hid (HF.out.below hb)
            replace HSN := Lib.hid (HSN.out.below hb)
            replace HSS := Lib.hid (HSS.out.below hb)
            have HBL := Lib.hid hb
            clear hb d1
            by_cases hlt : k < n + 1
            · have d1 : decide (k ≤ n) = true := by simp; omega
              have hik : (k : Int) < (n : Int) + 1 := by omega
              obtain ⟨fk, hfk⟩ : ∃ x, fewAt g bs k = x := ⟨_, rfl⟩
              obtain ⟨bf2, of2, eaf, _, z1⟩ := HF.out.cell (show k < fw.length by have := FLN.out; omega)
              cases eaf
              rw [FWA.out k (by have := FLN.out; omega), hfk] at z1
              obtain ⟨_, _, ea1, _, z2⟩ := HSN.out.cellB (show k < (nvTo g bs (n + 1)).length by simpa using hlt)
              cases ea1
              rw [nvTo_at, hfk, Nat.zero_add] at z2
              obtain ⟨_, _, ea2, _, z3⟩ := HSS.out.cellB (show k < (smTo xb (n + 1)).length by simpa using hlt)
              cases ea2
              rw [smTo_at, Nat.zero_add] at z3
              obtain ⟨nb, hnb⟩ : ∃ x, decide (fk = -1) = x := ⟨_, rfl⟩
              rw [hnb] at z2
              obtain ⟨sk, hsk⟩ : ∃ x, smAt xb k = x := ⟨_, rfl⟩
              rw [hsk] at z3
              have CPK : Hid (pt = true → sk = true → fk = -1) := Lib.hid (fun h h' => hfk ▸ CP.out h k hlt (hsk.trans h'))
              have CMK : Hid (0 ≤ fk → closedErr bs g d ((nvTo g bs (n + 1)).set k true).length = 0 ∧ closedRes bs g d ((nvTo g bs (n + 1)).set k true) = false) := Lib.hid (fun h => CM.out k hlt (hfk.symm ▸ h))
              have HNB := Lib.hid hnb
              have HFK := Lib.hid hfk
              clear hfk hsk hnb
              have e1 : ((k : Int) == (n : Int)) = (k == n) := by rw [Bool.eq_iff_iff]; simp only [beq_iff_eq]; omega
              cases pt
              · by_cases hf0 : 0 ≤ fk
                · have e2 : decide (0 ≤ fk) = true := by simp [hf0]
                  by_cases h20 : k < 20
                  · have e3 : decide (k < 20) = true := by simp [h20]
                    have e4 : decide ((k : Int) < 20) = true := by simp; omega
                    as_aux_lemma =>
                    obtain ⟨g9, c9, w20, hrun, hown, hb20⟩ := copyB_own (HSN.out.below (aB wo (.cells #[] 4))) (by simp; omega) (by simp) wo.heap.size
                    rw [nvTo_length] at hrun hown
                    have HRUN := Lib.hid hrun
                    have hg9 := (owns_blk hown).1
                    rw [World.size_alloc] at hg9
                    have cB : w20.cell? ⟨g9, k, none⟩ = some (.bool nb) := by
                      rw [hown.cellAt k (by omega), bools_at (show k < (nvTo g bs (n + 1)).length by simpa using hlt), nvTo_at, HFK.out, HNB.out]
                    have fB : w20.frozen? ⟨g9, k, none⟩ = false := hown.frozenAt k
                    obtain ⟨w21, hw21⟩ : ∃ w21, w20.setCell ⟨g9, k, none⟩ (.bool true) = w21 := ⟨_, rfl⟩
                    have hb20' : Below wo.heap.size wo w20 := bThen (aB wo (.cells #[] 4)) hb20
                    have hb21 : Below wo.heap.size wo w21 := by rw [← hw21]; exact hb20'.setCell (p := ⟨g9, k, none⟩) (by simp; omega) _
                    have hst := owns_sl (hown.stored k (.bool true)).1
                    rw [hw21] at hst
                    have HST : Hid (Sl (fun q => q = g9) w21 (.slice (some ⟨g9, 0, none⟩) (n + 1) c9) (bools ((nvTo g bs (n + 1)).set k true))) := Lib.hid (by
                      have e : bools ((nvTo g bs (n + 1)).set k true) = (bools (nvTo g bs (n + 1))).set k (.bool true) := by simp [bools, List.map_set]
                      rw [e]; exact hst)
                    replace x0 := bAt hb21 x0
                    replace x1 := bAt hb21 x1
                    replace x2 := bAt hb21 x2
                    rw [← hw21] at x0 x1 x2
                    replace HS := Lib.hid (HS.out.below hb21)
                    have HW21 := Lib.hid hw21
                    have HB21 := Lib.hid (bThen HBL.out hb21)
                    have CMF := Lib.hid (CMK.out (by omega))
                    clear hrun hown hb20 hb20' hb21 hst hw21
                    go_wp2_with (refine wpList_opOK rfl (opOK_append_run (v1 := .slice (some ⟨wo.heap.size, 0, none⟩) 0 0) (v2 := .slice (some ⟨g1, 0, none⟩) (n + 1) c1) (R := fun v'' W'' => v'' = .slice (some ⟨g9, 0, none⟩) (n + 1) c9 ∧ w20 = W'') (.tmp 148) (.tmp 149) 44 rfl rfl rfl HRUN.out ⟨rfl, rfl⟩) ?_; rintro _ _ ⟨rfl, rfl⟩)
                    rw [HW21.out]
                    rw [HW21.out] at x0 x1 x2
                    refine (rules_any bs g d _ _ HS.out HLE.out).mono ?_
                    rintro e w22 ⟨v22, rfl, hb22, hv22⟩
                    have HV22 := Lib.hid hv22
                    replace HST := Lib.hid (HST.out.below hb22)
                    have HB22 := Lib.hid (bThen HB21.out hb22)
                    clear hv22 hb22 x0 x1 x2 cB fB
                    go_wp2_with fail
                    refine (closed_r bs g d _ false CMF _ _ _ HV22.out HST.out HI.out).mono ?_
                    rintro e w23 ⟨rfl, hb23⟩
                    have HB23 := Lib.hid (bThen HB22.out hb23)
                    clear hb23
                    go_wp2_with fail
                    go_roundw
                    case rel => exact ⟨k + 1, by omega, by go_num, HB23.out⟩
                    case measure => simp [intOf]; omega
                  · have e3 : decide (k < 20) = false := by simp; omega
                    have e4 : decide ((k : Int) < 20) = false := by simp; omega
                    by_cases hkn : k = n
                    · have e5 : (k == n) = true := by simp [hkn]
                      clear hkn
                      as_aux_lemma =>
                      obtain ⟨g9, c9, w20, hrun, hown, hb20⟩ := copyB_own (HSN.out.below (aB wo (.cells #[] 4))) (by simp; omega) (by simp) wo.heap.size
                      rw [nvTo_length] at hrun hown
                      have HRUN := Lib.hid hrun
                      have hg9 := (owns_blk hown).1
                      rw [World.size_alloc] at hg9
                      have cB : w20.cell? ⟨g9, k, none⟩ = some (.bool nb) := by
                        rw [hown.cellAt k (by omega), bools_at (show k < (nvTo g bs (n + 1)).length by simpa using hlt), nvTo_at, HFK.out, HNB.out]
                      have fB : w20.frozen? ⟨g9, k, none⟩ = false := hown.frozenAt k
                      obtain ⟨w21, hw21⟩ : ∃ w21, w20.setCell ⟨g9, k, none⟩ (.bool true) = w21 := ⟨_, rfl⟩
                      have hb20' : Below wo.heap.size wo w20 := bThen (aB wo (.cells #[] 4)) hb20
                      have hb21 : Below wo.heap.size wo w21 := by rw [← hw21]; exact hb20'.setCell (p := ⟨g9, k, none⟩) (by simp; omega) _
                      have hst := owns_sl (hown.stored k (.bool true)).1
                      rw [hw21] at hst
                      have HST : Hid (Sl (fun q => q = g9) w21 (.slice (some ⟨g9, 0, none⟩) (n + 1) c9) (bools ((nvTo g bs (n + 1)).set k true))) := Lib.hid (by
                        have e : bools ((nvTo g bs (n + 1)).set k true) = (bools (nvTo g bs (n + 1))).set k (.bool true) := by simp [bools, List.map_set]
                        rw [e]; exact hst)
                      replace x0 := bAt hb21 x0
                      replace x1 := bAt hb21 x1
                      replace x2 := bAt hb21 x2
                      rw [← hw21] at x0 x1 x2
                      replace HS := Lib.hid (HS.out.below hb21)
                      have HW21 := Lib.hid hw21
                      have HB21 := Lib.hid (bThen HBL.out hb21)
                      have CMF := Lib.hid (CMK.out (by omega))
                      clear hrun hown hb20 hb20' hb21 hst hw21
                      go_wp2_with (refine wpList_opOK rfl (opOK_append_run (v1 := .slice (some ⟨wo.heap.size, 0, none⟩) 0 0) (v2 := .slice (some ⟨g1, 0, none⟩) (n + 1) c1) (R := fun v'' W'' => v'' = .slice (some ⟨g9, 0, none⟩) (n + 1) c9 ∧ w20 = W'') (.tmp 148) (.tmp 149) 44 rfl rfl rfl HRUN.out ⟨rfl, rfl⟩) ?_; rintro _ _ ⟨rfl, rfl⟩)
                      rw [HW21.out]
                      rw [HW21.out] at x0 x1 x2
                      refine (rules_any bs g d _ _ HS.out HLE.out).mono ?_
                      rintro e w22 ⟨v22, rfl, hb22, hv22⟩
                      have HV22 := Lib.hid hv22
                      replace HST := Lib.hid (HST.out.below hb22)
                      have HB22 := Lib.hid (bThen HB21.out hb22)
                      clear hv22 hb22 x0 x1 x2 cB fB
                      go_wp2_with fail
                      refine (closed_r bs g d _ false CMF _ _ _ HV22.out HST.out HI.out).mono ?_
                      rintro e w23 ⟨rfl, hb23⟩
                      have HB23 := Lib.hid (bThen HB22.out hb23)
                      clear hb23
                      go_wp2_with fail
                      go_roundw
                      case rel => exact ⟨k + 1, by omega, by go_num, HB23.out⟩
                      case measure => simp [intOf]; omega
                    · have e5 : (k == n) = false := by simp [hkn]
                      clear hkn
                      go_wp2_with fail
                      go_roundw
                      case rel => exact ⟨k + 1, by omega, by go_num, HBL.out⟩
                      case measure => simp [intOf]; omega
                · have e2 : decide (0 ≤ fk) = false := by simp [hf0]
                  go_wp2_with fail
                  go_roundw
                  case rel => exact ⟨k + 1, by omega, by go_num, HBL.out⟩
                  case measure => simp [intOf]; omega
              · cases sk
                · by_cases hf0 : 0 ≤ fk
                  · have e2 : decide (0 ≤ fk) = true := by simp [hf0]
                    by_cases h20 : k < 20
                    · have e3 : decide (k < 20) = true := by simp [h20]
                      have e4 : decide ((k : Int) < 20) = true := by simp; omega
                      as_aux_lemma =>
                      obtain ⟨g9, c9, w20, hrun, hown, hb20⟩ := copyB_own (HSN.out.below (aB wo (.cells #[] 4))) (by simp; omega) (by simp) wo.heap.size
                      rw [nvTo_length] at hrun hown
                      have HRUN := Lib.hid hrun
                      have hg9 := (owns_blk hown).1
                      rw [World.size_alloc] at hg9
                      have cB : w20.cell? ⟨g9, k, none⟩ = some (.bool nb) := by
                        rw [hown.cellAt k (by omega), bools_at (show k < (nvTo g bs (n + 1)).length by simpa using hlt), nvTo_at, HFK.out, HNB.out]
                      have fB : w20.frozen? ⟨g9, k, none⟩ = false := hown.frozenAt k
                      obtain ⟨w21, hw21⟩ : ∃ w21, w20.setCell ⟨g9, k, none⟩ (.bool true) = w21 := ⟨_, rfl⟩
                      have hb20' : Below wo.heap.size wo w20 := bThen (aB wo (.cells #[] 4)) hb20
                      have hb21 : Below wo.heap.size wo w21 := by rw [← hw21]; exact hb20'.setCell (p := ⟨g9, k, none⟩) (by simp; omega) _
                      have hst := owns_sl (hown.stored k (.bool true)).1
                      rw [hw21] at hst
                      have HST : Hid (Sl (fun q => q = g9) w21 (.slice (some ⟨g9, 0, none⟩) (n + 1) c9) (bools ((nvTo g bs (n + 1)).set k true))) := Lib.hid (by
                        have e : bools ((nvTo g bs (n + 1)).set k true) = (bools (nvTo g bs (n + 1))).set k (.bool true) := by simp [bools, List.map_set]
                        rw [e]; exact hst)
                      replace x0 := bAt hb21 x0
                      replace x1 := bAt hb21 x1
                      replace x2 := bAt hb21 x2
                      rw [← hw21] at x0 x1 x2
                      replace HS := Lib.hid (HS.out.below hb21)
                      have HW21 := Lib.hid hw21
                      have HB21 := Lib.hid (bThen HBL.out hb21)
                      have CMF := Lib.hid (CMK.out (by omega))
                      clear hrun hown hb20 hb20' hb21 hst hw21
                      go_wp2_with (refine wpList_opOK rfl (opOK_append_run (v1 := .slice (some ⟨wo.heap.size, 0, none⟩) 0 0) (v2 := .slice (some ⟨g1, 0, none⟩) (n + 1) c1) (R := fun v'' W'' => v'' = .slice (some ⟨g9, 0, none⟩) (n + 1) c9 ∧ w20 = W'') (.tmp 148) (.tmp 149) 44 rfl rfl rfl HRUN.out ⟨rfl, rfl⟩) ?_; rintro _ _ ⟨rfl, rfl⟩)
                      rw [HW21.out]
                      rw [HW21.out] at x0 x1 x2
                      refine (rules_any bs g d _ _ HS.out HLE.out).mono ?_
                      rintro e w22 ⟨v22, rfl, hb22, hv22⟩
                      have HV22 := Lib.hid hv22
                      replace HST := Lib.hid (HST.out.below hb22)
                      have HB22 := Lib.hid (bThen HB21.out hb22)
                      clear hv22 hb22 x0 x1 x2 cB fB
                      go_wp2_with fail
                      refine (closed_r bs g d _ false CMF _ _ _ HV22.out HST.out HI.out).mono ?_
                      rintro e w23 ⟨rfl, hb23⟩
                      have HB23 := Lib.hid (bThen HB22.out hb23)
                      clear hb23
                      go_wp2_with fail
                      go_roundw
                      case rel => exact ⟨k + 1, by omega, by go_num, HB23.out⟩
                      case measure => simp [intOf]; omega
                    · have e3 : decide (k < 20) = false := by simp; omega
                      have e4 : decide ((k : Int) < 20) = false := by simp; omega
                      by_cases hkn : k = n
                      · have e5 : (k == n) = true := by simp [hkn]
                        clear hkn
                        as_aux_lemma =>
                        obtain ⟨g9, c9, w20, hrun, hown, hb20⟩ := copyB_own (HSN.out.below (aB wo (.cells #[] 4))) (by simp; omega) (by simp) wo.heap.size
                        rw [nvTo_length] at hrun hown
                        have HRUN := Lib.hid hrun
                        have hg9 := (owns_blk hown).1
                        rw [World.size_alloc] at hg9
                        have cB : w20.cell? ⟨g9, k, none⟩ = some (.bool nb) := by
                          rw [hown.cellAt k (by omega), bools_at (show k < (nvTo g bs (n + 1)).length by simpa using hlt), nvTo_at, HFK.out, HNB.out]
                        have fB : w20.frozen? ⟨g9, k, none⟩ = false := hown.frozenAt k
                        obtain ⟨w21, hw21⟩ : ∃ w21, w20.setCell ⟨g9, k, none⟩ (.bool true) = w21 := ⟨_, rfl⟩
                        have hb20' : Below wo.heap.size wo w20 := bThen (aB wo (.cells #[] 4)) hb20
                        have hb21 : Below wo.heap.size wo w21 := by rw [← hw21]; exact hb20'.setCell (p := ⟨g9, k, none⟩) (by simp; omega) _
                        have hst := owns_sl (hown.stored k (.bool true)).1
                        rw [hw21] at hst
                        have HST : Hid (Sl (fun q => q = g9) w21 (.slice (some ⟨g9, 0, none⟩) (n + 1) c9) (bools ((nvTo g bs (n + 1)).set k true))) := Lib.hid (by
                          have e : bools ((nvTo g bs (n + 1)).set k true) = (bools (nvTo g bs (n + 1))).set k (.bool true) := by simp [bools, List.map_set]
                          rw [e]; exact hst)
                        replace x0 := bAt hb21 x0
                        replace x1 := bAt hb21 x1
                        replace x2 := bAt hb21 x2
                        rw [← hw21] at x0 x1 x2
                        replace HS := Lib.hid (HS.out.below hb21)
                        have HW21 := Lib.hid hw21
                        have HB21 := Lib.hid (bThen HBL.out hb21)
                        have CMF := Lib.hid (CMK.out (by omega))
                        clear hrun hown hb20 hb20' hb21 hst hw21
                        go_wp2_with (refine wpList_opOK rfl (opOK_append_run (v1 := .slice (some ⟨wo.heap.size, 0, none⟩) 0 0) (v2 := .slice (some ⟨g1, 0, none⟩) (n + 1) c1) (R := fun v'' W'' => v'' = .slice (some ⟨g9, 0, none⟩) (n + 1) c9 ∧ w20 = W'') (.tmp 148) (.tmp 149) 44 rfl rfl rfl HRUN.out ⟨rfl, rfl⟩) ?_; rintro _ _ ⟨rfl, rfl⟩)
                        rw [HW21.out]
                        rw [HW21.out] at x0 x1 x2
                        refine (rules_any bs g d _ _ HS.out HLE.out).mono ?_
                        rintro e w22 ⟨v22, rfl, hb22, hv22⟩
                        have HV22 := Lib.hid hv22
                        replace HST := Lib.hid (HST.out.below hb22)
                        have HB22 := Lib.hid (bThen HB21.out hb22)
                        clear hv22 hb22 x0 x1 x2 cB fB
                        go_wp2_with fail
                        refine (closed_r bs g d _ false CMF _ _ _ HV22.out HST.out HI.out).mono ?_
                        rintro e w23 ⟨rfl, hb23⟩
                        have HB23 := Lib.hid (bThen HB22.out hb23)
                        clear hb23
                        go_wp2_with fail
                        go_roundw
                        case rel => exact ⟨k + 1, by omega, by go_num, HB23.out⟩
                        case measure => simp [intOf]; omega
                      · have e5 : (k == n) = false := by simp [hkn]
                        clear hkn
                        go_wp2_with fail
                        go_roundw
                        case rel => exact ⟨k + 1, by omega, by go_num, HBL.out⟩
                        case measure => simp [intOf]; omega
                  · have e2 : decide (0 ≤ fk) = false := by simp [hf0]
                    go_wp2_with fail
                    go_roundw
                    case rel => exact ⟨k + 1, by omega, by go_num, HBL.out⟩
                    case measure => simp [intOf]; omega
                · have hf1 : fk = -1 := CPK.out rfl rfl
                  obtain rfl : nb = true := by rw [← HNB.out, hf1]; rfl
                  have e2 : decide (0 ≤ fk) = false := by rw [hf1]; rfl
                  clear hf1
                  go_wp2_with fail
                  go_roundw
                  case rel => exact ⟨k + 1, by omega, by go_num, HBL.out⟩
                  case measure => simp [intOf]; omega
            · obtain rfl : k = n + 1 := by omega
              have d1 : decide (n + 1 ≤ n) = false := by simp
              go_wp2_with fail
              refine (known_any _).mono ?_
              rintro e w99 ⟨rfl, hb99⟩
              have HB99 := Lib.hid (bThen HB12.out (bThen HBL.out hb99))
              clear hb99
              go_wp2
              go_ret
              exact ⟨rfl, HB99.out⟩
    · go_wp2_with fail
      refine (known_any _).mono ?_
      rintro e w2 ⟨rfl, hb2⟩
      have HB2 := Lib.hid (bThen HB1.out hb2)
      clear hb2
      go_wp2
      go_ret
      exact ⟨rfl, HB2.out⟩
end Go.Proofs.Ytcnofoopdghjiaa
