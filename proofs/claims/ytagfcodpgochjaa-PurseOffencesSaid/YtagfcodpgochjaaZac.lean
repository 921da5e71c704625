/- The texts App, App1, Two, LibA, LibB, LibS, PF, PP, PL, PS, SE, LibM, in build order. -/
import Derived.Test.YtagfcodpgochjaaZab
import Derived.RangeFuncBox
import Derived.Maps.AppendAt
import Derived.Laws.OwnMore
import Derived.Test.YtagfcodpgochjaaProg
import Derived.WalkKit
import Derived.WalkSpells
import Derived.WalkLawsBesides
import Derived.BigQuiet
import Derived.Deep.QuietTactic
import Derived.Outline
import Derived.LoopTactic
import Derived.Lib.SliceRun
import Derived.Laws.MakeOwn

/- Appending one element to a slice of one's own. -/
namespace Go.Oche
open Go Go.RowKit
theorem opOK_append1 {P : Program} {o : Oper} {a : Act} {w : World} (s x : Operand) (t : TypeId) (ho : o.op = .call { callee := .builtin .append, args := #[s, x], argTypes := #[t, t] })
    (base : Nat) (e : TypeId) (z : Value) (bytes : Nat) (ht : P.underlying t = some (.slice e)) (hi : (P.info? e).map (fun i => (i.zero, i.size, i.bytes)) = some (some z, 1, bytes)) (hzs : z.cells.size = 1)
    (v : Value) (n : Nat) (xs : List Value) (hs : a.eval s = v) (hown : w.ownsRow base e 1 v n xs) (b off c : Nat) (u : Value) (hx : a.eval x = .slice (some ⟨b, off, none⟩) 1 c) (hc : w.cell? ⟨b, off, none⟩ = some u) (h1 : u.oneCell' = true)
    (h63 : n + 1 ≤ 100000) (hbytes : bytes ≤ 1000) (hbase : base ≤ w.heap.size) :
    opOK P o a w (fun v' w' => (∃ g cap, v' = .slice (some ⟨g, 0, none⟩) (n + 1) cap) ∧ w'.ownsRow base e 1 v' (n + 1) (xs ++ [u]) ∧ w.grownBy w' v.ownBlock) := by
  obtain ⟨i, hi, hz0, hz1, hz2⟩ := info_parts hi
  have hmul : (n + 1) * bytes ≤ 100000 * 1000 := Nat.mul_le_mul h63 hbytes
  obtain ⟨v', w', hr, h2, h3, h4⟩ := run_append_own (P := P) w base t o.type e i z 1 bytes ht hi hz0 hz1 hz2 hzs (by decide) v n xs hown ⟨b, off, none⟩ 1 c [u] rfl
    (fun j y hj => by
      match j, hj with
      | 0, hj => simp at hj; subst hj; simpa [Addr.add] using hc
      | j + 1, hj => simp at hj)
    (fun y hy => by simp at hy; subst hy; exact h1) (by unfold maxLen; omega) (by omega) hbase
  unfold opOK execOp
  simp only [ho, resolve, invoke, builtin, Sem.run_bind, Sem.run_pure, Result.andThen_ok, List.map_toArray, List.map_cons, List.map_nil, hs, hx, hr]
  exact ⟨ownsRow_succ h2, h2, h3⟩
theorem grownBy_trans {w w' w'' : World} {row : Option Nat} (h : w.grownBy w' row) (k : w'.grownBy w'' row) : w.grownBy w'' row :=
  ⟨k.os.trans h.os, k.tape.trans h.tape, k.output.trans h.output, Nat.le_trans h.size k.size, fun i hi hn => (k.block i (Nat.lt_of_lt_of_le hi h.size) hn).trans (h.block i hi hn)⟩
theorem grownBy_below {w w' : World} (row : Option Nat) (h : Below w.heap.size w w') : w.grownBy w' row := ⟨h.os, h.tape, h.output, h.size, fun k hk _ => h.block k hk⟩
theorem below_grownBy {w w' : World} {row : Option Nat} (h : w.grownBy w' row) {B : Nat} (hB : B ≤ w.heap.size) (hr : ∀ k, row = some k → B ≤ k) : Below B w w' :=
  ⟨h.os, h.tape, h.output, h.size, fun k hk => h.block k (by omega) (fun e => by have := hr k e.symm; omega)⟩
/-- A block of one type is no row of another. -/
theorem owns_ne {w : World} {base n : Nat} {e e' : TypeId} {v : Value} {xs : List Value} (h : w.ownsRow base e 1 v n xs) {k : Nat} {c : Array Value} {f : Nat × Nat} (hk : w.heap[k]? = some (.cells c e' f)) (he : e ≠ e') : some k ≠ v.ownBlock := by
  rcases h.2 with ⟨rfl, _⟩ | ⟨g, cap, cur, rfl, _, hg, _⟩
  · simp [Value.ownBlock]
  · intro hh
    simp only [Value.ownBlock, Option.some.injEq] at hh
    subst hh
    rw [hg] at hk
    simp at hk
    exact he hk.2.1
theorem IntBlk.ne {w : World} {base n m : Nat} {e t : TypeId} {v : Value} {xs : List Value} {R : Nat} {f : Nat → Int} (h : IntBlk w R t m f) (ho : w.ownsRow base e 1 v n xs) (he : e ≠ t) : some R ≠ v.ownBlock := by
  obtain ⟨A, h1, _⟩ := h; exact owns_ne ho h1 he
theorem opOK_append_run {P : Program} {o : Oper} {a : Act} {w w' : World} {R : Value → World → Prop} (s x : Operand) (t : TypeId) (ho : o.op = .call { callee := .builtin .append, args := #[s, x], argTypes := #[t, t] }) {v1 v2 v' : Value}
    (hs : a.eval s = v1) (hx : a.eval x = v2) (hr : (Builtin.append_ #[t, t] o.type #[v1, v2]).run P w = .ok v' w') (h : R v' w') : opOK P o a w R := by
  unfold opOK execOp
  simp only [ho, resolve, invoke, builtin, Sem.run_bind, Sem.run_pure, Result.andThen_ok, List.map_toArray, List.map_cons, List.map_nil, hs, hx, hr]
  exact h
theorem wpList_opOK {P : Program} {ops : Array Oper} {Q : Exit → Act → World → Prop} {o : Oper} {rest : List Oper} {a : Act} {w : World} {R : Value → World → Prop} (hg : o.guard = none) (h : opOK P o a w R)
    (hK : ∀ v w', R v w' → wpList P ops Q rest (a.put o.dst v) w') : wpList P ops Q (o :: rest) a w :=
  wpList_plain hg fun _ hk => wp_of_opOK h fun v w' hr => hk _ _ (hK v w' hr)
theorem wpListIn_opOK {F : Fence} (hF : Open F) {P : Program} {ops : Array Oper} {Q : Exit → Act → World → Prop} {o : Oper} {rest : List Oper} {a : Act} {w : World} {R : Value → World → Prop} (hg : o.guard = none) (hnd : ∀ c, o.op ≠ .defer c) (h : opOK P o a w R)
    (hK : ∀ v w', R v w' → wpListIn F 0 P ops Q rest (a.put o.dst v) w') : wpListIn F 0 P ops Q (o :: rest) a w :=
  wpListIn_plain hg fun _ hk => wpIn_of_opOK hF hnd h fun v w' hr => hk _ _ (hK v w' hr)
end Go.Oche

/- Appending one element to a slice of one's own, in a list of operations. -/
namespace Go.Oche
open Go Go.RowKit
section
variable {P : Program} {ops : Array Oper} {Q : Exit → Act → World → Prop} {o : Oper} {rest : List Oper} {a : Act} {w : World}
theorem opOK_append1_at (s x : Operand) (t : TypeId) (ho : o.op = .call { callee := .builtin .append, args := #[s, x], argTypes := #[t, t] })
    (base : Nat) (e : TypeId) (z : Value) (bytes : Nat) (ht : P.underlying t = some (.slice e)) (hi : (P.info? e).map (fun i => (i.zero, i.size, i.bytes)) = some (some z, 1, bytes)) (hzs : z.cells.size = 1)
    (v : Value) (n : Nat) (xs : List Value) (hs : a.eval s = v) (hown : w.ownsRow base e 1 v n xs) (b off c : Nat) (u : Value) (hx : a.eval x = .slice (some ⟨b, off, none⟩) 1 c) (hc : w.cell? ⟨b, off, none⟩ = some u) (h1 : u.oneCell' = true)
    (h63 : n + 1 ≤ 100000) (hbytes : bytes ≤ 1000) (hbase : base ≤ w.heap.size) :
    opOK P o a w (fun v' w' => ∃ g cap, v' = .slice (some ⟨g, 0, none⟩) (n + 1) cap ∧ w'.ownsRow base e 1 v' (n + 1) (xs ++ [u]) ∧ w.grownBy w' v.ownBlock ∧ (v.ownBlock = some g ∨ g = w.heap.size)) := by
  obtain ⟨i, hi, hz0, hz1, hz2⟩ := info_parts hi
  have hmul : (n + 1) * bytes ≤ 100000 * 1000 := Nat.mul_le_mul h63 hbytes
  obtain ⟨v', w', hr, h2, h3, h4, h5⟩ := run_append_own_at (P := P) w base t o.type e i z 1 bytes ht hi hz0 hz1 hz2 hzs (by decide) v n xs hown ⟨b, off, none⟩ 1 c [u] rfl
    (fun j y hj => by
      match j, hj with
      | 0, hj => simp at hj; subst hj; simpa [Addr.add] using hc
      | j + 1, hj => simp at hj)
    (fun y hy => by simp at hy; subst hy; exact h1) (by unfold maxLen; omega) (by omega) hbase
  unfold opOK execOp
  simp only [ho, resolve, invoke, builtin, Sem.run_bind, Sem.run_pure, Result.andThen_ok, List.map_toArray, List.map_cons, List.map_nil, hs, hx, hr]
  obtain ⟨g, cap, rfl⟩ := ownsRow_succ h2
  refine ⟨g, cap, rfl, h2, h3, ?_⟩
  simp only [Value.ownBlock] at h5
  rcases h5 with h5 | h5
  · exact .inl h5.symm
  · exact .inr (Option.some.inj h5)
theorem wpList_append1 (hg : o.guard = none) (s x : Operand) (t : TypeId) (ho : o.op = .call { callee := .builtin .append, args := #[s, x], argTypes := #[t, t] })
    (base : Nat) (e : TypeId) (z : Value) (bytes : Nat) (ht : P.underlying t = some (.slice e)) (hi : (P.info? e).map (fun i => (i.zero, i.size, i.bytes)) = some (some z, 1, bytes)) (hzs : z.cells.size = 1)
    (v : Value) (n : Nat) (xs : List Value) (hs : a.eval s = v) (hown : w.ownsRow base e 1 v n xs) (b off c : Nat) (u : Value) (hx : a.eval x = .slice (some ⟨b, off, none⟩) 1 c) (hc : w.cell? ⟨b, off, none⟩ = some u) (h1 : u.oneCell' = true)
    (h63 : n + 1 ≤ 100000) (hbytes : bytes ≤ 1000) (hbase : base ≤ w.heap.size)
    (hK : ∀ g cap w', w'.ownsRow base e 1 (.slice (some ⟨g, 0, none⟩) (n + 1) cap) (n + 1) (xs ++ [u]) → w.grownBy w' v.ownBlock → (v.ownBlock = some g ∨ g = w.heap.size) → wpList P ops Q rest (a.put o.dst (.slice (some ⟨g, 0, none⟩) (n + 1) cap)) w') :
    wpList P ops Q (o :: rest) a w :=
  wpList_opOK hg (opOK_append1_at s x t ho base e z bytes ht hi hzs v n xs hs hown b off c u hx hc h1 h63 hbytes hbase) fun _ _ ⟨g, cap, e, h1, h2, h3⟩ => by subst e; exact hK g cap _ h1 h2 h3
theorem wpListIn_append1 {F : Fence} (hF : Open F) (hg : o.guard = none) (s x : Operand) (t : TypeId) (ho : o.op = .call { callee := .builtin .append, args := #[s, x], argTypes := #[t, t] })
    (base : Nat) (e : TypeId) (z : Value) (bytes : Nat) (ht : P.underlying t = some (.slice e)) (hi : (P.info? e).map (fun i => (i.zero, i.size, i.bytes)) = some (some z, 1, bytes)) (hzs : z.cells.size = 1)
    (v : Value) (n : Nat) (xs : List Value) (hs : a.eval s = v) (hown : w.ownsRow base e 1 v n xs) (b off c : Nat) (u : Value) (hx : a.eval x = .slice (some ⟨b, off, none⟩) 1 c) (hc : w.cell? ⟨b, off, none⟩ = some u) (h1 : u.oneCell' = true)
    (h63 : n + 1 ≤ 100000) (hbytes : bytes ≤ 1000) (hbase : base ≤ w.heap.size)
    (hK : ∀ g cap w', w'.ownsRow base e 1 (.slice (some ⟨g, 0, none⟩) (n + 1) cap) (n + 1) (xs ++ [u]) → w.grownBy w' v.ownBlock → (v.ownBlock = some g ∨ g = w.heap.size) → wpListIn F 0 P ops Q rest (a.put o.dst (.slice (some ⟨g, 0, none⟩) (n + 1) cap)) w') :
    wpListIn F 0 P ops Q (o :: rest) a w :=
  wpListIn_opOK hF hg (fun c hc => by rw [ho] at hc; cases hc) (opOK_append1_at s x t ho base e z bytes ht hi hzs v n xs hs hown b off c u hx hc h1 h63 hbytes hbase) fun _ _ ⟨g, cap, e, h1, h2, h3⟩ => by subst e; exact hK g cap _ h1 h2 h3
end
end Go.Oche

/- Two slices of one's own that grow side by side; a store into one. -/
namespace Go.Oche
open Go Go.RowKit
theorem owns_kept {W W' : World} {base n : Nat} {e : TypeId} {v : Value} {xs : List Value} (h : W.ownsRow base e 1 v n xs) (hk : ∀ g, v.ownBlock = some g → W'.heap[g]? = W.heap[g]?) : W'.ownsRow base e 1 v n xs := by
  refine ⟨h.1, ?_⟩
  rcases h.2 with h | ⟨g, cap, cur, rfl, h1, h2, h3⟩
  · exact .inl h
  · exact .inr ⟨g, cap, cur, rfl, h1, by rw [hk g (by simp [Value.ownBlock])]; exact h2, h3⟩
theorem owns_blk {W : World} {base n g c : Nat} {e : TypeId} {xs : List Value} (h : W.ownsRow base e 1 (.slice (some ⟨g, 0, none⟩) n c) n xs) : base ≤ g ∧ g < W.heap.size := by
  rcases h.2 with ⟨h', _⟩ | ⟨g', cap', cur, h', hb, hg, _⟩
  · simp at h'
  · simp only [Value.slice.injEq, Option.some.injEq, Addr.mk.injEq, and_true, true_and] at h'
    obtain ⟨rfl, rfl⟩ := h'
    exact ⟨hb, (Array.getElem?_eq_some_iff.1 hg).1⟩
/-- Two rows of one's own, in different blocks. -/
structure Two (B : Nat) (e e' : TypeId) (W : World) (g c g' c' n m : Nat) (xs ys : List Value) : Prop where
  o : W.ownsRow B e 1 (.slice (some ⟨g, 0, none⟩) n c) n xs
  o' : W.ownsRow B e' 1 (.slice (some ⟨g', 0, none⟩) m c') m ys
  ne : g ≠ g'
section
variable {B : Nat} {e e' : TypeId} {W W' : World} {g c g' c' n m h d : Nat} {xs ys zs : List Value}
theorem Two.swap (t : Two B e e' W g c g' c' n m xs ys) : Two B e' e W g' c' g c m n ys xs := ⟨t.o', t.o, fun h => t.ne h.symm⟩
theorem Two.below (t : Two B e e' W g c g' c' n m xs ys) (hb : Below W.heap.size W W') : Two B e e' W' g c g' c' n m xs ys :=
  ⟨owns_kept t.o (fun q hq => by cases hq; exact hb.block g (owns_blk t.o).2), owns_kept t.o' (fun q hq => by cases hq; exact hb.block g' (owns_blk t.o').2), t.ne⟩
/-- The first one has grown, or moved, behind a new block. -/
theorem Two.grown {ob : Obj} (t : Two B e e' W g c g' c' n m xs ys) (ho : W'.ownsRow B e 1 (.slice (some ⟨h, 0, none⟩) (n + 1) d) (n + 1) zs) (hg : (W.alloc ob).grownBy W' (some g)) (hat : some g = some h ∨ h = W.heap.size + 1) :
    Two B e e' W' h d g' c' (n + 1) m zs ys ∧ W.heap.size ≤ W'.heap.size ∧ ∀ b, b ≤ W.heap.size → Below b W W' ∨ g < b := by
  have l1 := owns_blk t.o
  have l2 := owns_blk t.o'
  have hs := hg.size
  rw [World.size_alloc] at hs
  have hkeep : ∀ k, k < W.heap.size → k ≠ g → W'.heap[k]? = W.heap[k]? := fun k hk hne => by
    rw [hg.block k (by simp; omega) (fun e => hne (by cases e; rfl)), Below.heap_alloc _ _ _ hk]
  refine ⟨⟨ho, owns_kept t.o' (fun q hq => by cases hq; exact hkeep g' l2.2 fun e => t.ne e.symm), ?_⟩, by omega, fun b hb => ?_⟩
  · rcases hat with hat | hat
    · cases hat; exact t.ne
    · omega
  · by_cases hgb : g < b
    · exact .inr hgb
    · exact .inl ⟨hg.os.trans rfl, hg.tape.trans rfl, hg.output.trans rfl, by omega, fun k hk => hkeep k (by omega) (by omega)⟩
end
/-- What an append to one's own row leaves below it. -/
theorem below_own {W W' : World} {ob : Obj} {g b : Nat} (hg : (W.alloc ob).grownBy W' (some g)) (hb : b ≤ W.heap.size) (hgb : b ≤ g) : Below b W W' :=
  ((aB W ob).mono hb).trans (below_grownBy hg (by simp; omega) (fun k hk => by cases hk; exact hgb))
theorem owns_sl {W : World} {base n g c : Nat} {e : TypeId} {xs : List Value} (h : W.ownsRow base e 1 (.slice (some ⟨g, 0, none⟩) n c) n xs) : Sl (fun k => k = g) W (.slice (some ⟨g, 0, none⟩) n c) xs := by
  obtain ⟨a, cap, e1, h1, h2, h3⟩ := Sl.of_owns h
  refine ⟨a, cap, e1, h1, h2, fun i x hx => ?_⟩
  obtain ⟨b, off, e2, _, h4⟩ := h3 i x hx
  subst e2
  simp only [Value.slice.injEq, Option.some.injEq, Addr.mk.injEq, and_true] at e1
  exact ⟨b, off, rfl, e1.1.1.symm, h4⟩
theorem Sl.cellU {S : Nat → Prop} {w : World} {a : Option Addr} {n cap : Nat} {xs : List Int} (h : Sl S w (.slice a n cap) (xs.map (Value.int .u8))) {k : Nat} (hk : k < xs.length) : ∃ b off, a = some ⟨b, off, none⟩ ∧ S b ∧ w.cell? ⟨b, off + k, none⟩ = some (.int .u8 xs[k]) := by
  obtain ⟨a', cap', e, _, _, h4⟩ := h
  cases e
  exact h4 k _ (by simp [hk])
end Go.Oche

/- What every seat's texts begin with. -/
namespace Go.Proofs.Ytagfcodpgochjaa
open Go.RowKit Go.Oche Go.Proofs
theorem mix : Try.prog.follows .mixedOrders = true := by kernel_rfl
theorem ret_int {k : IntKind} {a b : Int} (h : a = b) : Ending.returned (.int k a) = .returned (.int k b) := by rw [h]
theorem ret_bool {a b : Bool} (h : a = b) : Ending.returned (.bool a) = .returned (.bool b) := by rw [h]
theorem wrap_small (x : Int) (h1 : -9223372036854775808 ≤ x) (h2 : x ≤ 9223372036854775807) : IntKind.i64.wrap x = x := IntWalk.i64_in _ ⟨h1, h2⟩
theorem bThen {w w1 w2 : World} (h : Below w.heap.size w w1) (h' : Below w1.heap.size w1 w2) : Below w.heap.size w w2 := h.trans (h'.mono h.size)
theorem bDrew (w : World) (n : Nat) : Below w.heap.size w (w.drewN n) := ⟨rfl, rfl, rfl, Nat.le_refl _, fun _ _ => rfl⟩
def isIn (n lo hi : Int) : Bool := decide (lo ≤ n) && decide (n ≤ hi)
end Go.Proofs.Ytagfcodpgochjaa

/- within(least, most, l...), as every package has it. -/
namespace Go.Proofs.Ytagfcodpgochjaa
open Go.RowKit Go.Oche Go.Proofs

def outB (lo hi n : Int) : Bool := decide (n < lo) || decide (hi < n)
def idxOut (lo hi : Int) (xs : List Int) : Int := if xs.any (outB lo hi) then (xs.findIdx (outB lo hi) : Nat) else -1

theorem within1_any (n lo hi : Int) (pl ph : Addr) (w : World) (hl : w.cell? pl = some (.int .i64 lo)) (hh : w.cell? ph = some (.int .i64 hi)) :
    Calls Try.prog 58 #[.int .i64 n, .pointer (some pl), .pointer (some ph)] w fun e w' => e = .returned (.bool (outB lo hi n)) ∧ w = w' := by
  go_enter Try.func58, Try.ntmps58
  go_wp2
  all_goals (go_ret; refine ⟨ret_bool ?_, rfl⟩; simp [outB]; try omega)

theorem idxOut_hit {lo hi : Int} {xs : List Int} {k : Nat} (hk : k < xs.length) (hp : ∀ j, j < k → ∀ h : j < xs.length, outB lo hi xs[j] = false) (h : outB lo hi xs[k] = true) : idxOut lo hi xs = k := by
  have h1 : xs.any (outB lo hi) = true := List.any_eq_true.2 ⟨xs[k], List.getElem_mem hk, h⟩
  have h2 : xs.findIdx (outB lo hi) = k := by
    refine (List.findIdx_eq hk).2 ⟨h, fun j hj => ?_⟩
    simpa using hp j hj (by omega)
  simp [idxOut, h1, h2]
theorem idxOut_miss {lo hi : Int} {xs : List Int} (hp : ∀ j, j < xs.length → ∀ h : j < xs.length, outB lo hi xs[j] = false) : idxOut lo hi xs = -1 := by
  have h1 : xs.any (outB lo hi) = false := by
    rw [List.any_eq_false]
    intro x hx
    obtain ⟨j, hj, rfl⟩ := List.mem_iff_getElem.1 hx
    simp [hp j hj hj]
  simp [idxOut, h1]

theorem indexFunc_any {S : Nat → Prop} (lo hi : Int) (xs : List Int) (v : Value) (pl ph : Addr) (w : World) (hs : Sl S w v (ints xs)) (hl : w.cell? pl = some (.int .i64 lo)) (hh : w.cell? ph = some (.int .i64 hi)) :
    Calls Try.prog 74 #[v, .func (.func 58) #[] #[.pointer (some pl), .pointer (some ph)]] w fun e w' => e = .returned (.int .i64 (idxOut lo hi xs)) ∧ w = w' := by
  obtain ⟨a, cap, rfl, h2, h3, h4⟩ := hs
  simp only [ints_length] at *
  unfold maxLen at h3
  go_enter Try.func74, Try.ntmps74
  go_wp2

  go_loop [5, 8] (fun _ i => ∃ k : Nat, k ≤ xs.length ∧ i = .int .i64 k ∧ ∀ j, j < k → ∀ h : j < xs.length, outB lo hi xs[j] = false) (fun _ i => xs.length - (intOf i).toNat)
  case atStart => exact ⟨0, Nat.zero_le _, rfl, fun j hj => by omega⟩
  case round =>
    obtain ⟨k, hk, rfl, hp⟩ := hrel
    by_cases hlt : k < xs.length
    · obtain ⟨b, off, rfl, _, hc⟩ := h4 k _ (intsAt hlt)
      clear h4
      cases ho : outB lo hi xs[k]
      all_goals
        have HO := Lib.hid ho
        have HP := Lib.hid hp
        clear ho hp
        go_wp2_with (go_at_call 58; refine (within1_any xs[k] lo hi _ _ _ hl hh).mono ?_; rintro e w' ⟨rfl, rfl⟩; rw [HO.out])
      · go_round
        case rel => exact ⟨k + 1, by omega, by go_num, fun j hj h => by
          by_cases hjk : j = k
          · subst hjk; exact HO.out
          · exact HP.out j (by omega) h⟩
        case measure => simp [intOf]; omega
      · go_ret
        exact ⟨ret_int (idxOut_hit hlt HP.out HO.out).symm, rfl⟩
    · obtain rfl : k = xs.length := by omega
      have HP := Lib.hid hp
      clear hp h4
      go_wp2
      go_ret
      exact ⟨ret_int (idxOut_miss fun j hj h => HP.out j hj h).symm, rfl⟩

theorem containsFunc_any {S : Nat → Prop} (lo hi : Int) (xs : List Int) (v : Value) (pl ph : Addr) (w : World) (hs : Sl S w v (ints xs)) (hl : w.cell? pl = some (.int .i64 lo)) (hh : w.cell? ph = some (.int .i64 hi)) :
    Calls Try.prog 57 #[v, .func (.func 58) #[] #[.pointer (some pl), .pointer (some ph)]] w fun e w' => e = .returned (.bool (xs.any (outB lo hi))) ∧ w = w' := by
  go_enter Try.func57, Try.ntmps57
  go_wp2_with (go_at_call 74; refine (indexFunc_any lo hi xs _ _ _ _ hs hl hh).mono ?_; rintro e w' ⟨rfl, rfl⟩)
  go_ret
  refine ⟨ret_bool ?_, rfl⟩
  unfold idxOut
  cases xs.any (outB lo hi) <;> simp <;> omega

theorem within_any {S : Nat → Prop} (lo hi : Int) (xs : List Int) (v : Value) (w : World) (hs : Sl S w v (ints xs)) :
    Calls Try.prog 28 #[.int .i64 lo, .int .i64 hi, v] w fun e w' => e = .returned (.bool (!xs.any (outB lo hi))) ∧ Below w.heap.size w w' := by
  have hb : Below w.heap.size w ((w.alloc (.cells #[.int .i64 lo] 3)).alloc (.cells #[.int .i64 hi] 3)) := ((Below.refl _ _).alloc (Nat.le_refl _) _).alloc (by simp) _
  have hs' := hs.below hb
  have H := Lib.hid hs'
  clear hs hs'
  obtain ⟨a, cap, hv⟩ : ∃ a cap, v = .slice a xs.length cap := by obtain ⟨a, cap, h, _⟩ := H.out; exact ⟨a, cap, by simpa using h⟩
  subst hv
  go_enter Try.func28, Try.ntmps28
  go_wp2_with (go_at_call 57; refine (containsFunc_any lo hi xs _ _ _ _ H.out (by simp) (by simp)).mono ?_; rintro e w' ⟨rfl, rfl⟩)
  go_ret
  exact ⟨rfl, hb⟩

theorem out_one (lo hi n : Int) : (!([n] : List Int).any (outB lo hi)) = isIn n lo hi := by
  simp [outB, isIn]; rw [Bool.eq_iff_iff]; simp
end Go.Proofs.Ytagfcodpgochjaa

/- Comparing lists of integers (SAME: the function's name). -/
namespace Go.Oche
open Go Go.RowKit
theorem Sl.cell {S : Nat → Prop} {w : World} {a : Option Addr} {n cap : Nat} {xs : List Int} (h : Sl S w (.slice a n cap) (ints xs)) {k : Nat} (hk : k < xs.length) : ∃ b off, a = some ⟨b, off, none⟩ ∧ S b ∧ w.cell? ⟨b, off + k, none⟩ = some (.int .i64 xs[k]) := by
  obtain ⟨a', cap', e, _, _, h4⟩ := h
  cases e
  exact h4 k _ (intsAt hk)
end Go.Oche
namespace Go.Proofs.Ytagfcodpgochjaa
open Go.RowKit Go.Oche Go.Proofs
theorem list_diff {xs ys : List Int} {k : Nat} (h1 : k < xs.length) (h2 : k < ys.length) (h : xs[k] ≠ ys[k]) : xs ≠ ys := fun e => by subst e; exact h rfl
theorem list_same {xs ys : List Int} (hl : xs.length = ys.length) (h : ∀ j, ∀ h1 : j < xs.length, ∀ h2 : j < ys.length, xs[j] = ys[j]) : xs = ys := List.ext_getElem hl fun j h1 h2 => h j h1 h2

set_option maxRecDepth 100000 in
set_option maxHeartbeats 1000000 in
theorem ints_any {S S' : Nat → Prop} (xs ys : List Int) (va vb : Value) (w : World) (hs : Sl S w va (ints xs)) (hs' : Sl S' w vb (ints ys)) :
    Calls Try.prog 16 #[va, vb] w fun e w' => e = .returned (.bool (decide (xs = ys))) ∧ Below w.heap.size w w' := by
  obtain ⟨a, ca, rfl, _, h3⟩ := hs.form
  obtain ⟨b, cb, rfl, _, h3'⟩ := hs'.form
  simp only [ints_length] at *
  unfold maxLen at h3 h3'
  have HS := Lib.hid hs
  have HS' := Lib.hid hs'
  clear hs hs'
  by_cases hl : xs.length = ys.length
  · have f0 : ((xs.length : Int) != (ys.length : Int)) = false := by simp [hl]
    have f1 : (xs.length != ys.length) = false := by simp [hl]
    have HL := Lib.hid hl
    have hle : xs.length ≤ ys.length := by omega
    clear hl
    go_enter Try.func16, Try.ntmps16
    go_wp2
    clear f0 f1
    go_loopw [5] (fun i wr => ∃ k : Nat, k ≤ xs.length ∧ i = .int .i64 k ∧ (∀ j, j < k → ∀ h1 : j < xs.length, ∀ h2 : j < ys.length, xs[j] = ys[j]) ∧ Below w.heap.size w wr) (fun i _ => xs.length - (intOf i).toNat)
    case atStart => exact ⟨0, Nat.zero_le _, rfl, fun j hj => by omega, Below.refl _ _⟩
    case round =>
      obtain ⟨k, hk, rfl, hp, hb⟩ := hrel
      have HP := Lib.hid hp
      clear hp
      by_cases hlt : k < xs.length
      · have hlt' : k < ys.length := by omega
        obtain ⟨b1, o1, rfl, _, c1⟩ := HS.out.cell hlt
        obtain ⟨b2, o2, rfl, _, c2⟩ := HS'.out.cell hlt'
        obtain ⟨x, hx⟩ : ∃ x, xs[k] = x := ⟨_, rfl⟩
        obtain ⟨y, hy⟩ : ∃ y, ys[k] = y := ⟨_, rfl⟩
        rw [hx] at c1
        rw [hy] at c2
        replace c1 := bAt hb c1
        replace c2 := bAt hb c2
        have HX := Lib.hid hx
        have HY := Lib.hid hy
        clear hx hy
        by_cases hxy : x = y
        · have g0 : (x != y) = false := by simp [hxy]
          have HXY := Lib.hid hxy
          clear hxy
          go_wp2_with fail
          go_quiet (fail)
          go_wp2
          go_roundw
          case rel => exact ⟨k + 1, by omega, by go_num, fun j hj h1 h2 => by
            by_cases e : j = k
            · subst e; rw [HX.out, HY.out, HXY.out]
            · exact HP.out j (by omega) h1 h2, ⟨hb.os, hb.tape, hb.output, hb.size, hb.block⟩⟩
          case measure => simp [intOf]; omega
        · have g0 : (x != y) = true := by simp [hxy]
          have HXY := Lib.hid hxy
          clear hxy
          go_wp2_with fail
          go_quiet (fail)
          go_wp2
          go_ret
          refine ⟨ret_bool ?_, ⟨hb.os, hb.tape, hb.output, hb.size, hb.block⟩⟩
          rw [decide_eq_false (list_diff hlt hlt' (by rw [HX.out, HY.out]; exact HXY.out))]
      · obtain rfl : k = xs.length := by omega
        go_wp2
        go_ret
        refine ⟨ret_bool ?_, hb⟩
        rw [decide_eq_true (list_same HL.out fun j h1 h2 => HP.out j h1 h1 h2)]
  · have f0 : ((xs.length : Int) != (ys.length : Int)) = true := by simp; omega
    have f1 : (xs.length != ys.length) = true := by simp [hl]
    have hne : xs ≠ ys := fun e => hl (by rw [e])
    have HNE := Lib.hid hne
    clear hl hne
    go_enter Try.func16, Try.ntmps16
    go_wp2
    go_ret
    exact ⟨ret_bool (by rw [decide_eq_false HNE.out]), Below.refl _ _⟩
end Go.Proofs.Ytagfcodpgochjaa

/- Chapter 12, fines, in plain Lean. Tariffs are (First, More, Most), offences (Player, Kind). -/
namespace Go.Proofs.Ytagfcodpgochjaa
open Go.RowKit Go.Oche Go.Proofs

def costP (t : Int × Int × Int) (b : Int) : Int := min t.2.2 (t.1 + b * t.2.1)
def tarBad (t : Int × Int × Int) : Bool := !(isIn t.1 0 1000000 && isIn t.2.1 0 1000000 && isIn t.2.2 t.1 1000000)
def offBad (players : Int) (n : Nat) (x : Int × Int) : Bool := !isIn x.1 0 (players - 1) || !isIn x.2 0 ((n : Int) - 1)
/-- How often an offence was there before. -/
def cntB (l : List (Int × Int)) (k : Nat) : Nat := (l.take k).count (l.getD k (0, 0))
def addAt (l : List Int) (i : Nat) (x : Int) : List Int := l.set i (l.getD i 0 + x)
def finesTo (n : Nat) (ts : List (Int × Int × Int)) (l : List (Int × Int)) : Nat → List Int
  | 0 => List.replicate n 0
  | k + 1 => addAt (finesTo n ts l k) (l.getD k (0, 0)).1.toNat (costP (ts.getD (l.getD k (0, 0)).2.toNat (0, 0, 0)) (cntB l k))
def finesErr (players : Int) (ts : List (Int × Int × Int)) (l : List (Int × Int)) : Int :=
  if isIn players 1 60 = false then 2 else if isIn ts.length 1 20 = false then 4 else if ts.any tarBad = true then 2 else if 1000 < l.length then 5 else if l.any (offBad players ts.length) = true then 7 else 0
def finesRes (players : Int) (ts : List (Int × Int × Int)) (l : List (Int × Int)) : List Int := if finesErr players ts l = 0 then finesTo players.toNat ts l l.length else []
@[simp] theorem addAt_length (l : List Int) (i : Nat) (x : Int) : (addAt l i x).length = l.length := by simp [addAt]
@[simp] theorem finesTo_length (n : Nat) (ts : List (Int × Int × Int)) (l : List (Int × Int)) : ∀ k, (finesTo n ts l k).length = n
  | 0 => by simp [finesTo]
  | k + 1 => by rw [finesTo, addAt_length, finesTo_length n ts l k]
theorem tarBad_spec {t : Int × Int × Int} (h : tarBad t = false) : 0 ≤ t.1 ∧ t.1 ≤ 1000000 ∧ 0 ≤ t.2.1 ∧ t.2.1 ≤ 1000000 ∧ t.1 ≤ t.2.2 ∧ t.2.2 ≤ 1000000 := by
  simp only [tarBad, isIn, Bool.not_eq_false', Bool.and_eq_true, decide_eq_true_eq] at h
  omega
theorem costP_bd {t : Int × Int × Int} (h : tarBad t = false) {b : Int} (hb : 0 ≤ b) : 0 ≤ costP t b ∧ costP t b ≤ 1000000 := by
  obtain ⟨h1, h2, h3, h4, h5, h6⟩ := tarBad_spec h
  have := Int.mul_nonneg hb h3
  unfold costP
  omega
theorem finesTo_bd {n : Nat} {ts : List (Int × Int × Int)} {l : List (Int × Int)} (ht : ∀ t ∈ ts, tarBad t = false) : ∀ k, ∀ x ∈ finesTo n ts l k, 0 ≤ x ∧ x ≤ 1000000 * (k : Int)
  | 0 => fun x hx => by
    have := List.eq_of_mem_replicate hx
    omega
  | k + 1 => fun x hx => by
    have ih := finesTo_bd (n := n) (l := l) ht k
    rw [finesTo, addAt] at hx
    have hc : 0 ≤ costP (ts.getD (l.getD k (0, 0)).2.toNat (0, 0, 0)) (cntB l k) ∧ costP (ts.getD (l.getD k (0, 0)).2.toNat (0, 0, 0)) (cntB l k) ≤ 1000000 := by
      refine costP_bd ?_ (by omega)
      rw [List.getD_eq_getElem?_getD]
      cases hg : ts[(l.getD k (0, 0)).2.toNat]? with
      | none => rfl
      | some t => exact ht t (List.mem_of_getElem? hg)
    rcases List.mem_or_eq_of_mem_set hx with h | h
    · have := ih x h; omega
    · have hg : 0 ≤ (finesTo n ts l k).getD (l.getD k (0, 0)).1.toNat 0 ∧ (finesTo n ts l k).getD (l.getD k (0, 0)).1.toNat 0 ≤ 1000000 * (k : Int) := by
        rw [List.getD_eq_getElem?_getD]
        cases hg : (finesTo n ts l k)[(l.getD k (0, 0)).1.toNat]? with
        | none => simp; omega
        | some y => exact ih y (List.mem_of_getElem? hg)
      omega
end Go.Proofs.Ytagfcodpgochjaa

/- Chapter 12, prizes, in plain Lean. -/
namespace Go.Proofs.Ytagfcodpgochjaa
open Go.RowKit Go.Oche Go.Proofs

/-- The prize of a place. -/
def prizeP (money : Int) (shares : List Int) (i : Nat) : Int := if i < shares.length then (money * shares.getD i 0) / 1000 else 0
/-- The prizes of so many places from one on. -/
def prizeSum (money : Int) (shares : List Int) (pl : Nat) : Nat → Int
  | 0 => 0
  | n + 1 => prizeSum money shares pl n + prizeP money shares (pl + n)
/-- The error of a group, after those who have a prize. -/
def grpErr (players : Int) : List Int → List Int → Int
  | _, [] => 0
  | tk, p :: g => if isIn p 0 (players - 1) = false then 7 else if p ∈ tk then 6 else grpErr players (tk ++ [p]) g
def placesErr (players : Int) : List Int → List (List Int) → Int
  | _, [] => 0
  | tk, g :: gs => if g = [] then 4 else if grpErr players tk g = 0 then placesErr players (tk ++ g) gs else grpErr players tk g
/-- What each of a group gets. -/
def eachP (money : Int) (shares : List Int) (pl : Nat) (g : List Int) : Int := prizeSum money shares pl g.length / g.length
/-- The prizes after some groups, and what is kept. -/
def payAll (money : Int) (shares : List Int) : Nat → List Int → Int → List (List Int) → List Int × Int
  | _, out, kept, [] => (out, kept)
  | pl, out, kept, g :: gs => payAll money shares (pl + g.length) (g.foldl (fun o p => o.set p.toNat (eachP money shares pl g)) out) (kept - eachP money shares pl g * g.length) gs
def prizesErr (money players : Int) (shares : List Int) (places : List (List Int)) : Int :=
  if isIn money 0 1000000000 = false then 3 else if isIn players 1 60 = false then 2 else if 60 < shares.length then 4 else if shares.any (outB 0 1000) = true ∨ 1000 < shares.sum then 2 else placesErr players [] places
def prizesRes (money players : Int) (shares : List Int) (places : List (List Int)) : List Int × Int :=
  if prizesErr money players shares places = 0 then payAll money shares 0 (List.replicate players.toNat 0) money places else ([], 0)
theorem prizeP_bd {money : Int} {shares : List Int} (h0 : 0 ≤ money) (hs : ∀ s ∈ shares, 0 ≤ s ∧ s ≤ 1000) (i : Nat) : 0 ≤ prizeP money shares i ∧ prizeP money shares i ≤ money := by
  unfold prizeP
  split
  · rename_i h
    have := hs _ (List.getElem_mem h)
    rw [List.getD_eq_getElem?_getD, List.getElem?_eq_getElem h, Option.getD_some]
    have h1 : 0 ≤ money * shares[i] := Int.mul_nonneg h0 this.1
    have h2 : money * shares[i] ≤ money * 1000 := Int.mul_le_mul_of_nonneg_left this.2 h0
    omega
  · omega
theorem prizeSum_bd {money : Int} {shares : List Int} (h0 : 0 ≤ money) (hs : ∀ s ∈ shares, 0 ≤ s ∧ s ≤ 1000) (pl : Nat) : ∀ n, 0 ≤ prizeSum money shares pl n ∧ prizeSum money shares pl n ≤ money * n
  | 0 => by simp [prizeSum]
  | n + 1 => by
    have h1 := prizeSum_bd h0 hs pl n
    have h2 := prizeP_bd h0 hs (pl + n)
    rw [prizeSum, Int.natCast_add, Int.mul_add]
    simp only [Int.natCast_one, Int.mul_one]
    omega
end Go.Proofs.Ytagfcodpgochjaa

/- Chapter 12: the leaves. -/
namespace Go.Proofs.Ytagfcodpgochjaa
open Go.RowKit Go.Oche Go.Proofs

theorem in_any (n l m : Int) (w : World) : Calls Try.prog 31 #[.int .i64 n, .int .i64 l, .int .i64 m] w fun e w' => e = .returned (.bool (isIn n l m)) ∧ w = w' := by
  go_enter Try.func31, Try.ntmps31
  go_wp2
  all_goals (go_ret; refine ⟨ret_bool ?_, rfl⟩; simp [isIn]; try omega)
theorem in_r (n l m : Int) (r : Bool) (hr : Hid (isIn n l m = r)) (w : World) : Calls Try.prog 31 #[.int .i64 n, .int .i64 l, .int .i64 m] w fun e w' => e = .returned (.bool r) ∧ w = w' := by rw [← hr.out]; exact in_any n l m w
theorem within_one' {S : Nat → Prop} (lo hi n : Int) (r : Bool) (hr : Hid (isIn n lo hi = r)) (v : Value) (w : World) (hs : Sl S w v (ints [n])) :
    Calls Try.prog 28 #[.int .i64 lo, .int .i64 hi, v] w fun e w' => e = .returned (.bool r) ∧ Below w.heap.size w w' := by
  rw [← hr.out]
  exact (within_any lo hi [n] v w hs).mono fun e w' ⟨h, hb⟩ => ⟨by rw [h, out_one], hb⟩
/-- A sum as Go adds. -/
def sumW (l : List Int) : Int := l.foldl (fun s n => wrap64 (s + n)) 0
theorem sumW_snoc (l : List Int) (x : Int) : sumW (l ++ [x]) = wrap64 (sumW l + x) := by simp [sumW]
theorem total_any {S : Nat → Prop} (xs : List Int) (v : Value) (w : World) (hs : Sl S w v (ints xs)) :
    Calls Try.prog 27 #[v] w fun e w' => e = .returned (.int .i64 (sumW xs)) ∧ w = w' := by
  obtain ⟨a, cap, rfl, h2, h3⟩ := hs.form
  simp only [ints_length] at *
  unfold maxLen at h3
  have HS := Lib.hid hs
  clear hs
  go_enter Try.func27, Try.ntmps27
  go_wp2
  go_loop [2, 7] (fun c i => ∃ k : Nat, k ≤ xs.length ∧ i = .int .i64 k ∧ c = .int .i64 (sumW (xs.take k))) (fun _ i => xs.length - (intOf i).toNat)
  case atStart => exact ⟨0, by omega, rfl, rfl⟩
  case round =>
    obtain ⟨k, hk, rfl, rfl⟩ := hrel
    by_cases hlt : k < xs.length
    · obtain ⟨b, off, rfl, _, hc⟩ := HS.out.cell hlt
      have SX : Hid (sumW (xs.take (k + 1)) = wrap64 (sumW (xs.take k) + xs[k])) := Lib.hid (by rw [List.take_succ_eq_append_getElem hlt, sumW_snoc])
      go_wp2
      go_round
      case rel => exact ⟨k + 1, by omega, by go_num, by rw [SX.out]⟩
      case measure => simp [intOf]; omega
    · obtain rfl : k = xs.length := by omega
      go_wp2
      go_ret
      exact ⟨by first | rfl | rw [List.take_length], rfl⟩
theorem cost_any (f m t b : Int) (w : World) (hf : 0 ≤ f ∧ f ≤ 1000000) (hm : 0 ≤ m ∧ m ≤ 1000000) (_ht : 0 ≤ t ∧ t ≤ 1000000) (hb : 0 ≤ b ∧ b ≤ 2000) :
    Calls Try.prog 37 #[.agg #[.int .i64 f, .int .i64 m, .int .i64 t], .int .i64 b] w fun e w' => e = .returned (.int .i64 (costP (f, m, t) b)) ∧ Below w.heap.size w w' := by
  obtain ⟨q, hq⟩ : ∃ q, b * m = q := ⟨_, rfl⟩
  have hq1 : 0 ≤ q := hq ▸ Int.mul_nonneg hb.1 hm.1
  have hq2 : q ≤ 2000000000 := by
    rw [← hq]
    exact Int.le_trans (Int.mul_le_mul_of_nonneg_right hb.2 hm.1) (Int.le_trans (Int.mul_le_mul_of_nonneg_left hm.2 (by decide)) (by decide))
  have HC : Hid (costP (f, m, t) b = min t (f + q)) := Lib.hid (by rw [costP, hq])
  go_enter Try.func37, Try.ntmps37
  go_wp2
  all_goals
    go_ret
    exact ⟨ret_int (by rw [HC.out]; omega), aB _ _⟩
theorem notOut (lo hi n : Int) : (!outB lo hi n) = isIn n lo hi := by
  unfold outB isIn
  rw [Bool.eq_iff_iff]; simp
theorem isValid_any (f m t : Int) (w : World) : Calls Try.prog 36 #[.agg #[.int .i64 f, .int .i64 m, .int .i64 t]] w fun e w' => e = .returned (.bool (!tarBad (f, m, t))) ∧ Below w.heap.size w w' := by
  obtain ⟨w0, hw0⟩ : ∃ w0, (w.alloc (.cells #[.int .i64 f, .int .i64 m, .int .i64 t] 92)) = w0 := ⟨_, rfl⟩
  obtain ⟨w1, hw1⟩ : ∃ w1, w0.alloc (.cells #[.int .i64 f, .int .i64 m] 3) = w1 := ⟨_, rfl⟩
  have hs1 : Sl (fun _ => True) w1 (.slice (some ⟨w0.heap.size, 0, none⟩) 2 2) (ints [f, m]) := by rw [← hw1]; exact Sl.new _ w0 trivial 3 (ints [f, m]) (by simp [maxLen])
  have hz : w0.heap.size = w.heap.size + 1 := by rw [← hw0]; simp
  have hb0 : Below w.heap.size w w0 := by rw [← hw0]; exact aB _ _
  have hb1 : Below w0.heap.size w0 w1 := by rw [← hw1]; exact aB _ _
  obtain ⟨r1, hr1⟩ : ∃ r, (![f, m].any (outB 0 1000000)) = r := ⟨_, rfl⟩
  obtain ⟨r2, hr2⟩ : ∃ r, isIn t f 1000000 = r := ⟨_, rfl⟩
  have HT : Hid (tarBad (f, m, t) = !(r1 && r2)) := Lib.hid (by
    rw [← hr1, ← hr2, tarBad]
    simp only [List.any_cons, List.any_nil, Bool.or_false, Bool.not_or, notOut])
  have HW0 := Lib.hid hw0
  have HW1 := Lib.hid hw1
  have HS1 := Lib.hid hs1
  have HR1 := Lib.hid hr1
  have HR2 := Lib.hid hr2
  clear hw0 hw1 hs1 hr1 hr2
  go_enter Try.func36, Try.ntmps36
  go_wp2_with fail
  rw [HW0.out, HW1.out, ← hz]
  refine (within_any 0 1000000 [f, m] _ _ HS1.out).mono ?_
  rintro e w2 ⟨rfl, hb2⟩
  rw [HR1.out]
  have x0 := bAt (bThen hb1 hb2) (show w0.cell? ⟨w.heap.size, 0, none⟩ = some (.int .i64 f) by rw [← HW0.out]; simp)
  have x2 := bAt (bThen hb1 hb2) (show w0.cell? ⟨w.heap.size, 2, none⟩ = some (.int .i64 t) by rw [← HW0.out]; simp)
  have HBW := Lib.hid (bThen (bThen hb0 hb1) hb2)
  clear hb2
  cases r1
  · go_wp2
    go_ret
    exact ⟨ret_bool (by rw [HT.out]; rfl), HBW.out⟩
  · go_wp2_with fail
    have hsl := Sl.new1 (fun _ => True) w2 trivial 3 (.int .i64 t)
    refine (within_one' f 1000000 t r2 HR2 _ _ hsl).mono ?_
    rintro e w3 ⟨rfl, hb3⟩
    have HB3 := Lib.hid (bThen HBW.out (bThen (aB w2 _) hb3))
    clear hb3 x0 x2 hsl
    go_wp2
    go_ret
    exact ⟨ret_bool (by rw [HT.out]; simp), HB3.out⟩
theorem prize_any {S : Nat → Prop} (money : Int) (shares : List Int) (v : Value) (p pl : Nat) (w : World) (hs : Sl S w v (ints shares)) (h0 : w.cell? ⟨p, 0, none⟩ = some (.int .i64 money)) (h1 : w.cell? ⟨p, 1, none⟩ = some v) (hm : 0 ≤ money ∧ money ≤ 1000000000) (hb : ∀ s ∈ shares, 0 ≤ s ∧ s ≤ 1000) :
    Calls Try.prog 60 #[.pointer (some ⟨p, 0, none⟩), .int .i64 pl] w fun e w' => e = .returned (.int .i64 (prizeP money shares pl)) ∧ Below w.heap.size w w' := by
  obtain ⟨a, cap, rfl, h2, h3⟩ := hs.form
  simp only [ints_length] at *
  unfold maxLen at h3
  by_cases hlt : pl < shares.length
  · obtain ⟨b, off, rfl, _, hc⟩ := hs.cell hlt
    obtain ⟨s, hsv⟩ : ∃ s, shares[pl] = s := ⟨_, rfl⟩
    have hsb := hsv ▸ hb _ (List.getElem_mem hlt)
    rw [hsv] at hc
    obtain ⟨q, hq⟩ : ∃ q, money * s = q := ⟨_, rfl⟩
    have hq1 : 0 ≤ q := hq ▸ Int.mul_nonneg hm.1 hsb.1
    have hq2 : q ≤ 1000000000000 := by
      rw [← hq]
      exact Int.le_trans (Int.mul_le_mul_of_nonneg_right hm.2 hsb.1) (Int.le_trans (Int.mul_le_mul_of_nonneg_left hsb.2 (by decide)) (by decide))
    have HP : Hid (prizeP money shares pl = q / 1000) := Lib.hid (by rw [prizeP, if_pos hlt, List.getD_eq_getElem?_getD, List.getElem?_eq_getElem hlt, Option.getD_some, hsv, hq])
    have e1 : decide (shares.length ≤ pl) = false := decide_eq_false (by omega)
    have hi : (pl : Int) < (shares.length : Int) := by omega
    clear hs hb hsv
    have hqw : IntKind.i64.wrap q = q := wrap_small _ (by omega) (by omega)
    have hqd : q.tdiv 1000 = q / 1000 := Int.tdiv_eq_ediv_of_nonneg hq1
    have hqe : IntKind.i64.wrap (q / 1000) = q / 1000 := wrap_small _ (by omega) (by omega)
    go_enter Try.func60, Try.ntmps60
    go_wp2
    go_quiet (fail)
    go_wp2
    go_ret
    exact ⟨ret_int HP.out.symm, bDrew _ _⟩
  · have HP : Hid (prizeP money shares pl = 0) := Lib.hid (by rw [prizeP, if_neg hlt])
    have e1 : decide (shares.length ≤ pl) = true := decide_eq_true (by omega)
    clear hs hb
    go_enter Try.func60, Try.ntmps60
    go_wp2
    go_ret
    exact ⟨ret_int HP.out.symm, Below.refl _ _⟩
end Go.Proofs.Ytagfcodpgochjaa

/- Chapter 12, settling, in plain Lean. -/
namespace Go.Proofs.Ytagfcodpgochjaa
open Go.RowKit Go.Oche Go.Proofs

/-- The first place of the greatest, and of the least amount, as found so far. -/
def amax (l : List Int) : Nat → Nat
  | 0 => 0
  | k + 1 => if l.getD (amax l k) 0 < l.getD k 0 then k else amax l k
def amin (l : List Int) : Nat → Nat
  | 0 => 0
  | k + 1 => if l.getD k 0 < l.getD (amin l k) 0 then k else amin l k
theorem amax_lt (l : List Int) : ∀ k, 0 < k → amax l k < k
  | 0, h => by omega
  | k + 1, _ => by
    unfold amax
    split
    · omega
    · cases k with
      | zero => simp [amax]
      | succ k => have := amax_lt l (k + 1) (by omega); omega
theorem amin_lt (l : List Int) : ∀ k, 0 < k → amin l k < k
  | 0, h => by omega
  | k + 1, _ => by
    unfold amin
    split
    · omega
    · cases k with
      | zero => simp [amin]
      | succ k => have := amin_lt l (k + 1) (by omega); omega
theorem amax_spec (l : List Int) : ∀ k, (∀ i, i < k → l.getD i 0 ≤ l.getD (amax l k) 0) ∧ (∀ i, i < amax l k → l.getD i 0 < l.getD (amax l k) 0)
  | 0 => ⟨fun i h => by omega, fun i h => by simp [amax] at h⟩
  | k + 1 => by
    obtain ⟨h1, h2⟩ := amax_spec l k
    unfold amax
    by_cases hc : l.getD (amax l k) 0 < l.getD k 0
    · rw [if_pos hc]
      refine ⟨fun i hi => ?_, fun i hi => ?_⟩
      · by_cases e : i = k
        · subst e; exact Int.le_refl _
        · have := h1 i (by omega); omega
      · have := h1 i hi; omega
    · rw [if_neg hc]
      refine ⟨fun i hi => ?_, h2⟩
      by_cases e : i = k
      · subst e; omega
      · exact h1 i (by omega)
theorem amin_spec (l : List Int) : ∀ k, (∀ i, i < k → l.getD (amin l k) 0 ≤ l.getD i 0) ∧ (∀ i, i < amin l k → l.getD (amin l k) 0 < l.getD i 0)
  | 0 => ⟨fun i h => by omega, fun i h => by simp [amin] at h⟩
  | k + 1 => by
    obtain ⟨h1, h2⟩ := amin_spec l k
    unfold amin
    by_cases hc : l.getD k 0 < l.getD (amin l k) 0
    · rw [if_pos hc]
      refine ⟨fun i hi => ?_, fun i hi => ?_⟩
      · by_cases e : i = k
        · subst e; exact Int.le_refl _
        · have := h1 i (by omega); omega
      · have := h1 i hi; omega
    · rw [if_neg hc]
      refine ⟨fun i hi => ?_, h2⟩
      by_cases e : i = k
      · subst e; omega
      · exact h1 i (by omega)
/-- The first place of the greatest is one alone. -/
theorem amax_only {l : List Int} {k j : Nat} (hj : j < k) (h1 : ∀ i, i < k → l.getD i 0 ≤ l.getD j 0) (h2 : ∀ i, i < j → l.getD i 0 < l.getD j 0) : amax l k = j := by
  obtain ⟨k1, k2⟩ := amax_spec l k
  have hlt := amax_lt l k (by omega)
  rcases Nat.lt_trichotomy (amax l k) j with h | h | h
  · have := h2 _ h; have := k1 j hj; omega
  · exact h
  · have := k2 _ h; have := h1 _ hlt; omega
theorem amin_only {l : List Int} {k j : Nat} (hj : j < k) (h1 : ∀ i, i < k → l.getD j 0 ≤ l.getD i 0) (h2 : ∀ i, i < j → l.getD j 0 < l.getD i 0) : amin l k = j := by
  obtain ⟨k1, k2⟩ := amin_spec l k
  have hlt := amin_lt l k (by omega)
  rcases Nat.lt_trichotomy (amin l k) j with h | h | h
  · have := h2 _ h; have := k1 j hj; omega
  · exact h
  · have := k2 _ h; have := h1 _ hlt; omega

/-- How many accounts have an amount. -/
def nz (l : List Int) : Nat := l.countP fun x => x != 0
/-- One payment. -/
def payAmt (l : List Int) : Int := min (l.getD (amax l l.length) 0) (-(l.getD (amin l l.length) 0))
def payL (l : List Int) : List Int :=
  let f := amin l l.length
  let t := amax l l.length
  (l.set f (l.getD f 0 + payAmt l)).set t (l.getD t 0 - payAmt l)
/-- All payments: from, to, amount. -/
def setl : Nat → List Int → List (Nat × Nat × Int)
  | 0, _ => []
  | n + 1, l => if l.getD (amax l l.length) 0 = 0 then [] else (amin l l.length, amax l l.length, payAmt l) :: setl n (payL l)
theorem sum_set (l : List Int) (i : Nat) (h : i < l.length) (x : Int) : (l.set i x).sum = l.sum - l.getD i 0 + x := by
  induction l generalizing i with
  | nil => simp at h
  | cons a l ih =>
    cases i with
    | zero => simp [List.sum_cons]; omega
    | succ i =>
      have := ih i (by simpa using h)
      simp only [List.set_cons_succ, List.sum_cons, List.getD_cons_succ]
      omega
theorem sum_le_max {l : List Int} {M : Int} (h : ∀ x ∈ l, x ≤ M) (hM : M ≤ 0) : l.sum ≤ 0 ∧ (l.sum = 0 → ∀ x ∈ l, x = 0) := by
  induction l with
  | nil => simp
  | cons a l ih =>
    have ha := h a (by simp)
    have ih := ih (fun x hx => h x (by simp [hx]))
    rw [List.sum_cons]
    refine ⟨by omega, fun hs x hx => ?_⟩
    rcases List.mem_cons.1 hx with rfl | hx
    · omega
    · exact ih.2 (by omega) x hx
theorem sum_ge_min {l : List Int} {M : Int} (h : ∀ x ∈ l, M ≤ x) (hM : 0 ≤ M) : 0 ≤ l.sum ∧ (l.sum = 0 → ∀ x ∈ l, x = 0) := by
  induction l with
  | nil => simp
  | cons a l ih =>
    have ha := h a (by simp)
    have ih := ih (fun x hx => h x (by simp [hx]))
    rw [List.sum_cons]
    refine ⟨by omega, fun hs x hx => ?_⟩
    rcases List.mem_cons.1 hx with rfl | hx
    · omega
    · exact ih.2 (by omega) x hx
theorem getD_mem {l : List Int} {x : Int} (h : x ∈ l) : ∃ i, i < l.length ∧ l.getD i 0 = x := by
  obtain ⟨i, hi, e⟩ := List.mem_iff_getElem.1 h
  exact ⟨i, hi, by rw [List.getD_eq_getElem?_getD, List.getElem?_eq_getElem hi]; exact e⟩
/-- If nobody is to get anything, all is paid; else somebody has to pay. -/
theorem settle_signs {l : List Int} (hs : l.sum = 0) (hl : 0 < l.length) : 0 ≤ l.getD (amax l l.length) 0 ∧ (l.getD (amax l l.length) 0 = 0 → ∀ x ∈ l, x = 0) ∧ (l.getD (amax l l.length) 0 ≠ 0 → l.getD (amin l l.length) 0 < 0) := by
  obtain ⟨k1, _⟩ := amax_spec l l.length
  obtain ⟨m1, _⟩ := amin_spec l l.length
  have hM : ∀ x ∈ l, x ≤ l.getD (amax l l.length) 0 := fun x hx => by obtain ⟨i, hi, e⟩ := getD_mem hx; rw [← e]; exact k1 i hi
  have hm : ∀ x ∈ l, l.getD (amin l l.length) 0 ≤ x := fun x hx => by obtain ⟨i, hi, e⟩ := getD_mem hx; rw [← e]; exact m1 i hi
  have h0 : 0 ≤ l.getD (amax l l.length) 0 := by
    rcases Int.lt_or_le (l.getD (amax l l.length) 0) 0 with h | h
    · have hz := (sum_le_max hM (by omega)).2 hs
      have hlt := amax_lt l l.length hl
      have : l.getD (amax l l.length) 0 ∈ l := by rw [List.getD_eq_getElem?_getD, List.getElem?_eq_getElem hlt]; exact List.getElem_mem hlt
      have := hz _ this; omega
    · exact h
  refine ⟨h0, fun h => (sum_le_max hM (by omega)).2 hs, fun h => ?_⟩
  rcases Int.lt_or_le (l.getD (amin l l.length) 0) 0 with h' | h'
  · exact h'
  · have hz := (sum_ge_min hm h').2 hs
    have hlt := amax_lt l l.length hl
    have : l.getD (amax l l.length) 0 ∈ l := by rw [List.getD_eq_getElem?_getD, List.getElem?_eq_getElem hlt]; exact List.getElem_mem hlt
    exact absurd (hz _ this) h
@[simp] theorem payL_length (l : List Int) : (payL l).length = l.length := by simp [payL]
theorem payL_sum {l : List Int} (hl : 0 < l.length) (hne : amin l l.length ≠ amax l l.length) : (payL l).sum = l.sum := by
  have h1 := amax_lt l l.length hl
  have h2 := amin_lt l l.length hl
  unfold payL
  simp only
  rw [sum_set _ _ (by simpa using h1), sum_set _ _ h2]
  have : (l.set (amin l l.length) (l.getD (amin l l.length) 0 + payAmt l)).getD (amax l l.length) 0 = l.getD (amax l l.length) 0 := by
    rw [List.getD_eq_getElem?_getD, List.getElem?_set_ne hne, ← List.getD_eq_getElem?_getD]
  rw [this]; omega
theorem nz_set {l : List Int} {i : Nat} (hi : i < l.length) (x : Int) : nz (l.set i x) + (if l.getD i 0 = 0 then 0 else 1) = nz l + (if x = 0 then 0 else 1) := by
  induction l generalizing i with
  | nil => simp at hi
  | cons a l ih =>
    cases i with
    | zero =>
      simp only [nz, List.set_cons_zero, List.countP_cons, List.getD_cons_zero]
      by_cases h1 : a = 0 <;> by_cases h2 : x = 0 <;> simp [h1, h2] <;> omega
    | succ i =>
      have := ih (i := i) (by simpa using hi)
      simp only [nz, List.set_cons_succ, List.countP_cons, List.getD_cons_succ] at *
      omega
/-- A payment leaves fewer accounts with an amount. -/
theorem nz_payL {l : List Int} (hs : l.sum = 0) (hl : 0 < l.length) (hn : l.getD (amax l l.length) 0 ≠ 0) : nz (payL l) < nz l ∧ amin l l.length ≠ amax l l.length ∧ 0 < payAmt l := by
  obtain ⟨h0, _, h2⟩ := settle_signs hs hl
  have h2 := h2 hn
  have hne : amin l l.length ≠ amax l l.length := fun e => by rw [e] at h2; omega
  have l1 := amax_lt l l.length hl
  have l2 := amin_lt l l.length hl
  have hp : 0 < payAmt l := by unfold payAmt; omega
  refine ⟨?_, hne, hp⟩
  have e1 := nz_set l2 (l.getD (amin l l.length) 0 + payAmt l)
  have hg : (l.set (amin l l.length) (l.getD (amin l l.length) 0 + payAmt l)).getD (amax l l.length) 0 = l.getD (amax l l.length) 0 := by
    rw [List.getD_eq_getElem?_getD, List.getElem?_set_ne hne, ← List.getD_eq_getElem?_getD]
  have e2 := nz_set (l := l.set (amin l l.length) (l.getD (amin l l.length) 0 + payAmt l)) (i := amax l l.length) (by simpa using l1) (l.getD (amax l l.length) 0 - payAmt l)
  rw [hg] at e2
  unfold payL
  simp only
  have hpa : payAmt l = l.getD (amax l l.length) 0 ∨ payAmt l = -(l.getD (amin l l.length) 0) := by unfold payAmt; omega
  rw [if_neg hn] at e2
  rw [if_neg (show l.getD (amin l l.length) 0 ≠ 0 by omega)] at e1
  rcases hpa with h | h
  · rw [if_pos (show l.getD (amax l l.length) 0 - payAmt l = 0 by omega)] at e2
    split at e1 <;> omega
  · rw [if_pos (show l.getD (amin l l.length) 0 + payAmt l = 0 by omega)] at e1
    split at e2 <;> omega
end Go.Proofs.Ytagfcodpgochjaa

/- Chapter 12: settling: the greatest, the least, a move, a copy. -/
namespace Go.Proofs.Ytagfcodpgochjaa
open Go.RowKit Go.Oche Go.Proofs

theorem amax_next (l : List Int) (k : Nat) : l.getD (amax l (k + 1)) 0 = max (l.getD (amax l k) 0) (l.getD k 0) := by
  rw [amax]
  split <;> omega
theorem amin_next (l : List Int) (k : Nat) : l.getD (amin l (k + 1)) 0 = min (l.getD (amin l k) 0) (l.getD k 0) := by
  rw [amin]
  split <;> omega
theorem getD_at {l : List Int} {k : Nat} (h : k < l.length) : l.getD k 0 = l[k] := by rw [List.getD_eq_getElem?_getD, List.getElem?_eq_getElem h]; rfl
theorem maxB_any {S : Nat → Prop} (xs : List Int) (v : Value) (w : World) (hs : Sl S w v (ints xs)) (h0 : 0 < xs.length) :
    Calls Try.prog 63 #[v] w fun e w' => e = .returned (.int .i64 (xs.getD (amax xs xs.length) 0)) ∧ w = w' := by
  obtain ⟨a, cap, rfl, h2, h3⟩ := hs.form
  simp only [ints_length] at *
  unfold maxLen at h3
  have HS := Lib.hid hs
  clear hs
  have e1 : decide ((xs.length : Int) < 1) = false := decide_eq_false (by omega)
  have e1n : decide (xs.length < 1) = false := decide_eq_false (by omega)
  obtain ⟨b, off, rfl, _, hc⟩ := HS.out.cell h0
  simp only [Nat.add_zero] at hc
  obtain ⟨x0, hx0⟩ : ∃ x, xs[0] = x := ⟨_, rfl⟩
  rw [hx0] at hc
  have HX0 : Hid (x0 = xs.getD (amax xs 1) 0) := Lib.hid (by rw [show amax xs 1 = 0 by simp [amax], getD_at h0, hx0])
  clear hx0
  have hi : (0 : Int) < (xs.length : Int) := by omega
  go_enter Try.func63, Try.ntmps63
  go_wp2
  have H0 := Lib.hid h0
  clear e1 e1n hi hc h0
  go_loop [3, 4] (fun m i => ∃ (k : Nat) (M : Int), 0 < k ∧ k ≤ xs.length ∧ i = .int .i64 k ∧ m = .int .i64 M ∧ Hid (M = xs.getD (amax xs k) 0)) (fun _ i => xs.length - (intOf i).toNat)
  case atStart => exact ⟨1, x0, by omega, H0.out, rfl, rfl, HX0⟩
  case round =>
    obtain ⟨k, M, hk0, hk, rfl, rfl, HM⟩ := hrel
    by_cases hlt : k < xs.length
    · obtain ⟨b', off', hal, _, hc⟩ := HS.out.cell hlt
      cases hal
      obtain ⟨x, hx⟩ : ∃ x, xs[k] = x := ⟨_, rfl⟩
      rw [hx] at hc
      have HX : Hid (xs.getD k 0 = x) := Lib.hid (by rw [getD_at hlt, hx])
      clear hx
      go_wp2
      go_round
      case rel => exact ⟨k + 1, _, by omega, by omega, by go_num, rfl, Lib.hid (by rw [amax_next, HX.out, ← HM.out]; first | rfl | omega)⟩
      case measure => simp [intOf]; omega
    · obtain rfl : k = xs.length := by omega
      go_wp2
      go_ret
      exact ⟨ret_int HM.out, rfl⟩
theorem minB_any {S : Nat → Prop} (xs : List Int) (v : Value) (w : World) (hs : Sl S w v (ints xs)) (h0 : 0 < xs.length) :
    Calls Try.prog 64 #[v] w fun e w' => e = .returned (.int .i64 (xs.getD (amin xs xs.length) 0)) ∧ w = w' := by
  obtain ⟨a, cap, rfl, h2, h3⟩ := hs.form
  simp only [ints_length] at *
  unfold maxLen at h3
  have HS := Lib.hid hs
  clear hs
  have e1 : decide ((xs.length : Int) < 1) = false := decide_eq_false (by omega)
  have e1n : decide (xs.length < 1) = false := decide_eq_false (by omega)
  obtain ⟨b, off, rfl, _, hc⟩ := HS.out.cell h0
  simp only [Nat.add_zero] at hc
  obtain ⟨x0, hx0⟩ : ∃ x, xs[0] = x := ⟨_, rfl⟩
  rw [hx0] at hc
  have HX0 : Hid (x0 = xs.getD (amin xs 1) 0) := Lib.hid (by rw [show amin xs 1 = 0 by simp [amin], getD_at h0, hx0])
  clear hx0
  have hi : (0 : Int) < (xs.length : Int) := by omega
  go_enter Try.func64, Try.ntmps64
  go_wp2
  have H0 := Lib.hid h0
  clear e1 e1n hi hc h0
  go_loop [3, 4] (fun m i => ∃ (k : Nat) (M : Int), 0 < k ∧ k ≤ xs.length ∧ i = .int .i64 k ∧ m = .int .i64 M ∧ Hid (M = xs.getD (amin xs k) 0)) (fun _ i => xs.length - (intOf i).toNat)
  case atStart => exact ⟨1, x0, by omega, H0.out, rfl, rfl, HX0⟩
  case round =>
    obtain ⟨k, M, hk0, hk, rfl, rfl, HM⟩ := hrel
    by_cases hlt : k < xs.length
    · obtain ⟨b', off', hal, _, hc⟩ := HS.out.cell hlt
      cases hal
      obtain ⟨x, hx⟩ : ∃ x, xs[k] = x := ⟨_, rfl⟩
      rw [hx] at hc
      have HX : Hid (xs.getD k 0 = x) := Lib.hid (by rw [getD_at hlt, hx])
      clear hx
      go_wp2
      go_round
      case rel => exact ⟨k + 1, _, by omega, by omega, by go_num, rfl, Lib.hid (by rw [amin_next, HX.out, ← HM.out]; first | rfl | omega)⟩
      case measure => simp [intOf]; omega
    · obtain rfl : k = xs.length := by omega
      go_wp2
      go_ret
      exact ⟨ret_int HM.out, rfl⟩
theorem indexB_any {S : Nat → Prop} (xs : List Int) (x : Int) (j : Nat) (v : Value) (w : World) (hs : Sl S w v (ints xs)) (hj : j < xs.length) (hx : xs.getD j 0 = x) (hmin : ∀ i, i < j → xs.getD i 0 ≠ x) :
    Calls Try.prog 62 #[v, .int .i64 x] w fun e w' => e = .returned (.int .i64 j) ∧ w = w' := by
  obtain ⟨a, cap, rfl, h2, h3⟩ := hs.form
  simp only [ints_length] at *
  unfold maxLen at h3
  have HS := Lib.hid hs
  have HX := Lib.hid hx
  have HM := Lib.hid hmin
  clear hs hx hmin
  go_enter Try.func62, Try.ntmps62
  go_wp2
  go_loop [5, 8] (fun _ i => ∃ k : Nat, k ≤ j ∧ i = .int .i64 k) (fun _ i => xs.length - (intOf i).toNat)
  case atStart => exact ⟨0, by omega, rfl⟩
  case round =>
    obtain ⟨k, hk, rfl⟩ := hrel
    obtain ⟨b', off', rfl, _, hc⟩ := HS.out.cell (show k < xs.length by omega)
    have hlt : k < xs.length := by omega
    obtain ⟨y, hy⟩ : ∃ y, xs[k] = y := ⟨_, rfl⟩
    rw [hy] at hc
    have HY : Hid (xs.getD k 0 = y) := Lib.hid (by rw [getD_at hlt, hy])
    clear hy
    by_cases hkj : k = j
    · subst hkj
      have e1 : (x == y) = true := by rw [← HX.out, HY.out]; simp
      go_wp2
      go_ret
      exact ⟨rfl, rfl⟩
    · have e1 : (x == y) = false := by
        have := HM.out k (by omega)
        rw [HY.out] at this
        simpa using fun e => this e.symm
      go_wp2
      go_round
      case rel => exact ⟨k + 1, by omega, by go_num⟩
      case measure => simp [intOf]; omega
theorem most_any {S : Nat → Prop} (xs : List Int) (v : Value) (w : World) (hs : Sl S w v (ints xs)) (h0 : 0 < xs.length) :
    Calls Try.prog 39 #[v] w fun e w' => e = .returned (.int .i64 (amax xs xs.length)) ∧ w = w' := by
  go_enter Try.func39, Try.ntmps39
  go_wp2_with fail
  refine (maxB_any xs v w hs h0).mono ?_
  rintro e w1 ⟨rfl, rfl⟩
  go_wp2_with fail
  refine (indexB_any xs _ (amax xs xs.length) v _ hs (amax_lt xs _ h0) rfl (fun i hi e => by have := (amax_spec xs xs.length).2 i hi; omega)).mono ?_
  rintro e w2 ⟨rfl, rfl⟩
  go_wp2
  go_ret
  exact ⟨rfl, rfl⟩
theorem least_any {S : Nat → Prop} (xs : List Int) (v : Value) (w : World) (hs : Sl S w v (ints xs)) (h0 : 0 < xs.length) :
    Calls Try.prog 40 #[v] w fun e w' => e = .returned (.int .i64 (amin xs xs.length)) ∧ w = w' := by
  go_enter Try.func40, Try.ntmps40
  go_wp2_with fail
  refine (minB_any xs v w hs h0).mono ?_
  rintro e w1 ⟨rfl, rfl⟩
  go_wp2_with fail
  refine (indexB_any xs _ (amin xs xs.length) v _ hs (amin_lt xs _ h0) rfl (fun i hi e => by have := (amin_spec xs xs.length).2 i hi; omega)).mono ?_
  rintro e w2 ⟨rfl, rfl⟩
  go_wp2
  go_ret
  exact ⟨rfl, rfl⟩
end Go.Proofs.Ytagfcodpgochjaa

/- Making slices of integers. -/
namespace Go.Proofs.Ytagfcodpgochjaa
open Go.RowKit Go.Oche Go.Proofs
theorem info3 : (Try.prog.info? 3).map (fun i => (i.zero, i.size, i.bytes)) = some (some (.int .i64 0), 1, 8) := by kernel_rfl
theorem make_ints (n : Nat) (hn : n ≤ 100000) (w : World) : (Instr.makeSlice 22 (.int .i64 n) (.int .i64 n)).run Try.prog w = .ok (.slice (some ⟨w.heap.size, 0, none⟩) n n) (w.alloc (.cells (madeCells #[.int .i64 0] n) 3)) := by
  obtain ⟨i, hi, hz, hs, hb⟩ := info_parts info3
  have := run_make (P := Try.prog) w 22 3 i _ Try.underlying22 hi hz .i64 .i64 (n : Int) (n : Int) (by omega) (by omega) (by rw [hb]; omega) (by omega)
  rw [hs] at this
  simpa [Value.cells] using this
end Go.Proofs.Ytagfcodpgochjaa
