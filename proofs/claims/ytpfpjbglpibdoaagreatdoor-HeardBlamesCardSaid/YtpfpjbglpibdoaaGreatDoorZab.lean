/- The texts FreeIn, Sl, Blk, App, App1, Two, SlN, Own, in build order. -/
import Derived.Test.YtpfpjbglpibdoaaGreatDoorZaa
import Derived.OrdersIn
import Derived.OwnWalkIn
import Derived.RangeFuncCalls
import Derived.WalkKit
import Derived.Lib.Hide
import Derived.Outline
import Derived.RangeFuncBox
import Derived.Maps.AppendAt
import Derived.Laws.OwnMore

/- The law of a drawn region (Free), in a fence that lets everything in: for functions that range over a function, and their rounds. -/
namespace Go.Oche
open Go Go.RowKit

def Open (F : Fence) : Prop := F = Fence.wide ∨ ∃ l, F = Fence.wide.inRound l
theorem open_round (l : Nat) : Open (Fence.wide.inRound l) := .inr ⟨l, rfl⟩
theorem Open.fn {F : Fence} (hF : Open F) (f : FuncId) : F.fn f := by rcases hF with rfl | ⟨l, rfl⟩ <;> trivial
theorem Open.depth {F : Fence} (hF : Open F) : F.depth.isSome = true → 1 ≤ 0 := by rcases hF with rfl | ⟨l, rfl⟩ <;> intro h <;> simp [Fence.wide, Fence.inRound] at h
theorem callsIn_open {F : Fence} (hF : Open F) {n : Nat} {P : Program} {f : FuncId} {args : Array Value} {w : World} {R : Ending → World → Prop} (h : Calls P f args w R) : CallsIn F n P f args w R := by
  rcases hF with rfl | ⟨l, rfl⟩
  · exact callsIn_wide.2 h
  · exact CallsIn.inRound l (callsIn_wide.2 h)

def noDefer (ops : Array Oper) : Bool := ops.toList.all fun o => match o.op with | .defer _ => false | _ => true

theorem wpIn_of_opOK {F : Fence} (hF : Open F) {P : Program} {o : Oper} {a : Act} {w : World} {R : Value → World → Prop} {K : Act → World → Prop} {Q : Exit → Act → World → Prop}
    (hnd : ∀ c, o.op ≠ .defer c) (h : opOK P o a w R) (hK : ∀ v w', R v w' → K (a.put o.dst v) w') : o.wpIn F 0 P a w K Q := by
  refine ⟨fun f _ => hF.fn f, ?_⟩
  rw [Oper.semAt_eq _ _ _ hnd]
  unfold opOK at h
  generalize (execOp a.eval o).run P w = r at *
  cases r with
  | ok n w' =>
    cases n <;> simp only at h <;> simp only [Oper.uponIn]
    case value u => exact hK _ _ h
    case skip => exact hK _ _ h
    case enter f args => exact ⟨hF.depth, callsIn_open hF (h.mono fun e w'' ⟨v, he, hr⟩ => by subst he; exact hK _ _ hr)⟩
  | halt x w' => simp only at h

section law
variable {F : Fence} {P : Program} {ops : Array Oper} {Φ : Nat → Value → World → Prop} {J : (Nat → Bool) → World → Prop} {a₀ : Act} {Q : Exit → Act → World → Prop} {n : Nat}

end law

/-! The law where each operation's value is known ahead. -/
def fixΦ (cs : List Value) : Nat → Value → World → Prop := fun i v _ => cs[i]? = some v
def putL : List Oper → List Value → Act → Act
  | o :: l, c :: cs, a => putL l cs (a.put o.dst c)
  | _, _, a => a
end Go.Oche

/- A slice that reads as a list of one-cell values; S: where its cells lie. -/
namespace Go.Oche
open Go Go.RowKit

def Sl (S : Nat → Prop) (w : World) (v : Value) (xs : List Value) : Prop :=
  ∃ (a : Option Addr) (cap : Nat), v = .slice a xs.length cap ∧ xs.length ≤ cap ∧ cap ≤ maxLen ∧
    ∀ i x, xs[i]? = some x → ∃ b off, a = some ⟨b, off, none⟩ ∧ S b ∧ w.cell? ⟨b, off + i, none⟩ = some x

def ints (l : List Int) : List Value := l.map (Value.int .i64)
def bools (l : List Bool) : List Value := l.map Value.bool
@[simp] theorem ints_length (l : List Int) : (ints l).length = l.length := by simp [ints]
@[simp] theorem bools_length (l : List Bool) : (bools l).length = l.length := by simp [bools]
theorem intsAt {l : List Int} {i : Nat} (h : i < l.length) : (ints l)[i]? = some (.int .i64 l[i]) := by simp [ints, h]
@[simp] theorem ints_nil : ints [] = [] := rfl
theorem ints_append (a b : List Int) : ints (a ++ b) = ints a ++ ints b := by simp [ints]

section
variable {S S' : Nat → Prop} {w w' : World} {v : Value} {xs : List Value}
theorem Sl.mono (h : Sl S w v xs) (hS : ∀ k, S k → S' k) : Sl S' w v xs := by
  obtain ⟨a, cap, h1, h2, h3, h4⟩ := h
  exact ⟨a, cap, h1, h2, h3, fun i x hx => let ⟨b, off, e, s, c⟩ := h4 i x hx; ⟨b, off, e, hS b s, c⟩⟩
theorem Sl.below (h : Sl S w v xs) (hb : Below w.heap.size w w') : Sl S w' v xs := by
  obtain ⟨a, cap, h1, h2, h3, h4⟩ := h
  exact ⟨a, cap, h1, h2, h3, fun i x hx => let ⟨b, off, e, s, c⟩ := h4 i x hx; ⟨b, off, e, s, (hb.cell (p := ⟨b, off + i, none⟩) (World.block_lt_of_cell? w _ c)).trans c⟩⟩
theorem Sl.cells (h : Sl S w v xs) (hc : ∀ b o, S b → (w.cell? ⟨b, o, none⟩).isSome → w'.cell? ⟨b, o, none⟩ = w.cell? ⟨b, o, none⟩) : Sl S w' v xs := by
  obtain ⟨a, cap, h1, h2, h3, h4⟩ := h
  exact ⟨a, cap, h1, h2, h3, fun i x hx => let ⟨b, off, e, s, c⟩ := h4 i x hx; ⟨b, off, e, s, (hc b _ s (by rw [c]; rfl)).trans c⟩⟩
theorem Sl.rel {O O' : Nat → Prop} (h : Sl S w v xs) (hr : Rel O w O' w') (hS : ∀ k, S k → ¬ O k) : Sl S w' v xs :=
  h.cells fun b o s hs => by
    obtain ⟨x, hx⟩ := Option.isSome_iff_exists.1 hs
    rw [hx]; exact hr.cell hx (hS b s)
theorem Sl.lt (h : Sl S w v xs) : Sl (fun k => S k ∧ k < w.heap.size) w v xs := by
  obtain ⟨a, cap, h1, h2, h3, h4⟩ := h
  exact ⟨a, cap, h1, h2, h3, fun i x hx => let ⟨b, off, e, s, c⟩ := h4 i x hx; ⟨b, off, e, ⟨s, World.block_lt_of_cell? w _ c⟩, c⟩⟩
theorem Sl.nil (S : Nat → Prop) (w : World) : Sl S w (.slice none 0 0) [] := ⟨none, 0, rfl, Nat.le_refl _, Nat.zero_le _, fun i x hx => by simp at hx⟩
theorem Sl.of_owns {base : Nat} {e : TypeId} {n : Nat} (h : w.ownsRow base e 1 v n xs) : Sl (fun k => base ≤ k) w v xs := by
  obtain ⟨hl, h | ⟨g, cap, cur, rfl, hb, hg, hn, hm, hs, ht⟩⟩ := h
  · obtain ⟨rfl, rfl⟩ := h
    have : xs = [] := List.eq_nil_of_length_eq_zero (by simpa using hl)
    subst this
    exact Sl.nil _ _
  · refine ⟨some ⟨g, 0, none⟩, cap, by simp [hl], by omega, hm, fun i x hx => ⟨g, 0, rfl, hb, ?_⟩⟩
    have hi : i < xs.length := (List.getElem?_eq_some_iff.1 hx).1
    simp only [World.cell?, hg, Nat.zero_add]
    rw [← ht, List.getElem?_take] at hx
    split at hx
    · simpa using hx
    · cases hx
theorem Sl.new (S : Nat → Prop) (w : World) (hS : S w.heap.size) (t : TypeId) (l : List Value) (hl : l.length ≤ maxLen) : Sl S (w.alloc (.cells l.toArray t)) (.slice (some ⟨w.heap.size, 0, none⟩) l.length l.length) l :=
  ⟨_, _, rfl, Nat.le_refl _, hl, fun i x hx => ⟨_, 0, rfl, hS, by unfold World.cell?; rw [World.alloc_heap_new]; simpa using hx⟩⟩
theorem Sl.new1 (S : Nat → Prop) (w : World) (hS : S w.heap.size) (t : TypeId) (x : Value) : Sl S (w.alloc (.cells #[x] t)) (.slice (some ⟨w.heap.size, 0, none⟩) 1 1) [x] :=
  Sl.new S w hS t [x] (by simp [maxLen])
theorem Sl.len (h : Sl S w v xs) : xs.length ≤ maxLen := let ⟨_, _, _, h2, h3, _⟩ := h; Nat.le_trans h2 h3
end
theorem Sl.form {S : Nat → Prop} {w : World} {v : Value} {xs : List Value} (h : Sl S w v xs) : ∃ a cap, v = .slice a xs.length cap ∧ xs.length ≤ cap ∧ cap ≤ maxLen := by
  obtain ⟨a, cap, h1, h2, h3, _⟩ := h
  exact ⟨a, cap, h1, h2, h3⟩
end Go.Oche

/- A block of integers of one's own. -/
namespace Go.Oche
open Go Go.RowKit

def IntBlk (W : World) (R : Nat) (t : TypeId) (n : Nat) (f : Nat → Int) : Prop :=
  ∃ A : Array Value, W.heap[R]? = some (.cells A t (0, 0)) ∧ A.size = n ∧ ∀ j, j < n → A[j]? = some (.int .i64 (f j))
section
variable {W W' : World} {R : Nat} {t : TypeId} {n : Nat} {f g : Nat → Int}
theorem IntBlk.cell (h : IntBlk W R t n f) {j : Nat} (hj : j < n) : W.cell? ⟨R, j, none⟩ = some (.int .i64 (f j)) := by
  obtain ⟨A, h1, h2, h3⟩ := h
  rw [cell_of_heap h1]; exact h3 j hj
theorem IntBlk.frozen (h : IntBlk W R t n f) (j : Nat) : W.frozen? ⟨R, j, none⟩ = false := by
  obtain ⟨A, h1, _⟩ := h; exact frozen_of_heap h1
theorem IntBlk.set (h : IntBlk W R t n f) (i : Nat) (v : Int) : IntBlk (W.setCell ⟨R, i, none⟩ (.int .i64 v)) R t n (fun j => if j = i then v else f j) := by
  obtain ⟨A, h1, h2, h3⟩ := h
  refine ⟨_, heap_setCell_at h1 _, by simp [h2], fun j hj => ?_⟩
  rw [Array.getElem?_setIfInBounds]
  by_cases e : i = j
  · subst e; simp [h2, hj]
  · have e' : ¬ j = i := fun h => e h.symm
    simp only [if_neg e, if_neg e']; exact h3 j hj
theorem IntBlk.keep (h : IntBlk W R t n f) (hk : W'.heap[R]? = W.heap[R]?) : IntBlk W' R t n f := by
  obtain ⟨A, h1, h2⟩ := h; exact ⟨A, hk.trans h1, h2⟩
theorem IntBlk.lt (h : IntBlk W R t n f) : R < W.heap.size := by
  obtain ⟨A, h1, _⟩ := h; exact (Array.getElem?_eq_some_iff.1 h1).1
theorem IntBlk.below (h : IntBlk W R t n f) (hb : Below W.heap.size W W') : IntBlk W' R t n f := h.keep (hb.block R h.lt)
theorem IntBlk.congr (h : IntBlk W R t n f) (e : ∀ j, j < n → f j = g j) : IntBlk W R t n g := by
  obtain ⟨A, h1, h2, h3⟩ := h; exact ⟨A, h1, h2, fun j hj => by rw [h3 j hj, e j hj]⟩
theorem IntBlk.made (W : World) (t : TypeId) (n : Nat) : IntBlk (W.alloc (.cells (madeCells #[.int .i64 0] n) t)) W.heap.size t n (fun _ => 0) :=
  ⟨_, World.alloc_heap_new _ _, size_madeCells _ _, fun j hj => by
    rw [← Array.getElem?_toList, toList_madeCells_one]; simp [hj]⟩
theorem IntBlk.sl (h : IntBlk W R t n f) (hn : n ≤ maxLen) : Sl (fun k => k = R) W (.slice (some ⟨R, 0, none⟩) n n) (ints ((List.range n).map f)) := by
  refine ⟨_, n, by simp, by simp, hn, fun i x hx => ⟨R, 0, rfl, rfl, ?_⟩⟩
  have hi : i < n := by have := (List.getElem?_eq_some_iff.1 hx).1; simpa using this
  rw [intsAt (by simpa using hi)] at hx
  simp only [List.getElem_map, List.getElem_range, Option.some.injEq] at hx
  rw [← hx, Nat.zero_add]
  exact h.cell hi
end
end Go.Oche

/- Appending one element to a slice of one's own. -/
namespace Go.Oche
open Go Go.RowKit
theorem grownBy_trans {w w' w'' : World} {row : Option Nat} (h : w.grownBy w' row) (k : w'.grownBy w'' row) : w.grownBy w'' row :=
  ⟨k.os.trans h.os, k.tape.trans h.tape, k.output.trans h.output, Nat.le_trans h.size k.size, fun i hi hn => (k.block i (Nat.lt_of_lt_of_le hi h.size) hn).trans (h.block i hi hn)⟩
theorem grownBy_below {w w' : World} (row : Option Nat) (h : Below w.heap.size w w') : w.grownBy w' row := ⟨h.os, h.tape, h.output, h.size, fun k hk _ => h.block k hk⟩
theorem below_grownBy {w w' : World} {row : Option Nat} (h : w.grownBy w' row) {B : Nat} (hB : B ≤ w.heap.size) (hr : ∀ k, row = some k → B ≤ k) : Below B w w' :=
  ⟨h.os, h.tape, h.output, h.size, fun k hk => h.block k (by omega) (fun e => by have := hr k e.symm; omega)⟩
theorem owns_ne {w : World} {base n : Nat} {e e' : TypeId} {v : Value} {xs : List Value} (h : w.ownsRow base e 1 v n xs) {k : Nat} {c : Array Value} {f : Nat × Nat} (hk : w.heap[k]? = some (.cells c e' f)) (he : e ≠ e') : some k ≠ v.ownBlock := by
  rcases h.2 with ⟨rfl, _⟩ | ⟨g, cap, cur, rfl, _, hg, _⟩
  · simp [Value.ownBlock]
  · intro hh
    simp only [Value.ownBlock, Option.some.injEq] at hh
    subst hh
    rw [hg] at hk
    simp at hk
    exact he hk.2.1
theorem IntBlk.ne {w : World} {base n m : Nat} {e t : TypeId} {v : Value} {xs : List Value} {R : Nat} {f : Nat → Int} (h : IntBlk w R t m f) (ho : w.ownsRow base e 1 v n xs) (he : e ≠ t) : some R ≠ v.ownBlock := by
  obtain ⟨A, h1, _⟩ := h; exact owns_ne ho h1 he
theorem wpList_opOK {P : Program} {ops : Array Oper} {Q : Exit → Act → World → Prop} {o : Oper} {rest : List Oper} {a : Act} {w : World} {R : Value → World → Prop} (hg : o.guard = none) (h : opOK P o a w R)
    (hK : ∀ v w', R v w' → wpList P ops Q rest (a.put o.dst v) w') : wpList P ops Q (o :: rest) a w :=
  wpList_plain hg fun _ hk => wp_of_opOK h fun v w' hr => hk _ _ (hK v w' hr)
theorem wpListIn_opOK {F : Fence} (hF : Open F) {P : Program} {ops : Array Oper} {Q : Exit → Act → World → Prop} {o : Oper} {rest : List Oper} {a : Act} {w : World} {R : Value → World → Prop} (hg : o.guard = none) (hnd : ∀ c, o.op ≠ .defer c) (h : opOK P o a w R)
    (hK : ∀ v w', R v w' → wpListIn F 0 P ops Q rest (a.put o.dst v) w') : wpListIn F 0 P ops Q (o :: rest) a w :=
  wpListIn_plain hg fun _ hk => wpIn_of_opOK hF hnd h fun v w' hr => hk _ _ (hK v w' hr)
end Go.Oche

/- Appending one element to a slice of one's own, in a list of operations. -/
namespace Go.Oche
open Go Go.RowKit
section
variable {P : Program} {ops : Array Oper} {Q : Exit → Act → World → Prop} {o : Oper} {rest : List Oper} {a : Act} {w : World}
theorem opOK_append1_at (s x : Operand) (t : TypeId) (ho : o.op = .call { callee := .builtin .append, args := #[s, x], argTypes := #[t, t] })
    (base : Nat) (e : TypeId) (z : Value) (bytes : Nat) (ht : P.underlying t = some (.slice e)) (hi : (P.info? e).map (fun i => (i.zero, i.size, i.bytes)) = some (some z, 1, bytes)) (hzs : z.cells.size = 1)
    (v : Value) (n : Nat) (xs : List Value) (hs : a.eval s = v) (hown : w.ownsRow base e 1 v n xs) (b off c : Nat) (u : Value) (hx : a.eval x = .slice (some ⟨b, off, none⟩) 1 c) (hc : w.cell? ⟨b, off, none⟩ = some u) (h1 : u.oneCell' = true)
    (h63 : n + 1 ≤ 100000) (hbytes : bytes ≤ 1000) (hbase : base ≤ w.heap.size) :
    opOK P o a w (fun v' w' => ∃ g cap, v' = .slice (some ⟨g, 0, none⟩) (n + 1) cap ∧ w'.ownsRow base e 1 v' (n + 1) (xs ++ [u]) ∧ w.grownBy w' v.ownBlock ∧ (v.ownBlock = some g ∨ g = w.heap.size)) := by
  obtain ⟨i, hi, hz0, hz1, hz2⟩ := info_parts hi
  have hmul : (n + 1) * bytes ≤ 100000 * 1000 := Nat.mul_le_mul h63 hbytes
  obtain ⟨v', w', hr, h2, h3, h4, h5⟩ := run_append_own_at (P := P) w base t o.type e i z 1 bytes ht hi hz0 hz1 hz2 hzs (by decide) v n xs hown ⟨b, off, none⟩ 1 c [u] rfl
    (fun j y hj => by
      match j, hj with
      | 0, hj => simp at hj; subst hj; simpa [Addr.add] using hc
      | j + 1, hj => simp at hj)
    (fun y hy => by simp at hy; subst hy; exact h1) (by unfold maxLen; omega) (by omega) hbase
  unfold opOK execOp
  simp only [ho, resolve, invoke, builtin, Sem.run_bind, Sem.run_pure, Result.andThen_ok, List.map_toArray, List.map_cons, List.map_nil, hs, hx, hr]
  obtain ⟨g, cap, rfl⟩ := ownsRow_succ h2
  refine ⟨g, cap, rfl, h2, h3, ?_⟩
  simp only [Value.ownBlock] at h5
  rcases h5 with h5 | h5
  · exact .inl h5.symm
  · exact .inr (Option.some.inj h5)
theorem wpList_append1 (hg : o.guard = none) (s x : Operand) (t : TypeId) (ho : o.op = .call { callee := .builtin .append, args := #[s, x], argTypes := #[t, t] })
    (base : Nat) (e : TypeId) (z : Value) (bytes : Nat) (ht : P.underlying t = some (.slice e)) (hi : (P.info? e).map (fun i => (i.zero, i.size, i.bytes)) = some (some z, 1, bytes)) (hzs : z.cells.size = 1)
    (v : Value) (n : Nat) (xs : List Value) (hs : a.eval s = v) (hown : w.ownsRow base e 1 v n xs) (b off c : Nat) (u : Value) (hx : a.eval x = .slice (some ⟨b, off, none⟩) 1 c) (hc : w.cell? ⟨b, off, none⟩ = some u) (h1 : u.oneCell' = true)
    (h63 : n + 1 ≤ 100000) (hbytes : bytes ≤ 1000) (hbase : base ≤ w.heap.size)
    (hK : ∀ g cap w', w'.ownsRow base e 1 (.slice (some ⟨g, 0, none⟩) (n + 1) cap) (n + 1) (xs ++ [u]) → w.grownBy w' v.ownBlock → (v.ownBlock = some g ∨ g = w.heap.size) → wpList P ops Q rest (a.put o.dst (.slice (some ⟨g, 0, none⟩) (n + 1) cap)) w') :
    wpList P ops Q (o :: rest) a w :=
  wpList_opOK hg (opOK_append1_at s x t ho base e z bytes ht hi hzs v n xs hs hown b off c u hx hc h1 h63 hbytes hbase) fun _ _ ⟨g, cap, e, h1, h2, h3⟩ => by subst e; exact hK g cap _ h1 h2 h3
end
end Go.Oche

/- Two slices of one's own that grow side by side; a store into one. -/
namespace Go.Oche
open Go Go.RowKit
theorem owns_kept {W W' : World} {base n : Nat} {e : TypeId} {v : Value} {xs : List Value} (h : W.ownsRow base e 1 v n xs) (hk : ∀ g, v.ownBlock = some g → W'.heap[g]? = W.heap[g]?) : W'.ownsRow base e 1 v n xs := by
  refine ⟨h.1, ?_⟩
  rcases h.2 with h | ⟨g, cap, cur, rfl, h1, h2, h3⟩
  · exact .inl h
  · exact .inr ⟨g, cap, cur, rfl, h1, by rw [hk g (by simp [Value.ownBlock])]; exact h2, h3⟩
theorem owns_blk {W : World} {base n g c : Nat} {e : TypeId} {xs : List Value} (h : W.ownsRow base e 1 (.slice (some ⟨g, 0, none⟩) n c) n xs) : base ≤ g ∧ g < W.heap.size := by
  rcases h.2 with ⟨h', _⟩ | ⟨g', cap', cur, h', hb, hg, _⟩
  · simp at h'
  · simp only [Value.slice.injEq, Option.some.injEq, Addr.mk.injEq, and_true, true_and] at h'
    obtain ⟨rfl, rfl⟩ := h'
    exact ⟨hb, (Array.getElem?_eq_some_iff.1 hg).1⟩
structure Two (B : Nat) (e e' : TypeId) (W : World) (g c g' c' n m : Nat) (xs ys : List Value) : Prop where
  o : W.ownsRow B e 1 (.slice (some ⟨g, 0, none⟩) n c) n xs
  o' : W.ownsRow B e' 1 (.slice (some ⟨g', 0, none⟩) m c') m ys
  ne : g ≠ g'
section
variable {B : Nat} {e e' : TypeId} {W W' : World} {g c g' c' n m h d : Nat} {xs ys zs : List Value}
theorem Two.swap (t : Two B e e' W g c g' c' n m xs ys) : Two B e' e W g' c' g c m n ys xs := ⟨t.o', t.o, fun h => t.ne h.symm⟩
theorem Two.below (t : Two B e e' W g c g' c' n m xs ys) (hb : Below W.heap.size W W') : Two B e e' W' g c g' c' n m xs ys :=
  ⟨owns_kept t.o (fun q hq => by cases hq; exact hb.block g (owns_blk t.o).2), owns_kept t.o' (fun q hq => by cases hq; exact hb.block g' (owns_blk t.o').2), t.ne⟩
theorem Two.grown {ob : Obj} (t : Two B e e' W g c g' c' n m xs ys) (ho : W'.ownsRow B e 1 (.slice (some ⟨h, 0, none⟩) (n + 1) d) (n + 1) zs) (hg : (W.alloc ob).grownBy W' (some g)) (hat : some g = some h ∨ h = W.heap.size + 1) :
    Two B e e' W' h d g' c' (n + 1) m zs ys ∧ W.heap.size ≤ W'.heap.size ∧ ∀ b, b ≤ W.heap.size → Below b W W' ∨ g < b := by
  have l1 := owns_blk t.o
  have l2 := owns_blk t.o'
  have hs := hg.size
  rw [World.size_alloc] at hs
  have hkeep : ∀ k, k < W.heap.size → k ≠ g → W'.heap[k]? = W.heap[k]? := fun k hk hne => by
    rw [hg.block k (by simp; omega) (fun e => hne (by cases e; rfl)), Below.heap_alloc _ _ _ hk]
  refine ⟨⟨ho, owns_kept t.o' (fun q hq => by cases hq; exact hkeep g' l2.2 fun e => t.ne e.symm), ?_⟩, by omega, fun b hb => ?_⟩
  · rcases hat with hat | hat
    · cases hat; exact t.ne
    · omega
  · by_cases hgb : g < b
    · exact .inr hgb
    · exact .inl ⟨hg.os.trans rfl, hg.tape.trans rfl, hg.output.trans rfl, by omega, fun k hk => hkeep k (by omega) (by omega)⟩
end
end Go.Oche

/- A slice of structs: each element a row of k cells. -/
namespace Go.Oche
open Go Go.RowKit

def SlN (k : Nat) (S : Nat → Prop) (w : World) (v : Value) (rows : List (List Value)) : Prop :=
  ∃ (a : Option Addr) (cap : Nat), v = .slice a rows.length cap ∧ rows.length ≤ cap ∧ cap ≤ maxLen ∧
    ∀ i r, rows[i]? = some r → r.length = k ∧ ∃ b off, a = some ⟨b, off, none⟩ ∧ S b ∧ ∀ j x, r[j]? = some x → w.cell? ⟨b, off + i * k + j, none⟩ = some x
section
variable {k : Nat} {S S' : Nat → Prop} {w w' : World} {v : Value} {rows : List (List Value)}
theorem SlN.mono (h : SlN k S w v rows) (hS : ∀ q, S q → S' q) : SlN k S' w v rows := by
  obtain ⟨a, cap, h1, h2, h3, h4⟩ := h
  exact ⟨a, cap, h1, h2, h3, fun i r hr => let ⟨hl, b, off, e, s, c⟩ := h4 i r hr; ⟨hl, b, off, e, hS b s, c⟩⟩
theorem SlN.cells (h : SlN k S w v rows) (hc : ∀ b o, S b → (w.cell? ⟨b, o, none⟩).isSome → w'.cell? ⟨b, o, none⟩ = w.cell? ⟨b, o, none⟩) : SlN k S w' v rows := by
  obtain ⟨a, cap, h1, h2, h3, h4⟩ := h
  exact ⟨a, cap, h1, h2, h3, fun i r hr => let ⟨hl, b, off, e, s, c⟩ := h4 i r hr; ⟨hl, b, off, e, s, fun j x hx => (hc b _ s (by rw [c j x hx]; rfl)).trans (c j x hx)⟩⟩
theorem SlN.below (h : SlN k S w v rows) (hb : Below w.heap.size w w') : SlN k S w' v rows := by
  obtain ⟨a, cap, h1, h2, h3, h4⟩ := h
  exact ⟨a, cap, h1, h2, h3, fun i r hr => let ⟨hl, b, off, e, s, c⟩ := h4 i r hr; ⟨hl, b, off, e, s, fun j x hx => bAt hb (c j x hx)⟩⟩
theorem SlN.lt (h : SlN k S w v rows) (hk : 0 < k) : SlN k (fun q => S q ∧ q < w.heap.size) w v rows := by
  obtain ⟨a, cap, h1, h2, h3, h4⟩ := h
  refine ⟨a, cap, h1, h2, h3, fun i r hr => ?_⟩
  obtain ⟨hl, b, off, e, s, c⟩ := h4 i r hr
  exact ⟨hl, b, off, e, ⟨s, World.block_lt_of_cell? w _ (c 0 r[0] (List.getElem?_eq_getElem (by omega)))⟩, c⟩
theorem SlN.nil (k : Nat) (S : Nat → Prop) (w : World) : SlN k S w (.slice none 0 0) [] := ⟨none, 0, rfl, Nat.le_refl _, Nat.zero_le _, fun i x hx => by simp at hx⟩
theorem SlN.form (h : SlN k S w v rows) : ∃ a cap, v = .slice a rows.length cap ∧ rows.length ≤ cap ∧ cap ≤ maxLen := by
  obtain ⟨a, cap, h1, h2, h3, _⟩ := h
  exact ⟨a, cap, h1, h2, h3⟩
theorem SlN.cell {a : Option Addr} {n cap : Nat} (h : SlN k S w (.slice a n cap) rows) {i : Nat} (hi : i < rows.length) : ∃ b off, a = some ⟨b, off, none⟩ ∧ S b ∧ rows[i].length = k ∧ ∀ j x, (rows[i])[j]? = some x → w.cell? ⟨b, off + i * k + j, none⟩ = some x := by
  obtain ⟨a', cap', e, _, _, h4⟩ := h
  cases e
  obtain ⟨hl, b, off, e, s, c⟩ := h4 i _ (List.getElem?_eq_getElem hi)
  exact ⟨b, off, e, s, hl, c⟩
theorem SlN.of_owns {base n g c : Nat} {e : TypeId} (h : w.ownsRow base e k (.slice (some ⟨g, 0, none⟩) n c) n rows.flatten) (hr : ∀ r ∈ rows, r.length = k) (hl : rows.length = n) (hc : n ≤ c) (hm : c ≤ maxLen) : SlN k (fun q => q = g) w (.slice (some ⟨g, 0, none⟩) n c) rows := by
  subst hl
  refine ⟨_, c, rfl, hc, hm, fun i r hi => ⟨hr r (List.mem_of_getElem? hi), g, 0, rfl, rfl, fun j x hx => ?_⟩⟩
  have hil : i < rows.length := (List.getElem?_eq_some_iff.1 hi).1
  have hjk : j < k := by have := (List.getElem?_eq_some_iff.1 hx).1; rw [hr r (List.mem_of_getElem? hi)] at this; exact this
  have hlt : i * k + j < rows.length * k := by
    have : (i + 1) * k ≤ rows.length * k := Nat.mul_le_mul_right k hil
    rw [Nat.add_mul] at this; omega
  rw [Nat.zero_add, h.cellAt _ hlt]
  exact flat_at hr hi hx
where
  flat_at {k : Nat} : ∀ {rows : List (List Value)} {i j : Nat} {r : List Value} {x : Value}, (∀ r ∈ rows, r.length = k) → rows[i]? = some r → r[j]? = some x → rows.flatten[i * k + j]? = some x
    | [], i, j, r, x, _, hi, _ => by simp at hi
    | r0 :: rows, 0, j, r, x, hr, hi, hx => by
      simp only [List.getElem?_cons_zero, Option.some.injEq] at hi
      subst hi
      have hj := (List.getElem?_eq_some_iff.1 hx).1
      rw [List.flatten_cons, Nat.zero_mul, Nat.zero_add, List.getElem?_append_left hj]; exact hx
    | r0 :: rows, i + 1, j, r, x, hr, hi, hx => by
      have h0 := hr r0 (by simp)
      rw [List.flatten_cons, List.getElem?_append_right (by rw [h0, Nat.add_mul]; omega), h0]
      have : (i + 1) * k + j - k = i * k + j := by rw [Nat.add_mul]; omega
      rw [this]
      exact flat_at (fun r h => hr r (by simp [h])) (by simpa using hi) hx
end
end Go.Oche

/- Rows of one's own, with elements of any size. -/
namespace Go.Oche
open Go Go.RowKit
theorem addr_at (b o j : Nat) : (⟨b, o, none⟩ : Addr).add j = ⟨b, o + j, none⟩ := by unfold Addr.add; split <;> simp_all
section
variable {W W' : World} {base base' n n' k k' : Nat} {e e' : TypeId} {v v' : Value} {xs xs' : List Value}
theorem ownsN_kept (h : W.ownsRow base e k v n xs) (hk : ∀ g, v.ownBlock = some g → W'.heap[g]? = W.heap[g]?) : W'.ownsRow base e k v n xs := by
  refine ⟨h.1, ?_⟩
  rcases h.2 with h | ⟨g, cap, cur, rfl, h1, h2, h3⟩
  · exact .inl h
  · exact .inr ⟨g, cap, cur, rfl, h1, by rw [hk g (by simp [Value.ownBlock])]; exact h2, h3⟩
theorem ownsN_below (h : W.ownsRow base e k v n xs) (hb : Below W.heap.size W W') : W'.ownsRow base e k v n xs :=
  ownsN_kept h fun g hg => hb.block g (h.lt g hg).2
theorem ownsN_ne (h : W.ownsRow base e k v n xs) (h' : W.ownsRow base' e' k' v' n' xs') (he : e ≠ e') : v.ownBlock = none ∨ v.ownBlock ≠ v'.ownBlock := by
  rcases h.2 with ⟨rfl, _⟩ | ⟨g, cap, cur, rfl, _, hg, _⟩
  · exact .inl rfl
  · right
    rcases h'.2 with ⟨rfl, _⟩ | ⟨g', cap', cur', rfl, _, hg', _⟩
    · simp [Value.ownBlock]
    · simp only [Value.ownBlock, ne_eq, Option.some.injEq]
      intro e2
      subst e2
      rw [hg] at hg'
      simp at hg'
      exact he hg'.2
theorem ownsN_ne_blk (h : W.ownsRow base e k v n xs) {q : Nat} {c : Array Value} {f : Nat × Nat} (hq : W.heap[q]? = some (.cells c e' f)) (he : e ≠ e') : v.ownBlock = none ∨ v.ownBlock ≠ some q := by
  rcases h.2 with ⟨rfl, _⟩ | ⟨g, cap, cur, rfl, _, hg, _⟩
  · exact .inl rfl
  · right
    simp only [Value.ownBlock, ne_eq, Option.some.injEq]
    intro e2
    subst e2
    rw [hg] at hq
    simp at hq
    exact he hq.2.1
theorem SlN.of_ownsN {rows : List (List Value)} (h : W.ownsRow base e k v rows.length rows.flatten) (hr : ∀ r ∈ rows, r.length = k) : SlN k (fun q => base ≤ q) W v rows := by
  rcases h.2 with ⟨rfl, h0⟩ | ⟨g, cap, cur, rfl, h1, h2, h3, h4, h5⟩
  · have : rows = [] := List.eq_nil_of_length_eq_zero h0
    subst this
    exact SlN.nil _ _ _
  · exact (SlN.of_owns h hr rfl h3 h4).mono fun q hq => by subst hq; exact h1
theorem owns_form (h : W.ownsRow base e k v n xs) : ∃ a c, v = .slice a n c := by
  rcases h.2 with ⟨rfl, rfl⟩ | ⟨g, cap, cur, rfl, _⟩
  · exact ⟨_, _, rfl⟩
  · exact ⟨_, _, rfl⟩
theorem ownsN_base (h : W.ownsRow base e k v n xs) (hb : base' ≤ base) : W.ownsRow base' e k v n xs := by
  refine ⟨h.1, ?_⟩
  rcases h.2 with h | ⟨g, cap, cur, rfl, h1, h2⟩
  · exact .inl h
  · exact .inr ⟨g, cap, cur, rfl, by omega, h2⟩
end
end Go.Oche
