/- The texts Seq2, JArr, in build order. -/
import Derived.Test.YtpfpjbglpibdoaaGreatDoorZas

/- A new block within a region that draws its order. -/
namespace Go.Oche
open Go Go.RowKit
def kBox (N : Nat) (t : TypeId) (cs : Array Value) : Kn where
  s := fun v => ∃ b, v = .pointer (some ⟨b, 0, none⟩)
  p := fun v w => ∃ b, v = .pointer (some ⟨b, 0, none⟩) ∧ N ≤ b ∧ w.heap[b]? = some (.cells cs t (0, 0))
  m := fun _ _ _ hb ⟨b, h1, h2, h3⟩ => ⟨b, h1, h2, (hb.block b (Array.getElem?_eq_some_iff.1 h3).1).trans h3⟩
theorem opOK_alloc {P : Program} {o : Oper} {a : Act} {w : World} {N : Nat} {t : TypeId} {cs : Array Value} (hr : (execOp a.eval o).run P w = .ok (.value (.pointer (some ⟨w.heap.size, 0, none⟩))) (w.alloc (.cells cs t))) (hN : N ≤ w.heap.size) :
    opOK P o a w (fun v w' => Below w.heap.size w w' ∧ (kBox N t cs).s v ∧ (kBox N t cs).p v w') := by
  unfold opOK
  rw [hr]
  exact ⟨⟨rfl, rfl, rfl, by simp, fun k hk => Below.heap_alloc _ _ _ hk⟩, ⟨_, rfl⟩, _, rfl, hN, World.alloc_heap_new _ _⟩
end Go.Oche

/- A region that draws its order, in which some cells of one block are written, while others read: what the block holds follows from which stores were done. -/
namespace Go.Oche
open Go Go.RowKit
structure JArr (w0 : World) (bk : Nat) (t : TypeId) (A : (Nat → Bool) → Array Value) (L : Nat → Bool) (W : World) : Prop where
  os : W.os = w0.os
  tape : W.tape = w0.tape
  output : W.output = w0.output
  size : W.heap.size = w0.heap.size
  same : ∀ k, k ≠ bk → W.heap[k]? = w0.heap[k]?
  at_ : W.heap[bk]? = some (.cells (A L) t (0, 0))
section
variable {w0 W : World} {bk : Nat} {t : TypeId} {A : (Nat → Bool) → Array Value} {L : Nat → Bool}
theorem JArr.start (h : w0.heap[bk]? = some (.cells (A fun _ => false) t (0, 0))) : JArr w0 bk t A (fun _ => false) w0 := ⟨rfl, rfl, rfl, rfl, fun _ _ => rfl, h⟩
theorem JArr.read (h : JArr w0 bk t A L W) {i : Nat} (hA : A (setB L i) = A L) : JArr w0 bk t A (setB L i) W := ⟨h.os, h.tape, h.output, h.size, h.same, by rw [hA]; exact h.at_⟩
theorem JArr.cell (h : JArr w0 bk t A L W) {b o : Nat} {x : Value} (hv : w0.cell? ⟨b, o, none⟩ = some x) (hb : b ≠ bk) : W.cell? ⟨b, o, none⟩ = some x :=
  (World.cell?_of_block (w := w0) (h.same b hb)).trans hv
theorem JArr.own (h : JArr w0 bk t A L W) {o : Nat} {x : Value} (hx : (A L)[o]? = some x) : W.cell? ⟨bk, o, none⟩ = some x := by rw [cell_of_heap h.at_]; exact hx
theorem JArr.free (h : JArr w0 bk t A L W) (o : Nat) : W.frozen? ⟨bk, o, none⟩ = false := frozen_of_heap h.at_
theorem JArr.store (h : JArr w0 bk t A L W) {i o : Nat} {v : Value} (hA : (A L).setIfInBounds o v = A (setB L i)) : JArr w0 bk t A (setB L i) (W.setCell ⟨bk, o, none⟩ v) :=
  ⟨h.os, h.tape, h.output, by simp [h.size], fun k hk => (Below.heap_setCell _ _ _ _ hk).trans (h.same k hk), by rw [heap_setCell_at h.at_, hA]⟩
theorem JArr.below (h : JArr w0 bk t A L W) {B : Nat} {w : World} (hb : Below B w w0) (hk : B ≤ bk) : Below B w W :=
  ⟨h.os.trans hb.os, h.tape.trans hb.tape, h.output.trans hb.output, by rw [h.size]; exact hb.size, fun k hl => (h.same k (by omega)).trans (hb.block k hl)⟩
theorem JArr.keep (h : JArr w0 bk t A L W) {k : Nat} {x : Obj} (hx : w0.heap[k]? = some x) (hk : k ≠ bk) : W.heap[k]? = some x := (h.same k hk).trans hx
end
section
variable {P : Program} {ops : Array Oper} {J : (Nat → Bool) → World → Prop} {o : Oper} {l : List Oper} {a : Act} {i : Nat} {K : Act → Prop} {c : Value} {cs : List Value}
theorem sc_on (hg : guardOn ops o a = true) (hJ : ∀ w L, L i = false → J L w → J (setB L i) w) (h : ∀ w L, L i = false → J L w → opOK P o a w (fun v w' => v = c ∧ w' = w))
    (hr : SeqCAll P ops J K cs l (a.put o.dst c) (i + 1)) : SeqCAll P ops J K (c :: cs) (o :: l) a i := by
  refine ⟨fun w L hL hj hd => ?_, hr⟩
  rw [if_pos hg]
  exact opOK_mono (h w L hL hj) fun _ _ ⟨h1, h2⟩ => ⟨h1, by rw [h2]; exact hJ w L hL hj⟩
end
end Go.Oche
