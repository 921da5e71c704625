/- The texts RB, RC, RD0, in build order. -/
import Derived.Test.YtpfpjbglpibdoaaGreatDoorZaz

/- Chapter 5, the reference: the error of a leg. -/
namespace Go.Proofs.YtpfpjbglpibdoaaGreatDoor
open Go Go.RowKit Go.Oche Go.Proofs

section
variable {l : Lg}
end
end Go.Proofs.YtpfpjbglpibdoaaGreatDoor

/- Chapter 5, the reference: the error of a stand. -/
namespace Go.Proofs.YtpfpjbglpibdoaaGreatDoor
open Go Go.RowKit Go.Oche Go.Proofs

end Go.Proofs.YtpfpjbglpibdoaaGreatDoor

/- Chapter 5, the reference's visits: plain part, and the row that grows. -/
namespace Go.Proofs.YtpfpjbglpibdoaaGreatDoor
open Go Go.RowKit Go.Oche Go.Proofs

def visRow (x : En) (d : Nat) : List Value := [.int .i64 x.left, .bool x.inn, .bool x.won, .int .i64 (d : Int)]
def newR (l : Lg) (start : Std) (d k : Nat) (now : Std) : List (List Value) := (from5 l k now).map fun p => visRow (noBust start p.1) (p.2 + d)
def hitR (l : Lg) (start : Std) (d k : Nat) (now : Std) (h : Ht) : List (List Value) := if (dart5 l now h).2 = true then newR l start (d + 1) k (dart5 l now h).1.std else [visRow (noBust start (dart5 l now h).1) (d + 1)]
section
variable {l : Lg} {start now : Std} {d k : Nat}
def preR (l : Lg) (start : Std) (d k : Nat) (now : Std) (i : Nat) : List (List Value) := ((hits5 l).take (i + 1)).flatMap (hitR l start d k now)
end
theorem grown_next {w w1 w2 : World} {o o1 : Option Nat} (h : w.grownBy w1 o) (h1 : w1.grownBy w2 o1) (ho : ∀ g, o1 = some g → o = some g ∨ w.heap.size ≤ g) : w.grownBy w2 o :=
  ⟨h1.os.trans h.os, h1.tape.trans h.tape, h1.output.trans h.output, Nat.le_trans h.size h1.size, fun q hq hn => (h1.block q (Nat.lt_of_lt_of_le hq h.size) fun e => by
    rcases ho q e.symm with z | z
    · exact hn z.symm
    · omega).trans (h.block q hq hn)⟩
structure MoSt (base : Nat) (w1 : World) (v0 v : Value) (rows : List (List Value)) (wr : World) : Prop where
  row : wr.ownsRow base 44 4 v rows.length rows.flatten
  gr : w1.grownBy wr v0.ownBlock
  at_ : ∀ g, v.ownBlock = some g → v0.ownBlock = some g ∨ w1.heap.size ≤ g
section
variable {base : Nat} {w1 wr wr' : World} {v0 v v' : Value} {rows rows' : List (List Value)}
theorem MoSt.below (h : MoSt base w1 v0 v rows wr) (hb : Below wr.heap.size wr wr') : MoSt base w1 v0 v rows wr' := ⟨ownsN_below h.row hb, grown_next h.gr (grownBy_below none hb) (fun g e => by cases e), h.at_⟩
theorem MoSt.next (h : MoSt base w1 v0 v rows wr) (ho : wr'.ownsRow base 44 4 v' rows'.length rows'.flatten) (hg : wr.grownBy wr' v.ownBlock) (hat : ∀ g, v'.ownBlock = some g → v.ownBlock = some g ∨ wr.heap.size ≤ g) : MoSt base w1 v0 v' rows' wr' :=
  ⟨ho, grown_next h.gr hg h.at_, fun g e => (hat g e).elim (h.at_ g) fun z => .inr (Nat.le_trans h.gr.size z)⟩
theorem MoSt.enter {w : World} (hb : Below w.heap.size w w1) (h : MoSt base w1 v0 v rows wr) : MoSt base w v0 v rows wr :=
  ⟨h.row, grown_next (grownBy_below v0.ownBlock hb) h.gr fun g e => .inl e, fun g e => (h.at_ g e).elim .inl fun z => .inr (Nat.le_trans hb.size z)⟩
theorem MoSt.block (h : MoSt base w1 v0 v rows wr) {q : Nat} (hq : q < w1.heap.size) (hn : v0.ownBlock ≠ some q) : wr.heap[q]? = w1.heap[q]? := h.gr.block q hq fun e => hn e.symm
theorem MoSt.apart (h : MoSt base w1 v0 v rows wr) {q : Nat} (hq : q < w1.heap.size) (hn : v0.ownBlock ≠ some q) : v.ownBlock ≠ some q := fun e => (h.at_ q e).elim hn fun z => by omega
end
end Go.Proofs.YtpfpjbglpibdoaaGreatDoor
