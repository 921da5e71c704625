/- The texts RU, QD, QE, in build order. -/
import Derived.Test.YtpfpjbglpibdoaaGreatDoorZbb
import Derived.Deep.MidRow

/- Chapter 5, the reference: Can and Smaller. -/
namespace Go.Proofs.YtpfpjbglpibdoaaGreatDoor
open Go Go.RowKit Go.Oche Go.Proofs

end Go.Proofs.YtpfpjbglpibdoaaGreatDoor

/- Chapter 5: reports, in, holds. -/
namespace Go.Proofs.YtpfpjbglpibdoaaGreatDoor
open Go Go.RowKit Go.Oche Go.Proofs

end Go.Proofs.YtpfpjbglpibdoaaGreatDoor

/- Chapter 5: holds; what a thrown leg and its reports have. -/
namespace Go.Proofs.YtpfpjbglpibdoaaGreatDoor
open Go Go.RowKit Go.Oche Go.Proofs

def SpansAt (W : World) (g n : Nat) (f : Nat → Int × Int) : Prop := W.heap[g]? = some (.cells (spFlat ((List.range n).map f)).toArray 48 (0, 0))
theorem SpansAt.below {W W' : World} {g n : Nat} {f : Nat → Int × Int} (h : SpansAt W g n f) (hb : Below W.heap.size W W') : SpansAt W' g n f := (hb.block g (Array.getElem?_eq_some_iff.1 h).1).trans h
theorem SpansAt.cells {W : World} {g n : Nat} {f : Nat → Int × Int} (h : SpansAt W g n f) {i : Nat} (hi : i < n) : W.cell? ⟨g, i * 2, none⟩ = some (.int .i64 (f i).1) ∧ W.cell? ⟨g, i * 2 + 1, none⟩ = some (.int .i64 (f i).2) := by
  have h2 := spFlat_at (L := (List.range n).map f) (k := i) (by simpa using hi)
  rw [cell_of_heap h, cell_of_heap h]
  simpa using h2
def InSp (out : List Sp) (f1 f2 f3 : Nat → Int × Int) : Prop := ∀ (i : Nat) (sp : Sp), out[i]? = some sp → ((f1 i).1 ≤ sp.score ∧ sp.score ≤ (f1 i).2) ∧ ((f2 i).1 ≤ sp.en.left ∧ sp.en.left ≤ (f2 i).2) ∧ ((f3 i).1 ≤ (sp.darts : Int) ∧ (sp.darts : Int) ≤ (f3 i).2)
/-! ## What a thrown leg and its reports have -/
section
variable {l : Lg}
end
def scF (l : Lg) (list : List Rp) (t : Nat) : Int × Int := (trL (keptL l (allS list) t)).score
def leF (l : Lg) (list : List Rp) (t : Nat) : Int × Int := (trL (keptL l (allS list) t)).left
def daF (l : Lg) (list : List Rp) (t : Nat) : Int × Int := (trL (keptL l (allS list) t)).darts
section
variable (x : Thr) (most : Nat)
structure RepsOk (list : List Rp) : Prop where
  len : list.length ≤ 90
  bad : ∀ r ∈ list, badR (legT x most).turns r = false
theorem RepsOk.snoc {list : List Rp} (h : RepsOk x most list) (hl : list.length ≤ 89) {r : Rp} (hr : badR (legT x most).turns r = false) : RepsOk x most (list ++ [r]) :=
  ⟨by simp; omega, fun y hy => (List.mem_append.1 hy).elim (h.bad y) fun hy => by rw [List.mem_singleton] at hy; rw [hy]; exact hr⟩
end
end Go.Proofs.YtpfpjbglpibdoaaGreatDoor
