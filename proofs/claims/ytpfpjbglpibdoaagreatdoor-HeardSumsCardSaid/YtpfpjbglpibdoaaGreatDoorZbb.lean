/- The texts RD, in build order. -/
import Derived.Test.YtpfpjbglpibdoaaGreatDoorZba
import Derived.Laws.NewBlocks
import Derived.Laws.CopyOwn
import Derived.Laws.Tables

/- Chapter 5, the reference: all visits from a stand. -/
namespace Go.Proofs.YtpfpjbglpibdoaaGreatDoor
open Go Go.RowKit Go.Oche Go.Proofs

def MoreC (l : Lg) (k : Nat) : Prop := ∀ (S : Nat → Prop) (bv : Value) (start now : Std) (d : Nat) (v : Value) (rows : List (List Value)) (base : Nat) (w : World), d + k = 3 → 0 ≤ now.left ∧ now.left ≤ 1001 → Sl S w bv (ints l.beds) → (∀ q, S q → q < base) →
    w.ownsRow base 44 4 v rows.length rows.flatten → base ≤ w.heap.size → rows.length + (newR l start d k now).length ≤ 1000 →
    Calls Tryz.prog 56 #[legV l bv, stV start, stV now, .int .i64 (d : Int), v] w fun e w' => ∃ v', e = .returned v' ∧ MoSt base w v v' (rows ++ newR l start d k now) w'
def visRows (l : Lg) (s : Std) : List (List Value) := (vis5 l s).map fun p => visRow p.1 p.2
end Go.Proofs.YtpfpjbglpibdoaaGreatDoor
