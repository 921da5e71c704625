/- The texts RT0, RT, in build order. -/
import Derived.Test.YtpfpjbglpibdoaaGreatDoorZba

/- Chapter 5, the reference's Truth: plain part; a block of spans, turn by turn. -/
namespace Go.Proofs.YtpfpjbglpibdoaaGreatDoor
open Go Go.RowKit Go.Oche Go.Proofs

def row6 (x : Tr) : List Value := [.int .i64 x.score.1, .int .i64 x.score.2, .int .i64 x.left.1, .int .i64 x.left.2, .int .i64 x.darts.1, .int .i64 x.darts.2]
def trBlk (T : Nat) (f : Nat → Tr) : List Value := ((List.range T).map fun t => row6 (f t)).flatten
def updT (f : Nat → Tr) (t0 : Nat) (x : Tr) : Nat → Tr := fun t => if t = t0 then x else f t
section
variable {l : Lg} {list : List Rp} {P p i T : Nat}
def trT (l : Lg) (list : List Rp) (P p i : Nat) (t : Nat) : Tr := if dnT P p i t = true then trL (keptL l (allS list) t) else trL []
end
end Go.Proofs.YtpfpjbglpibdoaaGreatDoor

/- Chapter 5, the reference: the spans of all turns. -/
namespace Go.Proofs.YtpfpjbglpibdoaaGreatDoor
open Go Go.RowKit Go.Oche Go.Proofs

theorem info_bl5 : (Tryz.prog.info? 4).map (fun i => (i.zero, i.size, i.bytes)) = some (some (.bool false), 1, 1) := by kernel_rfl
theorem make_bls (n : Nat) (hn : n ≤ 1000) (w : World) : (Instr.makeSlice 72 (.int .i64 n) (.int .i64 n)).run Tryz.prog w = .ok (.slice (some ⟨w.heap.size, 0, none⟩) n n) (w.alloc (.cells ((List.replicate n false).map Value.bool).toArray 4)) := by
  obtain ⟨i, hi, hz, hs, hb⟩ := info_parts info_bl5
  have := run_make (P := Tryz.prog) w 72 4 i _ Tryz.underlying72 hi hz .i64 .i64 (n : Int) (n : Int) (by omega) (by omega) (by rw [hb]; omega) (by omega)
  rw [hs] at this
  have e : madeCells (Value.bool false).cells n = Array.replicate n (Value.bool false) := by
    refine Array.ext (by simp [madeCells]) fun i h1 h2 => ?_
    simp [madeCells, Value.cells, Nat.mod_one]
  simpa [e] using this
section
variable {l : Lg} {said : Int → List Rp} {ks : List (List Sp)} {p P T i : Nat}
theorem OutR.chg {M b : Nat} {W W' : World} {v : Value} {xss : List (List Sp)} {vs : List Value} (h : OutR M W v xss vs) (hc : Chg (fun z => z = b) W W') (hb : b < M) : OutR M W' v xss vs :=
  ⟨h.len, ownsN_kept h.row fun g hg => hc.block g (h.row.lt g hg).2 (by have := (h.row.lt g hg).1; omega), fun i u xs hu hx => ownsN_kept (h.rows i u xs hu hx) fun g hg => hc.block g ((h.rows i u xs hu hx).lt g hg).2 (by have := ((h.rows i u xs hu hx).lt g hg).1; omega)⟩
end
def truB (l : Lg) (list : List Rp) : Bool := (List.range l.players.toNat).all fun p => (playerL l (allS list) (p : Nat)).isSome
end Go.Proofs.YtpfpjbglpibdoaaGreatDoor
