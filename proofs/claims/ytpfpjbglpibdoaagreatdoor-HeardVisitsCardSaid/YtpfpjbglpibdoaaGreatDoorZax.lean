/- The texts RD, in build order. -/
import Derived.Test.YtpfpjbglpibdoaaGreatDoorZaw
import Derived.Laws.NewBlocks
import Derived.Laws.CopyOwn
import Derived.Laws.Tables

/- Chapter 5, the reference: all visits from a stand. -/
namespace Go.Proofs.YtpfpjbglpibdoaaGreatDoor
open Go Go.RowKit Go.Oche Go.Proofs

def MoreC (l : Lg) (k : Nat) : Prop := ∀ (S : Nat → Prop) (bv : Value) (start now : Std) (d : Nat) (v : Value) (rows : List (List Value)) (base : Nat) (w : World), d + k = 3 → 0 ≤ now.left ∧ now.left ≤ 1001 → Sl S w bv (ints l.beds) → (∀ q, S q → q < base) →
    w.ownsRow base 44 4 v rows.length rows.flatten → base ≤ w.heap.size → rows.length + (newR l start d k now).length ≤ 1000 →
    Calls Tryz.prog 56 #[legV l bv, stV start, stV now, .int .i64 (d : Int), v] w fun e w' => ∃ v', e = .returned v' ∧ MoSt base w v v' (rows ++ newR l start d k now) w'
def visRows (l : Lg) (s : Std) : List (List Value) := (vis5 l s).map fun p => visRow p.1 p.2
theorem visRows_eq (l : Lg) (s : Std) : visRows l s = newR l s 0 3 s := by
  unfold visRows newR vis5
  rw [List.map_map]
  rfl
set_option maxRecDepth 100000 in
set_option maxHeartbeats 1000000 in
theorem refVisits_any {S : Nat → Prop} (l : Lg) (hv : Valid l) (h6 : l.beds.length ≤ 6) (bv : Value) (s : Std) (w : World) (hsb : 0 ≤ s.left ∧ s.left ≤ 1001) (hs : Sl S w bv (ints l.beds)) :
    Calls Tryz.prog 20 #[legV l bv, stV s] w fun e w' => ∃ v, e = .returned v ∧ Below w.heap.size w w' ∧ w'.ownsRow w.heap.size 44 4 v (visRows l s).length (visRows l s).flatten := by
  have hm := more_any l hv h6 3 (by decide)
  obtain ⟨sl, si⟩ := s
  simp only at hsb
  obtain ⟨w1, hw1⟩ : ∃ x, (w.alloc (.cells #[.int .i64 l.start, .int .i64 l.gin, .int .i64 l.gout, bv, .int .i64 l.players, .int .i64 l.turns, .bool l.won] 27)).alloc (.cells #[.int .i64 sl, .bool si] 29) = x := ⟨_, rfl⟩
  have hb1 : Below w.heap.size w w1 := by rw [← hw1]; exact (aB _ _).alloc (by simp) _
  obtain ⟨N, hN⟩ : ∃ N, w.heap.size = N := ⟨_, rfl⟩
  have k : w1.heap[N]? = some (.cells #[.int .i64 l.start, .int .i64 l.gin, .int .i64 l.gout, bv, .int .i64 l.players, .int .i64 l.turns, .bool l.won] 27 (0, 0)) := by rw [← hw1, ← hN]; exact (Below.heap_alloc _ _ _ (by simp)).trans (World.alloc_heap_new _ _)
  have k2 : w1.heap[N + 1]? = some (.cells #[.int .i64 sl, .bool si] 29 (0, 0)) := by
    rw [← hw1, ← hN]
    have := World.alloc_heap_new (w.alloc (.cells #[.int .i64 l.start, .int .i64 l.gin, .int .i64 l.gout, bv, .int .i64 l.players, .int .i64 l.turns, .bool l.won] 27)) (.cells #[.int .i64 sl, .bool si] 29)
    simp only [World.size_alloc] at this
    exact this
  have c0 : w1.cell? ⟨N, 0, none⟩ = some (.int .i64 l.start) := by rw [cell_of_heap k]; rfl
  have c1 : w1.cell? ⟨N, 1, none⟩ = some (.int .i64 l.gin) := by rw [cell_of_heap k]; rfl
  have c2 : w1.cell? ⟨N, 2, none⟩ = some (.int .i64 l.gout) := by rw [cell_of_heap k]; rfl
  have c3 : w1.cell? ⟨N, 3, none⟩ = some bv := by rw [cell_of_heap k]; rfl
  have c4 : w1.cell? ⟨N, 4, none⟩ = some (.int .i64 l.players) := by rw [cell_of_heap k]; rfl
  have c5 : w1.cell? ⟨N, 5, none⟩ = some (.int .i64 l.turns) := by rw [cell_of_heap k]; rfl
  have c6 : w1.cell? ⟨N, 6, none⟩ = some (.bool l.won) := by rw [cell_of_heap k]; rfl
  have s0 : w1.cell? ⟨N + 1, 0, none⟩ = some (.int .i64 sl) := by rw [cell_of_heap k2]; rfl
  have s1 : w1.cell? ⟨N + 1, 1, none⟩ = some (.bool si) := by rw [cell_of_heap k2]; rfl
  have hs1 : w1.heap.size = N + 2 := by rw [← hw1]; simp; omega
  have hcall := hm (fun q => S q ∧ q < w.heap.size) bv ⟨sl, si⟩ ⟨sl, si⟩ 0 (.slice (some ⟨w1.heap.size, 0, none⟩) 0 0) [] w.heap.size (w1.alloc (.cells #[] 44)) rfl hsb ((hs.lt.below hb1).below (aB _ _)) (fun q h => h.2) (World.ownsRow_made w1 #[] 0 hb1.size (Nat.zero_le _) (by simp)) (by simp; omega) (by have := new_bd (l := l) (start := ⟨sl, si⟩) (d := 0) (k := 3) (now := ⟨sl, si⟩) h6 (by decide); simp; omega)
  rw [← visRows_eq, List.nil_append] at hcall
  have HCALL := Lib.hid hcall
  have HB := Lib.hid hb1
  have HW := Lib.hid hw1
  have HN := Lib.hid hN
  have hN1 : N + 1 < w1.heap.size := by omega
  unfold legV legA stV
  simp only
  clear hcall hb1 hw1 k k2 hm hs hs1
  go_enter Tryz.func20, Tryz.ntmps20
  go_upto_region 1 with fail
  rw [HW.out]
  clear hN
  go_wp2_with fail
  refine HCALL.out.mono ?_
  rintro e w2 ⟨v, rfl, hmo⟩
  have HR : Hid (w2.ownsRow w.heap.size 44 4 v (visRows l ⟨sl, si⟩).length (visRows l ⟨sl, si⟩).flatten) := Lib.hid hmo.row
  have HB2 : Hid (Below w.heap.size w w2) := Lib.hid ((bThen HB.out (aB w1 _)).trans (below_grownBy hmo.gr (by have := HB.out.size; simp; omega) fun q hq => by
    have e : w1.heap.size = q := by simpa [Value.ownBlock] using hq
    have := HB.out.size; omega))
  clear hmo HCALL
  go_wp2
  go_returns
  exact ⟨_, rfl, HB2.out, HR.out⟩
end Go.Proofs.YtpfpjbglpibdoaaGreatDoor
