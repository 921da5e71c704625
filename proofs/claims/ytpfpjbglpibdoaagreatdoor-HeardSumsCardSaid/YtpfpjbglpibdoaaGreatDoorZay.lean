/- The texts WA, CpyO, QD, in build order. -/
import Derived.Test.YtpfpjbglpibdoaaGreatDoorZax
import Derived.Laws.NewBlocks
import Derived.Deep.MidRow

/- Chapter 5: the statements' copies and comparisons: own, told, same, heardAs. -/
namespace Go.Proofs.YtpfpjbglpibdoaaGreatDoor
open Go Go.RowKit Go.Oche Go.Proofs

theorem ints_one (l : List Int) : ∀ u ∈ ints l, u.oneCell' = true := fun u hu => by
  obtain ⟨x, _, rfl⟩ := List.mem_map.1 hu; rfl
theorem info_bed5 : (Tryz.prog.info? 95).map (fun i => (i.zero, i.size, i.bytes)) = some (some (.int .i64 0), 1, 8) := by kernel_rfl
set_option maxRecDepth 100000 in
set_option maxHeartbeats 1000000 in
theorem own_any {S : Nat → Prop} (l : Lg) (bv : Value) (w : World) (hs : Sl S w bv (ints l.beds)) (hlen : l.beds.length ≤ 1000) :
    Calls Tryz.prog 14 #[legV l bv] w fun e w' => ∃ bv', e = .returned (legV l bv') ∧ Below w.heap.size w w' ∧ Sl (fun q => w.heap.size ≤ q) w' bv' (ints l.beds) := by
  obtain ⟨a, cap, rfl, h2, h3⟩ := hs.form
  simp only [ints_length] at *
  obtain ⟨w1, hw1⟩ : ∃ x, (w.alloc (.cells #[.int .i64 l.start, .int .i64 l.gin, .int .i64 l.gout, .slice a l.beds.length cap, .int .i64 l.players, .int .i64 l.turns, .bool l.won] 27)).alloc (.cells #[.int .i64 0, .int .i64 0, .int .i64 0, .slice none 0 0, .int .i64 0, .int .i64 0, .bool false] 27) = x := ⟨_, rfl⟩
  have hb1 : Below w.heap.size w w1 := by rw [← hw1]; exact (aB _ _).alloc (by simp) _
  obtain ⟨N, hN⟩ : ∃ N, w.heap.size = N := ⟨_, rfl⟩
  have k : w1.heap[N]? = some (.cells #[.int .i64 l.start, .int .i64 l.gin, .int .i64 l.gout, .slice a l.beds.length cap, .int .i64 l.players, .int .i64 l.turns, .bool l.won] 27 (0, 0)) := by rw [← hw1, ← hN]; exact (Below.heap_alloc _ _ _ (by simp)).trans (World.alloc_heap_new _ _)
  have kz : w1.heap[N + 1]? = some (.cells #[.int .i64 0, .int .i64 0, .int .i64 0, .slice none 0 0, .int .i64 0, .int .i64 0, .bool false] 27 (0, 0)) := by
    rw [← hw1, ← hN]
    have := World.alloc_heap_new (w.alloc (.cells #[.int .i64 l.start, .int .i64 l.gin, .int .i64 l.gout, .slice a l.beds.length cap, .int .i64 l.players, .int .i64 l.turns, .bool l.won] 27)) (.cells #[.int .i64 0, .int .i64 0, .int .i64 0, .slice none 0 0, .int .i64 0, .int .i64 0, .bool false] 27)
    simp only [World.size_alloc] at this
    exact this
  have hs1 : w1.heap.size = N + 2 := by rw [← hw1]; simp; omega
  have c3 : w1.cell? ⟨N, 3, none⟩ = some (.slice a l.beds.length cap) := by rw [cell_of_heap k]; rfl
  have HS := Lib.hid (Sl.toN (hs.below hb1))
  have HB := Lib.hid hb1
  have HW := Lib.hid hw1
  have HK := Lib.hid k
  have HKZ := Lib.hid kz
  have HN := Lib.hid hN
  have HZ1 := Lib.hid hs1
  have hN1 : N < w1.heap.size := by omega
  clear hw1 hb1 k kz hs hs1
  unfold legV legA
  rw [hN]
  clear hN
  go_enter Tryz.func14, Tryz.ntmps14
  go_upto_region 1 with fail
  rw [HW.out, HN.out]
  go_wp2_with (at_builtin; refine wpList_copy rfl (.tmp 3) (.tmp 5) 25 rfl 95 (.int .i64 0) 1 8 Tryz.underlying25 info_bed5 rfl (by decide) rfl _ ((ints l.beds).map fun x => [x]) rfl HS.out (fun r hr u hu => by obtain ⟨x, hx, rfl⟩ := List.mem_map.1 hr; rw [List.mem_singleton] at hu; subst hu; exact ints_one l.beds _ hx) (by simp; omega) (by decide) ?_)
  intro v2 w2 hb2 hs2
  obtain ⟨a2, c2, rfl, -, -⟩ := hs2.form
  simp only [List.length_map, ints_length] at hs2 ⊢
  have hsl2 := SlN.to1 hs2
  have hk2 := (hb2.block N hN1).trans HK.out
  have hz2 := (hb2.block (N + 1) (by have := HZ1.out; omega)).trans HKZ.out
  have hsz2 := hb2.size
  have c3 : w2.cell? ⟨N, 3, none⟩ = some (.slice a l.beds.length cap) := by rw [cell_of_heap hk2]; rfl
  have f3 : w2.frozen? ⟨N, 3, none⟩ = false := frozen_of_heap hk2
  obtain ⟨w3, hw3⟩ : ∃ x, w2.setCell ⟨N, 3, none⟩ (.slice a2 l.beds.length c2) = x := ⟨_, rfl⟩
  have hk3 : w3.heap[N]? = some (.cells #[.int .i64 l.start, .int .i64 l.gin, .int .i64 l.gout, .slice a2 l.beds.length c2, .int .i64 l.players, .int .i64 l.turns, .bool l.won] 27 (0, 0)) := by rw [← hw3]; exact heap_setCell_at hk2 _
  have hz3 : w3.heap[N + 1]? = some (.cells #[.int .i64 0, .int .i64 0, .int .i64 0, .slice none 0 0, .int .i64 0, .int .i64 0, .bool false] 27 (0, 0)) := by rw [← hw3, Below.heap_setCell _ _ _ _ (show N + 1 ≠ N by omega)]; exact hz2
  have hsl3 : Sl (fun q => w1.heap.size ≤ q) w3 (.slice a2 l.beds.length c2) (ints l.beds) := hsl2.cells fun b o hb _ => by rw [← hw3]; exact World.cell?_setCell_other _ _ _ _ (by intro e; have e2 : N = b := congrArg Addr.block e; omega)
  have hb3 : Below w.heap.size w w3 := by rw [← hw3]; exact (HB.out.trans (hb2.mono HB.out.size)).trans ((Below.refl _ _).setCell (by rw [HN.out]; exact Nat.le_refl _) _)
  have hsz3 : w3.heap.size = w2.heap.size := by rw [← hw3]; simp
  have l0 : w3.cell? ⟨N, 0, none⟩ = some (.int .i64 l.start) := by rw [cell_of_heap hk3]; rfl
  have z0 : w3.cell? ⟨N + 1, 0, none⟩ = some (.int .i64 0) := by rw [cell_of_heap hz3]; rfl
  have fz0 : w3.frozen? ⟨N + 1, 0, none⟩ = false := frozen_of_heap hz3
  have l1 : w3.cell? ⟨N, 1, none⟩ = some (.int .i64 l.gin) := by rw [cell_of_heap hk3]; rfl
  have z1 : w3.cell? ⟨N + 1, 1, none⟩ = some (.int .i64 0) := by rw [cell_of_heap hz3]; rfl
  have fz1 : w3.frozen? ⟨N + 1, 1, none⟩ = false := frozen_of_heap hz3
  have l2 : w3.cell? ⟨N, 2, none⟩ = some (.int .i64 l.gout) := by rw [cell_of_heap hk3]; rfl
  have z2 : w3.cell? ⟨N + 1, 2, none⟩ = some (.int .i64 0) := by rw [cell_of_heap hz3]; rfl
  have fz2 : w3.frozen? ⟨N + 1, 2, none⟩ = false := frozen_of_heap hz3
  have l3 : w3.cell? ⟨N, 3, none⟩ = some (.slice a2 l.beds.length c2) := by rw [cell_of_heap hk3]; rfl
  have z3 : w3.cell? ⟨N + 1, 3, none⟩ = some (.slice none 0 0) := by rw [cell_of_heap hz3]; rfl
  have fz3 : w3.frozen? ⟨N + 1, 3, none⟩ = false := frozen_of_heap hz3
  have l4 : w3.cell? ⟨N, 4, none⟩ = some (.int .i64 l.players) := by rw [cell_of_heap hk3]; rfl
  have z4 : w3.cell? ⟨N + 1, 4, none⟩ = some (.int .i64 0) := by rw [cell_of_heap hz3]; rfl
  have fz4 : w3.frozen? ⟨N + 1, 4, none⟩ = false := frozen_of_heap hz3
  have l5 : w3.cell? ⟨N, 5, none⟩ = some (.int .i64 l.turns) := by rw [cell_of_heap hk3]; rfl
  have z5 : w3.cell? ⟨N + 1, 5, none⟩ = some (.int .i64 0) := by rw [cell_of_heap hz3]; rfl
  have fz5 : w3.frozen? ⟨N + 1, 5, none⟩ = false := frozen_of_heap hz3
  have l6 : w3.cell? ⟨N, 6, none⟩ = some (.bool l.won) := by rw [cell_of_heap hk3]; rfl
  have z6 : w3.cell? ⟨N + 1, 6, none⟩ = some (.bool false) := by rw [cell_of_heap hz3]; rfl
  have fz6 : w3.frozen? ⟨N + 1, 6, none⟩ = false := frozen_of_heap hz3
  obtain ⟨w4, hw4⟩ : ∃ x, ((((((w3.setCell ⟨N + 1, 0, none⟩ (.int .i64 l.start)).setCell ⟨N + 1, 1, none⟩ (.int .i64 l.gin)).setCell ⟨N + 1, 2, none⟩ (.int .i64 l.gout)).setCell ⟨N + 1, 3, none⟩ (.slice a2 l.beds.length c2)).setCell ⟨N + 1, 4, none⟩ (.int .i64 l.players)).setCell ⟨N + 1, 5, none⟩ (.int .i64 l.turns)).setCell ⟨N + 1, 6, none⟩ (.bool l.won) = x := ⟨_, rfl⟩
  have hk4 : w4.heap[N + 1]? = some (.cells #[.int .i64 l.start, .int .i64 l.gin, .int .i64 l.gout, .slice a2 l.beds.length c2, .int .i64 l.players, .int .i64 l.turns, .bool l.won] 27 (0, 0)) := by
    rw [← hw4]
    exact heap_setCell_at (heap_setCell_at (heap_setCell_at (heap_setCell_at (heap_setCell_at (heap_setCell_at (heap_setCell_at hz3 _) _) _) _) _) _) _
  have oth : ∀ q, q ≠ N + 1 → w4.heap[q]? = w3.heap[q]? := fun q hq => by
    rw [← hw4, Below.heap_setCell _ _ _ _ (by simpa using hq), Below.heap_setCell _ _ _ _ (by simpa using hq), Below.heap_setCell _ _ _ _ (by simpa using hq), Below.heap_setCell _ _ _ _ (by simpa using hq), Below.heap_setCell _ _ _ _ (by simpa using hq), Below.heap_setCell _ _ _ _ (by simpa using hq), Below.heap_setCell _ _ _ _ (by simpa using hq)]
  have HS4 : Hid (Sl (fun q => w.heap.size ≤ q) w4 (.slice a2 l.beds.length c2) (ints l.beds)) := Lib.hid (by
    refine (hsl3.cells fun b o hb hs => ?_).mono fun q hq => by have := HB.out.size; omega
    obtain ⟨x, hx⟩ := Option.isSome_iff_exists.1 hs
    exact World.cell?_of_block (w := w3) (oth b (by have := HZ1.out; omega)))
  have HB4 : Hid (Below w.heap.size w w4) := Lib.hid (by
    rw [← hw4]
    have hle : w.heap.size ≤ N + 1 := by rw [HN.out]; omega
    exact hb3.trans ((((((((Below.refl _ _).setCell hle _).setCell hle _).setCell hle _).setCell hle _).setCell hle _).setCell hle _).setCell hle _))
  have r0 : w4.cell? ⟨N + 1, 0, none⟩ = some (.int .i64 l.start) := by rw [cell_of_heap hk4]; rfl
  have r1 : w4.cell? ⟨N + 1, 1, none⟩ = some (.int .i64 l.gin) := by rw [cell_of_heap hk4]; rfl
  have r2 : w4.cell? ⟨N + 1, 2, none⟩ = some (.int .i64 l.gout) := by rw [cell_of_heap hk4]; rfl
  have r3 : w4.cell? ⟨N + 1, 3, none⟩ = some (.slice a2 l.beds.length c2) := by rw [cell_of_heap hk4]; rfl
  have r4 : w4.cell? ⟨N + 1, 4, none⟩ = some (.int .i64 l.players) := by rw [cell_of_heap hk4]; rfl
  have r5 : w4.cell? ⟨N + 1, 5, none⟩ = some (.int .i64 l.turns) := by rw [cell_of_heap hk4]; rfl
  have r6 : w4.cell? ⟨N + 1, 6, none⟩ = some (.bool l.won) := by rw [cell_of_heap hk4]; rfl
  have HW3 := Lib.hid hw3
  have HW4 := Lib.hid hw4
  clear hb2 hs2 hsl2 hk2 hz2 hk3 hz3 hsl3 hb3 hk4 oth hw3 hw4
  go_upto_region 2 with fail
  rw [HW3.out]
  go_wp2
  rw [HW4.out]
  refine bodyPost_ret (v := legV l (.slice a2 l.beds.length c2)) (by simp [results, Tryz.results14, go_sem, r0, r1, r2, r3, r4, r5, r6, legV, legA]) rfl ?_
  exact ⟨_, rfl, by rw [← HN.out]; exact HB4.out, by have := HS4.out; rw [HN.out] at this; exact this⟩
end Go.Proofs.YtpfpjbglpibdoaaGreatDoor

/- append([]T{}, l...): a copy, as a row of one's own. -/
namespace Go.Oche
open Go Go.RowKit
section
variable {P : Program} {w : World}
theorem opOK_copyOwn {o : Oper} {a : Act} (s x : Operand) (t : TypeId) (ho : o.op = .call { callee := .builtin .append, args := #[s, x], argTypes := #[t, t] })
    (base : Nat) (e : TypeId) (z : Value) (size bytes : Nat) (ht : P.underlying t = some (.slice e)) (hi : (P.info? e).map (fun i => (i.zero, i.size, i.bytes)) = some (some z, size, bytes)) (hzs : z.cells.size = size) (hsz : 0 < size)
    (g : Nat) (hs : a.eval s = .slice (some ⟨g, 0, none⟩) 0 0) (hown : w.ownsRow base e size (.slice (some ⟨g, 0, none⟩) 0 0) 0 []) {S : Nat → Prop} (v : Value) (rows : List (List Value)) (hx : a.eval x = v) (hsl : SlN size S w v rows) (h1 : ∀ r ∈ rows, ∀ u ∈ r, u.oneCell' = true)
    (h63 : rows.length ≤ 100000) (hbytes : bytes ≤ 1000) (hbase : base ≤ w.heap.size) :
    opOK P o a w (fun v' w' => Below base w w' ∧ w'.ownsRow base e size v' rows.length rows.flatten) := by
  obtain ⟨i, hi', hz0, hz1, hz2⟩ := info_parts hi
  obtain ⟨al, cap, rfl, hc1, hc2, hcell⟩ := hsl
  by_cases h0 : rows = []
  · subst h0
    unfold opOK execOp
    simp only [ho, resolve, invoke, builtin, Sem.run_bind, Sem.run_pure, Result.andThen_ok, List.map_toArray, List.map_cons, List.map_nil, hs, hx, List.length_nil, run_append_empty t o.type e i z ht hi' hz0]
    exact ⟨⟨rfl, rfl, rfl, Nat.le_refl _, fun _ _ => rfl⟩, hown⟩
  · have hlen : 0 < rows.length := List.length_pos_iff.2 h0
    have hr : ∀ r ∈ rows, r.length = size := fun r hr => by
      obtain ⟨i, hi⟩ := List.getElem?_of_mem hr
      exact (hcell i r hi).1
    obtain ⟨_, b, off, rfl, _, _⟩ := hcell 0 rows[0] (List.getElem?_eq_getElem hlen)
    have hfl : rows.flatten.length = rows.length * size := flat_len hr
    refine opOK_mono (opOK_appendN_at s x t ho base e z size bytes ht hi hzs hsz _ 0 [] hs hown b off rows.length cap rows.flatten hx hfl (fun j u hj => ?_) (fun u hu => ?_) (by omega) hbytes hbase) ?_
    · have hjl : j < rows.length * size := by rw [← hfl]; exact (List.getElem?_eq_some_iff.1 hj).1
      have hi2 : j / size < rows.length := (Nat.div_lt_iff_lt_mul hsz).2 hjl
      have hr2 := hr rows[j / size] (List.getElem_mem hi2)
      have hm : j % size < size := Nat.mod_lt _ hsz
      obtain ⟨_, b', off', hal, _, hc⟩ := hcell (j / size) _ (List.getElem?_eq_getElem hi2)
      cases hal
      have h3 := SlN.of_owns.flat_at (n := 0) (c := 0) (rows := []) hr (List.getElem?_eq_getElem hi2) (List.getElem?_eq_getElem (by rw [hr2]; exact hm))
      have hj2 : j / size * size + j % size = j := by rw [Nat.mul_comm]; exact Nat.div_add_mod j size
      rw [hj2, hj] at h3
      have h4 := hc (j % size) _ (List.getElem?_eq_getElem (by rw [hr2]; exact hm))
      rw [Nat.add_assoc, hj2] at h4
      rw [h4, h3]
    · obtain ⟨r, hr3, hu⟩ := List.mem_flatten.1 hu
      exact h1 r hr3 u hu
    · rintro v' w' ⟨hown', hg, _⟩
      rw [Nat.zero_add, List.nil_append] at hown'
      refine ⟨below_grownBy hg hbase fun k hk => ?_, hown'⟩
      cases hk
      rcases hown.2 with ⟨h, _⟩ | ⟨g', c', cur, h, hb, _⟩
      · cases h
      · cases h; exact hb
theorem wpList_copyOwn {ops : Array Oper} {rest : List Oper} {Q : Exit → Act → World → Prop} {o : Oper} {a : Act} (hg : o.guard = none) (s x : Operand) (t : TypeId) (ho : o.op = .call { callee := .builtin .append, args := #[s, x], argTypes := #[t, t] })
    (e : TypeId) (z : Value) (size bytes : Nat) (ht : P.underlying t = some (.slice e)) (hi : (P.info? e).map (fun i => (i.zero, i.size, i.bytes)) = some (some z, size, bytes)) (hzs : z.cells.size = size) (hsz : 0 < size)
    (hs : a.eval s = .slice (some ⟨w.heap.size, 0, none⟩) 0 0) {S : Nat → Prop} (v : Value) (rows : List (List Value)) (hx : a.eval x = v) (hsl : SlN size S w v rows) (h1 : ∀ r ∈ rows, ∀ u ∈ r, u.oneCell' = true)
    (h63 : rows.length ≤ 100000) (hbytes : bytes ≤ 1000)
    (hK : ∀ v' w', Below w.heap.size w w' → w'.ownsRow w.heap.size e size v' rows.length rows.flatten → wpList P ops Q rest (a.put o.dst v') w') : wpList P ops Q (o :: rest) a (w.alloc (.cells #[] e)) :=
  wpList_opOK hg (opOK_copyOwn s x t ho w.heap.size e z size bytes ht hi hzs hsz w.heap.size hs (World.ownsRow_made w #[] 0 (Nat.le_refl _) (Nat.zero_le _) (by simp)) v rows hx (hsl.below (aB _ _)) h1 h63 hbytes (by simp)) fun v' w' ⟨h1, h2⟩ => hK v' w' ((aB w _).trans h1) h2
end
end Go.Oche

/- Chapter 5: reports, in, holds. -/
namespace Go.Proofs.YtpfpjbglpibdoaaGreatDoor
open Go Go.RowKit Go.Oche Go.Proofs

end Go.Proofs.YtpfpjbglpibdoaaGreatDoor
