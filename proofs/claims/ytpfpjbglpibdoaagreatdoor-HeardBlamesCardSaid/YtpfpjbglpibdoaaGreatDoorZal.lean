/- The texts SO, LibM, CB, CD, HK, in build order. -/
import Derived.Test.YtpfpjbglpibdoaaGreatDoorZak
import Derived.Handy
import Derived.Laws.MakeOwn

/- Chapter 5: slices.Sort of a row of one's own, or of no row. -/
namespace Go.Proofs.YtpfpjbglpibdoaaGreatDoor
open Go.RowKit Go.Oche Go.Proofs

theorem owns_len {W : World} {base n : Nat} {e : TypeId} {v : Value} {xs : List Value} (h : W.ownsRow base e 1 v n xs) : xs.length = n := by have := h.1; simpa using this

theorem insNil_any (w : World) : Calls Tryz.prog 116 #[.slice none 0 0, .int .i64 0, .int .i64 0] w fun e w' => e = .returned (.tuple #[]) ∧ Below w.heap.size w w' := by
  go_enter Tryz.func116, Tryz.ntmps116
  go_wp2
  refine wp_loop_rounds 1 ?_
  rw [rounds_succ]
  go_wp2
  go_returns
  exact ⟨rfl, Below.refl _ _⟩
theorem pdqNil_any (lim : Int) (w : World) : Calls Tryz.prog 106 #[.slice none 0 0, .int .i64 0, .int .i64 0, .int .i64 lim] w fun e w' => e = .returned (.tuple #[]) ∧ Below w.heap.size w w' := by
  go_enter Tryz.func106, Tryz.ntmps106
  go_wp2
  refine wp_loop_rounds 1 ?_
  rw [rounds_succ]
  go_wp2_with fail
  refine (insNil_any w).mono ?_
  rintro e w1 ⟨rfl, hb1⟩
  go_wp2
  go_returns
  exact ⟨rfl, hb1⟩
theorem sortNil_any (w : World) : Calls Tryz.prog 85 #[.slice none 0 0] w fun e w' => e = .returned (.tuple #[]) ∧ Below w.heap.size w w' := by
  go_enter Tryz.func85, Tryz.ntmps85
  go_wp2_with fail
  refine (Tryz.bits_Len 0 w (by omega) (by omega)).mono ?_
  rintro e w1 ⟨rfl, rfl⟩
  go_wp2_with fail
  refine (pdqNil_any _ w1).mono ?_
  rintro e w2 ⟨rfl, hb2⟩
  go_wp2
  go_returns
  exact ⟨rfl, hb2⟩
def ascL (xs : List Int) : List Int := xs.mergeSort fun x y => decide (x ≤ y)
@[simp] theorem ascL_length (xs : List Int) : (ascL xs).length = xs.length := List.length_mergeSort _
theorem sortOwn_any (base g c n : Nat) (ks : List Int) (w : World) (ho : w.ownsRow base 3 1 (.slice (some ⟨g, 0, none⟩) n c) n (ints ks)) (hn : n ≤ 100000) :
    Calls Tryz.prog 85 #[.slice (some ⟨g, 0, none⟩) n c] w fun e w' => e = .returned (.tuple #[]) ∧ Sl (fun q => q = g) w' (.slice (some ⟨g, 0, none⟩) n c) (ints (ascL ks)) ∧ w.grownBy w' (some g) := by
  have hl : n = ks.length := by have := owns_len ho; simpa using this.symm
  have hg := owns_blk ho
  have hH : Go.Sort.Holds (Value.int .i64) w g 0 ks.toArray := by
    intro j hj
    have hj' : j < ks.length := by simpa using hj
    have hc := ho.cellAt j (by omega)
    rw [intsAt hj'] at hc
    refine ⟨?_, ?_⟩
    · rw [Nat.zero_add, hc]; simp [hj']
    · rcases ho.2 with ⟨h, _⟩ | ⟨g', cap', cur, h, _, hb, _⟩
      · cases h
      · simp only [Value.slice.injEq, Option.some.injEq, Addr.mk.injEq, and_true, true_and] at h
        obtain ⟨rfl, _⟩ := h
        exact frozen_of_heap hb
  have hcap : n ≤ c ∧ c ≤ maxLen := by
    rcases ho.2 with ⟨h, _⟩ | ⟨g', cap', cur, h, _, hb, h1, h2, _⟩
    · cases h
    · simp only [Value.slice.injEq, Option.some.injEq, Addr.mk.injEq, and_true, true_and] at h
      obtain ⟨_, rfl⟩ := h
      exact ⟨h1, h2⟩
  subst hl
  refine (Tryz.slices_Sort_int g 0 c ks w hH hg.2 (by omega)).mono ?_
  rintro e w' ⟨rfl, m, os, rfl⟩
  have hsz : (ascL ks).toArray.size = ks.toArray.size := by simp
  refine ⟨rfl, ⟨_, _, by simp, by simpa using hcap.1, hcap.2, fun i x hx => ⟨g, 0, rfl, rfl, ?_⟩⟩, rfl, rfl, rfl, by simp, fun q hq hne => ?_⟩
  · have hi : i < (ascL ks).length := by have := (List.getElem?_eq_some_iff.1 hx).1; simpa using this
    have hcell := Go.Sort.cell?_putRow (Value.int .i64) (Go.Sort.ahead w m) g 0 ks.toArray (ascL ks).toArray hH hsz i (by simpa using hi)
    rw [intsAt hi] at hx
    cases hx
    obtain ⟨cc, e, fr, hb, hc⟩ := Go.Sort.cells_of_cell? hcell
    have hg2 : (Go.Sort.grow (Go.Sort.putRow (Value.int .i64) (Go.Sort.ahead w m) g 0 (ascL ks).toArray) os).heap[g]? = some (.cells cc e fr) := by
      show (_ ++ os)[g]? = _
      rw [Array.getElem?_append_left (Array.getElem?_eq_some_iff.1 hb).1]
      exact hb
    show World.cell? (Go.Sort.grow (Go.Sort.putRow (Value.int .i64) (Go.Sort.ahead w m) g 0 (ascL ks).toArray) os) ⟨g, 0 + i, none⟩ = _
    unfold World.cell?
    rw [hg2]
    simp only
    rw [hc]
    simp
    rw [List.getElem?_eq_getElem hi]; rfl
  · have hgq : g ≠ q := fun e => hne (by rw [e])
    show ((Go.Sort.putRow (Value.int .i64) (Go.Sort.ahead w m) g 0 (ascL ks).toArray).heap ++ os)[q]? = w.heap[q]?
    rw [Array.getElem?_append_left (by simpa using hq)]
    show (w.heap.modify g _)[q]? = _
    rw [Array.getElem?_modify, if_neg hgq]
theorem sort_any (base n : Nat) (v : Value) (ks : List Int) (w : World) (ho : w.ownsRow base 3 1 v n (ints ks)) (hn : n ≤ 100000) (hb : base ≤ w.heap.size) :
    Calls Tryz.prog 85 #[v] w fun e w' => e = .returned (.tuple #[]) ∧ Sl (fun q => base ≤ q) w' v (ints (ascL ks)) ∧ Below base w w' := by
  rcases ho.2 with ⟨rfl, rfl⟩ | ⟨g, c, cur, rfl, hg, _⟩
  · have : ks = [] := by have := owns_len ho; simpa using this
    subst this
    refine (sortNil_any w).mono ?_
    rintro e w' ⟨rfl, hb'⟩
    exact ⟨rfl, by simpa [ascL, ints] using Sl.nil _ _, hb'.mono hb⟩
  · refine (sortOwn_any base g c n ks w ho hn).mono ?_
    rintro e w' ⟨rfl, hs, hgr⟩
    exact ⟨rfl, hs.mono fun q hq => by rw [hq]; exact hg, below_grownBy hgr hb fun q hq => by cases hq; exact hg⟩
end Go.Proofs.YtpfpjbglpibdoaaGreatDoor

/- Making slices of integers. -/
namespace Go.Proofs.YtpfpjbglpibdoaaGreatDoor
open Go.RowKit Go.Oche Go.Proofs
theorem info3 : (Tryz.prog.info? 3).map (fun i => (i.zero, i.size, i.bytes)) = some (some (.int .i64 0), 1, 8) := by kernel_rfl
end Go.Proofs.YtpfpjbglpibdoaaGreatDoor

/- Chapter 5: collecting a map's keys; the keys of a map in ascending order. -/
namespace Go.Proofs.YtpfpjbglpibdoaaGreatDoor
open Go.RowKit Go.Oche Go.Proofs
attribute [local go_sem] Oper.semAt_some

def KI (bx : Nat) (pre : List Int) (O : Nat → Prop) (W : World) : Prop := ∃ lv, BoxRow bx 35 3 1 pre.length (ints pre) O lv W
set_option maxRecDepth 100000 in
set_option maxHeartbeats 4000000 in
theorem appendKeys_any (L : List (Int × Value)) (pb b : Nat) (w : World) (cb : w.cell? ⟨pb, 0, none⟩ = some (.map (some b))) (hm : MapAt (Value.int .i64) w b L) (hn : (L.map (·.1)).Nodup) (hl : L.length ≤ 90000) :
    Calls Tryz.prog 105 #[.slice none 0 0, .func (.func 86) #[] #[.pointer (some ⟨pb, 0, none⟩)]] w fun e w' =>
      ∃ v' ks, e = .returned v' ∧ Below w.heap.size w w' ∧ ks.Perm (L.map (·.1)) ∧ w'.ownsRow w.heap.size 3 1 v' ks.length (ints ks) := by
  obtain ⟨w0, hw0⟩ : ∃ w0, w.alloc (.cells #[.slice none 0 0] 35) = w0 := ⟨_, rfl⟩
  have hb0 : Below w.heap.size w w0 := by rw [← hw0]; exact aB _ _
  have hz0 : w0.heap.size = w.heap.size + 1 := by rw [← hw0]; simp
  have hbx : w0.heap[w.heap.size]? = some (.cells #[.slice none 0 0] 35 (0, 0)) := by rw [← hw0]; exact World.alloc_heap_new _ _
  have HBX := Lib.hid hbx
  have HPB := Lib.hid (World.block_lt_of_cell? w _ cb)
  have HCB := Lib.hid (bAt hb0 cb)
  have HM := Lib.hid (hm.below hb0)
  have HBL := Lib.hid hm.lt
  have HNN := Lib.hid hn
  have HW := Lib.hid hw0
  have HZ := Lib.hid hz0
  clear hw0 hbx cb hm hz0 hn
  refine (callsIn_wide (n := 0)).1 (callsIn_of_wp_marks Tryz.func105 rfl trivial ?_ rfl)
  simp only [Tryz.ntmps105, List.size_toArray, List.length_cons, List.length_nil, Nat.reduceAdd, Nat.reduceSub, Array.replicate_succ, Array.replicate_zero, List.push_toArray, List.append_toArray, List.nil_append, List.cons_append]
  gi_wp2_with fail
  rw [HW.out]
  obtain ⟨N, hN⟩ : ∃ N, w.heap.size = N := ⟨_, rfl⟩
  rw [hN] at HBX HBL HPB HZ hb0 ⊢
  have HN := Lib.hid hN
  clear hN
  refine wpIn_rangeA (t := 3) (gf := 86) (fa := #[]) (lb := #[.pointer (some ⟨pb, 0, none⟩)]) rfl (enters_of Tryz.func86 (by kernel_rfl) rfl)
    (keys1_in L pb b w0 (fun j => j < N) HCB.out HM.out HNN.out HPB.out HBL.out)
    (KI N) (fun _ _ _ _ => False) (fun pre O A B h _ _ _ _ hk => by obtain ⟨lv, h⟩ := h; exact ⟨lv, h.stab fun k h1 h2 => hk k h1 (.inl h2)⟩) (fun _ _ _ _ _ h => h.elim)
    (fun j => j = N) (fun j hj => by have := HZ.out; omega) (fun j hj => by have := HZ.out; omega) ⟨.slice none 0 0, ⟨fun k => by simp [Value.ownBlock], HBX.out, World.ownsRow_nil _ _ _ _⟩⟩
    (fun b args O W' h => by subst h; rfl) ?round ?done ?stop
  case round =>
    rintro l pre x args O₁ W₁ hAdm hl1 hl2 hnl hnl' hrel hI henc
    subst henc
    clear hI
    have hpre : pre.length + 1 ≤ 90000 := by
      have h1 := List.Nodup.length_le_of_subset hAdm.1 (l₂ := L.map (·.1)) (fun k hk => hAdm.2 k hk)
      rw [List.length_append, List.length_map] at h1
      simp at h1; omega
    clear hAdm
    gi_wp2_with fail
    refine ⟨Below.refl _ _, ?_⟩
    rintro W₃ hon ⟨lv, hB⟩
    obtain ⟨la, lc, rfl⟩ : ∃ a c, lv = .slice a pre.length c := owns_form hB.row
    have xb : W₃.cell? ⟨N, 0, none⟩ = some (.slice la pre.length lc) := by rw [cell_of_heap hB.box]; rfl
    have hNW : N + 1 ≤ W₃.heap.size := (Array.getElem?_eq_some_iff.1 hB.box).1
    have hn9 : ∀ j u, ([.int .i64 x] : List Value)[j]? = some u → (W₃.alloc (.cells #[.int .i64 x] 3)).cell? ⟨W₃.heap.size, 0 + j, none⟩ = some u := by
      intro j u hj
      unfold World.cell?
      rw [World.alloc_heap_new]
      simpa using hj
    have HB := Lib.hid hB
    have HN9 := Lib.hid hn9
    clear hB hon hn9
    gi_wp2_with (refine wpListIn_appendN (open_round l) rfl (.tmp 8) (.tmp 10) 35 rfl (N + 1) 3 (.int .i64 0) 1 8 Tryz.underlying35 info3 rfl (by decide) _ pre.length _ rfl (HB.out.row.alloc _) W₃.heap.size 0 1 1 [.int .i64 x] rfl rfl HN9.out (by intro u hu; simp at hu; subst hu; rfl) (by omega) (by decide) (by simp; omega) ?_)
    intro lv' W4 ho hg hat
    obtain ⟨m1, m2, y4, f4⟩ := HB.out.more (aB W₃ _) ho hg (by simpa using hat)
    obtain ⟨la', lc', rfl⟩ : ∃ a c, lv' = .slice a (pre.length + 1) c := owns_form ho
    have M1 := Lib.hid m1
    have M2 := Lib.hid m2
    clear m1 m2 ho hg hat xb
    gi_wp2_with fail
    exact ⟨_, M2.out, _, by rw [List.length_append, ints_append]; exact M1.out⟩
  case done =>
    intro D ks O₁ W' hD hnD hrel hP hI hDD
    obtain ⟨lv, hB⟩ := hI
    obtain ⟨la, lc, rfl⟩ : ∃ a c, lv = .slice a ks.length c := owns_form hB.row
    have xb : W'.cell? ⟨N, 0, none⟩ = some (.slice la ks.length lc) := by rw [cell_of_heap hB.box]; rfl
    have hB' : Below N w W' := hb0.trans (hrel.below (by have := HZ.out; omega) (fun j hj e => by omega))
    have HR := Lib.hid hB.row
    have HB' := Lib.hid hB'
    have HDD := Lib.hid hDD
    have HDN := Lib.hid hnD
    have HOO : Hid ((Value.slice la ks.length lc).ownBlock = some D → O₁ D) := Lib.hid (fun h => (hB.o D).2 (.inr h))
    clear hB hB' hDD hrel hnD
    gi_wp2_with fail
    have hmk : Marks 0 W' [D] := (Marks.nil _ _).cons HDD.out (Nat.zero_le _) (by simp)
    refine leave_marks [D] _ hmk fun W'' hp => ?_
    refine ⟨.slice la ks.length lc, by simp [results, go_sem], _, ks, rfl, ?_, hP, ?_⟩
    · rw [HN.out]; exact HB'.out.trans (hp.below fun E hE => by simp at hE; have := HZ.out; omega)
    · rw [HN.out]
      exact ownsN_base (ownsN_kept HR.out fun g hg => hp.block g fun h => by simp at h; subst h; exact HDN.out (HOO.out hg)) (by omega)
  case stop => intro D c pre O₁ W' _ _ _ _ h; exact h.elim
end Go.Proofs.YtpfpjbglpibdoaaGreatDoor

/- Chapter 5: slices.Sorted(maps.Keys(set)). -/
namespace Go.Proofs.YtpfpjbglpibdoaaGreatDoor
open Go.RowKit Go.Oche Go.Proofs

theorem ascL_asc (xs : List Int) : (ascL xs).Pairwise fun a b => a ≤ b := by
  have := List.pairwise_mergeSort (le := fun x y : Int => decide (x ≤ y)) (fun a b c => by simp; omega) (fun a b => by simp; omega) xs
  exact this.imp fun h => by simpa using h
theorem ascL_lt {xs : List Int} (h : xs.Nodup) : (ascL xs).Pairwise fun a b => a < b := by
  have h1 : (ascL xs).Nodup := (List.mergeSort_perm xs _).nodup_iff.2 h
  exact (List.pairwise_and_iff.2 ⟨ascL_asc xs, h1⟩).imp fun h => by have := h.1; have := h.2; omega
theorem mem_ascL {xs : List Int} {x : Int} : x ∈ ascL xs ↔ x ∈ xs := (List.mergeSort_perm xs _).mem_iff
theorem keys_any (b : Nat) (w : World) : Calls Tryz.prog 53 #[.map (some b)] w fun e w' => e = .returned (.func (.func 86) #[] #[.pointer (some ⟨w.heap.size, 0, none⟩)]) ∧ w' = w.alloc (.cells #[.map (some b)] 108) := by
  go_enter Tryz.func53, Tryz.ntmps53
  go_wp2
  go_returns
  exact ⟨rfl, rfl⟩
theorem collect_any (L : List (Int × Value)) (pb b : Nat) (w : World) (cb : w.cell? ⟨pb, 0, none⟩ = some (.map (some b))) (hm : MapAt (Value.int .i64) w b L) (hn : (L.map (·.1)).Nodup) (hl : L.length ≤ 90000) :
    Calls Tryz.prog 84 #[.func (.func 86) #[] #[.pointer (some ⟨pb, 0, none⟩)]] w fun e w' =>
      ∃ v' ks, e = .returned v' ∧ Below w.heap.size w w' ∧ ks.Perm (L.map (·.1)) ∧ w'.ownsRow w.heap.size 3 1 v' ks.length (ints ks) := by
  have HC := Lib.hid (appendKeys_any L pb b w cb hm hn hl)
  clear cb hm hn
  go_enter Tryz.func84, Tryz.ntmps84
  go_wp2_with fail
  refine HC.out.mono ?_
  rintro e w1 ⟨v', ks, rfl, hb, hp, ho⟩
  obtain ⟨a, c, rfl⟩ := owns_form ho
  have HB := Lib.hid hb
  have HP := Lib.hid hp
  have HO := Lib.hid ho
  clear hb hp ho
  go_wp2
  go_returns
  exact ⟨_, ks, rfl, HB.out, HP.out, HO.out⟩
theorem sortedKeys_any (f : Int → Option Value) (pb b : Nat) (w : World) (cb : w.cell? ⟨pb, 0, none⟩ = some (.map (some b))) (hm : HoldsM (Value.int .i64) w b f) (hl : ∀ x, (f x).isSome = true → 0 ≤ x ∧ x ≤ 5000) :
    Calls Tryz.prog 52 #[.func (.func 86) #[] #[.pointer (some ⟨pb, 0, none⟩)]] w fun e w' =>
      ∃ v' xs, e = .returned v' ∧ Below w.heap.size w w' ∧ Sl (fun q => w.heap.size ≤ q) w' v' (ints xs) ∧ xs.Pairwise (· < ·) ∧ ∀ x, x ∈ xs ↔ (f x).isSome = true := by
  obtain ⟨L, h1, h2, h3⟩ := hm
  have hll : L.length ≤ 90000 := by
    have h4 : (L.map (·.1)).length ≤ ((List.range 5001).map fun i : Nat => (i : Int)).length := List.Nodup.length_le_of_subset h2 fun x hx => by
      have h5 := hl x (by rw [← h3, ← key_isSome]; exact hx)
      exact List.mem_map.2 ⟨x.toNat, List.mem_range.2 (by omega), by omega⟩
    simp at h4
    omega
  have HC := Lib.hid (collect_any L pb b w cb h1 h2 hll)
  have HLL := Lib.hid hll
  have H2 := Lib.hid h2
  have H3 := Lib.hid h3
  clear cb h1 h2 h3 hl hll
  go_enter Tryz.func52, Tryz.ntmps52
  go_wp2_with fail
  refine HC.out.mono ?_
  rintro e w1 ⟨v', ks, rfl, hb, hp, ho⟩
  have hkl : ks.length ≤ 90000 := by have := hp.length_eq; rw [List.length_map] at this; have := HLL.out; omega
  have HS := Lib.hid (sort_any w.heap.size ks.length v' ks w1 ho (by omega) hb.size)
  obtain ⟨a, c, rfl⟩ := owns_form ho
  have HB := Lib.hid hb
  have HP := Lib.hid hp
  clear hb hp ho
  go_wp2_with fail
  refine HS.out.mono ?_
  rintro e w2 ⟨rfl, hs2, hb2⟩
  have HB2 := Lib.hid (HB.out.trans hb2)
  have HS2 := Lib.hid hs2
  clear hs2 hb2
  go_wp2
  go_returns
  refine ⟨_, ascL ks, rfl, HB2.out, HS2.out, ascL_lt (HP.out.nodup_iff.2 H2.out), fun x => ?_⟩
  rw [mem_ascL, HP.out.mem_iff, key_isSome, H3.out]
end Go.Proofs.YtpfpjbglpibdoaaGreatDoor

/- Chapter 5: Visits. -/
namespace Go.Proofs.YtpfpjbglpibdoaaGreatDoor
open Go.RowKit Go.Oche Go.Proofs

theorem Valid.good {l : Lg} (h : Valid l) : GoodBeds l := fun b hb => by have := bed_score (h.bed b hb); omega
theorem open_valid {l : Lg} {s : Std} (h : openE l s = 0) : Valid l ∧ okStand l s = true := by
  unfold openE at h
  split at h
  · rename_i hc
    split at h
    · rename_i hs; exact ⟨valid_of hc, hs⟩
    · cases h
  · rename_i hc; exact (hc h).elim
theorem okStand_bd {l : Lg} {s : Std} (hv : Valid l) (h : okStand l s = true) : 1 ≤ s.left ∧ s.left ≤ 1001 := by
  unfold okStand isIn at h
  simp at h
  have h1 := hv.start
  have : 1 ≤ low5 l.gout := by unfold low5; split <;> omega
  omega
theorem vis_bd {l : Lg} {s : Std} (hv : Valid l) (hs : 0 ≤ s.left) {x : En} {t : Sm} (h : agg (vis5 l s) x = some t) : 0 ≤ x.left ∧ x.left ≤ s.left := by
  obtain ⟨p, hp, rfl⟩ := agg_some.1 (show (agg (vis5 l s) x).isSome = true by rw [h]; rfl)
  exact vis_left hv.good hs hp
theorem open_r {S : Nat → Prop} (l : Lg) (bv : Value) (s : Std) (er : Int) (he : Hid (openE l s = er)) (w : World) (hs : Sl S w bv (ints l.beds)) (hbd : BedsIn l) :
    Calls Tryz.prog 50 #[legV l bv, stV s] w fun e w' => ∃ pv, e = .returned (.tuple #[pv, .int .i64 er]) ∧ Below w.heap.size w w' ∧ (er = 0 → ∃ gb hb kb, pv = .pointer (some ⟨gb, 0, none⟩) ∧ GameAt l (fun q => q = gb ∨ q = hb ∨ q = kb) w' gb hb kb ∧ w.heap.size ≤ gb ∧ w.heap.size ≤ hb ∧ w.heap.size ≤ kb) := by
  rw [← he.out]; exact open_any l bv s w hs hbd
def scoresK (s : Std) (ks : List En) : List Int := (ks.filter fun x => !x.won).map fun x => s.left - x.left
theorem mem_scoresK_snoc (s : Std) (ks : List En) (y : En) (x : Int) : x ∈ scoresK s (ks ++ [y]) ↔ x ∈ scoresK s ks ∨ (y.won = false ∧ x = s.left - y.left) := by
  unfold scoresK
  rw [List.filter_append, List.map_append, List.mem_append]
  cases h : y.won
  · rw [List.filter_cons_of_pos (by simp [h])]; simp
  · rw [List.filter_cons_of_neg (by simp [h])]; simp
set_option maxRecDepth 100000 in
set_option maxHeartbeats 4000000 in
theorem visits2_any {S : Nat → Prop} (l : Lg) (bv : Value) (s : Std) (w : World) (hs : Sl S w bv (ints l.beds)) (hbd : BedsIn l) :
    Calls Tryz.prog 16 #[legV l bv, stV s] w fun e w' => ∃ sv xs wn, e = .returned (.tuple #[sv, .bool wn, .int .i64 (openE l s)]) ∧ Below w.heap.size w w' ∧ Sl (fun q => w.heap.size ≤ q) w' sv (ints xs) ∧ (openE l s ≠ 0 → xs = [] ∧ wn = false) ∧ (openE l s = 0 → IsScores l s xs ∧ wn = winsL l s) := by
  obtain ⟨a, cap, rfl, h2, h3⟩ := hs.form
  simp only [ints_length] at *
  unfold maxLen at h3
  obtain ⟨sl, si⟩ := s
  obtain ⟨er, her⟩ : ∃ e, openE l ⟨sl, si⟩ = e := ⟨_, rfl⟩
  rw [her]
  have HER := Lib.hid her
  have HS := Lib.hid hs
  have HBD := Lib.hid hbd
  obtain ⟨w1, hw1⟩ : ∃ x, (w.alloc (.cells #[.int .i64 l.start, .int .i64 l.gin, .int .i64 l.gout, .slice a l.beds.length cap, .int .i64 l.players, .int .i64 l.turns, .bool l.won] 27)).alloc (.cells #[.int .i64 sl, .bool si] 29) = x := ⟨_, rfl⟩
  have hbw : Below w.heap.size w w1 := by rw [← hw1]; exact (aB _ _).alloc (by simp) _
  have K : Hid (w1.heap[w.heap.size]? = some (.cells #[.int .i64 l.start, .int .i64 l.gin, .int .i64 l.gout, .slice a l.beds.length cap, .int .i64 l.players, .int .i64 l.turns, .bool l.won] 27 (0, 0))) := Lib.hid (by
    rw [← hw1]; exact (Below.heap_alloc _ _ _ (by simp)).trans (World.alloc_heap_new _ _))
  have K2 : Hid (w1.heap[w.heap.size + 1]? = some (.cells #[.int .i64 sl, .bool si] 29 (0, 0))) := Lib.hid (by
    rw [← hw1, show w.heap.size + 1 = (w.alloc (.cells #[.int .i64 l.start, .int .i64 l.gin, .int .i64 l.gout, .slice a l.beds.length cap, .int .i64 l.players, .int .i64 l.turns, .bool l.won] 27)).heap.size by simp]; exact World.alloc_heap_new _ _)
  have HS1 := Lib.hid (HS.out.below hbw)
  have HW := Lib.hid hw1
  have HB1 := Lib.hid hbw
  have c0 : w1.cell? ⟨w.heap.size, 0, none⟩ = some (.int .i64 l.start) := by rw [cell_of_heap K.out]; rfl
  have c1 : w1.cell? ⟨w.heap.size, 1, none⟩ = some (.int .i64 l.gin) := by rw [cell_of_heap K.out]; rfl
  have c2 : w1.cell? ⟨w.heap.size, 2, none⟩ = some (.int .i64 l.gout) := by rw [cell_of_heap K.out]; rfl
  have c3 : w1.cell? ⟨w.heap.size, 3, none⟩ = some (.slice a l.beds.length cap) := by rw [cell_of_heap K.out]; rfl
  have c4 : w1.cell? ⟨w.heap.size, 4, none⟩ = some (.int .i64 l.players) := by rw [cell_of_heap K.out]; rfl
  have c5 : w1.cell? ⟨w.heap.size, 5, none⟩ = some (.int .i64 l.turns) := by rw [cell_of_heap K.out]; rfl
  have c6 : w1.cell? ⟨w.heap.size, 6, none⟩ = some (.bool l.won) := by rw [cell_of_heap K.out]; rfl
  have d0 : w1.cell? ⟨w.heap.size + 1, 0, none⟩ = some (.int .i64 sl) := by rw [cell_of_heap K2.out]; rfl
  have d1 : w1.cell? ⟨w.heap.size + 1, 1, none⟩ = some (.bool si) := by rw [cell_of_heap K2.out]; rfl
  clear hw1 hbw hs hbd her
  unfold legV legA stV
  go_enter Tryz.func16, Tryz.ntmps16
  go_upto_region 1 with fail
  rw [HW.out]
  go_wp2_with fail
  refine (open_r l (.slice a l.beds.length cap) ⟨sl, si⟩ er HER w1 HS1.out HBD.out).mono ?_
  rintro e w2 ⟨pv, rfl, hb2, hG⟩
  have HG := Lib.hid hG
  have HB2 := Lib.hid (bThen HB1.out hb2)
  have K22 := Lib.hid ((hb2.block _ (Array.getElem?_eq_some_iff.1 K2.out).1).trans K2.out)
  have hsz2 := hb2.size
  clear c0 c1 c2 c3 c4 c5 c6 d0 d1 hb2 hG K
  by_cases he0 : er = 0
  · obtain ⟨gb, hb, kb, rfl, hG, hg1, hg2, hg3⟩ := HG.out he0
    obtain ⟨hv, hst⟩ := open_valid (HER.out.trans he0)
    have hbd := okStand_bd hv hst
    simp only at hbd
    have hx0 : (er != 0) = false := by simp [he0]
    have HE0 := Lib.hid he0
    have HV := Lib.hid hv
    have HG2 := Lib.hid hG
    clear he0 HG hG hv hst
    have d0 : w2.cell? ⟨w.heap.size + 1, 0, none⟩ = some (.int .i64 sl) := by rw [cell_of_heap K22.out]; rfl
    have d1 : w2.cell? ⟨w.heap.size + 1, 1, none⟩ = some (.bool si) := by rw [cell_of_heap K22.out]; rfl
    obtain ⟨w3, hw3⟩ : ∃ x, w2.alloc (.map #[] 0) = x := ⟨_, rfl⟩
    obtain ⟨A, hA⟩ : ∃ A, w2.heap.size = A := ⟨_, rfl⟩
    have hb3 : Below w2.heap.size w2 w3 := by rw [← hw3]; exact aB _ _
    have HM3 : Hid (HoldsM (Value.int .i64) w3 A fun _ => none) := Lib.hid (by rw [← hw3, ← hA]; exact HoldsM.made _)
    have HG3 := Lib.hid (HG2.out.below hb3)
    have e0 := bAt hb3 d0
    have e1 := bAt hb3 d1
    have K23 := Lib.hid ((hb3.block _ (Array.getElem?_eq_some_iff.1 K22.out).1).trans K22.out)
    have HB3 := Lib.hid (bThen HB2.out hb3)
    have hs3 : w3.heap.size = A + 1 := by rw [← hw3, ← hA]; simp
    have hmm := @run_makeMap Tryz.prog
    have HW3 := Lib.hid hw3
    have hlt2 := HG2.out.lt
    clear hw3 hb3 HG2
    go_upto_region 5 with fail
    rw [HW3.out]
    clear hmm d0 d1
    go_wp2_with fail
    refine (visits_any HV.out.ok ⟨sl, si⟩ w3 (by simp only; omega) HG3.out (fun q hq => by rcases hq with rfl | rfl | rfl <;> omega)).mono ?_
    rintro e wa ⟨b, rfl, hga, hGa, ⟨L, hL, hLn, hLk⟩, hbs⟩
    obtain ⟨w5, hrg, hS5, hb5, hz5⟩ := MapAt.range (P := Tryz.prog) (T := 110) (by rfl) hL
    obtain ⟨r, hr⟩ : ∃ r, wa.heap.size = r := ⟨_, rfl⟩
    rw [hr] at hrg hS5
    have hsza : w3.heap.size ≤ wa.heap.size := hga.size
    have hs1w : w.heap.size + 1 < w1.heap.size := (Array.getElem?_eq_some_iff.1 K2.out).1
    have HS5 := Lib.hid (SeenD.of hS5)
    have HM5 := Lib.hid ((HM3.out.grown hga fun e => by cases e; omega).below hb5)
    have K5 := Lib.hid ((hb5.block _ (by omega)).trans ((hga.block _ (by omega) (fun e => by cases e; omega)).trans K23.out))
    have HB5 := Lib.hid ((HB3.out.trans (below_grownBy hga HB3.out.size fun x hx => by cases hx; omega)).trans (hb5.mono (by have := HB3.out.size; omega)))
    have HLN := Lib.hid hLn
    have HLK : Hid (∀ k, lookM L k = Option.map smV (agg (vis5 l ⟨sl, si⟩) k)) := Lib.hid hLk
    clear hga hGa hL hLn hLk hS5 hb5 HG3 HM3 e0 e1 K22 K23
    go_wp2
    clear hrg
    go_loopw [5] (fun wv wr => ∃ ks : List En, wv = .bool (ks.any fun x => x.won) ∧ Hid (SeenD enV wr r b L L ks) ∧ Hid (HoldsM (Value.int .i64) wr A fun x => if x ∈ scoresK ⟨sl, si⟩ ks then some (.bool true) else none) ∧ Hid (Below w.heap.size w wr) ∧ Hid (wr.heap[w.heap.size + 1]? = some (.cells #[.int .i64 sl, .bool si] 29 (0, 0))) ∧ Hid (∀ x ∈ ks, x ∈ L.map (·.1))) (fun _ wr => L.length - seenN wr r)
    case atStart => exact ⟨[], rfl, HS5, HM5, HB5, K5, Lib.hid (fun x hx => by cases hx)⟩
    case round =>
      obtain ⟨ks, rfl, HSi, HMi, HBi, Ki, HKi⟩ := hrel
      obtain ⟨wi, rfl⟩ : ∃ wi : World, wi = wr := ⟨_, rfl⟩
      rcases HSi.out.next (P := Tryz.prog) (dec := decE) decE_eq HLN.out 0 with ⟨hnx, hperm⟩ | ⟨y, vy, wj, hmem, hyn, hlen, hnx, hSj, hgj, hzj, henj⟩
      · have hmk : ∀ x, x ∈ ks ↔ ∃ p ∈ vis5 l ⟨sl, si⟩, p.1 = x := fun x => by
          rw [hperm.mem_iff, key_isSome, HLK.out, Option.isSome_map, agg_some]
        have HMK := Lib.hid hmk
        obtain ⟨wn, hwn⟩ : ∃ b, (ks.any fun x => x.won) = b := ⟨_, rfl⟩
        have HWN : Hid (wn = winsL l ⟨sl, si⟩) := Lib.hid (by
          rw [← hwn]; unfold winsL
          rw [Bool.eq_iff_iff, List.any_eq_true, List.any_eq_true]
          constructor
          · rintro ⟨x, hx, h⟩
            obtain ⟨p, hp, rfl⟩ := (hmk x).1 hx
            exact ⟨p, hp, h⟩
          · rintro ⟨p, hp, h⟩
            exact ⟨p.1, (hmk _).2 ⟨p, hp, rfl⟩, h⟩)
        rw [hwn]
        clear hperm hmk hwn
        go_wp2_with fail
        refine (keys_any A wi).mono ?_
        rintro e wk ⟨rfl, hwk⟩
        have hbk : Below wi.heap.size wi wk := by rw [hwk]; exact aB _ _
        have ck : wk.cell? ⟨wi.heap.size, 0, none⟩ = some (.map (some A)) := by rw [hwk]; exact cell_new _ _ _
        have HMk := Lib.hid (HMi.out.below hbk)
        have HBk := Lib.hid (bThen HBi.out hbk)
        have hszk := hbk.size
        have hszi := HBi.out.size
        have HBD5 : Hid (∀ x, ((fun x => if x ∈ scoresK ⟨sl, si⟩ ks then some (Value.bool true) else none) x).isSome = true → 0 ≤ x ∧ x ≤ 5000) := Lib.hid (fun x hx => by
          dsimp only at hx
          split at hx
          · rename_i hx2
            unfold scoresK at hx2
            obtain ⟨y, hy, rfl⟩ := List.mem_map.1 hx2
            obtain ⟨p, hp, rfl⟩ := (HMK.out y).1 (List.mem_filter.1 hy).1
            have := vis_left HV.out.good (s := ⟨sl, si⟩) (by simp only; omega) hp
            simp only at this ⊢
            omega
          · cases hx)
        clear hwk hbk
        go_wp2_with fail
        refine (sortedKeys_any _ wi.heap.size A wk ck HMk.out HBD5.out).mono ?_
        rintro e wl ⟨v', xs, rfl, hbl, hsl, hasc, hmx⟩
        obtain ⟨al, cl, rfl, hl2, hl3⟩ := hsl.form
        have HBl := Lib.hid (bThen HBk.out hbl)
        have HSL := Lib.hid hsl
        have HIS : Hid (IsScores l ⟨sl, si⟩ xs) := Lib.hid ⟨hasc, fun x => by
          rw [hmx]
          dsimp only
          have e1 : ∀ {p : Prop} [Decidable p], ((if p then some (Value.bool true) else none).isSome = true) ↔ p := fun {p} _ => by split <;> simp_all
          rw [e1]
          unfold scoresK
          rw [List.mem_map]
          constructor
          · rintro ⟨y, hy, rfl⟩
            obtain ⟨h1, h2⟩ := List.mem_filter.1 hy
            obtain ⟨p, hp, rfl⟩ := (HMK.out y).1 h1
            exact ⟨p, hp, by simpa using h2, rfl⟩
          · rintro ⟨p, hp, h1, rfl⟩
            exact ⟨p.1, List.mem_filter.2 ⟨(HMK.out _).2 ⟨p, hp, rfl⟩, by simpa using h1⟩, rfl⟩⟩
        clear hbl hsl hasc hmx ck
        go_wp2
        go_returns
        exact ⟨.slice al (ints xs).length cl, xs, wn, by have he := HE0.out; subst he; simp, HBl.out, HSL.out.mono fun q hq => by omega, fun h => (h HE0.out).elim, fun _ => ⟨HIS.out, HWN.out⟩⟩
      · have hy1 := HLK.out y
        rw [mem_lookM HLN.out hmem] at hy1
        obtain ⟨⟨n, lo, hi⟩, ht, rfl⟩ := Option.map_eq_some_iff.1 hy1.symm
        have hyb := vis_bd HV.out (s := ⟨sl, si⟩) (by simp only; omega) ht
        obtain ⟨yl, yi, yb, yw⟩ := y
        simp only at hyb
        unfold enV smV at hnx henj
        simp only at hnx henj
        have hli := HSi.out.lt
        have hlm := HMi.out.lt
        have hszi := HBi.out.size
        have HMj := Lib.hid (HMi.out.grown hgj fun e => by cases e; omega)
        have HBj := Lib.hid (HBi.out.trans (below_grownBy hgj hszi fun x hx => by cases hx; omega))
        have Kj := Lib.hid ((hgj.block _ (Array.getElem?_eq_some_iff.1 Ki.out).1 (fun e => by cases e; omega)).trans Ki.out)
        have HSj := Lib.hid hSj
        have hLi : Hid (ks.length < L.length ∧ seenN wi r = ks.length) := Lib.hid ⟨hlen, SeenD.count HSi.out⟩
        have HKj : Hid (∀ x ∈ ks ++ [⟨yl, yi, yb, yw⟩], x ∈ L.map (·.1)) := Lib.hid (fun x hx => by
          rcases List.mem_append.1 hx with hx | hx
          · exact HKi.out x hx
          · simp at hx; subst hx; exact List.mem_map_of_mem (f := (·.1)) hmem)
        clear hyn hmem hlen hSj hgj hzj hy1 ht HSi HMi HBi Ki hli hlm
        go_upto_region 8 with fail
        clear hnx henj
        obtain ⟨wk, hwk⟩ : ∃ x, wj.alloc (.cells #[.int .i64 yl, .bool yi, .bool yb, .bool yw] 113) = x := ⟨_, rfl⟩
        have hbk : Below wj.heap.size wj wk := by rw [← hwk]; exact aB _ _
        have k9 : wk.heap[wj.heap.size]? = some (.cells #[.int .i64 yl, .bool yi, .bool yb, .bool yw] 113 (0, 0)) := by rw [← hwk]; exact World.alloc_heap_new _ _
        have HSk := Lib.hid (HSj.out.keep (hbk.block _ HSj.out.lt.2.1) (hbk.block _ HSj.out.lt.1))
        have HMk := Lib.hid (HMj.out.below hbk)
        have HBk := Lib.hid (bThen HBj.out hbk)
        have Kk := Lib.hid ((hbk.block _ (Array.getElem?_eq_some_iff.1 Kj.out).1).trans Kj.out)
        have f0 : wk.cell? ⟨wj.heap.size, 0, none⟩ = some (.int .i64 yl) := by rw [cell_of_heap k9]; rfl
        have f3 : wk.cell? ⟨wj.heap.size, 3, none⟩ = some (.bool yw) := by rw [cell_of_heap k9]; rfl
        have g0 : wk.cell? ⟨w.heap.size + 1, 0, none⟩ = some (.int .i64 sl) := by rw [cell_of_heap Kk.out]; rfl
        have HWK := Lib.hid hwk
        clear hwk hbk k9 HSj HMj HBj Kj
        rw [HWK.out]
        cases yw
        · have hws : IntKind.i64.wrap (sl - yl) = sl - yl := wrap_small _ (by omega) (by omega)
          go_upto_region 10 with fail
          obtain ⟨wl, hru, hMl, hgl⟩ := HMk.out.update int_key (T := 108) (E := 4) (by rfl) (sl - yl) (.bool true)
          have hlk := HSk.out.lt
          have hblt := HBk.out.size
          have HSl := Lib.hid (HSk.out.keep (hgl.block _ hlk.2.1 fun e => by cases e; omega) (hgl.block _ hlk.1 fun e => by cases e; omega))
          have HMl : Hid (HoldsM (Value.int .i64) wl A fun x => if x ∈ scoresK ⟨sl, si⟩ (ks ++ [⟨yl, yi, yb, false⟩]) then some (.bool true) else none) := Lib.hid (hMl.congr fun x => by
            simp only [mem_scoresK_snoc, true_and]
            by_cases e : x = sl - yl
            · subst e; simp
            · simp [e])
          have HBl := Lib.hid (HBk.out.trans (below_grownBy hgl HBk.out.size fun x hx => by cases hx; omega))
          have Kl := Lib.hid ((hgl.block _ (Array.getElem?_eq_some_iff.1 Kk.out).1 (fun e => by cases e; omega)).trans Kk.out)
          have HLl : Hid (L.length - seenN wl r < L.length - seenN wi r) := Lib.hid (by
            have e1 := SeenD.count HSl.out
            have e2 := hLi.out
            rw [e1, e2.2, List.length_append, List.length_singleton]; omega)
          obtain ⟨wb, hwb⟩ : ∃ b, (ks.any fun x => x.won) = b := ⟨_, rfl⟩
          have hany : ((ks ++ [(⟨yl, yi, yb, false⟩ : En)]).any fun x => x.won) = wb := by rw [List.any_append, hwb]; simp
          have HANY := Lib.hid hany
          rw [hwb]
          clear hgl hMl HSk HMk HBk Kk hany
          go_wp2
          clear hru f0 f3 g0 hws
          go_roundw
          case rel => exact ⟨ks ++ [⟨yl, yi, yb, false⟩], by rw [HANY.out], HSl, HMl, HBl, Kl, HKj⟩
          case measure => exact HLl.out
        · have HMl : Hid (HoldsM (Value.int .i64) wk A fun x => if x ∈ scoresK ⟨sl, si⟩ (ks ++ [⟨yl, yi, yb, true⟩]) then some (.bool true) else none) := Lib.hid (HMk.out.congr fun x => by
            simp only [mem_scoresK_snoc]
            simp)
          have HLl : Hid (L.length - seenN wk r < L.length - seenN wi r) := Lib.hid (by
            have e1 := SeenD.count HSk.out
            have e2 := hLi.out
            rw [e1, e2.2, List.length_append, List.length_singleton]; omega)
          have hany : ((ks ++ [(⟨yl, yi, yb, true⟩ : En)]).any fun x => x.won) = true := by rw [List.any_append]; simp
          have HANY := Lib.hid hany
          clear hany
          go_wp2
          clear f0 f3 g0
          go_roundw
          case rel => exact ⟨ks ++ [⟨yl, yi, yb, true⟩], by rw [HANY.out], HSk, HMl, HBk, Kk, HKj⟩
          case measure => exact HLl.out
  · have hx0 : (er != 0) = true := by simp [he0]
    have HE0 := Lib.hid he0
    clear he0
    go_wp2
    go_returns
    exact ⟨_, [], _, rfl, HB2.out, Sl.nil _ _, fun _ => ⟨rfl, rfl⟩, fun h => (HE0.out h).elim⟩
end Go.Proofs.YtpfpjbglpibdoaaGreatDoor
