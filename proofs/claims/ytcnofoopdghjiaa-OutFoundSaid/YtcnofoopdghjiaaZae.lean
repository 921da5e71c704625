/- The texts N, O, P, Q, in build order. -/
import Derived.Test.YtcnofoopdghjiaaZad
import Derived.Lib.SliceRun

/- Chapter 2: Clone and Delete. -/
namespace Go.Proofs.Ytcnofoopdghjiaa
open Go.RowKit Go.Oche Go.Proofs

theorem info61 : (Try.prog.info? 61).map (fun i => (i.zero, i.size, i.bytes)) = some (some (.int .i64 0), 1, 8) := by kernel_rfl
theorem zero61 : ∀ w, (zeroValue 61).run Try.prog w = .ok (.int .i64 0) w := fun _ => by kernel_rfl

set_option maxRecDepth 100000 in
theorem clone_any {S : Nat → Prop} (bs : List Int) (v : Value) (w : World) (hs : Sl S w v (ints bs)) (h0 : 0 < bs.length) (hl : bs.length ≤ 100) :
    Calls Try.prog 52 #[v] w fun e w' => ∃ v', e = .returned v' ∧ Below w.heap.size w w' ∧ w'.ownsRow w.heap.size 61 1 v' bs.length (ints bs) := by
  obtain ⟨a, cap, rfl, h2, h3, h4⟩ := hs
  simp only [ints_length] at *
  obtain ⟨b, off, rfl, _, _⟩ := h4 0 _ (intsAt h0)
  obtain ⟨i0, hi, hz0', hz1, hz2⟩ := info_parts info61
  have HI0 := Lib.hid (And.intro hi (And.intro hz0' (And.intro hz1 hz2)))
  have H4 := Lib.hid h4
  clear hi hz0' hz1 hz2 h4
  have heq : ∀ w, (binOp .eql 22 (.slice (some ⟨b, off, none⟩) bs.length cap) (.slice none 0 0)).run Try.prog w = .ok (.bool false) w := fun w => Lib.run_eql_slice_nil w 22 61 _ _ _ _ _ Try.underlying22
  obtain ⟨w0, hw0⟩ : ∃ w0, w0 = w.alloc (.cells #[] 61) := ⟨_, rfl⟩
  have hb0 : Below w.heap.size w w0 := by rw [hw0]; exact aB _ _
  have hown0 : w0.ownsRow w.heap.size 61 1 (.slice (some ⟨w.heap.size, 0, none⟩) 0 0) 0 [] := by
    rw [hw0]; exact World.ownsRow_made w #[] 0 (Nat.le_refl _) (Nat.zero_le _) rfl
  have hz0 : w.heap.size < w0.heap.size := by rw [hw0]; simp
  have HW := Lib.hid hw0
  clear hw0
  go_enter Try.func52, Try.ntmps52
  go_wp2_with (at_builtin; rw [← HW.out]; refine wpList_append_own _ rfl _ _ 22 rfl w.heap.size 61 i0 (.int .i64 0) 1 8 Try.underlying22 HI0.out.1 HI0.out.2.1 HI0.out.2.2.1 HI0.out.2.2.2 rfl (by decide) _ _ _ rfl hown0 ⟨b, off, none⟩ bs.length cap (ints bs) rfl (by simp) ?c1 ?c2 ?c3 ?c4 ?c5 ?_)
  case c1 =>
    intro j u hj
    obtain ⟨b', off', e, _, hc⟩ := H4.out j u hj
    cases e
    have hc2 := bAt hb0 hc
    have : (⟨b, off, none⟩ : Addr).add j = ⟨b, off + j, none⟩ := by unfold Addr.add; split <;> simp_all
    rw [this]; exact hc2
  case c2 => intro u hu; simp [ints] at hu; obtain ⟨_, _, rfl⟩ := hu; rfl
  case c3 => unfold maxLen; omega
  case c4 => omega
  case c5 => omega
  intro v' w1 hown' hgrow _
  go_wp2
  go_ret
  refine ⟨v', rfl, hb0.trans (below_grownBy hgrow (by omega) (fun q hq => by simp [Value.ownBlock] at hq; omega)), ?_⟩
  simpa using hown'

theorem sl_of_heap {W : World} {g n cap : Nat} {cur : Array Value} {t : TypeId} {f : Nat × Nat} {xs : List Value} (h : W.heap[g]? = some (.cells cur t f)) (hx : cur.toList.take n = xs) (hn : xs.length = n) (hc : n ≤ cap) (hm : cap ≤ maxLen) :
    Sl (fun k => k = g) W (.slice (some ⟨g, 0, none⟩) n cap) xs := by
  refine ⟨_, cap, by rw [hn], by omega, hm, fun i x hi => ⟨g, 0, rfl, rfl, ?_⟩⟩
  rw [cell_of_heap h, Nat.zero_add]
  rw [← hx, List.getElem?_take] at hi
  split at hi
  · simpa using hi
  · cases hi

theorem addr_add (b o j : Nat) : (⟨b, o, none⟩ : Addr).add j = ⟨b, o + j, none⟩ := by unfold Addr.add; split <;> simp_all
theorem heap_setRow {W : World} {g : Nat} {c cs : Array Value} {t : TypeId} {f : Nat × Nat} (h : W.heap[g]? = some (.cells c t f)) : (W.setRow g cs).heap[g]? = some (.cells cs t f) := by
  simp [World.setRow, Array.getElem?_modify, h]
theorem setRow_grown (W : World) (g : Nat) (cs : Array Value) : W.grownBy (W.setRow g cs) (some g) :=
  ⟨rfl, rfl, rfl, by simp [World.setRow], fun k _ hk => by simp only [World.setRow, Array.getElem?_modify]; rw [if_neg (fun e => hk (by rw [e]))]⟩
theorem setCell_grown (W : World) (g o : Nat) (v : Value) : W.grownBy (W.setCell ⟨g, o, none⟩ v) (some g) :=
  ⟨rfl, rfl, rfl, by simp, fun k _ hk => Below.heap_setCell _ _ _ _ (fun e => hk (by rw [e]))⟩

set_option maxRecDepth 100000 in
theorem delete_any (bs : List Int) (i p cap g : Nat) (cur : Array Value) (w : World) (hn : bs.length = p + 1) (hi : i < p + 1) (hg : w.heap[g]? = some (.cells cur 61 (0, 0))) (hcur : cur.size = cap) (htk : cur.toList.take (p + 1) = ints bs) (hnc : p + 1 ≤ cap) (hcm : cap ≤ maxLen) (hl : p ≤ 100) :
    Calls Try.prog 51 #[.slice (some ⟨g, 0, none⟩) (p + 1) cap, .int .i64 i, .int .i64 ((i : Int) + 1)] w fun e w' => e = .returned (.slice (some ⟨g, 0, none⟩) p cap) ∧ w.grownBy w' (some g) ∧ Sl (fun k => k = g) w' (.slice (some ⟨g, 0, none⟩) p cap) (ints (bs.eraseIdx i)) := by
  have HCM := Lib.hid hcm
  unfold maxLen at hcm
  have hne : ((i : Int) == (i : Int) + 1) = false := by simp; omega
  have hi1 : (i : Int) + 1 ≤ (p : Int) + 1 := by omega
  have hi2 : (0 : Int) ≤ (i : Int) + 1 := by omega
  have hi3 : i ≤ cap := by omega
  obtain ⟨o5, ho5⟩ : ∃ o5, o5 = if cap = i + 1 then 0 else i + 1 := ⟨_, rfl⟩
  have h5 : (if cap = i + 1 then some (⟨g, 0, none⟩ : Addr) else some ⟨g, i + 1, none⟩) = some ⟨g, o5, none⟩ := by rw [ho5]; split <;> rfl
  obtain ⟨i0, hi0, hz0', hz1, hz2⟩ := info_parts info61
  have HI0 := Lib.hid (And.intro hi0 (And.intro hz0' (And.intro hz1 hz2)))
  have HG := Lib.hid hg
  have HCUR := Lib.hid hcur
  have HTK := Lib.hid htk
  have HN := Lib.hid hn
  have HO5 := Lib.hid ho5
  have H5 := Lib.hid h5
  clear hi0 hz0' hz1 hz2 hg hcur htk hn ho5 h5
  go_enter Try.func51, Try.ntmps51
  go_wp2_with fail
  refine wp_region_fix 6 [.slice (some ⟨g, 0, none⟩) (p + 1) cap, .int .i64 i, .slice (some ⟨g, 0, none⟩) i cap, .slice (some ⟨g, 0, none⟩) (p + 1) cap, .int .i64 ((i : Int) + 1), .slice (some ⟨g, o5, none⟩) (p - i) (cap - (i + 1))] mix (by kernel_rfl) (by simp) ?_ ?_
  · refine ⟨?_, ?_, ?_, ?_, ?_, ?_, trivial⟩
    all_goals
      refine vc_plain _ _ _ _ _ rfl fun a w2 hb2 hp ht => ?_
      simp [Region.binds, fixΦ] at hp
      have t1 := ht 1 rfl
      have t2 := ht 2 rfl
      simp at t1 t2
    · have t0 := ht 0 rfl
      simp at t0
      simp [opOK, fixΦ, go_sem, t0, Below.refl]
    · simp [opOK, fixΦ, go_sem, t1, Below.refl]
    · simp [opOK, fixΦ, go_sem, hp, hi3, Below.refl]
    · have t0 := ht 0 rfl
      simp at t0
      simp [opOK, fixΦ, go_sem, t0, Below.refl]
    · simp [opOK, fixΦ, go_sem, t2, Below.refl]
    · simp [opOK, fixΦ, go_sem, hp, hi1, hi2, H5.out, Below.refl]
  · intro W hb
    have hgW : W.heap[g]? = some (.cells cur 61 (0, 0)) := (hb.block g (Array.getElem?_eq_some_iff.1 HG.out).1).trans HG.out
    obtain ⟨news, hnews⟩ : ∃ news, news = ints (bs.drop (i + 1)) := ⟨_, rfl⟩
    have hnl : news.length = p - i := by rw [hnews]; simp [HN.out]
    obtain ⟨cur2, hcur2⟩ : ∃ cur2, cur2 = (cur.toList.take i ++ news ++ cur.toList.drop (i + (p - i))).toArray := ⟨_, rfl⟩
    have hrun := run_append_room (P := Try.prog) W 22 22 61 i0 Try.underlying22 HI0.out.1 g i cap cur hgW ⟨g, o5, none⟩ (p - i) (cap - (i + 1)) news (by rw [HI0.out.2.2.1, Nat.mul_one]; exact hnl)
      (fun j u hj => by
        have hjl : j < news.length := (List.getElem?_eq_some_iff.1 hj).1
        rw [addr_add, cell_of_heap hgW]
        have ho : o5 = i + 1 := by rw [HO5.out, if_neg (by omega)]
        rw [ho, hnews] at *
        have h1 : (ints bs)[i + 1 + j]? = some u := by
          rw [ints, List.getElem?_map] at hj ⊢
          rw [List.getElem?_drop] at hj; exact hj
        rw [← HTK.out, List.getElem?_take] at h1
        split at h1
        · simpa using h1
        · cases h1)
      (fun u hu => by rw [hnews] at hu; simp only [ints, List.mem_map] at hu; obtain ⟨_, _, rfl⟩ := hu; rfl) (by omega) (by rw [HI0.out.2.2.1, HCUR.out, hnl]; omega)
    rw [HI0.out.2.2.1, Nat.mul_one, hnl, ← hcur2, show i + (p - i) = p by omega] at hrun
    have hsz2 : cur2.size = cap := by rw [hcur2]; simp [hnl, HCUR.out]; omega
    obtain ⟨W2, hW2⟩ : ∃ W2, W.setRow g cur2 = W2 := ⟨_, rfl⟩
    have hg2 : W2.heap[g]? = some (.cells cur2 61 (0, 0)) := by rw [← hW2]; exact heap_setRow hgW
    have hgr2 : W.grownBy W2 (some g) := by rw [← hW2]; exact setRow_grown _ _ _
    rw [hW2] at hrun
    have hcl := fun ty => Lib.run_clear_slice (P := Try.prog) W2 22 61 ty (.int .i64 0) Try.underlying22 zero61 rfl rfl g p 1 (cap - p) (by omega)
      (fun j hj => by
        obtain rfl : j = 0 := by omega
        rw [cell_of_heap hg2]; simp [hsz2]; omega) (fun j hj => frozen_of_heap hg2)
    have HC2 := Lib.hid hcur2
    have HNW := Lib.hid hnews
    have HNL := Lib.hid hnl
    have HS2 := Lib.hid hsz2
    have hp1 : ¬ (cap = p) := by omega
    have hp2 : p ≤ p + 1 := by omega
    clear hcur2 hnews hnl hsz2 hW2 hgW
    simp only [List.take_succ_cons, List.take_zero, List.drop_succ_cons, List.drop_zero, putL, Act.put, List.setIfInBounds_toArray, List.set_cons_succ, List.set_cons_zero]
    refine wpList_opOK (R := fun v w' => v = .slice (some ⟨g, 0, none⟩) p cap ∧ w' = W2) rfl (opOK_append_run (.tmp 22) (.tmp 25) 22 rfl rfl rfl hrun ⟨rfl, rfl⟩) ?_
    rintro _ _ ⟨rfl, rfl⟩
    simp only [Act.put, List.setIfInBounds_toArray, List.set_cons_succ, List.set_cons_zero]
    clear hrun
    go_wp2_with fail
    go_ret
    have hlist : (cur2.setIfInBounds p (.int .i64 0)).toList.take p = ints (bs.eraseIdx i) := by
      rw [Array.toList_setIfInBounds, List.take_set_of_le (Nat.le_refl _), HC2.out]
      have h1 : (cur.toList.take i).length = i := by simp [HCUR.out]; omega
      rw [List.take_left' (by rw [List.length_append, h1, HNL.out]; omega), HNW.out, List.eraseIdx_eq_take_drop_succ, ints_append]
      congr 1
      have h3 : cur.toList.take i = (cur.toList.take (p + 1)).take i := by rw [List.take_take, Nat.min_eq_left (by omega)]
      rw [h3, HTK.out, ints, ints, List.map_take]
    refine ⟨rfl, grownBy_trans (grownBy_trans (grownBy_below _ hb) hgr2) (setCell_grown _ _ _ _), sl_of_heap (heap_setCell_at hg2 _) hlist (by simp [List.length_eraseIdx, HN.out, hi]) (by omega) HCM.out⟩
end Go.Proofs.Ytcnofoopdghjiaa

/- Chapter 2: Forced. -/
namespace Go.Proofs.Ytcnofoopdghjiaa
open Go.RowKit Go.Oche Go.Proofs

theorem delete_at (bs : List Int) (i p cap g : Nat) (cur : Array Value) (w : World) (hn : bs.length = p + 1) (hi : i < p + 1) (hg : w.heap[g]? = some (.cells cur 61 (0, 0))) (hcur : cur.size = cap) (htk : cur.toList.take bs.length = ints bs) (hnc : bs.length ≤ cap) (hcm : cap ≤ maxLen) (hl : p ≤ 100) :
    Calls Try.prog 51 #[.slice (some ⟨g, 0, none⟩) bs.length cap, .int .i64 i, .int .i64 ((i : Int) + 1)] w fun e w' => e = .returned (.slice (some ⟨g, 0, none⟩) p cap) ∧ w.grownBy w' (some g) ∧ Sl (fun k => k = g) w' (.slice (some ⟨g, 0, none⟩) p cap) (ints (bs.eraseIdx i)) := by
  have := delete_any bs i p cap g cur w hn hi hg hcur (by rw [← hn]; exact htk) (by omega) hcm hl
  rw [hn]; exact this

def forcedErr (bs : List Int) (g d s : Int) : Int := if scoreErr bs g d s = 0 then (if numOf bs g d s = 0 then 7 else 0) else scoreErr bs g d s
def forcedL (bs : List Int) (g d s : Int) : List Int := if forcedErr bs g d s = 0 then forcedTo g bs d.toNat s.toNat bs.length else []

set_option maxRecDepth 100000 in
set_option maxHeartbeats 1000000 in
theorem forced_any {S : Nat → Prop} (bs : List Int) (g d s : Int) (v : Value) (w : World) (hs : Sl S w v (ints bs)) (hi : ∀ b ∈ bs, I64 b) :
    Calls Try.prog 25 #[.agg #[v, .int .i64 g, .int .i64 d], .int .i64 s] w fun e w' => ∃ l, e = .returned (.tuple #[l, .int .i64 (forcedErr bs g d s)]) ∧ Below w.heap.size w w' ∧ Sl (fun k => w.heap.size ≤ k) w' l (ints (forcedL bs g d s)) := by
  obtain ⟨a, cap, rfl, hc1, hc2⟩ := hs.form
  simp only [ints_length] at *
  obtain ⟨w0, hw0⟩ : ∃ w0, w0 = w.alloc (.cells #[.slice a bs.length cap, .int .i64 g, .int .i64 d] 25) := ⟨_, rfl⟩
  have hb0 : Below w.heap.size w w0 := by rw [hw0]; exact aB _ _
  have hz0 : w.heap.size < w0.heap.size := by rw [hw0]; simp
  have h2' : w0.heap[w.heap.size]? = some (.cells #[.slice a bs.length cap, .int .i64 g, .int .i64 d] 25 (0, 0)) := by
    rw [hw0]; exact World.alloc_heap_new _ _
  have HS := Lib.hid (hs.below hb0)
  have HI := Lib.hid hi
  have HW := Lib.hid hw0
  have H2 := Lib.hid h2'
  clear hs hi hw0 h2'
  by_cases herr : scoreErr bs g d s = 0
  · obtain ⟨hr, h1, h2⟩ := scoreErr_zero herr
    have hrs := rulesOk_spec hr
    obtain ⟨s, rfl⟩ : ∃ s' : Nat, s = s' := ⟨s.toNat, by omega⟩
    obtain ⟨d, rfl⟩ : ∃ d' : Nat, d = d' := ⟨d.toNat, by omega⟩
    have hbsp := bedsOk_spec hrs.1
    have hbl := hbsp.2.2.2
    have hbl1 := hbsp.2.2.1
    have HBS := Lib.hid hbsp.1
    have HE := Lib.hid herr
    have HR := Lib.hid hr
    have hd1 := hrs.2.2.1
    have hd9 := hrs.2.2.2
    have HNUM : Hid (numOf bs g d s = colSum (cnts g bs d s) s d) := by show _ = _; rw [numOf, if_pos herr]; rfl
    clear herr hr hrs hbsp
    obtain ⟨i0, hi, hz0', hz1, hz2⟩ := info_parts info61
    have HI0 := Lib.hid (And.intro hi (And.intro hz0' (And.intro hz1 hz2)))
    clear hi hz0' hz1 hz2
    unfold maxLen at hc2
    go_enter Try.func25, Try.ntmps25
    go_wp2_with fail
    rw [← HW.out]
    refine (newFinish_ok bs g d s _ _ HS.out HI.out HR.out (by omega) (by omega)).mono ?_
    rintro e w1 ⟨P, rfl, hb1, hBd⟩
    obtain ⟨w2, hw2⟩ : ∃ w2, w1.alloc (.cells #[.pointer (some ⟨P, 0, none⟩), .slice a bs.length cap, .int .i64 g, .int .i64 d, .int .i64 s] 74) = w2 := ⟨_, rfl⟩
    have hb12 : Below w1.heap.size w1 w2 := by rw [← hw2]; exact aB _ _
    have hz1 := hb1.size
    have hz2 := hb12.size
    have hbw2 : Below w.heap.size w w2 := (hb0.trans (hb1.mono hb0.size)).trans (hb12.mono (by omega))
    have hB2 := (hb12.block w.heap.size (by omega)).trans ((hb1.block w.heap.size (by omega)).trans H2.out)
    have e0 : w2.cell? ⟨w.heap.size, 0, none⟩ = some (.slice a bs.length cap) := by rw [cell_of_heap hB2]; rfl
    have e1 : w2.cell? ⟨w.heap.size, 1, none⟩ = some (.int .i64 g) := by rw [cell_of_heap hB2]; rfl
    have e2 : w2.cell? ⟨w.heap.size, 2, none⟩ = some (.int .i64 d) := by rw [cell_of_heap hB2]; rfl
    have HBd := Lib.hid (hBd.below hb12)
    have HS2 := Lib.hid ((HS.out.below hb1).below hb12)
    have HW2 := Lib.hid hw2
    clear hBd hw2 hB2 hb1 hb12
    by_cases hnum : colSum (cnts g bs d s) s d = 0
    · have HN0 := Lib.hid hnum
      have HFE : Hid (forcedErr bs g d s = 7) := by show _ = _; rw [forcedErr, if_pos HE.out, HNUM.out, if_pos hnum]
      clear hnum
      go_wp2_with fail
      rw [HW2.out]
      refine (total_cnts P bs g d s s _ HBd.out hbl (by omega) (by omega) (Nat.le_refl _)).mono ?_
      rintro e w3 ⟨rfl, rfl⟩
      rw [HN0.out]
      go_wp2
      go_ret2
      refine ⟨_, by rw [HFE.out]; rfl, hbw2, ?_⟩
      rw [forcedL, HFE.out]
      exact Sl.nil _ _
    · have HN0 := Lib.hid hnum
      have HFE : Hid (forcedErr bs g d s = 0) := by show _ = _; rw [forcedErr, if_pos HE.out, HNUM.out, if_neg hnum]
      have hnb : (colSum (cnts g bs d s) s d == 0) = false := by simp [hnum]
      obtain ⟨u, hu⟩ : ∃ u, colSum (cnts g bs d s) s d = u := ⟨_, rfl⟩
      rw [hu] at hnb
      have HU := Lib.hid hu
      clear hnum hu
      go_wp2_with fail
      rw [HW2.out]
      refine (total_cnts P bs g d s s _ HBd.out hbl (by omega) (by omega) (Nat.le_refl _)).mono ?_
      rintro e w3 ⟨rfl, rfl⟩
      rw [HU.out]
      go_wp2_with fail
      go_loopw [4, 7, 8, 9, 27] (fun l _ _ _ i wr => ∃ k : Nat, k ≤ bs.length ∧ i = .int .i64 k ∧ wr.ownsRow w2.heap.size 61 1 l (forcedTo g bs d s k).length (ints (forcedTo g bs d s k)) ∧ Below w2.heap.size w2 wr) (fun _ _ _ _ i _ => bs.length - (intOf i).toNat)
      case atStart => exact ⟨0, Nat.zero_le _, rfl, World.ownsRow_nil _ _ _ _, Below.refl _ _⟩
      case round =>
        obtain ⟨k, hk, rfl, hown, hbr⟩ := hrel
        have hlen := forcedTo_length g bs d s k
        have hzr := hbr.size
        by_cases hlt : k < bs.length
        · have E0 := bAt hbr e0
          have E1 := bAt hbr e1
          have E2 := bAt hbr e2
          have hsl := HS2.out.below hbr
          obtain ⟨ar, capr, har, _, _, h4⟩ := hsl
          obtain ⟨b, off, rfl, _, hc⟩ := h4 k _ (intsAt hlt)
          simp only [Value.slice.injEq] at har
          obtain ⟨rfl, -, rfl⟩ := har
          obtain ⟨x, hx⟩ : ∃ x, bs[k] = x := ⟨_, rfl⟩
          rw [hx] at hc
          have HX : Hid (bs.getD k 0 = x) := by show _ = _; rw [List.getD_eq_getElem?_getD]; simp [hlt, hx]
          have HSR := Lib.hid (HS2.out.below hbr)
          obtain ⟨p, hp⟩ : ∃ p, bs.length = p + 1 := ⟨bs.length - 1, by omega⟩
          have HP := Lib.hid hp
          clear hx h4 hp
          go_wp2_with fail
          refine (clone_any bs _ _ HSR.out (by omega) (by omega)).mono ?_
          rintro e w3 ⟨v', rfl, hb3, hown3⟩
          obtain ⟨_, h | ⟨gq, cq, cur, rfl, hgb, hhq, hnq, hmq, hsq, htq⟩⟩ := hown3
          · omega
          simp only [Nat.mul_one] at hsq htq
          have F0 := bAt hb3 E0
          have F1 := bAt hb3 E1
          have F2 := bAt hb3 E2
          have hown3 := hown.kept (grownBy_none hb3) (by cases u4.ownBlock <;> simp)
          have hz3 := hb3.size
          have hlo : ∀ q, u4.ownBlock = some q → w2.heap.size ≤ q ∧ q < wr.heap.size := fun q hq => hown.lt q hq
          clear E0 E1 E2 hown
          go_wp2_with fail
          refine (delete_at bs k p cq gq cur _ HP.out (by have := HP.out; omega) hhq hsq htq hnq hmq (by have := HP.out; omega)).mono ?_
          rintro e w4 ⟨rfl, hg4, hsl4⟩
          have hne : w.heap.size ≠ gq := by omega
          have G1 := (World.cell?_of_block (hg4.block w.heap.size (World.block_lt_of_cell? _ _ F1) (by simp; omega)) (a := ⟨w.heap.size, 1, none⟩)).trans F1
          have G2 := (World.cell?_of_block (hg4.block w.heap.size (World.block_lt_of_cell? _ _ F2) (by simp; omega)) (a := ⟨w.heap.size, 2, none⟩)).trans F2
          have hown4 := hown3.kept hg4 (by
            rcases hv : u4.ownBlock with _ | q
            · exact .inl rfl
            · right; intro e; simp only [Option.some.injEq] at e; have := hlo q hv; omega)
          have hb4 : Below wr.heap.size wr w4 := hb3.trans (below_grownBy hg4 hz3 (fun q hq => by simp only [Option.some.injEq] at hq; omega))
          have HSL4 := Lib.hid hsl4
          clear F0 F1 F2 hown3 hhq hsq htq hnq hmq hg4 hsl4 hb3
          go_wp2_with fail
          refine (newBoard_any (bs.eraseIdx k) g d s _ _ HSL4.out (fun b hb => HBS.out b (List.mem_of_mem_eraseIdx hb)) (by have := List.length_eraseIdx_le bs k; omega) (by omega) (by omega)).mono ?_
          rintro e w5 ⟨P5, rfl, hb5, hBd5⟩
          have hown5 := hown4.kept (grownBy_none hb5) (by cases u4.ownBlock <;> simp)
          have hz4 := hb4.size
          have hz5 := hb5.size
          have hbr5 : Below w2.heap.size w2 w5 := (hbr.trans (hb4.mono hzr)).trans (hb5.mono (by omega))
          have HBd5 := Lib.hid hBd5
          clear hown4 hb4 hb5 hBd5 G1 G2 hbr
          go_wp2_with fail
          refine (total_cnts P5 (bs.eraseIdx k) g d s s _ HBd5.out (by have := List.length_eraseIdx_le bs k; omega) (by omega) (by omega) (Nat.le_refl _)).mono ?_
          rintro e w6 ⟨rfl, rfl⟩
          by_cases hc0 : colSum (cnts g (bs.eraseIdx k) d s) s d = 0
          · have HT := Lib.hid (forcedTo_yes hc0)
            have HC0 := Lib.hid hc0
            rw [HC0.out]
            obtain ⟨L, hL⟩ : ∃ L, forcedTo g bs d s k = L := ⟨_, rfl⟩
            rw [hL] at hown5 hlen
            have HL := Lib.hid hL
            clear hc0 hL
            go_wp2_with (at_builtin; refine wpList_append_own _ rfl _ _ 22 rfl w2.heap.size 61 i0 (.int .i64 0) 1 8 Try.underlying22 HI0.out.1 HI0.out.2.1 HI0.out.2.2.1 HI0.out.2.2.2 rfl (by decide) _ _ _ rfl (hown5.alloc _) ⟨w5.heap.size, 0, none⟩ 1 1 [.int .i64 x] rfl rfl ?c1 ?c2 ?c3 ?c4 ?c5 ?_)
            case c1 =>
              intro j u hj
              match j, hj with
              | 0, hj => simp at hj; subst hj; exact cell_new _ _ _
              | j + 1, hj => simp at hj
            case c2 => intro u hu; simp at hu; subst hu; rfl
            case c3 => unfold maxLen; omega
            case c4 => omega
            case c5 => simp; omega
            intro v' w1' hown' hgrow _
            have hbr2 : Below w2.heap.size w2 w1' := (hbr5.alloc (by omega) _).grown hgrow (by simp; omega) (fun q hq => (hlo q hq).1)
            clear hgrow hown5 hbr5
            go_wp2
            go_roundw
            case rel => exact ⟨k + 1, by omega, by go_num, by rw [HT.out, HL.out, HX.out, ints_append, List.length_append]; exact hown', hbr2⟩
            case measure => simp [intOf]; omega
          · have HT := Lib.hid (forcedTo_no hc0)
            have hc' : (colSum (cnts g (bs.eraseIdx k) d s) s d == 0) = false := by simp [hc0]
            obtain ⟨u', hu'⟩ : ∃ u', colSum (cnts g (bs.eraseIdx k) d s) s d = u' := ⟨_, rfl⟩
            rw [hu'] at hc'
            have HU' := Lib.hid hu'
            clear hc0 hu'
            rw [HU'.out]
            go_wp2
            go_roundw
            case rel => exact ⟨k + 1, by omega, by go_num, by rw [HT.out]; exact hown5, hbr5⟩
            case measure => simp [intOf]; omega
        · obtain rfl : k = bs.length := by omega
          go_wp2
          go_ret2
          refine ⟨_, by rw [HFE.out]; rfl, hbw2.trans (hbr.mono hbw2.size), ?_⟩
          rw [forcedL, if_pos HFE.out]
          exact (Sl.of_owns hown).mono fun q hq => Nat.le_trans hbw2.size hq
  · have HE := Lib.hid herr
    have HFE : Hid (forcedErr bs g d s = scoreErr bs g d s) := by show _ = _; rw [forcedErr, if_neg herr]
    have f0 : (scoreErr bs g d s != 0) = true := by simp [herr]
    obtain ⟨r, hr⟩ : ∃ r, scoreErr bs g d s = r := ⟨_, rfl⟩
    rw [hr] at f0
    have HR := Lib.hid hr
    clear herr hr
    go_enter Try.func25, Try.ntmps25
    go_wp2_with fail
    rw [← HW.out]
    refine (newFinish_bad bs g d s _ _ HS.out HI.out HE.out).mono ?_
    rw [HR.out]
    rintro e w1 ⟨rfl, hb1⟩
    go_wp2
    go_ret2
    refine ⟨_, by rw [HFE.out, HR.out]; rfl, (hb0.trans (hb1.mono hb0.size)).alloc (by have := hb1.size; have := hb0.size; omega) _, ?_⟩
    rw [forcedL, HFE.out, if_neg HE.out]
    exact Sl.nil _ _
end Go.Proofs.Ytcnofoopdghjiaa

/- Chapter 2: Legs. -/
namespace Go.Proofs.Ytcnofoopdghjiaa
open Go.RowKit Go.Oche Go.Proofs

def legsErr (bs : List Int) (st gi go d : Int) : Int := if (isIn st 2 1001 && gateOk gi && gateOk go && bedsOk bs) then (if isIn d 1 9 then 0 else 3) else 2
def legsNum (bs : List Int) (st gi go d : Int) : Int := if legsErr bs st gi go d = 0 then psumIf (cntRow go bs st.toNat (d.toNat - 1)) gi (throwsL go st bs) else 0

set_option maxRecDepth 100000 in
set_option maxHeartbeats 800000 in
theorem legs_bad {S : Nat → Prop} (bs : List Int) (st gi go d : Int) (v : Value) (w : World) (hs : Sl S w v (ints bs)) (hi : ∀ b ∈ bs, I64 b) (herr : legsErr bs st gi go d ≠ 0) :
    Calls Try.prog 35 #[.agg #[.int .i64 st, .int .i64 gi, .int .i64 go], v, .int .i64 d] w fun e w' => e = .returned (.tuple #[.int .i64 0, .int .i64 (legsErr bs st gi go d)]) ∧ Below w.heap.size w w' := by
  obtain ⟨a, cap, rfl, hc1, hc2⟩ := hs.form
  simp only [ints_length] at *
  obtain ⟨w0, hw0⟩ : ∃ w0, w0 = ((w.alloc (.cells #[.int .i64 st, .int .i64 gi, .int .i64 go] 55)).alloc (.cells #[.int .i64 0] 3)) := ⟨_, rfl⟩
  have hb0 : Below w.heap.size w w0 := by rw [hw0]; exact ((Below.refl _ _).alloc (Nat.le_refl _) _).alloc (by simp) _
  have hz0 : w.heap.size + 2 ≤ w0.heap.size := by rw [hw0]; simp
  have h3 : w0.heap[w.heap.size]? = some (.cells #[.int .i64 st, .int .i64 gi, .int .i64 go] 55 (0, 0)) := by
    rw [hw0]; exact (Below.heap_alloc _ _ _ (by simp)).trans (World.alloc_heap_new _ _)
  have h6 : w0.heap[w.heap.size + 1]? = some (.cells #[.int .i64 0] 3 (0, 0)) := by
    rw [hw0]; have := World.alloc_heap_new (w.alloc (.cells #[.int .i64 st, .int .i64 gi, .int .i64 go] 55)) (.cells #[.int .i64 0] 3); rw [World.size_alloc] at this; exact this
  have HS := Lib.hid (hs.below hb0)
  have HI := Lib.hid hi
  have HW := Lib.hid hw0
  have H3 := Lib.hid h3
  have H6 := Lib.hid h6
  obtain ⟨r1, hr1⟩ : ∃ r, isIn st 2 1001 = r := ⟨_, rfl⟩
  obtain ⟨r2, hr2⟩ : ∃ r, gateOk gi = r := ⟨_, rfl⟩
  obtain ⟨r3, hr3⟩ : ∃ r, gateOk go = r := ⟨_, rfl⟩
  obtain ⟨r4, hr4⟩ : ∃ r, bedsOk bs = r := ⟨_, rfl⟩
  obtain ⟨r5, hr5⟩ : ∃ r, isIn d 1 9 = r := ⟨_, rfl⟩
  have HE : Hid (legsErr bs st gi go d = if (r1 && r2 && r3 && r4) then (if r5 then 0 else 3) else 2) := by show _ = _; rw [legsErr, hr1, hr2, hr3, hr4, hr5]
  have R1 := Lib.hid hr1
  have R2 := Lib.hid hr2
  have R3 := Lib.hid hr3
  have R4 := Lib.hid hr4
  have R5 := Lib.hid hr5
  have HERR := Lib.hid herr
  have HSL : Hid (Sl (fun _ => True) (w0.alloc (.cells #[.int .i64 st] 3)) (.slice (some ⟨w.heap.size + 1 + 1, 0, none⟩) 1 1) (ints [st])) := by
    have h := Sl.new1 (fun _ => True) w0 trivial 3 (.int .i64 st)
    rw [show w0.heap.size = w.heap.size + 1 + 1 by rw [hw0]; simp] at h; exact h
  clear hs hi hw0 h3 h6 hr1 hr2 hr3 hr4 hr5 herr
  cases r1
  · go_enter Try.func35, Try.ntmps35
    go_wp2_with fail
    rw [← HW.out]
    have k1 : w0.cell? ⟨w.heap.size, 0, none⟩ = some (.int .i64 st) := by rw [cell_of_heap H3.out]; rfl
    refine (within_one' (S := fun _ => True) 2 1001 st _ R1 _ _ HSL.out).mono ?_
    rintro e w1 ⟨rfl, hb1'⟩
    have hb1 : Below w0.heap.size w0 w1 := (aB _ _).trans (hb1'.mono (by simp))
    have hz1 := hb1.size
    have hB3 := (hb1.block w.heap.size (by omega)).trans H3.out
    have hB6 := (hb1.block (w.heap.size + 1) (by omega)).trans H6.out
    have e1 : w1.cell? ⟨w.heap.size, 1, none⟩ = some (.int .i64 gi) := by rw [cell_of_heap hB3]; rfl
    have e2 : w1.cell? ⟨w.heap.size, 2, none⟩ = some (.int .i64 go) := by rw [cell_of_heap hB3]; rfl
    have q0 : w1.cell? ⟨w.heap.size + 1, 0, none⟩ = some (.int .i64 0) := by rw [cell_of_heap hB6]; rfl
    have q1 : w1.frozen? ⟨w.heap.size + 1, 0, none⟩ = false := frozen_of_heap hB6
    have hbw1 : Below w.heap.size w w1 := hb0.trans (hb1.mono (by omega))
    have HS1 := Lib.hid (HS.out.below hb1)
    have HB3 := Lib.hid hB3
    have HB6 := Lib.hid hB6
    clear hB3 hB6 hb1 hb1' k1
    go_wp2
    refine bodyPost_ret (v := .tuple #[.int .i64 0, .int .i64 2]) (by simp [results, Try.results35, go_sem, q0]) rfl ⟨by rw [HE.out]; rfl, ?_⟩
    exact hbw1.setCell (p := ⟨w.heap.size + 1, 0, none⟩) (by simp) _
  cases r2
  · go_enter Try.func35, Try.ntmps35
    go_wp2_with fail
    rw [← HW.out]
    have k1 : w0.cell? ⟨w.heap.size, 0, none⟩ = some (.int .i64 st) := by rw [cell_of_heap H3.out]; rfl
    refine (within_one' (S := fun _ => True) 2 1001 st _ R1 _ _ HSL.out).mono ?_
    rintro e w1 ⟨rfl, hb1'⟩
    have hb1 : Below w0.heap.size w0 w1 := (aB _ _).trans (hb1'.mono (by simp))
    have hz1 := hb1.size
    have hB3 := (hb1.block w.heap.size (by omega)).trans H3.out
    have hB6 := (hb1.block (w.heap.size + 1) (by omega)).trans H6.out
    have e1 : w1.cell? ⟨w.heap.size, 1, none⟩ = some (.int .i64 gi) := by rw [cell_of_heap hB3]; rfl
    have e2 : w1.cell? ⟨w.heap.size, 2, none⟩ = some (.int .i64 go) := by rw [cell_of_heap hB3]; rfl
    have q0 : w1.cell? ⟨w.heap.size + 1, 0, none⟩ = some (.int .i64 0) := by rw [cell_of_heap hB6]; rfl
    have q1 : w1.frozen? ⟨w.heap.size + 1, 0, none⟩ = false := frozen_of_heap hB6
    have hbw1 : Below w.heap.size w w1 := hb0.trans (hb1.mono (by omega))
    have HS1 := Lib.hid (HS.out.below hb1)
    have HB3 := Lib.hid hB3
    have HB6 := Lib.hid hB6
    clear hB3 hB6 hb1 hb1' k1
    go_wp2_with fail
    refine (isGate_r gi _ R2 _).mono ?_
    rintro e w' ⟨rfl, rfl⟩
    go_wp2
    refine bodyPost_ret (v := .tuple #[.int .i64 0, .int .i64 2]) (by simp [results, Try.results35, go_sem, q0]) rfl ⟨by rw [HE.out]; rfl, ?_⟩
    exact hbw1.setCell (p := ⟨w.heap.size + 1, 0, none⟩) (by simp) _
  cases r3
  · go_enter Try.func35, Try.ntmps35
    go_wp2_with fail
    rw [← HW.out]
    have k1 : w0.cell? ⟨w.heap.size, 0, none⟩ = some (.int .i64 st) := by rw [cell_of_heap H3.out]; rfl
    refine (within_one' (S := fun _ => True) 2 1001 st _ R1 _ _ HSL.out).mono ?_
    rintro e w1 ⟨rfl, hb1'⟩
    have hb1 : Below w0.heap.size w0 w1 := (aB _ _).trans (hb1'.mono (by simp))
    have hz1 := hb1.size
    have hB3 := (hb1.block w.heap.size (by omega)).trans H3.out
    have hB6 := (hb1.block (w.heap.size + 1) (by omega)).trans H6.out
    have e1 : w1.cell? ⟨w.heap.size, 1, none⟩ = some (.int .i64 gi) := by rw [cell_of_heap hB3]; rfl
    have e2 : w1.cell? ⟨w.heap.size, 2, none⟩ = some (.int .i64 go) := by rw [cell_of_heap hB3]; rfl
    have q0 : w1.cell? ⟨w.heap.size + 1, 0, none⟩ = some (.int .i64 0) := by rw [cell_of_heap hB6]; rfl
    have q1 : w1.frozen? ⟨w.heap.size + 1, 0, none⟩ = false := frozen_of_heap hB6
    have hbw1 : Below w.heap.size w w1 := hb0.trans (hb1.mono (by omega))
    have HS1 := Lib.hid (HS.out.below hb1)
    have HB3 := Lib.hid hB3
    have HB6 := Lib.hid hB6
    clear hB3 hB6 hb1 hb1' k1
    go_wp2_with fail
    refine (isGate_r gi _ R2 _).mono ?_
    rintro e w' ⟨rfl, rfl⟩
    go_wp2_with fail
    refine (isGate_r go _ R3 _).mono ?_
    rintro e w' ⟨rfl, rfl⟩
    go_wp2
    refine bodyPost_ret (v := .tuple #[.int .i64 0, .int .i64 2]) (by simp [results, Try.results35, go_sem, q0]) rfl ⟨by rw [HE.out]; rfl, ?_⟩
    exact hbw1.setCell (p := ⟨w.heap.size + 1, 0, none⟩) (by simp) _
  cases r4
  · go_enter Try.func35, Try.ntmps35
    go_wp2_with fail
    rw [← HW.out]
    have k1 : w0.cell? ⟨w.heap.size, 0, none⟩ = some (.int .i64 st) := by rw [cell_of_heap H3.out]; rfl
    refine (within_one' (S := fun _ => True) 2 1001 st _ R1 _ _ HSL.out).mono ?_
    rintro e w1 ⟨rfl, hb1'⟩
    have hb1 : Below w0.heap.size w0 w1 := (aB _ _).trans (hb1'.mono (by simp))
    have hz1 := hb1.size
    have hB3 := (hb1.block w.heap.size (by omega)).trans H3.out
    have hB6 := (hb1.block (w.heap.size + 1) (by omega)).trans H6.out
    have e1 : w1.cell? ⟨w.heap.size, 1, none⟩ = some (.int .i64 gi) := by rw [cell_of_heap hB3]; rfl
    have e2 : w1.cell? ⟨w.heap.size, 2, none⟩ = some (.int .i64 go) := by rw [cell_of_heap hB3]; rfl
    have q0 : w1.cell? ⟨w.heap.size + 1, 0, none⟩ = some (.int .i64 0) := by rw [cell_of_heap hB6]; rfl
    have q1 : w1.frozen? ⟨w.heap.size + 1, 0, none⟩ = false := frozen_of_heap hB6
    have hbw1 : Below w.heap.size w w1 := hb0.trans (hb1.mono (by omega))
    have HS1 := Lib.hid (HS.out.below hb1)
    have HB3 := Lib.hid hB3
    have HB6 := Lib.hid hB6
    clear hB3 hB6 hb1 hb1' k1
    go_wp2_with fail
    refine (isGate_r gi _ R2 _).mono ?_
    rintro e w' ⟨rfl, rfl⟩
    go_wp2_with fail
    refine (isGate_r go _ R3 _).mono ?_
    rintro e w' ⟨rfl, rfl⟩
    go_wp2_with fail
    refine (areBeds_r bs _ R4 _ _ HS1.out HI.out).mono ?_
    rintro e w2 ⟨rfl, hb2⟩
    have hz2 := hb2.size
    have hB6 := (hb2.block (w.heap.size + 1) (by omega)).trans HB6.out
    have hB3 := (hb2.block w.heap.size (by omega)).trans HB3.out
    clear q0 q1 e1 e2
    have q0 : w2.cell? ⟨w.heap.size + 1, 0, none⟩ = some (.int .i64 0) := by rw [cell_of_heap hB6]; rfl
    have q1 : w2.frozen? ⟨w.heap.size + 1, 0, none⟩ = false := frozen_of_heap hB6
    have hbw2 : Below w.heap.size w w2 := hbw1.trans (hb2.mono (by omega))
    have HB6' := Lib.hid hB6
    have HB3' := Lib.hid hB3
    have HS2 := Lib.hid (HS1.out.below hb2)
    clear hB6 hB3 hb2
    go_wp2
    refine bodyPost_ret (v := .tuple #[.int .i64 0, .int .i64 2]) (by simp [results, Try.results35, go_sem, q0]) rfl ⟨by rw [HE.out]; rfl, ?_⟩
    exact hbw2.setCell (p := ⟨w.heap.size + 1, 0, none⟩) (by simp) _
  cases r5
  · go_enter Try.func35, Try.ntmps35
    go_wp2_with fail
    rw [← HW.out]
    have k1 : w0.cell? ⟨w.heap.size, 0, none⟩ = some (.int .i64 st) := by rw [cell_of_heap H3.out]; rfl
    refine (within_one' (S := fun _ => True) 2 1001 st _ R1 _ _ HSL.out).mono ?_
    rintro e w1 ⟨rfl, hb1'⟩
    have hb1 : Below w0.heap.size w0 w1 := (aB _ _).trans (hb1'.mono (by simp))
    have hz1 := hb1.size
    have hB3 := (hb1.block w.heap.size (by omega)).trans H3.out
    have hB6 := (hb1.block (w.heap.size + 1) (by omega)).trans H6.out
    have e1 : w1.cell? ⟨w.heap.size, 1, none⟩ = some (.int .i64 gi) := by rw [cell_of_heap hB3]; rfl
    have e2 : w1.cell? ⟨w.heap.size, 2, none⟩ = some (.int .i64 go) := by rw [cell_of_heap hB3]; rfl
    have q0 : w1.cell? ⟨w.heap.size + 1, 0, none⟩ = some (.int .i64 0) := by rw [cell_of_heap hB6]; rfl
    have q1 : w1.frozen? ⟨w.heap.size + 1, 0, none⟩ = false := frozen_of_heap hB6
    have hbw1 : Below w.heap.size w w1 := hb0.trans (hb1.mono (by omega))
    have HS1 := Lib.hid (HS.out.below hb1)
    have HB3 := Lib.hid hB3
    have HB6 := Lib.hid hB6
    clear hB3 hB6 hb1 hb1' k1
    go_wp2_with fail
    refine (isGate_r gi _ R2 _).mono ?_
    rintro e w' ⟨rfl, rfl⟩
    go_wp2_with fail
    refine (isGate_r go _ R3 _).mono ?_
    rintro e w' ⟨rfl, rfl⟩
    go_wp2_with fail
    refine (areBeds_r bs _ R4 _ _ HS1.out HI.out).mono ?_
    rintro e w2 ⟨rfl, hb2⟩
    have hz2 := hb2.size
    have hB6 := (hb2.block (w.heap.size + 1) (by omega)).trans HB6.out
    have hB3 := (hb2.block w.heap.size (by omega)).trans HB3.out
    clear q0 q1 e1 e2
    have q0 : w2.cell? ⟨w.heap.size + 1, 0, none⟩ = some (.int .i64 0) := by rw [cell_of_heap hB6]; rfl
    have q1 : w2.frozen? ⟨w.heap.size + 1, 0, none⟩ = false := frozen_of_heap hB6
    have hbw2 : Below w.heap.size w w2 := hbw1.trans (hb2.mono (by omega))
    have HB6' := Lib.hid hB6
    have HB3' := Lib.hid hB3
    have HS2 := Lib.hid (HS1.out.below hb2)
    clear hB6 hB3 hb2
    go_wp2_with fail
    refine (within_one' (S := fun _ => True) 1 9 d _ R5 _ _ (Sl.new1 _ _ trivial _ _)).mono ?_
    rintro e w3 ⟨rfl, hb3'⟩
    have hb3 : Below w2.heap.size w2 w3 := (aB _ _).trans (hb3'.mono (by simp))
    have hz3 := hb3.size
    have hB6 := (hb3.block (w.heap.size + 1) (by omega)).trans HB6'.out
    clear q0 q1
    have q0 : w3.cell? ⟨w.heap.size + 1, 0, none⟩ = some (.int .i64 0) := by rw [cell_of_heap hB6]; rfl
    have q1 : w3.frozen? ⟨w.heap.size + 1, 0, none⟩ = false := frozen_of_heap hB6
    have hbw3 : Below w.heap.size w w3 := hbw2.trans (hb3.mono (by omega))
    clear hB6 hb3 hb3'
    go_wp2
    refine bodyPost_ret (v := .tuple #[.int .i64 0, .int .i64 3]) (by simp [results, Try.results35, go_sem, q0]) rfl ⟨by rw [HE.out]; rfl, ?_⟩
    exact hbw3.setCell (p := ⟨w.heap.size + 1, 0, none⟩) (by simp) _
  exact absurd HE.out HERR.out
end Go.Proofs.Ytcnofoopdghjiaa

/- Chapter 2: Legs, valid. -/
namespace Go.Proofs.Ytcnofoopdghjiaa
open Go.RowKit Go.Oche Go.Proofs
attribute [local go_sem] Oper.semAt_some

set_option maxRecDepth 100000 in
set_option maxHeartbeats 1000000 in
theorem legs_ok {S : Nat → Prop} (bs : List Int) (st dd : Nat) (gi go : Int) (v : Value) (w : World) (hs : Sl S w v (ints bs)) (hi : ∀ b ∈ bs, I64 b) (h1 : 2 ≤ st) (h2 : st ≤ 1001) (hgi : gateOk gi = true) (hgo : gateOk go = true) (hbo : bedsOk bs = true) (hd : dd ≤ 8) :
    Calls Try.prog 35 #[.agg #[.int .i64 st, .int .i64 gi, .int .i64 go], v, .int .i64 ((dd : Int) + 1)] w fun e w' => e = .returned (.tuple #[.int .i64 (psumIf (cntRow go bs st dd) gi (throwsL go st bs)), .int .i64 0]) ∧ Below w.heap.size w w' := by
  obtain ⟨a, cap, rfl, hc1, hc2⟩ := hs.form
  simp only [ints_length] at *
  obtain ⟨w0, hw0⟩ : ∃ w0, w0 = ((w.alloc (.cells #[.int .i64 (st : Int), .int .i64 gi, .int .i64 go] 55)).alloc (.cells #[.int .i64 0] 3)) := ⟨_, rfl⟩
  have hb0 : Below w.heap.size w w0 := by rw [hw0]; exact ((Below.refl _ _).alloc (Nat.le_refl _) _).alloc (by simp) _
  have hz0 : w.heap.size + 2 ≤ w0.heap.size := by rw [hw0]; simp
  have h3 : w0.heap[w.heap.size]? = some (.cells #[.int .i64 (st : Int), .int .i64 gi, .int .i64 go] 55 (0, 0)) := by
    rw [hw0]; exact (Below.heap_alloc _ _ _ (by simp)).trans (World.alloc_heap_new _ _)
  have h6 : w0.heap[w.heap.size + 1]? = some (.cells #[.int .i64 0] 3 (0, 0)) := by
    rw [hw0]; have := World.alloc_heap_new (w.alloc (.cells #[.int .i64 (st : Int), .int .i64 gi, .int .i64 go] 55)) (.cells #[.int .i64 0] 3); rw [World.size_alloc] at this; exact this
  have HS := Lib.hid (hs.below hb0)
  have HI := Lib.hid hi
  have HW := Lib.hid hw0
  have H3 := Lib.hid h3
  have H6 := Lib.hid h6
  have HSL : Hid (Sl (fun _ => True) (w0.alloc (.cells #[.int .i64 (st : Int)] 3)) (.slice (some ⟨w.heap.size + 1 + 1, 0, none⟩) 1 1) (ints [(st : Int)])) := by
    have h := Sl.new1 (fun _ => True) w0 trivial 3 (.int .i64 (st : Int))
    rw [show w0.heap.size = w.heap.size + 1 + 1 by rw [hw0]; simp] at h; exact h
  have hbsp := bedsOk_spec hbo
  have HBS := Lib.hid hbsp.1
  have hbl := hbsp.2.2.2
  have R1 : Hid (isIn (st : Int) 2 1001 = true) := by show _ = _; simp [isIn]; omega
  have R2 := Lib.hid hgi
  have R3 := Lib.hid hgo
  have R4 := Lib.hid hbo
  have R5 : Hid (isIn ((dd : Int) + 1) 1 9 = true) := by show _ = _; simp [isIn]; omega
  clear hs hi hw0 h3 h6 hgi hgo hbo hbsp
  refine (callsIn_wide (n := 0)).1 (callsIn_of_wp_marks Try.func35 rfl trivial ?_ rfl)
  simp only [Try.ntmps35, List.size_toArray, List.length_cons, List.length_nil, Nat.reduceAdd, Nat.reduceSub, Array.replicate_succ, Array.replicate_zero, List.push_toArray, List.append_toArray, List.nil_append, List.cons_append]
  gi_wp2_with fail
  rw [← HW.out]
  have k1 : w0.cell? ⟨w.heap.size, 0, none⟩ = some (.int .i64 (st : Int)) := by rw [cell_of_heap H3.out]; rfl
  refine ⟨trivial, rfl, (callsIn_wide.2 (within_one' (S := fun _ => True) 2 1001 st _ R1 _ _ HSL.out)).mono ?_⟩
  rintro e w1 ⟨rfl, hb1'⟩
  have hb1 : Below w0.heap.size w0 w1 := (aB _ _).trans (hb1'.mono (by simp))
  have hz1 := hb1.size
  have hB3 := (hb1.block w.heap.size (by omega)).trans H3.out
  have hB6 := (hb1.block (w.heap.size + 1) (by omega)).trans H6.out
  have e1 : w1.cell? ⟨w.heap.size, 1, none⟩ = some (.int .i64 gi) := by rw [cell_of_heap hB3]; rfl
  have e2 : w1.cell? ⟨w.heap.size, 2, none⟩ = some (.int .i64 go) := by rw [cell_of_heap hB3]; rfl
  have hbw1 : Below w.heap.size w w1 := hb0.trans (hb1.mono (by omega))
  have HS1 := Lib.hid (HS.out.below hb1)
  have HB3 := Lib.hid hB3
  have HB6 := Lib.hid hB6
  clear hB3 hB6 hb1 hb1' k1
  gi_wp2_with fail
  refine ⟨trivial, rfl, (callsIn_wide.2 (isGate_r gi _ R2 _)).mono ?_⟩
  rintro e w' ⟨rfl, rfl⟩
  gi_wp2_with fail
  refine ⟨trivial, rfl, (callsIn_wide.2 (isGate_r go _ R3 _)).mono ?_⟩
  rintro e w' ⟨rfl, rfl⟩
  gi_wp2_with fail
  refine ⟨trivial, rfl, (callsIn_wide.2 (areBeds_r bs _ R4 _ _ HS1.out HI.out)).mono ?_⟩
  rintro e w2 ⟨rfl, hb2⟩
  have hz2 := hb2.size
  have hbw2 : Below w.heap.size w w2 := hbw1.trans (hb2.mono (by omega))
  have HB6' := Lib.hid ((hb2.block (w.heap.size + 1) (by omega)).trans HB6.out)
  have HB3' := Lib.hid ((hb2.block w.heap.size (by omega)).trans HB3.out)
  have HS2 := Lib.hid (HS1.out.below hb2)
  clear e1 e2 hb2
  gi_wp2_with fail
  refine ⟨trivial, rfl, (callsIn_wide.2 (within_one' (S := fun _ => True) 1 9 ((dd : Int) + 1) _ R5 _ _ (Sl.new1 _ _ trivial _ _))).mono ?_⟩
  rintro e w3 ⟨rfl, hb3'⟩
  have hb3 : Below w2.heap.size w2 w3 := (aB _ _).trans (hb3'.mono (by simp))
  have hz3 := hb3.size
  have hbw3 : Below w.heap.size w w3 := hbw2.trans (hb3.mono (by omega))
  have hB3 := (hb3.block w.heap.size (by omega)).trans HB3'.out
  have HB6 := Lib.hid ((hb3.block (w.heap.size + 1) (by omega)).trans HB6'.out)
  have e0 : w3.cell? ⟨w.heap.size, 0, none⟩ = some (.int .i64 (st : Int)) := by rw [cell_of_heap hB3]; rfl
  have e2 : w3.cell? ⟨w.heap.size, 2, none⟩ = some (.int .i64 go) := by rw [cell_of_heap hB3]; rfl
  have HS3 := Lib.hid (HS2.out.below hb3)
  have HB3 := Lib.hid hB3
  clear hb3 hb3' hB3 HB6' HB3'
  gi_wp2_with fail
  refine ⟨trivial, rfl, (callsIn_wide.2 (newBoard_any bs go dd st _ _ HS3.out HBS.out hbl (by omega) h2)).mono ?_⟩
  rintro e w4 ⟨P, rfl, hb4, hBd⟩
  clear e0 e2
  obtain ⟨w5, hw5⟩ : ∃ w5, w4.alloc (.cells #[.pointer (some ⟨P, 0, none⟩)] 72) = w5 := ⟨_, rfl⟩
  have hb5 : Below w4.heap.size w4 w5 := by rw [← hw5]; exact aB _ _
  have hz4 := hb4.size
  have hz5 : w4.heap.size + 1 ≤ w5.heap.size := by rw [← hw5]; simp
  have g8 : w5.cell? ⟨w4.heap.size, 0, none⟩ = some (.pointer (some ⟨P, 0, none⟩)) := by rw [← hw5]; exact cell_new _ _ _
  have hb35 : Below w3.heap.size w3 w5 := hb4.trans (hb5.mono hz4)
  have hbw5 : Below w.heap.size w w5 := hbw3.trans (hb35.mono (by omega))
  have hB3 := (hb35.block w.heap.size (by omega)).trans HB3.out
  have e0 : w5.cell? ⟨w.heap.size, 0, none⟩ = some (.int .i64 (st : Int)) := by rw [cell_of_heap hB3]; rfl
  have e1 : w5.cell? ⟨w.heap.size, 1, none⟩ = some (.int .i64 gi) := by rw [cell_of_heap hB3]; rfl
  have HBd := Lib.hid (hBd.below hb5)
  have HB6' := Lib.hid ((hb35.block (w.heap.size + 1) (by omega)).trans HB6.out)
  have HW5 := Lib.hid hw5
  rw [← hw5] at e0
  clear hw5 hB3 hBd hb4 hb5 hb35
  gi_wp2_with fail
  rw [HW5.out]
  refine ⟨trivial, rfl, (callsIn_wide.2 (throws_any _ _ _)).mono ?_⟩
  rintro e w' ⟨rfl, rfl⟩
  obtain ⟨N, hN⟩ : ∃ N, w.heap.size = N := ⟨_, rfl⟩
  obtain ⟨W2, hW2⟩ : ∃ W2, (w5.alloc (.cells #[.pointer (some ⟨P, 0, none⟩)] 72)).alloc (.cells #[.int .i64 (st : Int)] 3) = W2 := ⟨_, rfl⟩
  have hB2 : Below w5.heap.size w5 W2 := by rw [← hW2]; exact (aB _ _).trans ((aB _ _).mono (by simp))
  have hZ2 : W2.heap.size = w5.heap.size + 2 := by rw [← hW2]; simp
  have gb : W2.cell? ⟨w5.heap.size, 0, none⟩ = some (.pointer (some ⟨P, 0, none⟩)) := by rw [← hW2]; exact bAt (aB _ _) (cell_new _ _ _)
  have gs : W2.cell? ⟨w5.heap.size + 1, 0, none⟩ = some (.int .i64 (st : Int)) := by rw [← hW2]; have := cell_new (w5.alloc (.cells #[.pointer (some ⟨P, 0, none⟩)] 72)) (.int .i64 (st : Int)) 3; rw [World.size_alloc] at this; exact this
  obtain ⟨hPS, vb, vc, vs, c0, c1, c2, hslb, hslc, hvl, hrows⟩ := HBd.out
  obtain ⟨vr, hvr, hslr⟩ := hrows dd (by simp)
  have hC : (cnts go bs dd st)[dd]'(by simp) = cntRow go bs st dd := by simp [cnts]
  rw [hC] at hslr
  obtain ⟨av, capv, rfl, -, -, h4v⟩ := hslc
  rw [hvl, cnts_length] at c2
  obtain ⟨bv, offv, rfl, hSbv, hcv⟩ := h4v dd vr hvr
  obtain ⟨ar, capr, rfl, -, -, h4r⟩ := hslr
  rw [ints_length, cntRow_length] at hcv
  have hNP := hPS.1
  have hNbv := hSbv.1
  have H4R := Lib.hid h4r
  have HCV := Lib.hid hcv
  clear h4v h4r hcv hvr hrows hvl
  rw [hN] at e1 hbw5
  have hB6 := (hB2.block (w.heap.size + 1) (by omega)).trans HB6'.out
  rw [hN] at hB6
  have HN := Lib.hid hN
  have HB6 := Lib.hid hB6
  have HW2 := Lib.hid hW2
  have hNz : N + 2 ≤ w3.heap.size := by omega
  have hC0 := Lib.hid c0
  have hC1 := Lib.hid c1
  have hC2 := Lib.hid c2
  have hE1 := Lib.hid e1
  have hG8 := Lib.hid g8
  have hwN : w.heap.size = N := hN
  clear c0 c1 c2 e1 g8 hW2 hB6 hC e0
  gi_wp2_with fail
  rw [HW2.out]
  clear hN hwN
  have hp82 : (0 : Int) ≤ 82 ^ dd := Int.pow_nonneg (by decide)
  have hM1 : (82 : Int) ^ dd * 82 ≤ 9223372036854775807 := by
    have : ∀ j : Fin 9, (82 : Int) ^ (j : Nat) * 82 ≤ 9223372036854775807 := by decide
    exact this ⟨dd, by omega⟩
  refine wpIn_range (gf := 67) (fa := #[]) (lb := #[.pointer (some ⟨w5.heap.size, 0, none⟩), .pointer (some ⟨w5.heap.size + 1, 0, none⟩)]) rfl (enters_of Try.func67 (by kernel_rfl) rfl)
    (throws1_in go st bs w5.heap.size (w5.heap.size + 1) P vb W2 (fun j => j < W2.heap.size ∧ j ≠ N + 1) HBS.out (by omega) (by omega) gb gs (bAt hB2 hC0.out) (bAt hB2 hC1.out) (hslb.below hB2) ⟨by omega, by omega⟩ ⟨by omega, by omega⟩ ⟨by have := hPS.2; omega, by have := hPS.1; omega⟩ (fun j hj hj2 => ⟨hj2, by have := hj.1; omega⟩))
    (fun pre O W' => (∀ j, O j ↔ j = N + 1) ∧ W'.heap[N + 1]? = some (.cells #[.int .i64 (psumIf (cntRow go bs st dd) gi pre)] 3 (0, 0))) (fun _ _ _ _ => False)
    (fun pre O A B h _ _ _ _ hk => ⟨h.1, (hk _ (Array.getElem?_eq_some_iff.1 h.2).1 (.inl ((h.1 _).2 rfl))).trans h.2⟩) (fun _ _ _ _ _ h => h.elim)
    (fun j => j = N + 1) (fun j hj => by subst hj; omega) (fun j hj => ⟨hj.1, hj.2⟩) ⟨fun _ => Iff.rfl, HB6.out⟩
    (fun b args O W' h => by subst h; rfl) ?round ?done ?stop
  case round =>
    rintro l pre ⟨x, y⟩ post args O₁ W₁ hL hl1 hl2 hnl hnl' hrel hI henc
    subst henc
    clear hI
    have hmem : (x, y) ∈ throwsL go st bs := by rw [hL]; simp
    obtain ⟨hx, hao, hy, hk0⟩ := throwsL_mem hmem
    have hwx := worth_bd (HBS.out x hx)
    have hxi := Lib.hid (bedOk_i64 (HBS.out x hx))
    have hy0 := aftOk_bd hao
    obtain ⟨q, rfl⟩ : ∃ q : Nat, y = q := ⟨y.toNat, by omega⟩
    have hqn : q < (cntRow go bs st dd).length := by rw [cntRow_length]; omega
    have hqn' : q < st + 1 := by omega
    have hprelen : pre.length ≤ 81 := by
      have h1 := throwsL_length go st bs
      rw [hL] at h1
      simp at h1; omega
    have hbdC := cntRow_bd go hbl st dd
    have hps := psumIf_bd (gi := gi) hbdC hp82 pre
    have hps2 : (82 : Int) ^ dd * (pre.length : Int) ≤ 82 ^ dd * 81 := Int.mul_le_mul_of_nonneg_left (by omega) hp82
    have hcq := getD_bd hbdC hp82 q
    obtain ⟨c, hc⟩ : ∃ c, (cntRow go bs st dd).getD q 0 = c := ⟨_, rfl⟩
    obtain ⟨u, hu⟩ : ∃ u, psumIf (cntRow go bs st dd) gi pre = u := ⟨_, rfl⟩
    rw [hc] at hcq
    rw [hu] at hps
    obtain ⟨M, hM⟩ : ∃ M, (82 : Int) ^ dd = M := ⟨_, rfl⟩
    rw [hM] at hcq hps hps2 hM1
    have hwrap : IntKind.i64.wrap (u + c) = u + c := wrap_small _ (by omega) (by omega)
    have HU := Lib.hid hu
    have HC := Lib.hid hc
    clear hc hu hcq hps hps2 hy hao hx hL hmem hprelen hbdC hM
    gi_wp2_with fail
    refine ⟨aB _ _, ?_⟩
    rintro W₃ hon ⟨hO, hR3⟩
    have tr : ∀ b o z, w5.cell? ⟨b, o, none⟩ = some z → b ≠ N + 1 → W₃.cell? ⟨b, o, none⟩ = some z := fun b o z hz hb => (hon.cell _).trans (bAt (aB _ _) (rAt hrel (bAt hB2 hz) hb))
    have x9 : W₃.cell? ⟨W₁.heap.size, 0, none⟩ = some (.int .i64 x) := (hon.cell _).trans (cell_new _ _ _)
    have x1 := tr _ _ _ hE1.out (by omega)
    have HR3 := Lib.hid hR3
    have HO := Lib.hid hO
    have TR := Lib.hid tr
    clear hR3 hO hon tr
    gi_wp2_with fail
    refine ⟨trivial, rfl, CallsIn.mono (CallsIn.inRound l (callsIn_wide.2 (opens_any x gi _ hxi.out))) ?_⟩
    rintro e w6 ⟨rfl, hb6⟩
    have hHR := (hb6.block (N + 1) (Array.getElem?_eq_some_iff.1 HR3.out).1).trans HR3.out
    have hO3 : ∀ j, O₁ j → j < W₃.heap.size := fun j hj => by rw [(HO.out j).1 hj]; exact (Array.getElem?_eq_some_iff.1 HR3.out).1
    cases hop : opensG gi x
    · have HOP := Lib.hid hop
      have HHR := Lib.hid hHR
      clear hop hHR
      gi_wp2_with fail
      exact ⟨O₁, Rel.of_below hb6 hO3, HO.out, by rw [psumIf_no HOP.out]; exact HHR.out⟩
    · have HOP := Lib.hid hop
      have HHR := Lib.hid hHR
      clear hop hHR
      obtain ⟨br, offr, rfl, hSbr, hcr⟩ := H4R.out q _ (intsAt hqn)
      have hcq : (cntRow go bs st dd)[q] = c := by rw [← HC.out, List.getD_eq_getElem?_getD]; simp [hqn]
      rw [hcq] at hcr
      have y6 : w6.cell? ⟨N + 1, 0, none⟩ = some (.int .i64 u) := by rw [cell_of_heap HHR.out, ← HU.out]; rfl
      have y8 := bAt hb6 (TR.out _ _ _ hG8.out (by omega))
      have yP := bAt hb6 (TR.out _ _ _ hC2.out (by omega))
      have yV := bAt hb6 (TR.out _ _ _ HCV.out (by omega))
      have yr := bAt hb6 (TR.out _ _ _ hcr (by have := hSbr.1; omega))
      clear hcr hcq x9 x1
      gi_wp2_with fail
      refine wpIn_region_fix 7 [.int .i64 u, .pointer (some ⟨P, 0, none⟩), .slice (some ⟨br, offr, none⟩) (st + 1) capr, .int .i64 q, .pointer (some ⟨br, offr + q, none⟩), .int .i64 c, .int .i64 (u + c)] mix (open_round l) (by kernel_rfl) (by kernel_rfl) (by simp) ?_ ?_
      · refine ⟨?_, ?_, ?_, ?_, ?_, ?_, ?_, trivial⟩
        all_goals
          refine vc_plain _ _ _ _ _ rfl fun A W hb hp ht => ?_
          simp [Region.binds, fixΦ] at hp
          have t6 := ht 6 rfl
          have t8 := ht 8 rfl
          have t10 := ht 10 rfl
          have z6 := bAt hb y6
          have z8 := bAt hb y8
          have zr := bAt hb yr
          simp at t6 t8 t10
        · simp [opOK, fixΦ, go_sem, t6, z6, Below.refl]
        · simp [opOK, fixΦ, go_sem, t8, z8, Below.refl]
        · refine opOK_call (f := 59) (args := #[.pointer (some ⟨P, 0, none⟩)]) (by simp [go_sem, hp]) ?_
          exact (last_any (_S := fun _ => True) P bv offv dd capv (.slice (some ⟨br, offr, none⟩) (st + 1) capr) W (by omega) (bAt hb yP) (bAt hb yV) ⟨_, _, _, rfl⟩).mono fun e W' ⟨he, hb'⟩ => ⟨_, he, hb', rfl⟩
        · simp [opOK, fixΦ, go_sem, t10, Below.refl]
        · have hq2 : (q : Int) < (st : Int) + 1 := by omega
          simp [opOK, fixΦ, go_sem, hp, hq2, Below.refl]
        · simp [opOK, fixΦ, go_sem, hp, zr, Below.refl]
        · simp [opOK, fixΦ, go_sem, hp, hwrap, Below.refl]
      · intro W hb
        have hHW := (hb.block (N + 1) (Array.getElem?_eq_some_iff.1 HHR.out).1).trans HHR.out
        have z6 : W.cell? ⟨N + 1, 0, none⟩ = some (.int .i64 u) := by rw [cell_of_heap hHW, ← HU.out]; rfl
        have f6 : W.frozen? ⟨N + 1, 0, none⟩ = false := frozen_of_heap hHW
        have hrelW : Rel O₁ W₃ O₁ W := (Rel.of_below hb6 hO3).ext hb
        have HHW := Lib.hid hHW
        clear hHW
        simp only [List.take_succ_cons, List.take_zero, List.drop_succ_cons, List.drop_zero, putL, Act.put, List.setIfInBounds_toArray, List.set_cons_succ, List.set_cons_zero]
        gi_wp2_with fail
        refine ⟨O₁, hrelW.setCell (p := ⟨N + 1, 0, none⟩) ((HO.out _).2 rfl) _, HO.out, ?_⟩
        rw [heap_setCell_at HHW.out, psumIf_yes HOP.out]
        simp only [Int.toNat_natCast]
        rw [HU.out, HC.out]
        rfl
  case done =>
    intro D O₁ W' hD hnD hrel hI hDD
    obtain ⟨hO, hR⟩ := hI
    have z6 : W'.cell? ⟨N + 1, 0, none⟩ = some (.int .i64 (psumIf (cntRow go bs st dd) gi (throwsL go st bs))) := by rw [cell_of_heap hR]; rfl
    have f6 : W'.frozen? ⟨N + 1, 0, none⟩ = false := frozen_of_heap hR
    have hbW : Below N w W' := hbw5.trans ((hB2.mono (by omega)).trans (hrel.below (by omega) (fun k hk => by omega)))
    have HDD := Lib.hid hDD
    clear hO hR hDD hrel
    gi_wp2_with fail
    obtain ⟨X, hX⟩ : ∃ X, psumIf (cntRow go bs st dd) gi (throwsL go st bs) = X := ⟨_, rfl⟩
    rw [hX] at z6 ⊢
    have hzc : (W'.setCell ⟨N + 1, 0, none⟩ (.int .i64 X)).cell? ⟨N + 1, 0, none⟩ = some (.int .i64 X) := World.cell?_setCell_same' _ _ _ (by rw [z6]; rfl)
    have hmk : Marks N (W'.setCell ⟨N + 1, 0, none⟩ (.int .i64 X)) [D] := (Marks.nil _ _).cons (by rw [Below.heap_setCell _ _ _ _ (by simp; omega)]; exact HDD.out) (by omega) (by simp)
    refine leave_marks [D] _ hmk fun W'' hp => ?_
    have hz := (hp.cell ⟨N + 1, 0, none⟩).trans hzc
    refine ⟨.tuple #[.int .i64 X, .int .i64 0], by simp [results, Try.results35, go_sem, hz], rfl, ?_⟩
    rw [HN.out]
    exact (hbW.setCell (p := ⟨N + 1, 0, none⟩) (by simp) _).trans (hp.below fun E hE => by simp at hE; omega)
  case stop => intro D c pre O₁ W' _ _ _ _ h; exact h.elim
end Go.Proofs.Ytcnofoopdghjiaa
