/- The texts RU, RW0, in build order. -/
import Derived.Test.YtpfpjbglpibdoaaGreatDoorZbb

/- Chapter 5, the reference: Can and Smaller. -/
namespace Go.Proofs.YtpfpjbglpibdoaaGreatDoor
open Go Go.RowKit Go.Oche Go.Proofs

set_option maxRecDepth 100000 in
set_option maxHeartbeats 4000000 in
theorem refCan_any {S S' S'' : Nat → Prop} (l : Lg) (hv : Valid l) (h6 : l.beds.length ≤ 6) (h60 : l.start ≤ 60) (h8 : l.turns ≤ 8) (bv lv blv : Value) (list : List Rp) (hrv : ∀ r ∈ list, -1 ≤ r.score ∧ -1 ≤ r.left) (bels : List Bool) (hbl : bels.length = list.length) (w : World)
    (hs : Sl S w bv (ints l.beds)) (hl : SlN 3 S' w lv (list.map rpRow)) (hb : Sl S'' w blv (bels.map Value.bool)) :
    Calls Tryz.prog 33 #[legV l bv, lv, blv] w fun e w' => e = .returned (.bool (canL l list (fun i => bels.getD i false))) ∧ Below w.heap.size w w' := by
  obtain ⟨a, cap, rfl, h2, h3⟩ := hs.form
  simp only [ints_length] at *
  unfold maxLen at h3
  obtain ⟨n, hn⟩ : ∃ n, l.beds.length = n := ⟨_, rfl⟩
  rw [hn] at h2 hs ⊢
  obtain ⟨N, hN⟩ : ∃ N, w.heap.size = N := ⟨_, rfl⟩
  obtain ⟨w1, hw1⟩ : ∃ x, w.alloc (.cells #[.int .i64 l.start, .int .i64 l.gin, .int .i64 l.gout, .slice a n cap, .int .i64 l.players, .int .i64 l.turns, .bool l.won] 27) = x := ⟨_, rfl⟩
  have hb1 : Below w.heap.size w w1 := by rw [← hw1]; exact aB _ _
  have k : w1.heap[N]? = some (.cells #[.int .i64 l.start, .int .i64 l.gin, .int .i64 l.gout, .slice a n cap, .int .i64 l.players, .int .i64 l.turns, .bool l.won] 27 (0, 0)) := by rw [← hw1, ← hN]; exact World.alloc_heap_new _ _
  have c0 : w1.cell? ⟨N, 0, none⟩ = some (.int .i64 l.start) := by rw [cell_of_heap k]; rfl
  have c1 : w1.cell? ⟨N, 1, none⟩ = some (.int .i64 l.gin) := by rw [cell_of_heap k]; rfl
  have c2 : w1.cell? ⟨N, 2, none⟩ = some (.int .i64 l.gout) := by rw [cell_of_heap k]; rfl
  have c3 : w1.cell? ⟨N, 3, none⟩ = some (.slice a n cap) := by rw [cell_of_heap k]; rfl
  have c4 : w1.cell? ⟨N, 4, none⟩ = some (.int .i64 l.players) := by rw [cell_of_heap k]; rfl
  have c5 : w1.cell? ⟨N, 5, none⟩ = some (.int .i64 l.turns) := by rw [cell_of_heap k]; rfl
  have c6 : w1.cell? ⟨N, 6, none⟩ = some (.bool l.won) := by rw [cell_of_heap k]; rfl
  obtain ⟨said, hsaid⟩ : ∃ f, saidL list (fun i => bels.getD i false) = f := ⟨_, rfl⟩
  obtain ⟨P, hP⟩ : ∃ P : Nat, l.players = (P : Int) := ⟨l.players.toNat, by have := hv.players; omega⟩
  have hP4 : 1 ≤ P ∧ P ≤ 4 := by have := hv.players; omega
  have HCAN : Hid (canL l list (fun i => bels.getD i false) = (List.range P).all fun p => (playerL l said p).isSome) := Lib.hid (by
    unfold canL
    rw [hsaid, hP]; rfl)
  have HS := Lib.hid (hs.below hb1)
  have HL := Lib.hid (hl.below hb1)
  have HBL := Lib.hid (hb.below hb1)
  have HB := Lib.hid hb1
  have HW := Lib.hid hw1
  have HN := Lib.hid hN
  have HV := Lib.hid hv
  have HH6 := Lib.hid h6
  have HH60 := Lib.hid h60
  have HH8 := Lib.hid h8
  have HRV := Lib.hid hrv
  have HBLN := Lib.hid hbl
  have HSAID := Lib.hid hsaid
  have HP := Lib.hid hP
  have HP4 := Lib.hid hP4
  unfold legV legA
  rw [hN]
  clear hw1 hN k hb1 hn hs hl hb hv h6 hrv hbl hsaid h60 h8 hP hP4
  go_enter Tryz.func33, Tryz.ntmps33
  go_upto_region 1 with fail
  rw [HW.out, HN.out]
  have HBE : Hid (Below w1.heap.size w1 w1) := Lib.hid (Below.refl _ _)
  have HQ0 : Hid (∀ q, q < 0 → (playerL l said (q : Nat)).isSome = true) := Lib.hid (fun q h => absurd h (Nat.not_lt_zero _))
  go_wp2_with fail
  go_loopw [7] (fun iv wr => ∃ p : Nat, p ≤ P ∧ iv = .int .i64 (p : Int) ∧ Hid (∀ q, q < p → (playerL l said (q : Nat)).isSome = true) ∧ Hid (Below w1.heap.size w1 wr)) (fun iv _ => P - (intOf iv).toNat)
  case atStart => exact ⟨0, by omega, by go_num, HQ0, HBE⟩
  case round =>
    clear HQ0 HBE
    obtain ⟨p, hp, rfl, HQ, HBr⟩ := hrel
    obtain ⟨wo, rfl⟩ : ∃ wo : World, wo = wr := ⟨_, rfl⟩
    have c0 := bAt HBr.out c0
    have c1 := bAt HBr.out c1
    have c2 := bAt HBr.out c2
    have c3 := bAt HBr.out c3
    have c4 := bAt HBr.out c4
    have c5 := bAt HBr.out c5
    have c6 := bAt HBr.out c6
    by_cases hlt : p < P
    · have hpi : decide ((p : Int) < l.players) = true := decide_eq_true (by rw [HP.out]; omega)
      have hwi : IntKind.i64.wrap ((p : Int) + 1) = (p : Int) + 1 := wrap_small _ (by omega) (by have := HP4.out; omega)
      go_wp2_with fail
      have hcall := refPlayer_any l HV.out HH6.out HH60.out HH8.out (.slice a n cap) lv blv list HRV.out bels HBLN.out p (by have := HP4.out; omega) wo (HS.out.below HBr.out) (HL.out.below HBr.out) (HBL.out.below HBr.out)
      unfold legV legA at hcall
      rw [HSAID.out] at hcall
      obtain ⟨b, hb⟩ : ∃ b, (playerL l said (p : Nat)).isSome = b := ⟨_, rfl⟩
      rw [hb] at hcall
      refine hcall.mono ?_
      rintro e w3 ⟨v, rfl, hb3, -⟩
      clear hcall
      have HB3 := Lib.hid (bThen HBr.out hb3)
      have HBB := Lib.hid hb
      clear hb3 hb hpi
      cases b
      · have HR : Hid (canL l list (fun i => bels.getD i false) = false) := Lib.hid (by
          rw [HCAN.out]
          refine Bool.eq_false_iff.2 fun h => ?_
          have := List.all_eq_true.1 h p (List.mem_range.2 hlt)
          rw [HBB.out] at this; cases this)
        have HBZ := Lib.hid (bThen HB.out HB3.out)
        clear c0 c1 c2 c3 c4 c5 c6
        go_wp2_with fail
        go_returns
        rw [HR.out]
        exact ⟨rfl, by rw [← HN.out]; exact HBZ.out⟩
      · have HQ2 : Hid (∀ q, q < p + 1 → (playerL l said (q : Nat)).isSome = true) := Lib.hid (fun q h => by
          by_cases e : q = p
          · rw [e]; exact HBB.out
          · exact HQ.out q (by omega))
        clear c0 c1 c2 c3 c4 c5 c6
        go_wp2_with fail
        go_roundw
        case rel => exact ⟨p + 1, by omega, by go_num, HQ2, HB3⟩
        case measure => simp [intOf]; omega
    · have hpi : decide ((p : Int) < l.players) = false := decide_eq_false (by rw [HP.out]; omega)
      have HR : Hid (canL l list (fun i => bels.getD i false) = true) := Lib.hid (by
        rw [HCAN.out, List.all_eq_true]
        intro q hq
        exact HQ.out q (by have := List.mem_range.1 hq; omega))
      have HBZ := Lib.hid (bThen HB.out HBr.out)
      go_wp2_with fail
      go_returns
      rw [HR.out]
      exact ⟨rfl, by rw [← HN.out]; exact HBZ.out⟩
set_option maxRecDepth 100000 in
theorem refSmaller_any {S S' : Nat → Prop} (x y : List Nat) (xv yv : Value) (w : World) (hx : Sl S w xv (ints (nInts x))) (hy : Sl S' w yv (ints (nInts y))) (hl : x.length = y.length) (hm : x.length ≤ 1000) :
    Calls Tryz.prog 71 #[xv, yv] w fun e w' => e = .returned (.bool (smallerN x y)) ∧ Below w.heap.size w w' := by
  obtain ⟨xa, xc, rfl, hx2, hx3⟩ := hx.form
  obtain ⟨ya, yc, rfl, hy2, hy3⟩ := hy.form
  have hxn : (ints (nInts x)).length = x.length := by simp [nInts]
  have hyn : (ints (nInts y)).length = y.length := by simp [nInts]
  rw [hxn] at hx2 hx ⊢
  rw [hyn, ← hl] at hy2 hy ⊢
  obtain ⟨n, hn⟩ : ∃ n, x.length = n := ⟨_, rfl⟩
  rw [hn] at hx2 hx hy2 hy hm ⊢
  have HX := Lib.hid hx
  have HY := Lib.hid hy
  have HXN := Lib.hid hn
  have HYN : Hid (y.length = n) := Lib.hid (hl.symm.trans hn)
  have HBE : Hid (Below w.heap.size w w) := Lib.hid (Below.refl _ _)
  have HD0 : Hid (smallerN x y = smallerN (x.drop 0) (y.drop 0)) := Lib.hid rfl
  clear hx hy hxn hyn hl hn
  go_enter Tryz.func71, Tryz.ntmps71
  go_wp2_with fail
  go_loopw [5] (fun iv wr => ∃ i : Nat, i ≤ n ∧ iv = .int .i64 (i : Int) ∧ Hid (smallerN x y = smallerN (x.drop i) (y.drop i)) ∧ Hid (Below w.heap.size w wr)) (fun iv _ => n - (intOf iv).toNat)
  case atStart => exact ⟨0, by omega, by go_num, HD0, HBE⟩
  case round =>
    clear HD0 HBE
    obtain ⟨i, hi, rfl, HD, HBr⟩ := hrel
    obtain ⟨wo, rfl⟩ : ∃ wo : World, wo = wr := ⟨_, rfl⟩
    by_cases hlt : i < n
    · have hxl : i < x.length := by rw [HXN.out]; exact hlt
      have hyl : i < y.length := by rw [HYN.out]; exact hlt
      obtain ⟨p, hp⟩ : ∃ z, x[i] = z := ⟨_, rfl⟩
      obtain ⟨q, hq⟩ : ∃ z, y[i] = z := ⟨_, rfl⟩
      have hpa : x[i]? = some p := by rw [List.getElem?_eq_getElem hxl, hp]
      have hqa : y[i]? = some q := by rw [List.getElem?_eq_getElem hyl, hq]
      obtain ⟨xb, xf, rfl, -, p0⟩ := Sl.at_ (HX.out.below HBr.out) (show (ints (nInts x))[i]? = some (.int .i64 (p : Int)) by simp [ints, nInts, hpa])
      obtain ⟨yb, yf, rfl, -, q0⟩ := Sl.at_ (HY.out.below HBr.out) (show (ints (nInts y))[i]? = some (.int .i64 (q : Int)) by simp [ints, nInts, hqa])
      have hds : smallerN (x.drop i) (y.drop i) = smallerN (p :: x.drop (i + 1)) (q :: y.drop (i + 1)) := by rw [List.drop_eq_getElem_cons hxl, List.drop_eq_getElem_cons hyl, hp, hq]
      have HDS := Lib.hid hds
      have hii : (i : Int) < (n : Int) := by omega
      have hwi : IntKind.i64.wrap ((i : Int) + 1) = (i : Int) + 1 := wrap_small _ (by omega) (by omega)
      clear hxl hyl hp hq hpa hqa hds
      by_cases he : p = q
      · subst he
        have HD2 : Hid (smallerN x y = smallerN (x.drop (i + 1)) (y.drop (i + 1))) := Lib.hid (by rw [HD.out, HDS.out]; simp [smallerN])
        go_upto_region 4 with fail
        refine wp_region_seqW (.is (.slice (some ⟨xb, xf, none⟩) n xc) :: .is (.int .i64 (i : Int)) :: .is (.pointer (some ⟨xb, xf + i, none⟩)) :: .is (.int .i64 (p : Int)) :: .is (.slice (some ⟨yb, yf, none⟩) n yc) :: .is (.int .i64 (i : Int)) :: .is (.pointer (some ⟨yb, yf + i, none⟩)) :: .is (.int .i64 (p : Int)) :: .is (.bool false) :: []) rfl mix (by kernel_rfl) (by kernel_rfl) ?_
        iterate 9
          refine seq_on (by rfl) (fun wr hbr _ => ?_) ?_
          · have p0' := bAt hbr p0
            have q0' := bAt hbr q0
            simp [opOK, go_sem, p0', q0', hii, Below.refl]
            try exact rfl
          simp only [Act.put, List.setIfInBounds_toArray, List.set_cons_succ, List.set_cons_zero]
        refine seq_end fun w4 hb4 hH => ?_
        have HB4 := Lib.hid (bThen HBr.out hb4)
        clear hb4 hH p0 q0
        go_wp2_with fail
        go_roundw
        case rel => exact ⟨i + 1, by omega, by go_num, HD2, HB4⟩
        case measure => simp [intOf]; omega
      · have hne : ((p : Int) != (q : Int)) = true := bne_iff_ne.2 (by omega)
        have hne2 : ¬ p = q := he
        go_upto_region 4 with fail
        refine wp_region_seqW (.is (.slice (some ⟨xb, xf, none⟩) n xc) :: .is (.int .i64 (i : Int)) :: .is (.pointer (some ⟨xb, xf + i, none⟩)) :: .is (.int .i64 (p : Int)) :: .is (.slice (some ⟨yb, yf, none⟩) n yc) :: .is (.int .i64 (i : Int)) :: .is (.pointer (some ⟨yb, yf + i, none⟩)) :: .is (.int .i64 (q : Int)) :: .is (.bool true) :: []) rfl mix (by kernel_rfl) (by kernel_rfl) ?_
        iterate 9
          refine seq_on (by rfl) (fun wr hbr _ => ?_) ?_
          · have p0' := bAt hbr p0
            have q0' := bAt hbr q0
            simp [opOK, go_sem, p0', q0', hii, hne, Below.refl]
            try exact rfl
          simp only [Act.put, List.setIfInBounds_toArray, List.set_cons_succ, List.set_cons_zero]
        refine seq_end fun w4 hb4 hH => ?_
        have p0 := bAt hb4 p0
        have q0 := bAt hb4 q0
        have HB4 := Lib.hid (bThen HBr.out hb4)
        obtain ⟨b, hb⟩ : ∃ b, decide (p < q) = b := ⟨_, rfl⟩
        have hbi : decide ((p : Int) < (q : Int)) = b := by rw [← hb]; simp
        have HR : Hid (smallerN x y = b) := Lib.hid (by rw [HD.out, HDS.out, ← hb]; simp [smallerN, he])
        clear hb4 hH hne hne2 he
        go_upto_region 5 with fail
        refine wp_region_seqW (.is (.slice (some ⟨xb, xf, none⟩) n xc) :: .is (.int .i64 (i : Int)) :: .is (.pointer (some ⟨xb, xf + i, none⟩)) :: .is (.int .i64 (p : Int)) :: .is (.slice (some ⟨yb, yf, none⟩) n yc) :: .is (.int .i64 (i : Int)) :: .is (.pointer (some ⟨yb, yf + i, none⟩)) :: .is (.int .i64 (q : Int)) :: .is (.bool b) :: .is (.bool b) :: []) rfl mix (by kernel_rfl) (by kernel_rfl) ?_
        iterate 10
          refine seq_on (by rfl) (fun wr hbr _ => ?_) ?_
          · have p0' := bAt hbr p0
            have q0' := bAt hbr q0
            simp [opOK, go_sem, p0', q0', hii, hb, Below.refl]
            try exact rfl
          simp only [Act.put, List.setIfInBounds_toArray, List.set_cons_succ, List.set_cons_zero]
        refine seq_end fun w5 hb5 hH => ?_
        have HB5 := Lib.hid (bThen HB4.out hb5)
        clear hb5 hH p0 q0 hb hbi
        go_wp2_with fail
        go_returns
        rw [HR.out]
        exact ⟨rfl, HB5.out⟩
    · obtain rfl : i = n := by omega
      have HR : Hid (smallerN x y = false) := Lib.hid (by
        rw [HD.out, List.drop_of_length_le (by rw [HXN.out]; exact Nat.le_refl _), List.drop_of_length_le (by rw [HYN.out]; exact Nat.le_refl _)]; rfl)
      go_wp2_with fail
      go_returns
      rw [HR.out]
      exact ⟨rfl, HBr.out⟩
end Go.Proofs.YtpfpjbglpibdoaaGreatDoor

/- Chapter 5, the reference's Sets: plain part; rows of numbers. -/
namespace Go.Proofs.YtpfpjbglpibdoaaGreatDoor
open Go Go.RowKit Go.Oche Go.Proofs

def isS (l : Lg) (list : List Rp) (bl : Bool) (s : Nat) : Bool := if bl = true then isBlame l list s else isDrop l list s
def belS (n s : Nat) (bl : Bool) : List Bool := (List.range n).map fun i => s.testBit i == bl
theorem belS_len (n s : Nat) (bl : Bool) : (belS n s bl).length = n := by simp [belS]
theorem can_bel (l : Lg) (list : List Rp) (bl : Bool) (s : Nat) : (canL l list (fun i => (belS list.length s bl).getD i false) == bl) = !isS l list bl s := by
  have e : canL l list (fun i => (belS list.length s bl).getD i false) = canL l list (fun i => s.testBit i == bl) := can_congr fun i hi => by
    unfold belS
    simp [List.getD_eq_getElem?_getD, List.getElem?_range, hi]
  rw [e]
  unfold isS isBlame isDrop
  cases bl
  · simp
  · simp
section
variable {n k : Nat} {is : Nat → Bool} {OL : List (List Nat)}
theorem IsMin.start : IsMin n is 0 [] := ⟨List.Pairwise.nil, fun _ => ⟨fun h => (by cases h), fun h => (MinS.zero h).elim⟩⟩
theorem IsMin.no (h : IsMin n is k OL) (hk : is k = false) : IsMin n is (k + 1) OL := ⟨h.asc, fun x => (h.mem x).trans (MinS.no hk).symm⟩
theorem IsMin.len (h : IsMin n is k OL) {x y : List Nat} (hx : x ∈ OL) (hy : y ∈ OL) : x.length = y.length := MinS.len ((h.mem x).1 hx) ((h.mem y).1 hy)
theorem IsMin.long (h : IsMin n is k OL) {y : List Nat} (hy : y ∈ OL) (hl : y.length < (bitsN n k).length) : IsMin n is (k + 1) OL := by
  cases hk : is k with
  | false => exact h.no hk
  | true =>
    refine ⟨h.asc, fun x => (h.mem x).trans ?_⟩
    rw [MinS.yes hk ((h.mem y).1 hy), if_neg (by omega), if_neg (by omega)]
theorem IsMin.short (h : IsMin n is k OL) (hk : is k = true) {y : List Nat} (hy : y ∈ OL) (hl : (bitsN n k).length < y.length) : IsMin n is (k + 1) [bitsN n k] :=
  ⟨List.pairwise_singleton .., fun x => by rw [MinS.yes hk ((h.mem y).1 hy), if_pos hl, List.mem_singleton]⟩
theorem IsMin.first (h : IsMin n is k []) (hk : is k = true) : IsMin n is (k + 1) [bitsN n k] :=
  ⟨List.pairwise_singleton .., fun x => by rw [MinS.first hk (fun y hy => by have := (h.mem y).2 hy; cases this), List.mem_singleton]⟩
theorem IsMin.ins (h : IsMin n is k OL) (hk : is k = true) (hk2 : k < 2 ^ n) {y : List Nat} (hy : y ∈ OL) (hl : (bitsN n k).length = y.length) {p : Nat} (hlow : ∀ x ∈ OL.take p, smallerN x (bitsN n k) = true) (hhi : ∀ x, OL[p]? = some x → smallerN x (bitsN n k) = false) :
    IsMin n is (k + 1) (OL.take p ++ bitsN n k :: OL.drop p) := by
  have hne : bitsN n k ∉ OL := fun hm => by
    obtain ⟨⟨s, h1, -, h3⟩, -⟩ := (h.mem _).1 hm
    have : s = k := by
      refine Nat.eq_of_testBit_eq fun i => ?_
      by_cases hi : i < n
      · have e1 : (i ∈ bitsN n k) ↔ (i ∈ bitsN n s) := by rw [h3]
        rw [mem_bits, mem_bits] at e1
        cases a : k.testBit i <;> cases b : s.testBit i <;> simp_all
      · have a1 : k.testBit i = false := Nat.testBit_lt_two_pow (Nat.lt_of_lt_of_le hk2 (Nat.pow_le_pow_right (by decide) (by omega)))
        have a2 : s.testBit i = false := Nat.testBit_lt_two_pow (Nat.lt_of_lt_of_le (Nat.lt_trans h1 hk2) (Nat.pow_le_pow_right (by decide) (by omega)))
        rw [a1, a2]
    omega
  have hasc := h.asc
  rw [← List.take_append_drop p OL, List.pairwise_append] at hasc
  obtain ⟨ha1, ha2, ha3⟩ := hasc
  have hup : ∀ x ∈ OL.drop p, smallerN (bitsN n k) x = true := by
    cases hd : OL.drop p with
    | nil => intro x hx; cases hx
    | cons z zs =>
      have hz : OL[p]? = some z := by
        have := congrArg (fun l : List (List Nat) => l[0]?) hd
        simpa [List.getElem?_drop] using this
      have hzm : z ∈ OL := List.mem_of_getElem? hz
      have hz1 : smallerN (bitsN n k) z = true := by
        rcases smaller_total (a := z) (b := bitsN n k) ((h.len hzm hy).trans hl.symm) (fun e => hne (e ▸ hzm)) with h1 | h1
        · rw [hhi z hz] at h1; cases h1
        · exact h1
      intro x hx
      rcases List.mem_cons.1 hx with rfl | hx
      · exact hz1
      · rw [hd, List.pairwise_cons] at ha2
        exact smaller_trans hz1 (ha2.1 x hx)
  refine ⟨?_, fun x => ?_⟩
  · rw [List.pairwise_append, List.pairwise_cons]
    refine ⟨ha1, ⟨hup, ha2⟩, fun a ha b hb => ?_⟩
    rcases List.mem_cons.1 hb with rfl | hb
    · exact hlow a ha
    · exact ha3 a ha b hb
  · rw [MinS.yes hk ((h.mem y).1 hy), if_neg (by omega), if_pos hl, ← h.mem]
    have e : x ∈ OL ↔ x ∈ OL.take p ∨ x ∈ OL.drop p := by rw [← List.mem_append, List.take_append_drop]
    rw [e, List.mem_append, List.mem_cons]
    constructor
    · rintro (h1 | h1 | h1)
      · exact .inl (.inl h1)
      · exact .inr h1
      · exact .inl (.inr h1)
    · rintro ((h1 | h1) | h1)
      · exact .inl h1
      · exact .inr (.inr h1)
      · exact .inr (.inl h1)
end
structure SetR (M : Nat) (W : World) (v : Value) (xss : List (List Nat)) (vs : List Value) : Prop where
  len : vs.length = xss.length
  row : W.ownsRow M 35 1 v vs.length vs
  rows : ∀ (i : Nat) (u : Value) (xs : List Nat), vs[i]? = some u → xss[i]? = some xs → W.ownsRow M 3 1 u xs.length (ints (nInts xs))
section
variable {M : Nat} {W W' : World} {v v' : Value} {xss : List (List Nat)} {vs : List Value}
theorem SetR.below (h : SetR M W v xss vs) (hb : Below W.heap.size W W') : SetR M W' v xss vs :=
  ⟨h.len, ownsN_below h.row hb, fun i u xs hu hx => ownsN_below (h.rows i u xs hu hx) hb⟩
theorem SetR.ins (h : SetR M W v xss vs) {u : Value} {xs : List Nat} {p : Nat} (hp : p ≤ vs.length) (hu : W.ownsRow M 3 1 u xs.length (ints (nInts xs))) (hg : W.grownBy W' v.ownBlock) (ho : W'.ownsRow M 35 1 v' (vs.length + 1) (vs.take p ++ u :: vs.drop p)) :
    SetR M W' v' (xss.take p ++ xs :: xss.drop p) (vs.take p ++ u :: vs.drop p) := by
  have hl : (vs.take p ++ u :: vs.drop p).length = vs.length + 1 := by rw [List.length_append, List.length_take, List.length_cons, List.length_drop]; omega
  refine ⟨?_, by rw [hl]; exact ho, fun i u' xs' hu' hx' => ?_⟩
  · rw [hl, List.length_append, List.length_take, List.length_cons, List.length_drop, ← h.len]; omega
  · have hq := h.len
    have old : ∀ j, vs[j]? = some u' → xss[j]? = some xs' → W'.ownsRow M 3 1 u' xs'.length (ints (nInts xs')) := fun j a b => by
      have hr := h.rows j u' xs' a b
      exact hr.kept hg (ownsN_ne hr h.row (by decide))
    by_cases c1 : i < p
    · rw [List.getElem?_append_left (by rw [List.length_take]; omega), List.getElem?_take, if_pos c1] at hu' hx'
      exact old i hu' hx'
    · rw [List.getElem?_append_right (by rw [List.length_take]; omega), List.length_take, Nat.min_eq_left (by omega)] at hu' hx'
      by_cases c2 : i = p
      · subst c2
        rw [Nat.sub_self, List.getElem?_cons_zero] at hu' hx'
        cases hu'
        cases hx'
        exact hu.kept hg (ownsN_ne hu h.row (by decide))
      · obtain ⟨j, hj⟩ : ∃ j, i - p = j + 1 := ⟨i - p - 1, by omega⟩
        rw [hj, List.getElem?_cons_succ, List.getElem?_drop] at hu' hx'
        exact old (p + j) hu' hx'
theorem SetR.one {u : Value} {xs : List Nat} (hu : W.ownsRow M 3 1 u xs.length (ints (nInts xs))) (ho : W.ownsRow M 35 1 v 1 [u]) : SetR M W v [xs] [u] :=
  ⟨rfl, ho, fun i u' xs' hu' hx' => by
    cases i with
    | zero => simp at hu' hx'; subst hu' hx'; exact hu
    | succ i => simp at hu'⟩
theorem own_take {base g n c k p : Nat} {e : TypeId} {xs : List Value} (h : W.ownsRow base e k (.slice (some ⟨g, 0, none⟩) n c) n xs) (hp : p ≤ n) : W.ownsRow base e k (.slice (some ⟨g, 0, none⟩) p c) p (xs.take (p * k)) := by
  obtain ⟨hl, hr⟩ := h
  have hpk : p * k ≤ n * k := Nat.mul_le_mul_right _ hp
  refine ⟨by rw [List.length_take, hl]; omega, ?_⟩
  rcases hr with ⟨e1, _⟩ | ⟨g', cap, cur, e1, h1, h2, h3, h4, h5, h6⟩
  · cases e1
  · cases e1
    refine .inr ⟨g, c, cur, rfl, h1, h2, by omega, h4, h5, ?_⟩
    rw [← h6, List.take_take, Nat.min_eq_left hpk]
end
end Go.Proofs.YtpfpjbglpibdoaaGreatDoor
