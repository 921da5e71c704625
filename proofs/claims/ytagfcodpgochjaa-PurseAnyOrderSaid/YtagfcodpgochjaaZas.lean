/- The texts TB, OpA, in build order. -/
import Derived.Test.YtagfcodpgochjaaZar
import Derived.Lib.MinMax

/- Chapter 12: the book of a till. -/
namespace Go.Proofs.Ytagfcodpgochjaa
open Go.RowKit Go.Oche Go.Proofs

theorem cellW2 {S : Nat → Prop} {w : World} {a : Option Addr} {n cap : Nat} {xs : List Value} (h : Sl S w (.slice a n cap) xs) {k : Nat} (hk : k < xs.length) : ∃ b off, a = some ⟨b, off, none⟩ ∧ S b ∧ w.cell? ⟨b, off + k, none⟩ = some xs[k] := by
  obtain ⟨a', cap', e, _, _, h4⟩ := h
  cases e
  exact h4 k _ (List.getElem?_eq_getElem hk)
def tillN (OP : List Int) : Nat := max 2 (min OP.length 10)
def bookL (XS : List Int) (n : Nat) : List Int := (List.range n).map fun i => XS.getD i 0
@[simp] theorem bookL_length (XS : List Int) (n : Nat) : (bookL XS n).length = n := by simp [bookL]
theorem bookL_succ (XS : List Int) (n : Nat) : bookL XS (n + 1) = bookL XS n ++ [XS.getD n 0] := by simp [bookL, List.range_succ]
theorem ints_succ (XS : List Int) (n : Nat) : ints (bookL XS (n + 1)) = ints (bookL XS n) ++ [.int .i64 (XS.getD n 0)] := by rw [bookL_succ, ints_append]; rfl
/-- Ahead of round i. -/
structure BookI (B : Nat) (OP CR : List Int) (i : Nat) (v1 v2 : Value) (W : World) : Prop where
  box : W.heap[B]? = some (.cells #[v1, v2] 55 (0, 0))
  r1 : W.ownsRow (B + 1) 3 1 v1 i (ints (bookL OP i))
  r2 : W.ownsRow (B + 1) 3 1 v2 i (ints (bookL CR i))
  ne : v1.ownBlock = none ∨ v1.ownBlock ≠ v2.ownBlock
/-- Behind the appends, ahead of the stores. -/
structure BookE (B : Nat) (OP CR : List Int) (i : Nat) (v1 v2 : Value) (W : World) (u1 u2 : Value) : Prop where
  box : W.heap[B]? = some (.cells #[v1, v2] 55 (0, 0))
  r1 : W.ownsRow (B + 1) 3 1 u1 (i + 1) (ints (bookL OP (i + 1)))
  r2 : W.ownsRow (B + 1) 3 1 u2 (i + 1) (ints (bookL CR (i + 1)))
  ne : u1.ownBlock = none ∨ u1.ownBlock ≠ u2.ownBlock
theorem BookE.next {B : Nat} {OP CR : List Int} {i : Nat} {v1 v2 : Value} {W : World} {u1 u2 : Value} (h : BookE B OP CR i v1 v2 W u1 u2) : BookI B OP CR (i + 1) u1 u2 ((W.setCell ⟨B, 0, none⟩ u1).setCell ⟨B, 1, none⟩ u2) := by
  have e1 := heap_setCell_at (o := 0) h.box u1
  have e2 := heap_setCell_at (o := 1) e1 u2
  have hk : ∀ g, B + 1 ≤ g → ((W.setCell ⟨B, 0, none⟩ u1).setCell ⟨B, 1, none⟩ u2).heap[g]? = W.heap[g]? := fun g hg => by
    rw [Below.heap_setCell _ _ _ _ (by simp; omega), Below.heap_setCell _ _ _ _ (by simp; omega)]
  exact ⟨by rw [e2]; rfl, ownsN_kept h.r1 fun g hg => hk g (h.r1.lt g hg).1, ownsN_kept h.r2 fun g hg => hk g (h.r2.lt g hg).1, h.ne⟩
theorem getD_of {XS : List Int} {i : Nat} (h : i < XS.length) : XS.getD i 0 = XS[i] := by rw [List.getD_eq_getElem?_getD, List.getElem?_eq_getElem h]; rfl
theorem getD_no {XS : List Int} {i : Nat} (h : ¬ i < XS.length) : XS.getD i 0 = 0 := by rw [List.getD_eq_getElem?_getD, List.getElem?_eq_none (by omega)]; rfl
set_option maxRecDepth 100000 in
set_option maxHeartbeats 8000000 in
theorem book_any {S S' : Nat → Prop} (OP CR : List Int) (vo vc vm : Value) (w : World) (hs : Sl S w vo (OP.map (Value.int .u16))) (hs' : Sl S' w vc (CR.map (Value.int .u16))) (hO : ∀ x ∈ OP, 0 ≤ x ∧ x ≤ 65535) (hC : ∀ x ∈ CR, 0 ≤ x ∧ x ≤ 65535) :
    Calls Try.prog 23 #[.agg #[vo, vc, vm]] w fun e w' => ∃ ro rc, e = .returned (.agg #[ro, rc]) ∧ Below w.heap.size w w' ∧ Sl (fun k => w.heap.size ≤ k) w' ro (ints (bookL OP (tillN OP))) ∧ Sl (fun k => w.heap.size ≤ k) w' rc (ints (bookL CR (tillN OP))) := by
  obtain ⟨a, cap, rfl, h2, h3⟩ := hs.form
  obtain ⟨ac, capc, rfl, h2c, h3c⟩ := hs'.form
  simp only [List.length_map] at *
  unfold maxLen at h3 h3c
  have HS := Lib.hid hs
  have HS' := Lib.hid hs'
  have HO := Lib.hid hO
  have HC := Lib.hid hC
  clear hs hs' hO hC
  obtain ⟨N, hN⟩ : ∃ N, w.heap.size = N := ⟨_, rfl⟩
  obtain ⟨M, hM⟩ : ∃ M, tillN OP = M := ⟨_, rfl⟩
  have hM1 : 2 ≤ M ∧ M ≤ 10 ∧ (2 < M → M ≤ OP.length) ∧ (M < 10 → OP.length ≤ M) := by rw [← hM]; unfold tillN; omega
  have HM1 := Lib.hid hM1
  have HMM := Lib.hid hM
  obtain ⟨w0, hw0⟩ : ∃ w0, ((w.alloc (.cells #[.slice a OP.length cap, .slice ac CR.length capc, vm] 53)).alloc (.cells #[.slice none 0 0, .slice none 0 0] 55)).alloc (.cells #[.slice none 0 0, .slice none 0 0] 55) = w0 := ⟨_, rfl⟩
  have hb0 : Below w.heap.size w w0 := by rw [← hw0]; exact (aB _ _).trans (((aB _ _).mono (by simp)).trans ((aB _ _).mono (by simp <;> omega)))
  have f0 : w0.heap[N]? = some (.cells #[.slice a OP.length cap, .slice ac CR.length capc, vm] 53 (0, 0)) := by
    rw [← hw0, ← hN]; exact (Below.heap_alloc _ _ _ (by simp <;> omega)).trans ((Below.heap_alloc _ _ _ (by simp <;> omega)).trans (World.alloc_heap_new _ _))
  have f1 : w0.heap[N + 1]? = some (.cells #[.slice none 0 0, .slice none 0 0] 55 (0, 0)) := by
    rw [← hw0, ← hN, Below.heap_alloc _ _ _ (by simp)]
    have := World.alloc_heap_new (w.alloc (.cells #[.slice a OP.length cap, .slice ac CR.length capc, vm] 53)) (.cells #[.slice none 0 0, .slice none 0 0] 55)
    rwa [World.size_alloc] at this
  have f2 : w0.heap[N + 1 + 1]? = some (.cells #[.slice none 0 0, .slice none 0 0] 55 (0, 0)) := by
    rw [← hw0, ← hN]
    have := World.alloc_heap_new ((w.alloc (.cells #[.slice a OP.length cap, .slice ac CR.length capc, vm] 53)).alloc (.cells #[.slice none 0 0, .slice none 0 0] 55)) (.cells #[.slice none 0 0, .slice none 0 0] 55)
    rwa [World.size_alloc, World.size_alloc] at this
  have hz0 : w0.heap.size = N + 3 := by rw [← hw0, ← hN]; simp
  have HBK0 : Hid (BookI (N + 1 + 1) OP CR 0 (.slice none 0 0) (.slice none 0 0) w0) := Lib.hid ⟨f2, World.ownsRow_nil _ _ _ _, World.ownsRow_nil _ _ _ _, .inl rfl⟩
  have HB0 : Hid (Below N w w0) := Lib.hid (by rw [← hN]; exact hb0)
  have HF0 := Lib.hid f0
  have HF1 := Lib.hid f1
  have HZ0 := Lib.hid hz0
  have HW0 := Lib.hid hw0
  have HN := Lib.hid hN
  clear hb0 f0 f1 f2 hz0 hw0 hN hM hM1
  go_enter Try.func23, Try.ntmps23
  go_wp2_with fail
  rw [HW0.out, HN.out]
  go_loopw [4] (fun iv wr => ∃ (i : Nat) (v1 v2 : Value), iv = .int .i64 (i : Int) ∧ i ≤ M ∧ Hid (BookI (N + 1 + 1) OP CR i v1 v2 wr) ∧ Hid (Below N w wr) ∧ Hid (N + 3 ≤ wr.heap.size) ∧ Hid (wr.heap[N]? = some (.cells #[.slice a OP.length cap, .slice ac CR.length capc, vm] 53 (0, 0))) ∧ Hid (wr.heap[N + 1]? = some (.cells #[.slice none 0 0, .slice none 0 0] 55 (0, 0)))) (fun iv _ => M - (intOf iv).toNat)
  case atStart => exact ⟨0, _, _, rfl, Nat.zero_le _, HBK0, HB0, Lib.hid (by rw [HZ0.out]; exact Nat.le_refl _), HF0, HF1⟩
  case round =>
    obtain ⟨i, v1, v2, rfl, hi, HBI, HBr, HSr, HFr, HGr⟩ := hrel
    obtain ⟨wo, rfl⟩ : ∃ wo : World, wo = wr := ⟨_, rfl⟩
    clear HBK0 HB0 HF0 HF1 HZ0 HW0
    have x0 : wo.cell? ⟨N, 0, none⟩ = some (.slice a OP.length cap) := by rw [cell_of_heap HFr.out]; rfl
    have x1 : wo.cell? ⟨N, 1, none⟩ = some (.slice ac CR.length capc) := by rw [cell_of_heap HFr.out]; rfl
    by_cases hlt : i < M
    · have hex : (decide ((i : Int) < 2) = true ∧ decide (i < 2) = true) ∨ (decide ((i : Int) < 2) = false ∧ decide (i < 2) = false ∧ decide ((i : Int) < (OP.length : Int)) = true ∧ decide (i < OP.length) = true ∧ decide ((i : Int) < 10) = true ∧ decide (i < 10) = true) := by
        have := HM1.out
        by_cases h : i < 2
        · exact .inl ⟨decide_eq_true (by omega), decide_eq_true h⟩
        · exact .inr ⟨decide_eq_false (by omega), decide_eq_false h, decide_eq_true (by omega), decide_eq_true (by omega), decide_eq_true (by omega), decide_eq_true (by omega)⟩
      have hi10 : i < 10 := by have := HM1.out; omega
      -- the two numbers
      obtain ⟨y1, hy1⟩ : ∃ y, OP.getD i 0 = y := ⟨_, rfl⟩
      obtain ⟨y2, hy2⟩ : ∃ y, CR.getD i 0 = y := ⟨_, rfl⟩
      have n1 : (decide ((i : Int) < (OP.length : Int)) = true ∧ decide (i < OP.length) = true ∧ (∃ b off, a = some ⟨b, off, none⟩ ∧ wo.cell? ⟨b, off + i, none⟩ = some (.int .u16 y1)) ∧ IntKind.i64.wrap y1 = y1 ∧ i < OP.length) ∨ (decide ((i : Int) < (OP.length : Int)) = false ∧ decide (i < OP.length) = false ∧ y1 = 0) := by
        by_cases h : i < OP.length
        · obtain ⟨b, off, e, _, hc⟩ := cellW2 (HS.out.below (by rw [HN.out]; exact HBr.out : Below w.heap.size w wo)) (k := i) (by simpa using h)
          simp only [List.getElem_map] at hc
          rw [← getD_of h, hy1] at hc
          have := HO.out OP[i] (List.getElem_mem h)
          rw [← getD_of h, hy1] at this
          exact .inl ⟨decide_eq_true (by omega), decide_eq_true h, ⟨b, off, e, hc⟩, wrap_small _ (by omega) (by omega), h⟩
        · exact .inr ⟨decide_eq_false (by omega), decide_eq_false h, by rw [← hy1, getD_no h]⟩
      have n2 : (decide ((i : Int) < (CR.length : Int)) = true ∧ decide (i < CR.length) = true ∧ (∃ b off, ac = some ⟨b, off, none⟩ ∧ wo.cell? ⟨b, off + i, none⟩ = some (.int .u16 y2)) ∧ IntKind.i64.wrap y2 = y2 ∧ i < CR.length) ∨ (decide ((i : Int) < (CR.length : Int)) = false ∧ decide (i < CR.length) = false ∧ y2 = 0) := by
        by_cases h : i < CR.length
        · obtain ⟨b, off, e, _, hc⟩ := cellW2 (HS'.out.below (by rw [HN.out]; exact HBr.out : Below w.heap.size w wo)) (k := i) (by simpa using h)
          simp only [List.getElem_map] at hc
          rw [← getD_of h, hy2] at hc
          have := HC.out CR[i] (List.getElem_mem h)
          rw [← getD_of h, hy2] at this
          exact .inl ⟨decide_eq_true (by omega), decide_eq_true h, ⟨b, off, e, hc⟩, wrap_small _ (by omega) (by omega), h⟩
        · exact .inr ⟨decide_eq_false (by omega), decide_eq_false h, by rw [← hy2, getD_no h]⟩
      have HY1 : Hid (ints (bookL OP (i + 1)) = ints (bookL OP i) ++ [.int .i64 y1]) := Lib.hid (by rw [ints_succ, hy1])
      have HY2 : Hid (ints (bookL CR (i + 1)) = ints (bookL CR i) ++ [.int .i64 y2]) := Lib.hid (by rw [ints_succ, hy2])
      obtain ⟨Z, hZ⟩ : ∃ Z, wo.heap.size = Z := ⟨_, rfl⟩
      have HZ := Lib.hid hZ
      have hb1 : ∀ g, v1.ownBlock = some g → N + 1 + 1 + 1 ≤ g ∧ g < Z := fun g hg => by rw [← hZ]; exact HBI.out.r1.lt g hg
      have hb2 : ∀ g, v2.ownBlock = some g → N + 1 + 1 + 1 ≤ g ∧ g < Z := fun g hg => by rw [← hZ]; exact HBI.out.r2.lt g hg
      have HV1 := Lib.hid hb1
      have HV2 := Lib.hid hb2
      clear hy1 hy2 hZ hb1 hb2
      rcases n1 with ⟨p1, p2, ⟨b, off, rfl, q1⟩, p3, p4⟩ | ⟨p1, p2, p3⟩
      · rcases n2 with ⟨r1, r2, ⟨b', off', rfl, q2⟩, r3, r4⟩ | ⟨r1, r2, r3⟩
        · rcases hex with ⟨s1, s2⟩ | ⟨s1, s2, s3, s4, s5, s6⟩
          all_goals
            go_wp2_with fail
            refine wp_region_seqV 11 ((fun v => v = .pointer (some ⟨N + 1 + 1, 0, none⟩)) :: (fun v => v = v1) :: (fun v => v = .int .i64 y1) :: (fun v => ∃ q, v = .slice (some ⟨q, 0, none⟩) 1 1) :: (fun v => ∃ g c, v = .slice (some ⟨g, 0, none⟩) (i + 1) c) :: (fun v => v = .pointer (some ⟨N + 1 + 1, 1, none⟩)) :: (fun v => v = v2) :: (fun v => v = .int .i64 y2) :: (fun v => ∃ q, v = .slice (some ⟨q, 0, none⟩) 1 1) :: (fun v => ∃ g c, v = .slice (some ⟨g, 0, none⟩) (i + 1) c) :: (fun v => v = .pointer (some ⟨N + 1 + 1, 0, none⟩)) :: []) (JTwoV wo v1 v2 3 4 8 9 (N + 1 + 1 + 1) 3 3 i i (ints (bookL OP i)) (ints (bookL CR i)) (.int .i64 y1) (.int .i64 y2)) rfl mix (by kernel_rfl) (by kernel_rfl) (fun _ _ _ _ hc h => h.congr hc) (fun _ => .start) ?_
            simp only [List.take_succ_cons, List.take_zero]
            refine sv_rd rfl (fun _ _ _ h => h.read (by simp) (by simp) (by simp) (by simp)) (fun u1 L1 vs1 hvs1 hL1 hJ1 => ?_) ?_
            · simp [opOK, go_sem]
            simp only [Act.put, List.setIfInBounds_toArray, List.set_cons_succ, List.set_cons_zero, List.nil_append]
            refine sv_rd rfl (fun _ _ _ h => h.read (by simp) (by simp) (by simp) (by simp)) (fun u1 L1 vs1 hvs1 hL1 hJ1 => ?_) ?_
            · have hbx := hJ1.b.heap HBI.out.box (fun e => by have := (HV1.out _ e).1; omega) (fun e => by have := (HV2.out _ e).1; omega)
              have z0 : u1.cell? ⟨N + 1 + 1, 0, none⟩ = some v1 := by rw [cell_of_heap hbx]; rfl
              simp [opOK, go_sem, z0]
            simp only [Act.put, List.setIfInBounds_toArray, List.set_cons_succ, List.set_cons_zero, List.nil_append, List.cons_append]
            refine sv_rd rfl (fun _ _ _ h => h.read (by simp) (by simp) (by simp) (by simp)) (fun u1 L1 vs1 hvs1 hL1 hJ1 => ?_) ?_
            · simp [opOK, go_sem]
            simp only [Act.put, List.setIfInBounds_toArray, List.set_cons_succ, List.set_cons_zero, List.nil_append, List.cons_append]
            refine sv_new ⟨.slice (some ⟨0, 0, none⟩) 1 1, 0, rfl⟩ rfl (fun u1 L1 vs1 hvs1 hL1 hJ1 hd => ?_) ?_
            · simp [opOK, go_sem]
              exact hJ1.swapLit (aB _ _) hJ1.b.size (by rw [cell_of_heap (World.alloc_heap_new _ _)]; rfl) (by decide) (by decide) (by decide)
            rintro _ ⟨b48, rfl⟩
            simp only [Act.put, List.setIfInBounds_toArray, List.set_cons_succ, List.set_cons_zero, List.nil_append, List.cons_append]
            refine sv_new ⟨.slice (some ⟨0, 0, none⟩) (i + 1) 0, 0, 0, rfl⟩ rfl (fun u1 L1 vs1 hvs1 hL1 hJ1 hd => ?_) ?_
            · obtain ⟨bq, eq, hbq, hcq⟩ := hJ1.lit1 (hd ⟨3, .data⟩ (by simp) rfl)
              rw [hvs1 3 _ rfl] at eq
              cases eq
              have hown := hJ1.b.own1 HBI.out.r1 hL1 HBI.out.ne
              refine opOK_mono (opOK_append1_at (.tmp 46) (.tmp 48) 22 rfl (N + 1 + 1 + 1) 3 (.int .i64 0) 8 Try.underlying22 info3 rfl v1 i _ rfl hown b48 0 1 _ rfl hcq rfl (by omega) (by decide) (by have := HSr.out; have := hJ1.b.size; omega)) ?_
              rintro v' w' ⟨g, c, rfl, h1, h2, h3⟩
              exact ⟨⟨g, c, rfl⟩, hJ1.app1 hL1 h2 (fun q hq => by rw [HZ.out]; exact (HV1.out q hq).2) h1 (h3.elim (fun e => .inl e.symm) (fun e => .inr ⟨g, rfl, by rw [e]; exact hJ1.b.size⟩)) (by decide) (by decide) (by decide)⟩
            rintro _ ⟨g4, c4, rfl⟩
            simp only [Act.put, List.setIfInBounds_toArray, List.set_cons_succ, List.set_cons_zero, List.nil_append, List.cons_append]
            refine sv_rd rfl (fun _ _ _ h => h.read (by simp) (by simp) (by simp) (by simp)) (fun u1 L1 vs1 hvs1 hL1 hJ1 => ?_) ?_
            · simp [opOK, go_sem]
            simp only [Act.put, List.setIfInBounds_toArray, List.set_cons_succ, List.set_cons_zero, List.nil_append, List.cons_append]
            refine sv_rd rfl (fun _ _ _ h => h.read (by simp) (by simp) (by simp) (by simp)) (fun u1 L1 vs1 hvs1 hL1 hJ1 => ?_) ?_
            · have hbx := hJ1.b.heap HBI.out.box (fun e => by have := (HV1.out _ e).1; omega) (fun e => by have := (HV2.out _ e).1; omega)
              have z1 : u1.cell? ⟨N + 1 + 1, 1, none⟩ = some v2 := by rw [cell_of_heap hbx]; rfl
              simp [opOK, go_sem, z1]
            simp only [Act.put, List.setIfInBounds_toArray, List.set_cons_succ, List.set_cons_zero, List.nil_append, List.cons_append]
            refine sv_rd rfl (fun _ _ _ h => h.read (by simp) (by simp) (by simp) (by simp)) (fun u1 L1 vs1 hvs1 hL1 hJ1 => ?_) ?_
            · simp [opOK, go_sem]
            simp only [Act.put, List.setIfInBounds_toArray, List.set_cons_succ, List.set_cons_zero, List.nil_append, List.cons_append]
            refine sv_new ⟨.slice (some ⟨0, 0, none⟩) 1 1, 0, rfl⟩ rfl (fun u1 L1 vs1 hvs1 hL1 hJ1 hd => ?_) ?_
            · simp [opOK, go_sem]
              exact hJ1.mkLit2 (aB _ _) hJ1.b.size (by rw [cell_of_heap (World.alloc_heap_new _ _)]; rfl) (by decide) (by decide) (by decide)
            rintro _ ⟨b53, rfl⟩
            simp only [Act.put, List.setIfInBounds_toArray, List.set_cons_succ, List.set_cons_zero, List.nil_append, List.cons_append]
            refine sv_new ⟨.slice (some ⟨0, 0, none⟩) (i + 1) 0, 0, 0, rfl⟩ rfl (fun u1 L1 vs1 hvs1 hL1 hJ1 hd => ?_) ?_
            · obtain ⟨bq, eq, hbq, hcq⟩ := hJ1.lit2 (hd ⟨8, .data⟩ (by simp) rfl)
              rw [hvs1 8 _ rfl] at eq
              cases eq
              have hown := hJ1.b.own2 HBI.out.r2 hL1 HBI.out.ne
              refine opOK_mono (opOK_append1_at (.tmp 51) (.tmp 53) 22 rfl (N + 1 + 1 + 1) 3 (.int .i64 0) 8 Try.underlying22 info3 rfl v2 i _ rfl hown b53 0 1 _ rfl hcq rfl (by omega) (by decide) (by have := HSr.out; have := hJ1.b.size; omega)) ?_
              rintro v' w' ⟨g, c, rfl, h1, h2, h3⟩
              exact ⟨⟨g, c, rfl⟩, hJ1.app2 (hd ⟨4, .chain⟩ (by simp) rfl) h2 (fun q hq => by rw [HZ.out]; exact (HV2.out q hq).2) HBI.out.ne h1 rfl h3 (by decide) (by decide) (by decide)⟩
            rintro _ ⟨g9, c9, rfl⟩
            simp only [Act.put, List.setIfInBounds_toArray, List.set_cons_succ, List.set_cons_zero, List.nil_append, List.cons_append]
            refine sv_rd rfl (fun _ _ _ h => h.read (by simp) (by simp) (by simp) (by simp)) (fun u1 L1 vs1 hvs1 hL1 hJ1 => ?_) ?_
            · simp [opOK, go_sem]
            simp only [Act.put, List.setIfInBounds_toArray, List.set_cons_succ, List.set_cons_zero, List.nil_append, List.cons_append]
            refine sv_end fun vs6 w6 hvs6 hJ6 => ?_
            simp only [List.drop_succ_cons, List.drop_zero]
            have h4 := hJ6.row1 (by decide)
            have h9 := hJ6.row2 (by decide)
            have hne := hJ6.ne (by decide) (by decide)
            rw [hvs6 4 _ rfl] at h4 hne
            rw [hvs6 9 _ rfl] at h9 hne
            have hbx := hJ6.b.heap HBI.out.box (fun e => by have := (HV1.out _ e).1; omega) (fun e => by have := (HV2.out _ e).1; omega)
            have hf := hJ6.b.heap HFr.out (fun e => by have := (HV1.out _ e).1; omega) (fun e => by have := (HV2.out _ e).1; omega)
            have hg := hJ6.b.heap HGr.out (fun e => by have := (HV1.out _ e).1; omega) (fun e => by have := (HV2.out _ e).1; omega)
            have hb6 : Below N w w6 := HBr.out.trans ⟨hJ6.b.os, hJ6.b.tape, hJ6.b.output, hJ6.b.size, fun k hk => hJ6.b.block k (by have := HSr.out; omega) (.inr fun e => by have := (HV1.out _ e).1; omega) (.inr fun e => by have := (HV2.out _ e).1; omega)⟩
            have z0 : w6.cell? ⟨N + 1 + 1, 0, none⟩ = some v1 := by rw [cell_of_heap hbx]; rfl
            have z1 : w6.cell? ⟨N + 1 + 1, 1, none⟩ = some v2 := by rw [cell_of_heap hbx]; rfl
            have zf0 : w6.frozen? ⟨N + 1 + 1, 0, none⟩ = false := frozen_of_heap hbx
            have zf1 : w6.frozen? ⟨N + 1 + 1, 1, none⟩ = false := frozen_of_heap hbx
            have HE : Hid (BookE (N + 1 + 1) OP CR i v1 v2 w6 (.slice (some ⟨g4, 0, none⟩) (i + 1) c4) (.slice (some ⟨g9, 0, none⟩) (i + 1) c9)) := Lib.hid ⟨hbx, by rw [HY1.out]; exact h4.1, by rw [HY2.out]; exact h9.1, .inr hne⟩
            have HB6 := Lib.hid hb6
            have HF6 := Lib.hid hf
            have HG6 := Lib.hid hg
            have HS6 : Hid (N + 3 ≤ w6.heap.size) := Lib.hid (by have := HSr.out; have := hJ6.b.size; omega)
            have hwi : IntKind.i64.wrap ((i : Int) + 1) = (i : Int) + 1 := wrap_small _ (by omega) (by omega)
            clear hJ6 hvs6 hne h4 h9 hbx hf hg hb6 x0 x1
            go_wp2
            go_roundw
            case rel => exact ⟨i + 1, _, _, by go_num, by omega, Lib.hid HE.out.next, Lib.hid ((HB6.out.setCell (by simp; omega) _).setCell (by simp; omega) _), Lib.hid (by simpa using HS6.out), Lib.hid (by rw [Below.heap_setCell _ _ _ _ (by simp; omega), Below.heap_setCell _ _ _ _ (by simp; omega)]; exact HF6.out), Lib.hid (by rw [Below.heap_setCell _ _ _ _ (by simp), Below.heap_setCell _ _ _ _ (by simp)]; exact HG6.out)⟩
            case measure => simp [intOf]; omega
        · subst r3
          rcases hex with ⟨s1, s2⟩ | ⟨s1, s2, s3, s4, s5, s6⟩
          all_goals
            go_wp2_with fail
            refine wp_region_seqV 11 ((fun v => v = .pointer (some ⟨N + 1 + 1, 0, none⟩)) :: (fun v => v = v1) :: (fun v => v = .int .i64 y1) :: (fun v => ∃ q, v = .slice (some ⟨q, 0, none⟩) 1 1) :: (fun v => ∃ g c, v = .slice (some ⟨g, 0, none⟩) (i + 1) c) :: (fun v => v = .pointer (some ⟨N + 1 + 1, 1, none⟩)) :: (fun v => v = v2) :: (fun v => v = .int .i64 (0 : Int)) :: (fun v => ∃ q, v = .slice (some ⟨q, 0, none⟩) 1 1) :: (fun v => ∃ g c, v = .slice (some ⟨g, 0, none⟩) (i + 1) c) :: (fun v => v = .pointer (some ⟨N + 1 + 1, 0, none⟩)) :: []) (JTwoV wo v1 v2 3 4 8 9 (N + 1 + 1 + 1) 3 3 i i (ints (bookL OP i)) (ints (bookL CR i)) (.int .i64 y1) (.int .i64 (0 : Int))) rfl mix (by kernel_rfl) (by kernel_rfl) (fun _ _ _ _ hc h => h.congr hc) (fun _ => .start) ?_
            simp only [List.take_succ_cons, List.take_zero]
            refine sv_rd rfl (fun _ _ _ h => h.read (by simp) (by simp) (by simp) (by simp)) (fun u1 L1 vs1 hvs1 hL1 hJ1 => ?_) ?_
            · simp [opOK, go_sem]
            simp only [Act.put, List.setIfInBounds_toArray, List.set_cons_succ, List.set_cons_zero, List.nil_append]
            refine sv_rd rfl (fun _ _ _ h => h.read (by simp) (by simp) (by simp) (by simp)) (fun u1 L1 vs1 hvs1 hL1 hJ1 => ?_) ?_
            · have hbx := hJ1.b.heap HBI.out.box (fun e => by have := (HV1.out _ e).1; omega) (fun e => by have := (HV2.out _ e).1; omega)
              have z0 : u1.cell? ⟨N + 1 + 1, 0, none⟩ = some v1 := by rw [cell_of_heap hbx]; rfl
              simp [opOK, go_sem, z0]
            simp only [Act.put, List.setIfInBounds_toArray, List.set_cons_succ, List.set_cons_zero, List.nil_append, List.cons_append]
            refine sv_rd rfl (fun _ _ _ h => h.read (by simp) (by simp) (by simp) (by simp)) (fun u1 L1 vs1 hvs1 hL1 hJ1 => ?_) ?_
            · simp [opOK, go_sem]
            simp only [Act.put, List.setIfInBounds_toArray, List.set_cons_succ, List.set_cons_zero, List.nil_append, List.cons_append]
            refine sv_new ⟨.slice (some ⟨0, 0, none⟩) 1 1, 0, rfl⟩ rfl (fun u1 L1 vs1 hvs1 hL1 hJ1 hd => ?_) ?_
            · simp [opOK, go_sem]
              exact hJ1.swapLit (aB _ _) hJ1.b.size (by rw [cell_of_heap (World.alloc_heap_new _ _)]; rfl) (by decide) (by decide) (by decide)
            rintro _ ⟨b48, rfl⟩
            simp only [Act.put, List.setIfInBounds_toArray, List.set_cons_succ, List.set_cons_zero, List.nil_append, List.cons_append]
            refine sv_new ⟨.slice (some ⟨0, 0, none⟩) (i + 1) 0, 0, 0, rfl⟩ rfl (fun u1 L1 vs1 hvs1 hL1 hJ1 hd => ?_) ?_
            · obtain ⟨bq, eq, hbq, hcq⟩ := hJ1.lit1 (hd ⟨3, .data⟩ (by simp) rfl)
              rw [hvs1 3 _ rfl] at eq
              cases eq
              have hown := hJ1.b.own1 HBI.out.r1 hL1 HBI.out.ne
              refine opOK_mono (opOK_append1_at (.tmp 46) (.tmp 48) 22 rfl (N + 1 + 1 + 1) 3 (.int .i64 0) 8 Try.underlying22 info3 rfl v1 i _ rfl hown b48 0 1 _ rfl hcq rfl (by omega) (by decide) (by have := HSr.out; have := hJ1.b.size; omega)) ?_
              rintro v' w' ⟨g, c, rfl, h1, h2, h3⟩
              exact ⟨⟨g, c, rfl⟩, hJ1.app1 hL1 h2 (fun q hq => by rw [HZ.out]; exact (HV1.out q hq).2) h1 (h3.elim (fun e => .inl e.symm) (fun e => .inr ⟨g, rfl, by rw [e]; exact hJ1.b.size⟩)) (by decide) (by decide) (by decide)⟩
            rintro _ ⟨g4, c4, rfl⟩
            simp only [Act.put, List.setIfInBounds_toArray, List.set_cons_succ, List.set_cons_zero, List.nil_append, List.cons_append]
            refine sv_rd rfl (fun _ _ _ h => h.read (by simp) (by simp) (by simp) (by simp)) (fun u1 L1 vs1 hvs1 hL1 hJ1 => ?_) ?_
            · simp [opOK, go_sem]
            simp only [Act.put, List.setIfInBounds_toArray, List.set_cons_succ, List.set_cons_zero, List.nil_append, List.cons_append]
            refine sv_rd rfl (fun _ _ _ h => h.read (by simp) (by simp) (by simp) (by simp)) (fun u1 L1 vs1 hvs1 hL1 hJ1 => ?_) ?_
            · have hbx := hJ1.b.heap HBI.out.box (fun e => by have := (HV1.out _ e).1; omega) (fun e => by have := (HV2.out _ e).1; omega)
              have z1 : u1.cell? ⟨N + 1 + 1, 1, none⟩ = some v2 := by rw [cell_of_heap hbx]; rfl
              simp [opOK, go_sem, z1]
            simp only [Act.put, List.setIfInBounds_toArray, List.set_cons_succ, List.set_cons_zero, List.nil_append, List.cons_append]
            refine sv_rd rfl (fun _ _ _ h => h.read (by simp) (by simp) (by simp) (by simp)) (fun u1 L1 vs1 hvs1 hL1 hJ1 => ?_) ?_
            · simp [opOK, go_sem]
            simp only [Act.put, List.setIfInBounds_toArray, List.set_cons_succ, List.set_cons_zero, List.nil_append, List.cons_append]
            refine sv_new ⟨.slice (some ⟨0, 0, none⟩) 1 1, 0, rfl⟩ rfl (fun u1 L1 vs1 hvs1 hL1 hJ1 hd => ?_) ?_
            · simp [opOK, go_sem]
              exact hJ1.mkLit2 (aB _ _) hJ1.b.size (by rw [cell_of_heap (World.alloc_heap_new _ _)]; rfl) (by decide) (by decide) (by decide)
            rintro _ ⟨b53, rfl⟩
            simp only [Act.put, List.setIfInBounds_toArray, List.set_cons_succ, List.set_cons_zero, List.nil_append, List.cons_append]
            refine sv_new ⟨.slice (some ⟨0, 0, none⟩) (i + 1) 0, 0, 0, rfl⟩ rfl (fun u1 L1 vs1 hvs1 hL1 hJ1 hd => ?_) ?_
            · obtain ⟨bq, eq, hbq, hcq⟩ := hJ1.lit2 (hd ⟨8, .data⟩ (by simp) rfl)
              rw [hvs1 8 _ rfl] at eq
              cases eq
              have hown := hJ1.b.own2 HBI.out.r2 hL1 HBI.out.ne
              refine opOK_mono (opOK_append1_at (.tmp 51) (.tmp 53) 22 rfl (N + 1 + 1 + 1) 3 (.int .i64 0) 8 Try.underlying22 info3 rfl v2 i _ rfl hown b53 0 1 _ rfl hcq rfl (by omega) (by decide) (by have := HSr.out; have := hJ1.b.size; omega)) ?_
              rintro v' w' ⟨g, c, rfl, h1, h2, h3⟩
              exact ⟨⟨g, c, rfl⟩, hJ1.app2 (hd ⟨4, .chain⟩ (by simp) rfl) h2 (fun q hq => by rw [HZ.out]; exact (HV2.out q hq).2) HBI.out.ne h1 rfl h3 (by decide) (by decide) (by decide)⟩
            rintro _ ⟨g9, c9, rfl⟩
            simp only [Act.put, List.setIfInBounds_toArray, List.set_cons_succ, List.set_cons_zero, List.nil_append, List.cons_append]
            refine sv_rd rfl (fun _ _ _ h => h.read (by simp) (by simp) (by simp) (by simp)) (fun u1 L1 vs1 hvs1 hL1 hJ1 => ?_) ?_
            · simp [opOK, go_sem]
            simp only [Act.put, List.setIfInBounds_toArray, List.set_cons_succ, List.set_cons_zero, List.nil_append, List.cons_append]
            refine sv_end fun vs6 w6 hvs6 hJ6 => ?_
            simp only [List.drop_succ_cons, List.drop_zero]
            have h4 := hJ6.row1 (by decide)
            have h9 := hJ6.row2 (by decide)
            have hne := hJ6.ne (by decide) (by decide)
            rw [hvs6 4 _ rfl] at h4 hne
            rw [hvs6 9 _ rfl] at h9 hne
            have hbx := hJ6.b.heap HBI.out.box (fun e => by have := (HV1.out _ e).1; omega) (fun e => by have := (HV2.out _ e).1; omega)
            have hf := hJ6.b.heap HFr.out (fun e => by have := (HV1.out _ e).1; omega) (fun e => by have := (HV2.out _ e).1; omega)
            have hg := hJ6.b.heap HGr.out (fun e => by have := (HV1.out _ e).1; omega) (fun e => by have := (HV2.out _ e).1; omega)
            have hb6 : Below N w w6 := HBr.out.trans ⟨hJ6.b.os, hJ6.b.tape, hJ6.b.output, hJ6.b.size, fun k hk => hJ6.b.block k (by have := HSr.out; omega) (.inr fun e => by have := (HV1.out _ e).1; omega) (.inr fun e => by have := (HV2.out _ e).1; omega)⟩
            have z0 : w6.cell? ⟨N + 1 + 1, 0, none⟩ = some v1 := by rw [cell_of_heap hbx]; rfl
            have z1 : w6.cell? ⟨N + 1 + 1, 1, none⟩ = some v2 := by rw [cell_of_heap hbx]; rfl
            have zf0 : w6.frozen? ⟨N + 1 + 1, 0, none⟩ = false := frozen_of_heap hbx
            have zf1 : w6.frozen? ⟨N + 1 + 1, 1, none⟩ = false := frozen_of_heap hbx
            have HE : Hid (BookE (N + 1 + 1) OP CR i v1 v2 w6 (.slice (some ⟨g4, 0, none⟩) (i + 1) c4) (.slice (some ⟨g9, 0, none⟩) (i + 1) c9)) := Lib.hid ⟨hbx, by rw [HY1.out]; exact h4.1, by rw [HY2.out]; exact h9.1, .inr hne⟩
            have HB6 := Lib.hid hb6
            have HF6 := Lib.hid hf
            have HG6 := Lib.hid hg
            have HS6 : Hid (N + 3 ≤ w6.heap.size) := Lib.hid (by have := HSr.out; have := hJ6.b.size; omega)
            have hwi : IntKind.i64.wrap ((i : Int) + 1) = (i : Int) + 1 := wrap_small _ (by omega) (by omega)
            clear hJ6 hvs6 hne h4 h9 hbx hf hg hb6 x0 x1
            go_wp2
            go_roundw
            case rel => exact ⟨i + 1, _, _, by go_num, by omega, Lib.hid HE.out.next, Lib.hid ((HB6.out.setCell (by simp; omega) _).setCell (by simp; omega) _), Lib.hid (by simpa using HS6.out), Lib.hid (by rw [Below.heap_setCell _ _ _ _ (by simp; omega), Below.heap_setCell _ _ _ _ (by simp; omega)]; exact HF6.out), Lib.hid (by rw [Below.heap_setCell _ _ _ _ (by simp), Below.heap_setCell _ _ _ _ (by simp)]; exact HG6.out)⟩
            case measure => simp [intOf]; omega
      · subst p3
        rcases n2 with ⟨r1, r2, ⟨b', off', rfl, q2⟩, r3, r4⟩ | ⟨r1, r2, r3⟩
        · rcases hex with ⟨s1, s2⟩ | ⟨s1, s2, s3, s4, s5, s6⟩
          case' inr => rw [s3] at p1; cases p1
          go_wp2_with fail
          refine wp_region_seqV 11 ((fun v => v = .pointer (some ⟨N + 1 + 1, 0, none⟩)) :: (fun v => v = v1) :: (fun v => v = .int .i64 (0 : Int)) :: (fun v => ∃ q, v = .slice (some ⟨q, 0, none⟩) 1 1) :: (fun v => ∃ g c, v = .slice (some ⟨g, 0, none⟩) (i + 1) c) :: (fun v => v = .pointer (some ⟨N + 1 + 1, 1, none⟩)) :: (fun v => v = v2) :: (fun v => v = .int .i64 y2) :: (fun v => ∃ q, v = .slice (some ⟨q, 0, none⟩) 1 1) :: (fun v => ∃ g c, v = .slice (some ⟨g, 0, none⟩) (i + 1) c) :: (fun v => v = .pointer (some ⟨N + 1 + 1, 0, none⟩)) :: []) (JTwoV wo v1 v2 3 4 8 9 (N + 1 + 1 + 1) 3 3 i i (ints (bookL OP i)) (ints (bookL CR i)) (.int .i64 (0 : Int)) (.int .i64 y2)) rfl mix (by kernel_rfl) (by kernel_rfl) (fun _ _ _ _ hc h => h.congr hc) (fun _ => .start) ?_
          simp only [List.take_succ_cons, List.take_zero]
          refine sv_rd rfl (fun _ _ _ h => h.read (by simp) (by simp) (by simp) (by simp)) (fun u1 L1 vs1 hvs1 hL1 hJ1 => ?_) ?_
          · simp [opOK, go_sem]
          simp only [Act.put, List.setIfInBounds_toArray, List.set_cons_succ, List.set_cons_zero, List.nil_append]
          refine sv_rd rfl (fun _ _ _ h => h.read (by simp) (by simp) (by simp) (by simp)) (fun u1 L1 vs1 hvs1 hL1 hJ1 => ?_) ?_
          · have hbx := hJ1.b.heap HBI.out.box (fun e => by have := (HV1.out _ e).1; omega) (fun e => by have := (HV2.out _ e).1; omega)
            have z0 : u1.cell? ⟨N + 1 + 1, 0, none⟩ = some v1 := by rw [cell_of_heap hbx]; rfl
            simp [opOK, go_sem, z0]
          simp only [Act.put, List.setIfInBounds_toArray, List.set_cons_succ, List.set_cons_zero, List.nil_append, List.cons_append]
          refine sv_rd rfl (fun _ _ _ h => h.read (by simp) (by simp) (by simp) (by simp)) (fun u1 L1 vs1 hvs1 hL1 hJ1 => ?_) ?_
          · simp [opOK, go_sem]
          simp only [Act.put, List.setIfInBounds_toArray, List.set_cons_succ, List.set_cons_zero, List.nil_append, List.cons_append]
          refine sv_new ⟨.slice (some ⟨0, 0, none⟩) 1 1, 0, rfl⟩ rfl (fun u1 L1 vs1 hvs1 hL1 hJ1 hd => ?_) ?_
          · simp [opOK, go_sem]
            exact hJ1.swapLit (aB _ _) hJ1.b.size (by rw [cell_of_heap (World.alloc_heap_new _ _)]; rfl) (by decide) (by decide) (by decide)
          rintro _ ⟨b48, rfl⟩
          simp only [Act.put, List.setIfInBounds_toArray, List.set_cons_succ, List.set_cons_zero, List.nil_append, List.cons_append]
          refine sv_new ⟨.slice (some ⟨0, 0, none⟩) (i + 1) 0, 0, 0, rfl⟩ rfl (fun u1 L1 vs1 hvs1 hL1 hJ1 hd => ?_) ?_
          · obtain ⟨bq, eq, hbq, hcq⟩ := hJ1.lit1 (hd ⟨3, .data⟩ (by simp) rfl)
            rw [hvs1 3 _ rfl] at eq
            cases eq
            have hown := hJ1.b.own1 HBI.out.r1 hL1 HBI.out.ne
            refine opOK_mono (opOK_append1_at (.tmp 46) (.tmp 48) 22 rfl (N + 1 + 1 + 1) 3 (.int .i64 0) 8 Try.underlying22 info3 rfl v1 i _ rfl hown b48 0 1 _ rfl hcq rfl (by omega) (by decide) (by have := HSr.out; have := hJ1.b.size; omega)) ?_
            rintro v' w' ⟨g, c, rfl, h1, h2, h3⟩
            exact ⟨⟨g, c, rfl⟩, hJ1.app1 hL1 h2 (fun q hq => by rw [HZ.out]; exact (HV1.out q hq).2) h1 (h3.elim (fun e => .inl e.symm) (fun e => .inr ⟨g, rfl, by rw [e]; exact hJ1.b.size⟩)) (by decide) (by decide) (by decide)⟩
          rintro _ ⟨g4, c4, rfl⟩
          simp only [Act.put, List.setIfInBounds_toArray, List.set_cons_succ, List.set_cons_zero, List.nil_append, List.cons_append]
          refine sv_rd rfl (fun _ _ _ h => h.read (by simp) (by simp) (by simp) (by simp)) (fun u1 L1 vs1 hvs1 hL1 hJ1 => ?_) ?_
          · simp [opOK, go_sem]
          simp only [Act.put, List.setIfInBounds_toArray, List.set_cons_succ, List.set_cons_zero, List.nil_append, List.cons_append]
          refine sv_rd rfl (fun _ _ _ h => h.read (by simp) (by simp) (by simp) (by simp)) (fun u1 L1 vs1 hvs1 hL1 hJ1 => ?_) ?_
          · have hbx := hJ1.b.heap HBI.out.box (fun e => by have := (HV1.out _ e).1; omega) (fun e => by have := (HV2.out _ e).1; omega)
            have z1 : u1.cell? ⟨N + 1 + 1, 1, none⟩ = some v2 := by rw [cell_of_heap hbx]; rfl
            simp [opOK, go_sem, z1]
          simp only [Act.put, List.setIfInBounds_toArray, List.set_cons_succ, List.set_cons_zero, List.nil_append, List.cons_append]
          refine sv_rd rfl (fun _ _ _ h => h.read (by simp) (by simp) (by simp) (by simp)) (fun u1 L1 vs1 hvs1 hL1 hJ1 => ?_) ?_
          · simp [opOK, go_sem]
          simp only [Act.put, List.setIfInBounds_toArray, List.set_cons_succ, List.set_cons_zero, List.nil_append, List.cons_append]
          refine sv_new ⟨.slice (some ⟨0, 0, none⟩) 1 1, 0, rfl⟩ rfl (fun u1 L1 vs1 hvs1 hL1 hJ1 hd => ?_) ?_
          · simp [opOK, go_sem]
            exact hJ1.mkLit2 (aB _ _) hJ1.b.size (by rw [cell_of_heap (World.alloc_heap_new _ _)]; rfl) (by decide) (by decide) (by decide)
          rintro _ ⟨b53, rfl⟩
          simp only [Act.put, List.setIfInBounds_toArray, List.set_cons_succ, List.set_cons_zero, List.nil_append, List.cons_append]
          refine sv_new ⟨.slice (some ⟨0, 0, none⟩) (i + 1) 0, 0, 0, rfl⟩ rfl (fun u1 L1 vs1 hvs1 hL1 hJ1 hd => ?_) ?_
          · obtain ⟨bq, eq, hbq, hcq⟩ := hJ1.lit2 (hd ⟨8, .data⟩ (by simp) rfl)
            rw [hvs1 8 _ rfl] at eq
            cases eq
            have hown := hJ1.b.own2 HBI.out.r2 hL1 HBI.out.ne
            refine opOK_mono (opOK_append1_at (.tmp 51) (.tmp 53) 22 rfl (N + 1 + 1 + 1) 3 (.int .i64 0) 8 Try.underlying22 info3 rfl v2 i _ rfl hown b53 0 1 _ rfl hcq rfl (by omega) (by decide) (by have := HSr.out; have := hJ1.b.size; omega)) ?_
            rintro v' w' ⟨g, c, rfl, h1, h2, h3⟩
            exact ⟨⟨g, c, rfl⟩, hJ1.app2 (hd ⟨4, .chain⟩ (by simp) rfl) h2 (fun q hq => by rw [HZ.out]; exact (HV2.out q hq).2) HBI.out.ne h1 rfl h3 (by decide) (by decide) (by decide)⟩
          rintro _ ⟨g9, c9, rfl⟩
          simp only [Act.put, List.setIfInBounds_toArray, List.set_cons_succ, List.set_cons_zero, List.nil_append, List.cons_append]
          refine sv_rd rfl (fun _ _ _ h => h.read (by simp) (by simp) (by simp) (by simp)) (fun u1 L1 vs1 hvs1 hL1 hJ1 => ?_) ?_
          · simp [opOK, go_sem]
          simp only [Act.put, List.setIfInBounds_toArray, List.set_cons_succ, List.set_cons_zero, List.nil_append, List.cons_append]
          refine sv_end fun vs6 w6 hvs6 hJ6 => ?_
          simp only [List.drop_succ_cons, List.drop_zero]
          have h4 := hJ6.row1 (by decide)
          have h9 := hJ6.row2 (by decide)
          have hne := hJ6.ne (by decide) (by decide)
          rw [hvs6 4 _ rfl] at h4 hne
          rw [hvs6 9 _ rfl] at h9 hne
          have hbx := hJ6.b.heap HBI.out.box (fun e => by have := (HV1.out _ e).1; omega) (fun e => by have := (HV2.out _ e).1; omega)
          have hf := hJ6.b.heap HFr.out (fun e => by have := (HV1.out _ e).1; omega) (fun e => by have := (HV2.out _ e).1; omega)
          have hg := hJ6.b.heap HGr.out (fun e => by have := (HV1.out _ e).1; omega) (fun e => by have := (HV2.out _ e).1; omega)
          have hb6 : Below N w w6 := HBr.out.trans ⟨hJ6.b.os, hJ6.b.tape, hJ6.b.output, hJ6.b.size, fun k hk => hJ6.b.block k (by have := HSr.out; omega) (.inr fun e => by have := (HV1.out _ e).1; omega) (.inr fun e => by have := (HV2.out _ e).1; omega)⟩
          have z0 : w6.cell? ⟨N + 1 + 1, 0, none⟩ = some v1 := by rw [cell_of_heap hbx]; rfl
          have z1 : w6.cell? ⟨N + 1 + 1, 1, none⟩ = some v2 := by rw [cell_of_heap hbx]; rfl
          have zf0 : w6.frozen? ⟨N + 1 + 1, 0, none⟩ = false := frozen_of_heap hbx
          have zf1 : w6.frozen? ⟨N + 1 + 1, 1, none⟩ = false := frozen_of_heap hbx
          have HE : Hid (BookE (N + 1 + 1) OP CR i v1 v2 w6 (.slice (some ⟨g4, 0, none⟩) (i + 1) c4) (.slice (some ⟨g9, 0, none⟩) (i + 1) c9)) := Lib.hid ⟨hbx, by rw [HY1.out]; exact h4.1, by rw [HY2.out]; exact h9.1, .inr hne⟩
          have HB6 := Lib.hid hb6
          have HF6 := Lib.hid hf
          have HG6 := Lib.hid hg
          have HS6 : Hid (N + 3 ≤ w6.heap.size) := Lib.hid (by have := HSr.out; have := hJ6.b.size; omega)
          have hwi : IntKind.i64.wrap ((i : Int) + 1) = (i : Int) + 1 := wrap_small _ (by omega) (by omega)
          clear hJ6 hvs6 hne h4 h9 hbx hf hg hb6 x0 x1
          go_wp2
          go_roundw
          case rel => exact ⟨i + 1, _, _, by go_num, by omega, Lib.hid HE.out.next, Lib.hid ((HB6.out.setCell (by simp; omega) _).setCell (by simp; omega) _), Lib.hid (by simpa using HS6.out), Lib.hid (by rw [Below.heap_setCell _ _ _ _ (by simp; omega), Below.heap_setCell _ _ _ _ (by simp; omega)]; exact HF6.out), Lib.hid (by rw [Below.heap_setCell _ _ _ _ (by simp), Below.heap_setCell _ _ _ _ (by simp)]; exact HG6.out)⟩
          case measure => simp [intOf]; omega
        · subst r3
          rcases hex with ⟨s1, s2⟩ | ⟨s1, s2, s3, s4, s5, s6⟩
          case' inr => rw [s3] at p1; cases p1
          go_wp2_with fail
          refine wp_region_seqV 11 ((fun v => v = .pointer (some ⟨N + 1 + 1, 0, none⟩)) :: (fun v => v = v1) :: (fun v => v = .int .i64 (0 : Int)) :: (fun v => ∃ q, v = .slice (some ⟨q, 0, none⟩) 1 1) :: (fun v => ∃ g c, v = .slice (some ⟨g, 0, none⟩) (i + 1) c) :: (fun v => v = .pointer (some ⟨N + 1 + 1, 1, none⟩)) :: (fun v => v = v2) :: (fun v => v = .int .i64 (0 : Int)) :: (fun v => ∃ q, v = .slice (some ⟨q, 0, none⟩) 1 1) :: (fun v => ∃ g c, v = .slice (some ⟨g, 0, none⟩) (i + 1) c) :: (fun v => v = .pointer (some ⟨N + 1 + 1, 0, none⟩)) :: []) (JTwoV wo v1 v2 3 4 8 9 (N + 1 + 1 + 1) 3 3 i i (ints (bookL OP i)) (ints (bookL CR i)) (.int .i64 (0 : Int)) (.int .i64 (0 : Int))) rfl mix (by kernel_rfl) (by kernel_rfl) (fun _ _ _ _ hc h => h.congr hc) (fun _ => .start) ?_
          simp only [List.take_succ_cons, List.take_zero]
          refine sv_rd rfl (fun _ _ _ h => h.read (by simp) (by simp) (by simp) (by simp)) (fun u1 L1 vs1 hvs1 hL1 hJ1 => ?_) ?_
          · simp [opOK, go_sem]
          simp only [Act.put, List.setIfInBounds_toArray, List.set_cons_succ, List.set_cons_zero, List.nil_append]
          refine sv_rd rfl (fun _ _ _ h => h.read (by simp) (by simp) (by simp) (by simp)) (fun u1 L1 vs1 hvs1 hL1 hJ1 => ?_) ?_
          · have hbx := hJ1.b.heap HBI.out.box (fun e => by have := (HV1.out _ e).1; omega) (fun e => by have := (HV2.out _ e).1; omega)
            have z0 : u1.cell? ⟨N + 1 + 1, 0, none⟩ = some v1 := by rw [cell_of_heap hbx]; rfl
            simp [opOK, go_sem, z0]
          simp only [Act.put, List.setIfInBounds_toArray, List.set_cons_succ, List.set_cons_zero, List.nil_append, List.cons_append]
          refine sv_rd rfl (fun _ _ _ h => h.read (by simp) (by simp) (by simp) (by simp)) (fun u1 L1 vs1 hvs1 hL1 hJ1 => ?_) ?_
          · simp [opOK, go_sem]
          simp only [Act.put, List.setIfInBounds_toArray, List.set_cons_succ, List.set_cons_zero, List.nil_append, List.cons_append]
          refine sv_new ⟨.slice (some ⟨0, 0, none⟩) 1 1, 0, rfl⟩ rfl (fun u1 L1 vs1 hvs1 hL1 hJ1 hd => ?_) ?_
          · simp [opOK, go_sem]
            exact hJ1.swapLit (aB _ _) hJ1.b.size (by rw [cell_of_heap (World.alloc_heap_new _ _)]; rfl) (by decide) (by decide) (by decide)
          rintro _ ⟨b48, rfl⟩
          simp only [Act.put, List.setIfInBounds_toArray, List.set_cons_succ, List.set_cons_zero, List.nil_append, List.cons_append]
          refine sv_new ⟨.slice (some ⟨0, 0, none⟩) (i + 1) 0, 0, 0, rfl⟩ rfl (fun u1 L1 vs1 hvs1 hL1 hJ1 hd => ?_) ?_
          · obtain ⟨bq, eq, hbq, hcq⟩ := hJ1.lit1 (hd ⟨3, .data⟩ (by simp) rfl)
            rw [hvs1 3 _ rfl] at eq
            cases eq
            have hown := hJ1.b.own1 HBI.out.r1 hL1 HBI.out.ne
            refine opOK_mono (opOK_append1_at (.tmp 46) (.tmp 48) 22 rfl (N + 1 + 1 + 1) 3 (.int .i64 0) 8 Try.underlying22 info3 rfl v1 i _ rfl hown b48 0 1 _ rfl hcq rfl (by omega) (by decide) (by have := HSr.out; have := hJ1.b.size; omega)) ?_
            rintro v' w' ⟨g, c, rfl, h1, h2, h3⟩
            exact ⟨⟨g, c, rfl⟩, hJ1.app1 hL1 h2 (fun q hq => by rw [HZ.out]; exact (HV1.out q hq).2) h1 (h3.elim (fun e => .inl e.symm) (fun e => .inr ⟨g, rfl, by rw [e]; exact hJ1.b.size⟩)) (by decide) (by decide) (by decide)⟩
          rintro _ ⟨g4, c4, rfl⟩
          simp only [Act.put, List.setIfInBounds_toArray, List.set_cons_succ, List.set_cons_zero, List.nil_append, List.cons_append]
          refine sv_rd rfl (fun _ _ _ h => h.read (by simp) (by simp) (by simp) (by simp)) (fun u1 L1 vs1 hvs1 hL1 hJ1 => ?_) ?_
          · simp [opOK, go_sem]
          simp only [Act.put, List.setIfInBounds_toArray, List.set_cons_succ, List.set_cons_zero, List.nil_append, List.cons_append]
          refine sv_rd rfl (fun _ _ _ h => h.read (by simp) (by simp) (by simp) (by simp)) (fun u1 L1 vs1 hvs1 hL1 hJ1 => ?_) ?_
          · have hbx := hJ1.b.heap HBI.out.box (fun e => by have := (HV1.out _ e).1; omega) (fun e => by have := (HV2.out _ e).1; omega)
            have z1 : u1.cell? ⟨N + 1 + 1, 1, none⟩ = some v2 := by rw [cell_of_heap hbx]; rfl
            simp [opOK, go_sem, z1]
          simp only [Act.put, List.setIfInBounds_toArray, List.set_cons_succ, List.set_cons_zero, List.nil_append, List.cons_append]
          refine sv_rd rfl (fun _ _ _ h => h.read (by simp) (by simp) (by simp) (by simp)) (fun u1 L1 vs1 hvs1 hL1 hJ1 => ?_) ?_
          · simp [opOK, go_sem]
          simp only [Act.put, List.setIfInBounds_toArray, List.set_cons_succ, List.set_cons_zero, List.nil_append, List.cons_append]
          refine sv_new ⟨.slice (some ⟨0, 0, none⟩) 1 1, 0, rfl⟩ rfl (fun u1 L1 vs1 hvs1 hL1 hJ1 hd => ?_) ?_
          · simp [opOK, go_sem]
            exact hJ1.mkLit2 (aB _ _) hJ1.b.size (by rw [cell_of_heap (World.alloc_heap_new _ _)]; rfl) (by decide) (by decide) (by decide)
          rintro _ ⟨b53, rfl⟩
          simp only [Act.put, List.setIfInBounds_toArray, List.set_cons_succ, List.set_cons_zero, List.nil_append, List.cons_append]
          refine sv_new ⟨.slice (some ⟨0, 0, none⟩) (i + 1) 0, 0, 0, rfl⟩ rfl (fun u1 L1 vs1 hvs1 hL1 hJ1 hd => ?_) ?_
          · obtain ⟨bq, eq, hbq, hcq⟩ := hJ1.lit2 (hd ⟨8, .data⟩ (by simp) rfl)
            rw [hvs1 8 _ rfl] at eq
            cases eq
            have hown := hJ1.b.own2 HBI.out.r2 hL1 HBI.out.ne
            refine opOK_mono (opOK_append1_at (.tmp 51) (.tmp 53) 22 rfl (N + 1 + 1 + 1) 3 (.int .i64 0) 8 Try.underlying22 info3 rfl v2 i _ rfl hown b53 0 1 _ rfl hcq rfl (by omega) (by decide) (by have := HSr.out; have := hJ1.b.size; omega)) ?_
            rintro v' w' ⟨g, c, rfl, h1, h2, h3⟩
            exact ⟨⟨g, c, rfl⟩, hJ1.app2 (hd ⟨4, .chain⟩ (by simp) rfl) h2 (fun q hq => by rw [HZ.out]; exact (HV2.out q hq).2) HBI.out.ne h1 rfl h3 (by decide) (by decide) (by decide)⟩
          rintro _ ⟨g9, c9, rfl⟩
          simp only [Act.put, List.setIfInBounds_toArray, List.set_cons_succ, List.set_cons_zero, List.nil_append, List.cons_append]
          refine sv_rd rfl (fun _ _ _ h => h.read (by simp) (by simp) (by simp) (by simp)) (fun u1 L1 vs1 hvs1 hL1 hJ1 => ?_) ?_
          · simp [opOK, go_sem]
          simp only [Act.put, List.setIfInBounds_toArray, List.set_cons_succ, List.set_cons_zero, List.nil_append, List.cons_append]
          refine sv_end fun vs6 w6 hvs6 hJ6 => ?_
          simp only [List.drop_succ_cons, List.drop_zero]
          have h4 := hJ6.row1 (by decide)
          have h9 := hJ6.row2 (by decide)
          have hne := hJ6.ne (by decide) (by decide)
          rw [hvs6 4 _ rfl] at h4 hne
          rw [hvs6 9 _ rfl] at h9 hne
          have hbx := hJ6.b.heap HBI.out.box (fun e => by have := (HV1.out _ e).1; omega) (fun e => by have := (HV2.out _ e).1; omega)
          have hf := hJ6.b.heap HFr.out (fun e => by have := (HV1.out _ e).1; omega) (fun e => by have := (HV2.out _ e).1; omega)
          have hg := hJ6.b.heap HGr.out (fun e => by have := (HV1.out _ e).1; omega) (fun e => by have := (HV2.out _ e).1; omega)
          have hb6 : Below N w w6 := HBr.out.trans ⟨hJ6.b.os, hJ6.b.tape, hJ6.b.output, hJ6.b.size, fun k hk => hJ6.b.block k (by have := HSr.out; omega) (.inr fun e => by have := (HV1.out _ e).1; omega) (.inr fun e => by have := (HV2.out _ e).1; omega)⟩
          have z0 : w6.cell? ⟨N + 1 + 1, 0, none⟩ = some v1 := by rw [cell_of_heap hbx]; rfl
          have z1 : w6.cell? ⟨N + 1 + 1, 1, none⟩ = some v2 := by rw [cell_of_heap hbx]; rfl
          have zf0 : w6.frozen? ⟨N + 1 + 1, 0, none⟩ = false := frozen_of_heap hbx
          have zf1 : w6.frozen? ⟨N + 1 + 1, 1, none⟩ = false := frozen_of_heap hbx
          have HE : Hid (BookE (N + 1 + 1) OP CR i v1 v2 w6 (.slice (some ⟨g4, 0, none⟩) (i + 1) c4) (.slice (some ⟨g9, 0, none⟩) (i + 1) c9)) := Lib.hid ⟨hbx, by rw [HY1.out]; exact h4.1, by rw [HY2.out]; exact h9.1, .inr hne⟩
          have HB6 := Lib.hid hb6
          have HF6 := Lib.hid hf
          have HG6 := Lib.hid hg
          have HS6 : Hid (N + 3 ≤ w6.heap.size) := Lib.hid (by have := HSr.out; have := hJ6.b.size; omega)
          have hwi : IntKind.i64.wrap ((i : Int) + 1) = (i : Int) + 1 := wrap_small _ (by omega) (by omega)
          clear hJ6 hvs6 hne h4 h9 hbx hf hg hb6 x0 x1
          go_wp2
          go_roundw
          case rel => exact ⟨i + 1, _, _, by go_num, by omega, Lib.hid HE.out.next, Lib.hid ((HB6.out.setCell (by simp; omega) _).setCell (by simp; omega) _), Lib.hid (by simpa using HS6.out), Lib.hid (by rw [Below.heap_setCell _ _ _ _ (by simp; omega), Below.heap_setCell _ _ _ _ (by simp; omega)]; exact HF6.out), Lib.hid (by rw [Below.heap_setCell _ _ _ _ (by simp), Below.heap_setCell _ _ _ _ (by simp)]; exact HG6.out)⟩
          case measure => simp [intOf]; omega
    · obtain rfl : i = M := by omega
      have hex : decide ((i : Int) < 2) = false ∧ decide (i < 2) = false ∧ ((decide ((i : Int) < (OP.length : Int)) = false ∧ decide (i < OP.length) = false) ∨ (decide ((i : Int) < (OP.length : Int)) = true ∧ decide (i < OP.length) = true ∧ decide ((i : Int) < 10) = false ∧ decide (i < 10) = false)) := by
        have := HM1.out
        refine ⟨decide_eq_false (by omega), decide_eq_false (by omega), ?_⟩
        by_cases h : i < OP.length
        · exact .inr ⟨decide_eq_true (by omega), decide_eq_true h, decide_eq_false (by omega), decide_eq_false (by omega)⟩
        · exact .inl ⟨decide_eq_false (by omega), decide_eq_false h⟩
      obtain ⟨a1, c1, rfl⟩ := owns_form HBI.out.r1
      obtain ⟨a2, c2, rfl⟩ := owns_form HBI.out.r2
      have hbx := HBI.out.box
      have z0 : wo.cell? ⟨N + 1 + 1, 0, none⟩ = some (.slice a1 i c1) := by rw [cell_of_heap hbx]; rfl
      have z1 : wo.cell? ⟨N + 1 + 1, 1, none⟩ = some (.slice a2 i c2) := by rw [cell_of_heap hbx]; rfl
      have g0 : wo.cell? ⟨N + 1, 0, none⟩ = some (.slice none 0 0) := by rw [cell_of_heap HGr.out]; rfl
      have g1 : wo.cell? ⟨N + 1, 1, none⟩ = some (.slice none 0 0) := by rw [cell_of_heap HGr.out]; rfl
      have gf0 : wo.frozen? ⟨N + 1, 0, none⟩ = false := frozen_of_heap HGr.out
      have gf1 : wo.frozen? ⟨N + 1, 1, none⟩ = false := frozen_of_heap HGr.out
      clear hbx
      obtain ⟨s1, s2, hex⟩ := hex
      rcases hex with ⟨s3, s4⟩ | ⟨s3, s4, s5, s6⟩
      all_goals
        go_wp2
        obtain ⟨w9, hw9⟩ : ∃ w9, (wo.setCell ⟨N + 1, 0, none⟩ (.slice a1 i c1)).setCell ⟨N + 1, 1, none⟩ (.slice a2 i c2) = w9 := ⟨_, rfl⟩
        rw [hw9]
        have e9 : w9.heap[N + 1]? = some (.cells #[.slice a1 i c1, .slice a2 i c2] 55 (0, 0)) := by
          rw [← hw9, heap_setCell_at (o := 1) (heap_setCell_at (o := 0) HGr.out _) _]; rfl
        have k0 : w9.cell? ⟨N + 1, 0, none⟩ = some (.slice a1 i c1) := by rw [cell_of_heap e9]; rfl
        have k1 : w9.cell? ⟨N + 1, 1, none⟩ = some (.slice a2 i c2) := by rw [cell_of_heap e9]; rfl
        have hk : ∀ g, N + 1 + 1 + 1 ≤ g → w9.heap[g]? = wo.heap[g]? := fun g hg => by
          rw [← hw9, Below.heap_setCell _ _ _ _ (by simp; omega), Below.heap_setCell _ _ _ _ (by simp; omega)]
        have o1 := ownsN_kept HBI.out.r1 fun g hg => hk g (HBI.out.r1.lt g hg).1
        have o2 := ownsN_kept HBI.out.r2 fun g hg => hk g (HBI.out.r2.lt g hg).1
        have hb9 : Below N w w9 := by rw [← hw9]; exact (HBr.out.setCell (by simp) _).setCell (by simp) _
        have HP : Hid (Below w.heap.size w w9 ∧ Sl (fun k => w.heap.size ≤ k) w9 (.slice a1 i c1) (ints (bookL OP (tillN OP))) ∧ Sl (fun k => w.heap.size ≤ k) w9 (.slice a2 i c2) (ints (bookL CR (tillN OP)))) := Lib.hid (by
          rw [HN.out, HMM.out]
          exact ⟨hb9, (Sl.of_owns o1).mono fun k hk => by omega, (Sl.of_owns o2).mono fun k hk => by omega⟩)
        clear e9 hk o1 o2 hb9 hw9 z0 z1 g0 g1 gf0 gf1
        exact bodyPost_ret (v := .agg #[.slice a1 i c1, .slice a2 i c2]) (by simp [results, Try.results23, go_sem, k0, k1]) rfl ⟨_, _, rfl, HP.out⟩
end Go.Proofs.Ytagfcodpgochjaa

/- What a law's arguments read as: arrays of numbers, slices of them. -/
namespace Go.Proofs.Ytagfcodpgochjaa
open Go.RowKit Go.Oche Go.Proofs Go.ChangeShapes Go.WideShapes Go.ChangeAt
def row2 (kd : IntKind) (x : Int × Int) : List Value := [.int kd x.1, .int kd x.2]
def row3 (kd : IntKind) (x : Int × Int × Int) : List Value := [.int kd x.1, .int kd x.2.1, .int kd x.2.2]
def row4 (kd : IntKind) (x : Int × Int × Int × Int) : List Value := [.int kd x.1, .int kd x.2.1, .int kd x.2.2.1, .int kd x.2.2.2]
section
variable {H : Type} {enc : TypeId × Value → H} {W : World} {base : Nat} {spare : Nat → Bool} {held : Bool}
theorem open_arr {kd : IntKind} {k : Nat} {t e : TypeId} (ht : Try.prog.underlying t = some (.array k e)) (he : Try.prog.underlying e = some (.int kd)) (hc : Try.prog.cellsOf t = k) (hce : Try.prog.cellsOf e = 1)
    {n : Nat} {cs : List Value} {y : DataW H × List MemPlace} (h : DataW.trod enc Try.prog W base spare held n t cs = some y) : ∃ zs : List Int, zs.length = k ∧ cs = zs.map (Value.int kd) ∧ ∀ z ∈ zs, (Lit.int kd z).wf = true := by
  obtain ⟨xs, m, _, _, hl, hx, hi⟩ := DataW.trod_array ht h
  rw [hc] at hl
  have hall : ∀ i, i < k → ∃ z, cs[i]? = some (.int kd z) ∧ (Lit.int kd z).wf = true := fun i hik => by
    have := hi i hik
    rw [hce, Nat.mul_one, List.getElem?_eq_getElem (by omega)] at this
    have e1 : (cs.drop i).take 1 = [cs[i]] := by
      rw [List.drop_eq_getElem_cons (by omega)]; rfl
    rw [e1] at this
    obtain ⟨z, hz, _, hw⟩ := DataW.trod_int he this
    simp only [List.cons.injEq, and_true] at hz
    exact ⟨z, by rw [List.getElem?_eq_getElem (by omega), hz], hw⟩
  obtain ⟨zs, h1, h2⟩ := choose_rows k hall
  refine ⟨zs, h1, List.ext_getElem? fun i => ?_, fun z hz => ?_⟩
  · by_cases hik : i < k
    · rw [List.getElem?_map, List.getElem?_eq_getElem (by omega : i < zs.length)]
      exact (h2 i zs[i] (List.getElem?_eq_getElem (by omega))).1
    · rw [List.getElem?_eq_none (by omega), List.getElem?_eq_none (by simp; omega)]
  · obtain ⟨i, hiz⟩ := List.getElem?_of_mem hz
    exact (h2 i z hiz).2
theorem open_arr2 {kd : IntKind} {t e : TypeId} (ht : Try.prog.underlying t = some (.array 2 e)) (he : Try.prog.underlying e = some (.int kd)) (hc : Try.prog.cellsOf t = 2) (hce : Try.prog.cellsOf e = 1)
    {n : Nat} {cs : List Value} {y : DataW H × List MemPlace} (h : DataW.trod enc Try.prog W base spare held n t cs = some y) : ∃ b : Int × Int, cs = row2 kd b ∧ (Lit.int kd b.1).wf = true ∧ (Lit.int kd b.2).wf = true := by
  obtain ⟨zs, h1, rfl, h2⟩ := open_arr ht he hc hce h
  obtain ⟨a, b, rfl⟩ := list_two h1
  exact ⟨(a, b), rfl, h2 a (by simp), h2 b (by simp)⟩
theorem open_arr3 {kd : IntKind} {t e : TypeId} (ht : Try.prog.underlying t = some (.array 3 e)) (he : Try.prog.underlying e = some (.int kd)) (hc : Try.prog.cellsOf t = 3) (hce : Try.prog.cellsOf e = 1)
    {n : Nat} {cs : List Value} {y : DataW H × List MemPlace} (h : DataW.trod enc Try.prog W base spare held n t cs = some y) : ∃ b : Int × Int × Int, cs = row3 kd b ∧ (Lit.int kd b.1).wf = true ∧ (Lit.int kd b.2.1).wf = true ∧ (Lit.int kd b.2.2).wf = true := by
  obtain ⟨zs, h1, rfl, h2⟩ := open_arr ht he hc hce h
  obtain ⟨a, b, c, rfl⟩ := list_three h1
  exact ⟨(a, b, c), rfl, h2 a (by simp), h2 b (by simp), h2 c (by simp)⟩
set_option maxRecDepth 100000 in
theorem open_arr4 {kd : IntKind} {t e : TypeId} (ht : Try.prog.underlying t = some (.array 4 e)) (he : Try.prog.underlying e = some (.int kd)) (hc : Try.prog.cellsOf t = 4) (hce : Try.prog.cellsOf e = 1)
    {n : Nat} {cs : List Value} {y : DataW H × List MemPlace} (h : DataW.trod enc Try.prog W base spare held n t cs = some y) : ∃ b : Int × Int × Int × Int, cs = row4 kd b ∧ (Lit.int kd b.1).wf = true ∧ (Lit.int kd b.2.1).wf = true ∧ (Lit.int kd b.2.2.1).wf = true ∧ (Lit.int kd b.2.2.2).wf = true := by
  obtain ⟨zs, h1, rfl, h2⟩ := open_arr ht he hc hce h
  obtain ⟨a, l, rfl⟩ : ∃ a l, zs = a :: l := by cases zs with
    | nil => simp at h1
    | cons a l => exact ⟨a, l, rfl⟩
  obtain ⟨b, c, d, rfl⟩ := list_three (cs := l) (by simpa using h1)
  exact ⟨(a, b, c, d), rfl, h2 a (by simp), h2 b (by simp), h2 c (by simp), h2 d (by simp)⟩
set_option maxRecDepth 100000 in
/-- Numbers of one kind. -/
theorem open_nums {kd : IntKind} {t e : TypeId} (ht : Try.prog.underlying t = some (.slice e)) (he : Try.prog.underlying e = some (.int kd)) (hce : Try.prog.cellsOf e = 1) {n : Nat} {v : Value} {x : DataW H × List MemPlace} (h : DataW.trod enc Try.prog W base spare held n t [v] = some x) :
    ∃ xs : List Int, Sl (fun _ => True) W v (xs.map (Value.int kd)) ∧ ∀ b ∈ xs, (Lit.int kd b).wf = true := by
  obtain ⟨xs, h1, h2⟩ := open_rowsN (fun z : Int => [.int kd z]) 1 (fun b => (Lit.int kd b).wf = true) ht hce (by decide) (fun n cs y hy => by
    obtain ⟨z, hz, _, hw⟩ := DataW.trod_int he hy
    exact ⟨z, hz, hw⟩) (fun b => rfl) h
  refine ⟨xs, SlN.to1 ?_, h2⟩
  have e : (xs.map (Value.int kd)).map (fun x => [x]) = xs.map (fun z => [.int kd z]) := by simp
  rw [e]; exact h1
set_option maxRecDepth 100000 in
/-- An array of numbers, by value. -/
theorem okWide_arr {k : Nat} {t e : TypeId} (ht : Try.prog.underlying t = some (.array k e)) (hc : Try.prog.cellsOf t = k) {r : Reach} {b0 : Nat} {v : Value} (h : Value.okWide Try.prog W r b0 t v) : ∃ xs : Array Value, v = .agg xs ∧ xs.size = k := by
  simp only [Value.okWide, ht] at h
  obtain ⟨cs, h1, h2, _⟩ := h
  exact ⟨cs, h1, by rw [h2, hc]⟩
end
end Go.Proofs.Ytagfcodpgochjaa
