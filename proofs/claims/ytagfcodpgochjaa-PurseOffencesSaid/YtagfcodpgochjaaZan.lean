/- The texts CO, in build order. -/
import Derived.Test.YtagfcodpgochjaaZam

/- Chapter 12: Coins. -/
namespace Go.Proofs.Ytagfcodpgochjaa
open Go.RowKit Go.Oche Go.Proofs
attribute [local go_sem] Oper.semAt_some

theorem set10 {L : Nat → Bool} {i : Nat} (h : L 10 = true → L 3 = true) (hi : i ≠ 10) : setB L i 10 = true → setB L i 3 = true := fun h' => by
  unfold setB at *
  rw [if_neg (fun e => hi e.symm)] at h'
  split
  · rfl
  · exact h h'
theorem coinContains_r {S : Nat → Prop} (cs : List (Int × Int)) (r : Bool) (hr : Hid (cs.any coinBad = r)) (v : Value) (w : World) (hs : SlN 2 S w v (cs.map coinRow)) :
    Calls Try.prog 45 #[v, .func (.func 46) #[] #[]] w fun e w' => e = .returned (.bool r) ∧ Below w.heap.size w w' := by rw [← hr.out]; exact coinContains_any cs v w hs
theorem compact0_any (w : World) : Calls Try.prog 52 #[.slice none 0 0, .func (.func 53) #[] #[]] w fun e w' => e = .returned (.slice none 0 0) ∧ w' = w := by
  go_enter Try.func52, Try.ntmps52
  go_wp2
  go_ret
  exact ⟨rfl, rfl⟩
theorem sortedCompact_any (tin : List (Int × Int)) (v6 : Value) (w3 w4 : World) (hb : Below w3.heap.size w3 w4) (hl : tin.length ≤ 12)
    (h : (tin = [] ∧ v6 = .slice none 0 0) ∨ ∃ g c ys, v6 = .slice (some ⟨g, 0, none⟩) tin.length c ∧ CoinOwn tin w3.heap.size g tin.length c ys w4 ∧ SortedC tin ys) :
    Calls Try.prog 52 #[v6, .func (.func 53) #[] #[]] w4 fun e w' => ∃ a k c, e = .returned (.slice a k c) ∧ Below w3.heap.size w3 w' ∧ ((k = tin.length ∧ dupC tin = false) ∨ (k < tin.length ∧ dupC tin = true)) := by
  rcases h with ⟨rfl, rfl⟩ | ⟨g, c, ys, rfl, ho, hs⟩
  · refine (compact0_any w4).mono ?_
    rintro e w5 ⟨rfl, rfl⟩
    exact ⟨_, _, _, rfl, hb, .inl ⟨rfl, rfl⟩⟩
  · refine (compact_any tin g c tin.length w3.heap.size ys w4 ho (by omega)).mono ?_
    rintro e w5 ⟨k, rfl, hg5, hk5⟩
    refine ⟨_, k, _, rfl, hb.trans (below_grownBy hg5 hb.size fun q hq => by cases hq; exact (World.ownsRow.lt ho g rfl).1), ?_⟩
    rcases hk5 with ⟨h1, h2⟩ | ⟨h1, h2⟩
    · exact .inl ⟨h1, (nodup_iff hs).1 h2⟩
    · refine .inr ⟨h1, ?_⟩
      cases hd : dupC tin with
      | true => rfl
      | false => exact absurd ((nodup_iff hs).2 hd) h2
/-- A new row of integers, and a list of it alone. -/
def kRow (B N : Nat) (F : Nat → Int) : Kn where
  s := fun v => ∃ g, v = .slice (some ⟨g, 0, none⟩) N N
  p := fun v w => ∃ g, v = .slice (some ⟨g, 0, none⟩) N N ∧ B ≤ g ∧ IntBlk w g 3 N F
  m := fun _ _ _ hb ⟨g, h1, h2, h3⟩ => ⟨g, h1, h2, h3.below hb⟩
def kLit (B N : Nat) (F : Nat → Int) : Kn where
  s := fun v => ∃ b, v = .slice (some ⟨b, 0, none⟩) 1 1
  p := fun v w => ∃ b g, v = .slice (some ⟨b, 0, none⟩) 1 1 ∧ w.cell? ⟨b, 0, none⟩ = some (.slice (some ⟨g, 0, none⟩) N N) ∧ B ≤ g ∧ IntBlk w g 3 N F
  m := fun _ _ _ hb ⟨b, g, h1, h2, h3, h4⟩ => ⟨b, g, h1, bAt hb h2, h3, h4.below hb⟩
theorem info22 : (Try.prog.info? 22).map (fun i => (i.zero, i.size, i.bytes)) = some (some (.slice none 0 0), 1, 24) := by kernel_rfl
/-- The rows so far, behind their box. -/
def RI (B bx N : Nat) (tin : List (Int × Int)) (k : Nat) (O : Nat → Prop) (W : World) : Prop :=
  ∃ (lv : Value) (gs : List Nat), gs.length = k + 1 ∧ BoxB B bx 32 22 1 (k + 1) (gs.map fun g => Value.slice (some ⟨g, 0, none⟩) N N) O lv W ∧ ∀ i (h : i < gs.length), B ≤ gs[i] ∧ IntBlk W gs[i] 3 N (rowF tin i)
theorem RI.stab {B bx N k : Nat} {tin : List (Int × Int)} {O : Nat → Prop} {A A' : World} (h : RI B bx N tin k O A) (hk : ∀ q, q < A.heap.size → (O q ∨ Row 3 A q) → A'.heap[q]? = A.heap[q]?) : RI B bx N tin k O A' := by
  obtain ⟨lv, gs, h1, h2, h3⟩ := h
  refine ⟨lv, gs, h1, h2.stab fun q hq ho => hk q hq (.inl ho), fun i hi => ⟨(h3 i hi).1, ?_⟩⟩
  have hb := (h3 i hi).2
  refine hb.keep (hk _ hb.lt (.inr ?_))
  obtain ⟨X, e, _⟩ := hb
  exact ⟨X, _, e⟩
def sl0 (g N : Nat) : Value := .slice (some ⟨g, 0, none⟩) N N
set_option maxRecDepth 100000 in
set_option maxHeartbeats 8000000 in
theorem coins_any {S : Nat → Prop} (amount : Int) (tin : List (Int × Int)) (v : Value) (w : World) (hs : SlN 2 S w v (tin.map coinRow)) :
    Calls Try.prog 26 #[.int .i64 amount, v] w fun e w' => ∃ r, e = .returned (.tuple #[r, .int .i64 (coinsErr amount tin)]) ∧ Below w.heap.size w w' ∧ Sl (fun k => w.heap.size ≤ k) w' r (ints (coinsRes amount tin)) := by
  obtain ⟨a, cap, rfl, h2, h3⟩ := hs.form
  simp only [List.length_map] at *
  unfold maxLen at h3
  obtain ⟨b1, hb1⟩ : ∃ b, isIn amount 0 20000 = b := ⟨_, rfl⟩
  obtain ⟨b3, hb3⟩ : ∃ b, tin.any coinBad = b := ⟨_, rfl⟩
  obtain ⟨er, her⟩ : ∃ x, coinsErr amount tin = x := ⟨_, rfl⟩
  obtain ⟨rs, hrs⟩ : ∃ x, coinsRes amount tin = x := ⟨_, rfl⟩
  have ER : Hid (er = if b1 = false then 3 else if 12 < tin.length then 4 else if b3 = true then 2 else if dupC tin = true then 6 else if noneC ≤ rowF tin tin.length amount.toNat then 7 else 0) := Lib.hid (by rw [← her, ← hb1, ← hb3]; rfl)
  have RS : Hid (rs = if er = 0 then (cntTo tin amount.toNat tin.length).1 else []) := Lib.hid (by rw [← hrs, ← her]; rfl)
  have NOK : Hid (er ≠ 0 → rs = []) := Lib.hid (fun h => by rw [RS.out, if_neg h])
  have H1 := Lib.hid hb1
  have H3 := Lib.hid hb3
  have HS := Lib.hid hs
  rw [her, hrs]
  clear her hrs hb1 hb3 hs
  refine (callsIn_wide (n := 0)).1 (callsIn_of_wp_marks Try.func26 rfl trivial ?_ rfl)
  simp only [Try.ntmps26, List.size_toArray, List.length_cons, List.length_nil, Nat.reduceAdd, Nat.reduceSub, Array.replicate_succ, Array.replicate_zero, List.push_toArray, List.append_toArray, List.nil_append, List.cons_append]
  gi_wp2_with fail
  refine ⟨trivial, rfl, (callsIn_wide.2 (within_one' 0 20000 amount b1 H1 _ _ (Sl.new1 (fun _ => True) w trivial 3 (.int .i64 amount)))).mono ?_⟩
  rintro e w1 ⟨rfl, hb1⟩
  have HB1 := Lib.hid (bThen (aB w _) hb1)
  replace HS := Lib.hid (HS.out.below HB1.out)
  clear hb1
  cases b1
  · have er2 : er = 3 := ER.out
    have rs2 := NOK.out (by omega)
    clear ER RS NOK
    subst er2 rs2
    gi_wp2
    exact leave_marks [] _ (Marks.nil 0 _) fun W'' hp => ⟨.tuple #[.slice none 0 0, .int .i64 3], by simp [results, go_sem], _, rfl, HB1.out.trans (hp.below fun D hD => by cases hD), Sl.nil _ _⟩
  · by_cases hl : 12 < tin.length
    · have d1 : decide ((12 : Int) < (tin.length : Int)) = true := decide_eq_true (by omega)
      have d1n : decide (12 < tin.length) = true := decide_eq_true hl
      have er2 : er = 4 := by rw [ER.out]; simp [hl]
      have rs2 := NOK.out (by omega)
      clear ER RS NOK
      subst er2 rs2
      gi_wp2
      exact leave_marks [] _ (Marks.nil 0 _) fun W'' hp => ⟨.tuple #[.slice none 0 0, .int .i64 4], by simp [results, go_sem], _, rfl, HB1.out.trans (hp.below fun D hD => by cases hD), Sl.nil _ _⟩
    · have d1 : decide ((12 : Int) < (tin.length : Int)) = false := decide_eq_false (by omega)
      have d1n : decide (12 < tin.length) = false := decide_eq_false hl
      have ER2 : Hid (er = if b3 = true then 2 else if dupC tin = true then 6 else if noneC ≤ rowF tin tin.length amount.toNat then 7 else 0) := Lib.hid (by rw [ER.out]; simp [hl])
      have hl12 : tin.length ≤ 12 := by omega
      clear ER hl
      gi_wp2_with fail
      clear d1 d1n
      refine ⟨trivial, rfl, (callsIn_wide.2 (coinContains_r tin b3 H3 _ _ HS.out)).mono ?_⟩
      rintro e w2 ⟨rfl, hb2⟩
      have HB2 := Lib.hid (bThen HB1.out hb2)
      replace HS := Lib.hid (HS.out.below hb2)
      clear hb2
      cases b3
      · have ER3 : Hid (er = if dupC tin = true then 6 else if noneC ≤ rowF tin tin.length amount.toNat then 7 else 0) := Lib.hid (by rw [ER2.out]; simp)
        clear ER2
        gi_wp2_with fail
        refine ⟨trivial, rfl, (callsIn_wide.2 (values_any tin _ _ HS.out)).mono ?_⟩
        rintro e w3 ⟨pb, rfl, hb3, hpb⟩
        have HB3 := Lib.hid (bThen HB2.out hb3)
        replace HS := Lib.hid (HS.out.below hb3)
        clear hb3
        gi_wp2_with fail
        refine ⟨trivial, rfl, (callsIn_wide.2 (sortedFunc_any tin pb _ w3 hpb HS.out hl12)).mono ?_⟩
        rintro e w4 ⟨v6, rfl, hb4, hv6⟩
        have HB4 := Lib.hid (bThen HB3.out hb4)
        have B34 := Lib.hid hb4
        clear hb4 hpb
        have hform : ∃ a c, v6 = .slice a tin.length c := by
          rcases hv6 with ⟨h1, h2⟩ | ⟨g, c, ys, h1, _⟩
          · exact ⟨_, _, by rw [h2, h1]; rfl⟩
          · exact ⟨_, _, h1⟩
        obtain ⟨a6, c6, rfl⟩ := hform
        have HV6 := Lib.hid hv6
        clear hv6
        gi_wp2_with fail
        refine ⟨trivial, rfl, (callsIn_wide.2 (sortedCompact_any tin _ w3 w4 B34.out hl12 HV6.out)).mono ?_⟩
        rintro e w5 ⟨a8, k, c8, rfl, hb5, hk5⟩
        have HB5 := Lib.hid (bThen HB3.out hb5)
        have B35 := Lib.hid hb5
        obtain ⟨dd, hdd⟩ : ∃ dd, decide (k < tin.length) = dd := ⟨_, rfl⟩
        have hddi : decide ((k : Int) < (tin.length : Int)) = dd := by rw [← hdd]; simp
        have HDD : Hid (dupC tin = dd) := Lib.hid (by
          rcases hk5 with ⟨h1, h2⟩ | ⟨h1, h2⟩
          · rw [h2, ← hdd, h1]; simp
          · rw [h2, ← hdd]; simp [h1])
        clear hb5 hk5 HV6 HB4 B34
        cases dd
        · have ER4 : Hid (er = if noneC ≤ rowF tin tin.length amount.toNat then 7 else 0) := Lib.hid (by rw [ER3.out, HDD.out]; simp)
          clear ER3
          have hamt : 0 ≤ amount ∧ amount ≤ 20000 := by simpa [isIn] using H1.out
          obtain ⟨A, rfl⟩ : ∃ A : Nat, amount = A := ⟨amount.toNat, by omega⟩
          obtain ⟨N, hN⟩ : ∃ N, N = A + 1 := ⟨_, rfl⟩
          have hwA : IntKind.i64.wrap ((A : Int) + 1) = (N : Int) := by rw [hN]; exact wrap_small _ (by omega) (by omega)
          have HN := Lib.hid hN
          clear hN
          gi_wp2_with fail
          clear hddi
          refine ⟨trivial, rfl, (callsIn_wide.2 (repeat_any noneC w5.heap.size N _ (by simp [noneC]) (by have := HN.out; omega) (by have := HN.out; omega))).mono ?_⟩
          rintro e w6 ⟨g7, rfl, hb6, hg7, hI6⟩
          have hb56 : Below w5.heap.size w5 w6 := bThen (aB w5 _) hb6
          have hg7s : w5.heap.size ≤ g7 := by simp at hg7; omega
          have c70 := hI6.cell (show 0 < N by have := HN.out; omega)
          have c70f := hI6.frozen 0
          have hN0 : 0 < N := by have := HN.out; omega
          have hN0i : (0 : Int) < (N : Int) := by omega
          obtain ⟨w7, hw7⟩ : ∃ w7, w6.setCell ⟨g7, 0, none⟩ (.int .i64 0) = w7 := ⟨_, rfl⟩
          have hI7 : IntBlk w7 g7 3 N (rowF tin 0) := by
            rw [← hw7]; exact (hI6.set 0 0).congr fun j hj => by unfold rowF; rfl
          have hb57 : Below w5.heap.size w5 w7 := by rw [← hw7]; exact hb56.setCell hg7s _
          obtain ⟨w8, hw8⟩ : ∃ w8, (w7.alloc (.cells #[.slice (some ⟨g7, 0, none⟩) N N] 22)).alloc (.cells #[.slice (some ⟨w7.heap.size, 0, none⟩) 1 1] 32) = w8 := ⟨_, rfl⟩
          have hb78 : Below w7.heap.size w7 w8 := by rw [← hw8]; exact (aB _ _).trans ((aB _ _).mono (by simp))
          have hz8 : w8.heap.size = w7.heap.size + 2 := by rw [← hw8]; simp
          have HI8 := Lib.hid (hI7.below hb78)
          have HB58 := Lib.hid (bThen hb57 hb78)
          have HW7 := Lib.hid hw7
          have HW8 := Lib.hid hw8
          have HG7 := Lib.hid hg7s
          have hRI : RI w5.heap.size (w7.heap.size + 1) N tin 0 (fun k => k = w7.heap.size + 1 ∨ k = w7.heap.size) w8 := by
            refine ⟨.slice (some ⟨w7.heap.size, 0, none⟩) 1 1, [g7], rfl, ⟨fun k => by simp [Value.ownBlock, eq_comm], ?_, ⟨by simp, .inr ⟨w7.heap.size, 1, #[.slice (some ⟨g7, 0, none⟩) N N], rfl, hb57.size, ?_, by simp, by simp [maxLen], by simp, by simp⟩⟩, by simp [Value.ownBlock]⟩, fun i hi => ?_⟩
            · rw [← hw8]
              have := World.alloc_heap_new (w7.alloc (.cells #[.slice (some ⟨g7, 0, none⟩) N N] 22)) (.cells #[.slice (some ⟨w7.heap.size, 0, none⟩) 1 1] 32)
              rwa [World.size_alloc] at this
            · rw [← hw8]
              exact (Below.heap_alloc _ _ _ (by simp)).trans (World.alloc_heap_new _ _)
            · have : i = 0 := by simp at hi; omega
              subst this
              exact ⟨hg7s, HI8.out⟩
          have HRI := Lib.hid hRI
          have HZ57 := Lib.hid hb57.size
          have HZ67 : Hid (w6.heap.size = w7.heap.size) := Lib.hid (by rw [← HW7.out]; simp)
          clear hRI hw7 hw8 hI7 hI6 hb57 hb78 hb56 hb6 hg7
          gi_wp2_with fail
          clear c70 c70f hwA
          rw [HW7.out, HZ67.out, HW8.out]
          have HS8 := Lib.hid ((HS.out.lt (by decide)).below (bThen B35.out HB58.out))
          refine ⟨trivial, rfl, (callsIn_wide.2 (backward_any tin _ w8 HS8.out)).mono ?_⟩
          rintro e w9 ⟨rfl, hw9⟩
          obtain ⟨bx, hbx⟩ : ∃ bx, w7.heap.size + 1 = bx := ⟨_, rfl⟩
          have hb9 : Below w8.heap.size w8 w9 := by rw [hw9]; exact aB _ _
          have cb9 : w9.cell? ⟨w8.heap.size, 0, none⟩ = some (.slice a tin.length cap) := by rw [hw9]; simp
          have hz9 : w9.heap.size = w8.heap.size + 1 := by rw [hw9]; simp
          have hs9 : SlN 2 (fun k => S k ∧ k < w3.heap.size) w9 (.slice a tin.length cap) (tin.map coinRow) := HS8.out.below hb9
          have hlt3 : w3.heap.size ≤ w7.heap.size := Nat.le_trans B35.out.size HZ57.out
          clear hw9
          have HB9 := Lib.hid hb9
          have CB9 := Lib.hid cb9
          have HS9 := Lib.hid hs9
          have HZ8 := Lib.hid hz8
          have HZ9 := Lib.hid hz9
          have HBX := Lib.hid hbx
          clear hb9 cb9 hs9 hz8 hz9 hbx
          gi_wp2_with fail
          rw [HBX.out]
          refine wpIn_range (t := 3) (gf := 72) (fa := #[]) (lb := #[.pointer (some ⟨w8.heap.size, 0, none⟩)]) rfl (enters_of Try.func72 (by kernel_rfl) rfl)
            (back1_in tin w8.heap.size _ w9 (fun j => j < w3.heap.size ∨ j = w8.heap.size) CB9.out HS9.out (by omega) (.inr rfl) (fun k hk _ => .inl hk.2))
            (fun pre O W => RI w5.heap.size bx N tin pre.length O W) (fun _ _ _ _ => False) (fun pre O X Y h _ _ _ _ hk => h.stab fun q h1 h2 => hk q h1 (by rcases h2 with h2 | h2; exact .inl h2; exact .inr (.inr h2))) (fun _ _ _ _ _ h => h.elim)
            (fun k => k = bx ∨ k = w7.heap.size) (fun j hj => by have := HBX.out; have := HZ8.out; have := HZ9.out; omega) (fun j hj => by have := HBX.out; have := HZ8.out; have := HZ9.out; omega) (by have h := HRI.out.stab (A' := w9) fun q h1 _ => HB9.out.block q h1; rw [HBX.out] at h; exact h)
            (fun b args O W' h => by subst h; rfl) ?round ?done ?stop
          case round =>
            rintro l pre ⟨i, x⟩ post args O₁ W₁ hL hl1 hl2 hnl hnl' hrel hI henc
            subst henc
            clear hI
            have hlen := congrArg List.length hL
            rw [backL_length, List.length_append, List.length_cons] at hlen
            obtain ⟨k, hk⟩ : ∃ k, pre.length = k := ⟨_, rfl⟩
            rw [hk] at hlen
            have hkn : k < tin.length := by omega
            have hat : (backL tin)[k]? = some (i, x) := by rw [hL, List.getElem?_append_right (by omega), hk, Nat.sub_self]; rfl
            have hat2 : (backL tin)[k]? = some (tin.length - 1 - k, tin.getD (tin.length - 1 - k) (0, 0)) := by
              unfold backL
              rw [List.getElem?_map, List.getElem?_reverse (by simpa using hkn)]
              simp [show tin.length - 1 - k < tin.length by omega]
            have hx : x = tin.getD (tin.length - 1 - k) (0, 0) := by rw [hat] at hat2; simpa using congrArg (fun o => o.map Prod.snd) hat2
            have hxm : x ∈ tin := by rw [hx, List.getD_eq_getElem?_getD, List.getElem?_eq_getElem (by omega)]; exact List.getElem_mem _
            have hxb : coinBad x = false := by
              have := H3.out
              rw [List.any_eq_false] at this
              simpa using this x hxm
            have hxr : 1 ≤ x.1 ∧ x.1 ≤ 20000 ∧ 0 ≤ x.2 ∧ x.2 ≤ 1000 := by simp [coinBad, isIn] at hxb; omega
            obtain ⟨x1, x2⟩ := x
            simp only at hxr
            obtain ⟨X1, rfl⟩ : ∃ X1 : Nat, x1 = X1 := ⟨x1.toNat, by omega⟩
            obtain ⟨X2, rfl⟩ : ∃ X2 : Nat, x2 = X2 := ⟨x2.toNat, by omega⟩
            have hrow : ∀ a, rowF tin (k + 1) a = addK (rowF tin k) X1 X2 a := fun a => by rw [rowF, ← hx]; simp
            have HROW := Lib.hid hrow
            have HK := Lib.hid hk
            clear hlen hat hat2 hx hxm hxb hrow hL
            gi_wp2_with fail
            refine ⟨aB _ _, ?_⟩
            rintro W₃ hon hRI
            rw [hk] at hRI
            obtain ⟨lv, gs, hgl, hB, hrows⟩ := hRI
            obtain ⟨q, c, rfl⟩ := ownsRow_succ hB.row
            have x0 : W₃.cell? ⟨W₁.heap.size, 0, none⟩ = some (.int .i64 X1) := (hon.cell _).trans (by simp)
            have x1 : W₃.cell? ⟨W₁.heap.size, 1, none⟩ = some (.int .i64 X2) := (hon.cell _).trans (by simp)
            have xb : W₃.cell? ⟨bx, 0, none⟩ = some (.slice (some ⟨q, 0, none⟩) (k + 1) c) := by rw [cell_of_heap hB.box]; rfl
            have hgk : k < gs.length := by omega
            obtain ⟨gk, hgke⟩ : ∃ gk, gs[k] = gk := ⟨_, rfl⟩
            have xr : W₃.cell? ⟨q, k, none⟩ = some (.slice (some ⟨gk, 0, none⟩) N N) := by
              rw [hB.row.cellAt k (by omega), List.getElem?_map, List.getElem?_eq_getElem hgk, hgke]; rfl
            have hIk : IntBlk W₃ gk 3 N (rowF tin k) := by rw [← hgke]; exact (hrows k hgk).2
            have hNle : N ≤ 20001 := by have := HN.out; omega
            have hslk : ∀ W, Below W₃.heap.size W₃ W → Sl (fun z => z = gk) W (.slice (some ⟨gk, 0, none⟩) N N) (ints (rowL tin N k)) := fun W hW => (hIk.below hW).sl (by unfold maxLen; omega)
            have hwk : IntKind.i64.wrap (k : Int) = (k : Int) := by rw [IntKind.wrap_i64]; omega
            have hB5W : w5.heap.size ≤ W₃.heap.size := by have h1 := (hrows k hgk).1; have h2 := (hrows k hgk).2.lt; omega
            have HB := Lib.hid hB
            have HROWS := Lib.hid hrows
            have HSLK := Lib.hid hslk
            have HGL := Lib.hid hgl
            have HIK := Lib.hid hIk
            have HON := Lib.hid hon
            have hkk : k < k + 1 := by omega
            have hkki : (k : Int) < (k : Int) + 1 := by omega
            clear hB hrows hslk hgl hgke hgk hIk hon
            gi_wp2_with fail
            refine wpIn_region_seq 11 [.is ?_, .is ?_, .is ?_, .is ?_, .is ?_, .is ?_, .is ?_, .is ?_, .is ?_, kRow w5.heap.size N (rowF tin (k + 1)), kLit w5.heap.size N (rowF tin (k + 1))] rfl mix (open_round l) (by kernel_rfl) (by kernel_rfl) (by kernel_rfl) ?seqm
            case seqm =>
              simp only [List.take_succ_cons, List.take_zero]
              iterate 9
                refine seq_is rfl (fun u1 hb1 _ => ?_) ?_
                · have x0' := bAt hb1 x0
                  have x1' := bAt hb1 x1
                  have xb' := bAt hb1 xb
                  have xr' := bAt hb1 xr
                  simp [opOK, go_sem, x0', x1', xb', xr', hwk, hkki, Below.refl]
                  try exact rfl
                simp only [Act.put, List.setIfInBounds_toArray, List.set_cons_succ, List.set_cons_zero]
              refine seq_new ⟨_, 0, rfl⟩ (by rfl) (fun u1 hb1 _ => ?_) ?_
              · refine opOK_call (f := 56) (args := #[.agg #[.int .i64 X1, .int .i64 X2], .slice (some ⟨gk, 0, none⟩) N N]) (by simp [go_sem]) ?_
                have hc := kindAdd_any X1 X2 (rowL tin N k) (.slice (some ⟨gk, 0, none⟩) N N) u1 (HSLK.out u1 hb1) (by omega) (by omega) (by rw [rowL_length]; omega) rowL_bd
                rw [rowL_length] at hc
                refine hc.mono ?_
                rintro e u2 ⟨g, rfl, hb2, hg2, hI2⟩
                exact ⟨_, rfl, hb2, ⟨g, rfl⟩, g, rfl, by have := hb1.size; omega, hI2.congr fun j hj => by rw [HROW.out]; exact addK_congr fun i hi => rowL_at (by omega)⟩
              rintro v9 ⟨g9, rfl⟩
              simp only [Act.put, List.setIfInBounds_toArray, List.set_cons_succ, List.set_cons_zero]
              refine seq_new ⟨_, 0, rfl⟩ (by rfl) (fun u1 hb1 hH => ?_) ?_
              · obtain ⟨g, e9, hg9, hI9⟩ := hH { on := 9, ground := .data } (by simp) rfl
                cases e9
                refine opOK_val (v := .slice (some ⟨u1.heap.size, 0, none⟩) 1 1) (w' := u1.alloc (.cells #[.slice (some ⟨g9, 0, none⟩) N N] 22)) (by simp [go_sem, execOp]) ?_
                exact ⟨aB _ _, ⟨_, rfl⟩, _, g9, rfl, cell_new _ _ _, hg9, hI9.below (aB _ _)⟩
              rintro v10 ⟨b10, rfl⟩
              simp only [Act.put, List.setIfInBounds_toArray, List.set_cons_succ, List.set_cons_zero]
              refine seq_end fun W6 hb6 hH => ?_
              simp only [List.drop_succ_cons, List.drop_zero]
              obtain ⟨b', gn, e10, hc10, hgn, hIn⟩ := hH 10 (by decide)
              cases e10
              clear hH x0 x1 xb xr
              refine wpListIn_appendN (open_round l) rfl (.tmp 49) (.tmp 59) 32 rfl w5.heap.size 22 (.slice none 0 0) 1 24 Try.underlying32 info22 rfl (by decide) _ (k + 1) _ rfl (ownsN_below HB.out.row hb6) b10 0 1 1 [.slice (some ⟨gn, 0, none⟩) N N] rfl rfl (fun j u hj => by
                match j, hj with
                | 0, hj => simp at hj; subst hj; exact hc10
                | j + 1, hj => simp at hj) (by intro u hu; simp at hu; subst hu; rfl) (by omega) (by decide) (Nat.le_trans hB5W hb6.size) ?_
              intro lv' Wb ho hg hat
              obtain ⟨m1, m2, y4, f4⟩ := HB.out.more hb6 ho hg hat
              obtain ⟨q', c', rfl⟩ := ownsRow_succ ho
              have hnotlv : ∀ z, Row 3 W6 z → some z ≠ (Value.slice (some ⟨q, 0, none⟩) (k + 1) c).ownBlock := fun z hz e => by
                obtain ⟨cs, fz, hz⟩ := hz
                rcases ownsN_ne_blk (ownsN_below HB.out.row hb6) hz (by decide) with h | h
                · cases h
                · exact h e.symm
              have hnotbx : ∀ z, Row 3 W6 z → z ≠ bx := fun z hz e => by
                obtain ⟨cs, fz, hz⟩ := hz
                rw [e, (hb6.block bx (Array.getElem?_eq_some_iff.1 HB.out.box).1).trans HB.out.box] at hz
                simp at hz
              have hint : ∀ z F, IntBlk W6 z 3 N F → IntBlk (Wb.setCell ⟨bx, 0, none⟩ (.slice (some ⟨q', 0, none⟩) (k + 1 + 1) c')) z 3 N F := fun z F h => by
                have hr : Row 3 W6 z := by obtain ⟨X, e, _⟩ := h; exact ⟨X, _, e⟩
                exact h.keep ((Below.heap_setCell _ _ _ _ (hnotbx z hr)).trans (hg.block z h.lt (hnotlv z hr)))
              have hRI2 : RI w5.heap.size bx N tin (k + 1) (fun z => z = bx ∨ (Value.slice (some ⟨q', 0, none⟩) (k + 1 + 1) c').ownBlock = some z) (Wb.setCell ⟨bx, 0, none⟩ (.slice (some ⟨q', 0, none⟩) (k + 1 + 1) c')) := by
                refine ⟨_, gs ++ [gn], by simp [HGL.out], by rw [List.map_append]; exact m1, fun i hi => ?_⟩
                by_cases hik : i < gs.length
                · rw [List.getElem_append_left hik]
                  exact ⟨(HROWS.out i hik).1, hint _ _ ((HROWS.out i hik).2.below hb6)⟩
                · have : i = gs.length := by simp at hi; omega
                  subst this
                  rw [List.getElem_append_right (Nat.le_refl _)]
                  simp only [Nat.sub_self, List.getElem_cons_zero]
                  exact ⟨hgn, hint _ _ (by rw [HGL.out]; exact hIn)⟩
              have HRI2 := Lib.hid hRI2
              have M2 := Lib.hid m2
              clear hRI2 m1 m2 ho hg hat hnotlv hnotbx hint hIn hc10 hgn
              simp only [Act.put, List.setIfInBounds_toArray, List.set_cons_succ, List.set_cons_zero]
              gi_wp2_with fail
              exact ⟨_, M2.out, by show RI w5.heap.size bx N tin (pre ++ [_]).length _ _; rw [List.length_append, HK.out]; exact HRI2.out⟩
          case done =>
            intro D O₁ W' hD hnD hrel hI hDD
            obtain ⟨n, hn⟩ : ∃ n, tin.length = n := ⟨_, rfl⟩
            rw [backL_length, hn] at hI
            obtain ⟨lv, gs, hgl, hB, hrows⟩ := hI
            obtain ⟨q, c, rfl⟩ := ownsRow_succ hB.row
            have xb : W'.cell? ⟨bx, 0, none⟩ = some (.slice (some ⟨q, 0, none⟩) (n + 1) c) := by rw [cell_of_heap hB.box]; rfl
            have hrw : ∀ j, j ≤ n → ∃ gj, W'.cell? ⟨q, j, none⟩ = some (.slice (some ⟨gj, 0, none⟩) N N) ∧ IntBlk W' gj 3 N (rowF tin j) := fun j hj => by
              have hjl : j < gs.length := by omega
              exact ⟨gs[j], by rw [hB.row.cellAt j (by omega), List.getElem?_map, List.getElem?_eq_getElem hjl]; rfl, (hrows j hjl).2⟩
            have hsW : SlN 2 (fun k => S k ∧ k < w3.heap.size) W' (.slice a tin.length cap) (tin.map coinRow) := SlN.rel HS9.out hrel fun k hk h => by
              rcases h with h | h
              · have := HBX.out; omega
              · omega
            have hBW : Below w.heap.size w W' := by
              have h1 : Below w9.heap.size w8 w9 ∨ True := .inr trivial
              have h2 : Below w5.heap.size w5 w9 := bThen HB58.out HB9.out
              exact HB5.out.trans ((h2.mono HB5.out.size).trans (hrel.below (by have := HB5.out.size; have := h2.size; omega) fun k hk h => by
                have h3 := HZ57.out
                have h4 := HBX.out
                have h5 := HB5.out.size
                rcases h with h | h <;> omega))
            have hAN : A < N := by have := HN.out; omega
            obtain ⟨gn, xn, hIn⟩ := hrw n (Nat.le_refl _)
            obtain ⟨V, hV⟩ : ∃ V, rowF tin n A = V := ⟨_, rfl⟩
            have xv : W'.cell? ⟨gn, A, none⟩ = some (.int .i64 V) := by rw [← hV]; exact hIn.cell hAN
            obtain ⟨bt, hbt⟩ : ∃ bt, decide ((1073741824 : Int) ≤ V) = bt := ⟨_, rfl⟩
            have hANi : (A : Int) < (N : Int) := by omega
            have hnn : n < n + 1 := by omega
            have hnni : (n : Int) < (n : Int) + 1 := by omega
            have HV := Lib.hid hV
            have HBT := Lib.hid hbt
            have HRW := Lib.hid hrw
            have HSW := Lib.hid hsW
            have HBW := Lib.hid hBW
            have HDD := Lib.hid hDD
            have HNL := Lib.hid hn
            have HD := Lib.hid hD
            clear hgl hB hrows hrw hsW hBW hDD hV hIn hrel hnD hD
            cases bt
            · gi_wp2_with fail
              clear xn xv hbt
              have hV0 : rowF tin tin.length A < noneC := by
                have h1 := of_decide_eq_false HBT.out
                rw [HNL.out, HV.out]; unfold noneC; omega
              have her : er = 0 := by rw [ER4.out, Int.toNat_natCast, if_neg (by omega)]
              have hrs : rs = (cntTo tin A n).1 := by rw [RS.out, if_pos her, Int.toNat_natCast, HNL.out]
              have HINV : Hid (∀ i, i ≤ n → (cntTo tin A i).2 ≤ A ∧ rowF tin (n - i) (cntTo tin A i).2 < noneC) := Lib.hid (fun i hi => by have := cnt_inv hV0 i (by rw [HNL.out]; exact hi); rw [HNL.out] at this; exact this)
              clear ER4 RS NOK hV0
              subst her hrs
              obtain ⟨B, hBe⟩ : ∃ B, W'.heap.size = B := ⟨_, rfl⟩
              have HBE := Lib.hid hBe
              clear hBe
              gi_loopw [0, 4, 72] (fun av cv iv wr => ∃ (i : Nat) (a' : Nat), i ≤ n ∧ iv = .int .i64 i ∧ av = .int .i64 a' ∧ Hid (a' = (cntTo tin A i).2) ∧ Hid (wr.ownsRow B 3 1 cv i (ints (cntTo tin A i).1)) ∧ Below B W' wr) (fun _ _ iv _ => n - (intOf iv).toNat)
              case atStart => exact ⟨0, A, by omega, rfl, rfl, Lib.hid rfl, Lib.hid (World.ownsRow_nil _ _ _ _), ⟨rfl, rfl, rfl, Nat.le_refl _, fun _ _ => rfl⟩⟩
              case round =>
                obtain ⟨i, a', hi, rfl, rfl, HA', HO, hb⟩ := hrel
                obtain ⟨wo, rfl⟩ : ∃ wo : World, wo = wr := ⟨_, rfl⟩
                have hbB : Below W'.heap.size W' wo := by rw [HBE.out]; exact hb
                have hBwo : B ≤ wo.heap.size := by rw [← HBE.out]; exact hbB.size
                have HB := Lib.hid hbB
                clear hb hbB
                by_cases hlt : i < n
                · obtain ⟨b, off, hal, _, _, hc⟩ := (HSW.out.below HB.out).cell (show i < (tin.map coinRow).length by rw [List.length_map, HNL.out]; exact hlt)
                  cases hal
                  have hit : i < tin.length := by rw [HNL.out]; exact hlt
                  obtain ⟨⟨x1, x2⟩, hx⟩ : ∃ x, tin[i] = x := ⟨_, rfl⟩
                  have hxb : coinBad (x1, x2) = false := by
                    have := H3.out
                    rw [List.any_eq_false] at this
                    simpa using this _ (hx ▸ List.getElem_mem hit)
                  have hxr : 1 ≤ x1 ∧ x1 ≤ 20000 ∧ 0 ≤ x2 ∧ x2 ≤ 1000 := by simp [coinBad, isIn] at hxb; omega
                  obtain ⟨X1, rfl⟩ : ∃ X1 : Nat, x1 = X1 := ⟨x1.toNat, by omega⟩
                  obtain ⟨X2, rfl⟩ : ∃ X2 : Nat, x2 = X2 := ⟨x2.toNat, by omega⟩
                  have hgD : tin.getD i (0, 0) = ((X1 : Int), (X2 : Int)) := by rw [List.getD_eq_getElem?_getD, List.getElem?_eq_getElem hit, hx]; rfl
                  have z0 := hc 0 (.int .i64 X1) (by simp [coinRow, hx])
                  have z1 := hc 1 (.int .i64 X2) (by simp [coinRow, hx])
                  simp only [Nat.add_zero] at z0
                  obtain ⟨u, hu⟩ : ∃ u, n - i = u := ⟨_, rfl⟩
                  obtain ⟨u1, hu1⟩ : ∃ u1, u - 1 = u1 := ⟨_, rfl⟩
                  obtain ⟨ga, ca, hIa⟩ := HRW.out u (by omega)
                  obtain ⟨gb, cb, hIb⟩ := HRW.out u1 (by omega)
                  have hinv := HINV.out i hi
                  rw [← HA'.out, hu] at hinv
                  obtain ⟨T, hT⟩ : ∃ T, stepN tin i a' = T := ⟨_, rfl⟩
                  obtain ⟨Q, hQ⟩ : ∃ Q, min X2 (a' / X1) = Q := ⟨_, rfl⟩
                  have hTd : T = downN (rowF tin u1) X1 a' (rowF tin u a') Q := by rw [← hT, stepN, hgD, HNL.out, hu, hu1, ← hQ]; simp
                  have hTok : ((T : Nat) : Int) + rowF tin u1 (a' - T * X1) = rowF tin u a' := by
                    have h1 := step_ok hit (a := a') (by rw [HNL.out, hu]; exact hinv.2)
                    rw [hgD, HNL.out, hu, hu1, hT] at h1
                    simpa using h1
                  have hnext : cntTo tin A (i + 1) = ((cntTo tin A i).1 ++ [(T : Int)], a' - T * X1) := by
                    rw [cntTo_succ, ← HA'.out, hT, hgD]; simp
                  have HU := Lib.hid (And.intro hu hu1)
                  have HTD := Lib.hid hTd
                  have HTOK := Lib.hid hTok
                  have HNEXT := Lib.hid hnext
                  have HQ := Lib.hid hQ
                  have hQX : Q * X1 ≤ a' := by
                    have h1 : Q ≤ a' / X1 := by omega
                    exact Nat.le_trans (Nat.mul_le_mul_right X1 h1) (Nat.div_mul_le_self a' X1)
                  have hw1 : IntKind.i64.wrap ((tin.length : Int) - (i : Int)) = (u : Int) := by rw [show (tin.length : Int) - i = u by have := HNL.out; omega]; exact wrap_small _ (by omega) (by omega)
                  have hw2 : IntKind.i64.wrap ((u : Int) - 1) = (u1 : Int) := by rw [show (u : Int) - 1 = u1 by omega]; exact wrap_small _ (by omega) (by omega)
                  have hun : u < n + 1 := by omega
                  have hu1n : u1 < n + 1 := by omega
                  have haN : a' < N := by have := HN.out; omega
                  have hunI : (u : Int) < (n : Int) + 1 := by omega
                  have hu1nI : (u1 : Int) < (n : Int) + 1 := by omega
                  have haNI : (a' : Int) < (N : Int) := by omega
                  obtain ⟨wa, hwa⟩ : ∃ wa, wo.alloc (.cells #[.int .i64 X1, .int .i64 X2] 66) = wa := ⟨_, rfl⟩
                  have hba : Below wo.heap.size wo wa := by rw [← hwa]; exact aB _ _
                  have hbWa := bThen HB.out hba
                  have ca' := bAt hbWa ca
                  have cb' := bAt hbWa cb
                  have xb' := bAt hbWa xb
                  have y0 : wa.cell? ⟨wo.heap.size, 0, none⟩ = some (.int .i64 X1) := by rw [← hwa]; simp
                  have y1 : wa.cell? ⟨wo.heap.size, 1, none⟩ = some (.int .i64 X2) := by rw [← hwa]; simp
                  have HIA := Lib.hid (hIa.below hbWa)
                  have HIB := Lib.hid (hIb.below hbWa)
                  have HWA := Lib.hid hwa
                  have HBWA := Lib.hid hbWa
                  have HOA := Lib.hid (ownsN_below HO.out hba)
                  have hBwa : B ≤ wa.heap.size := Nat.le_trans hBwo hba.size
                  have hdv : (a' : Int).tdiv (X1 : Int) = ((a' / X1 : Nat) : Int) := by rw [Int.tdiv_eq_ediv_of_nonneg (by omega)]; simp
                  obtain ⟨d, hd⟩ : ∃ d, a' / X1 = d := ⟨_, rfl⟩
                  rw [hd] at hdv
                  have hdle : d ≤ a' := by rw [← hd]; exact Nat.div_le_self _ _
                  have hwd : IntKind.i64.wrap (d : Int) = (d : Int) := wrap_small _ (by omega) (by omega)
                  have hmin : min (X2 : Int) (d : Int) = (Q : Int) := by rw [← HQ.out, hd]; omega
                  have hX10 : ¬ (X1 : Int) = 0 := by omega
                  have hX10n : ¬ X1 = 0 := by omega
                  clear hc hx hxb hgD hu hu1 ca cb hIa hIb hT hTd hTok hnext hQ hwa hba hbWa
                  gi_wp2_with fail
                  rw [HWA.out]
                  clear z0 z1
                  refine wpIn_region_seq 17 [.is ?_, .is ?_, .is ?_, .is ?_, .is ?_, .is ?_, .is ?_, .is ?_, .is ?_, .is ?_, .is ?_, .is ?_, .is ?_, .is ?_, .is ?_, .is ?_, .is ?_] rfl mix open_wide (by kernel_rfl) (by kernel_rfl) (by kernel_rfl) ?seqm
                  case seqm =>
                    simp only [List.take_succ_cons, List.take_zero]
                    iterate 17
                      refine seq_is rfl (fun v1 hb1 _ => ?_) ?_
                      · have q0 := bAt hb1 ca'
                        have q1 := bAt hb1 cb'
                        have q2 := bAt hb1 xb'
                        simp [opOK, go_sem, q0, q1, q2, hw1, hw2, hunI, hu1nI, Below.refl]
                        try exact rfl
                      simp only [Act.put, List.setIfInBounds_toArray, List.set_cons_succ, List.set_cons_zero]
                    refine seq_end fun wb hbb _ => ?_
                    simp only [List.drop_succ_cons, List.drop_zero]
                    have HBB := Lib.hid hbb
                    have y1b := bAt hbb y1
                    have y0b := bAt hbb y0
                    clear hbb ca' cb' xb'
                    gi_wp2_with fail
                    refine wpIn_region_seq 8 [.is ?_, .is ?_, .is ?_, .is ?_, .is ?_, .is ?_, .is ?_, .is ?_] rfl mix open_wide (by kernel_rfl) (by kernel_rfl) (by kernel_rfl) ?seqm
                    case seqm =>
                      simp only [List.take_succ_cons, List.take_zero]
                      iterate 8
                        refine seq_is rfl (fun v1 hb1 _ => ?_) ?_
                        · have q0 := bAt hb1 y0b
                          have q1 := bAt hb1 y1b
                          simp [opOK, go_sem, q0, q1, hdv, hwd, hX10n, hmin, Below.refl]
                          try exact rfl
                        simp only [Act.put, List.setIfInBounds_toArray, List.set_cons_succ, List.set_cons_zero]
                      refine seq_end fun wc hbc _ => ?_
                      simp only [List.drop_succ_cons, List.drop_zero]
                      have HAC := Lib.hid (bThen HBB.out hbc)
                      clear hbc y0b y1b
                      gi_wp2_with fail
                      gi_loopw [15] (fun pv wr => ∃ p : Nat, p ≤ Q ∧ pv = .int .i64 p ∧ Hid (T = downN (rowF tin u1) X1 a' (rowF tin u a') p) ∧ Hid (Below wa.heap.size wa wr)) (fun pv _ => (intOf pv).toNat)
                      case atStart => exact ⟨Q, Nat.le_refl _, rfl, HTD, HAC⟩
                      case round =>
                        obtain ⟨p, hp, rfl, HTP, HAI⟩ := hrel
                        obtain ⟨wi, rfl⟩ : ∃ wi : World, wi = wr := ⟨_, rfl⟩
                        have hpX : p * X1 ≤ a' := Nat.le_trans (Nat.mul_le_mul_right X1 hp) hQX
                        obtain ⟨s, hs⟩ : ∃ s, a' - p * X1 = s := ⟨_, rfl⟩
                        obtain ⟨m, hm⟩ : ∃ m, p * X1 = m := ⟨_, rfl⟩
                        rw [hm] at hpX hs
                        have hmI : (p : Int) * (X1 : Int) = (m : Int) := by rw [← hm]; simp
                        have hwm : IntKind.i64.wrap (m : Int) = (m : Int) := wrap_small _ (by omega) (by omega)
                        have hws : IntKind.i64.wrap ((a' : Int) - (m : Int)) = (s : Int) := by rw [show (a' : Int) - m = s by omega]; exact wrap_small _ (by omega) (by omega)
                        obtain ⟨r, hr⟩ : ∃ r, rowF tin u1 s = r := ⟨_, rfl⟩
                        obtain ⟨v, hv⟩ : ∃ v, rowF tin u a' = v := ⟨_, rfl⟩
                        have hrb : 0 ≤ r ∧ r ≤ noneC := hr ▸ rowF_bd tin u1 s
                        unfold noneC at hrb
                        have hsN : s < N := by omega
                        have hsNI : (s : Int) < (N : Int) := by omega
                        have c1 := (HIB.out.below HAI.out).cell hsN
                        have c2 := (HIA.out.below HAI.out).cell haN
                        rw [hr] at c1
                        rw [hv] at c2
                        have y0i := bAt HAI.out y0
                        have hdQ : Q ≤ d := by rw [← HQ.out, hd]; omega
                        have hwr : IntKind.i64.wrap ((p : Int) + r) = (p : Int) + r := wrap_small _ (by omega) (by omega)
                        obtain ⟨bb, hbb⟩ : ∃ bb, ((p : Int) + r != v) = bb := ⟨_, rfl⟩
                        have HM := Lib.hid hm
                        have HS := Lib.hid hs
                        have HR := Lib.hid hr
                        have HV2 := Lib.hid hv
                        have HBB2 := Lib.hid hbb
                        clear hm hs hr hv
                        gi_wp2_with fail
                        refine wpIn_region_seq 16 [.is ?_, .is ?_, .is ?_, .is ?_, .is ?_, .is ?_, .is ?_, .is ?_, .is ?_, .is ?_, .is ?_, .is ?_, .is ?_, .is ?_, .is ?_, .is (.bool bb)] rfl mix open_wide (by kernel_rfl) (by kernel_rfl) (by kernel_rfl) ?seqm
                        case seqm =>
                          simp only [List.take_succ_cons, List.take_zero]
                          iterate 16
                            refine seq_is rfl (fun v1 hb1 _ => ?_) ?_
                            · have q0 := bAt hb1 y0i
                              have q1 := bAt hb1 c1
                              have q2 := bAt hb1 c2
                              simp [opOK, go_sem, q0, q1, q2, hmI, hwm, hws, hwr, hsNI, haNI, Below.refl]
                              try exact rfl
                              try exact hbb
                            simp only [Act.put, List.setIfInBounds_toArray, List.set_cons_succ, List.set_cons_zero]
                          refine seq_end fun wj hbj _ => ?_
                          simp only [List.drop_succ_cons, List.drop_zero]
                          have HAJ := Lib.hid (bThen HAI.out hbj)
                          clear hbj y0i c1 c2
                          have hdn : rowF tin u1 (a' - p * X1) = r := by rw [HM.out, HS.out, HR.out]
                          cases bb
                          · have heq : (p : Int) + r = v := by simpa using HBB2.out
                            have hTp : T = p := by
                              rw [HTP.out, HV2.out]
                              exact downN_here _ _ _ _ _ (by rw [hdn]; exact heq)
                            have HTEQ := Lib.hid hTp
                            clear hTp hdn
                            have HOJ : Hid (wj.ownsRow B 3 1 u4 i (ints (cntTo tin A i).1)) := Lib.hid (ownsN_below HOA.out HAJ.out)
                            have HBJ := Lib.hid (bThen HBWA.out HAJ.out)
                            have y0j := bAt HAJ.out y0
                            have hBwj : B ≤ wj.heap.size := Nat.le_trans hBwa HAJ.out.size
                            have howj : wo.heap.size < wj.heap.size := by
                              have h1 := HAJ.out.size
                              have h2 : wo.heap.size < wa.heap.size := by rw [← HWA.out]; simp
                              omega
                            have HLT : Hid (∀ g, u4.ownBlock = some g → B ≤ g ∧ g < wo.heap.size) := Lib.hid fun g hg => HO.out.lt g hg
                            gi_wp2_with fail
                            refine wpIn_region_gen 11 (fun j v W => match j with
                              | 0 => v = u4
                              | 1 | 5 => v = .int .i64 p
                              | 2 => ∃ b, v = .slice (some ⟨b, 0, none⟩) 1 1 ∧ wj.heap.size ≤ b ∧ b < W.heap.size ∧ W.cell? ⟨b, 0, none⟩ = some (.int .i64 p)
                              | 3 | 10 => W.ownsRow B 3 1 v (i + 1) (ints (cntTo tin A i).1 ++ [.int .i64 p])
                              | 4 => v = .int .i64 a'
                              | 6 => v = .pointer (some ⟨wo.heap.size, 0, none⟩)
                              | 7 => v = .int .i64 X1
                              | 8 => v = .int .i64 m
                              | 9 => v = .int .i64 s
                              | _ => True) (fun L W => JSt 3 [2] (fun W => Below wj.heap.size wj W) (fun W => Below W'.heap.size W' W ∧ W.cell? ⟨wo.heap.size, 0, none⟩ = some (.int .i64 X1)) L W ∧ (L 10 = true → L 3 = true)) mix open_wide (by kernel_rfl) (by kernel_rfl) ⟨JSt.start ⟨rfl, rfl, rfl, Nat.le_refl _, fun _ _ => rfl⟩, fun h => h⟩ ?_ ?_
                            · refine ⟨?_, ?_, ?_, ?_, ?_, ?_, ?_, ?_, ?_, ?_, ?_, trivial⟩
                              all_goals refine gen_plain rfl fun a W L hSi ⟨hJ, h10⟩ hpre ht' => ?_
                              all_goals
                                simp [Region.binds] at hpre
                                have hcell : W.cell? ⟨wo.heap.size, 0, none⟩ = some (.int .i64 X1) := by
                                  cases hL : L 3
                                  · exact bAt (hJ.off hL) y0j
                                  · exact (hJ.on hL).2
                              · have t4 := ht' 4 rfl
                                simp at t4
                                simp [opOK, go_sem, t4]
                                exact ⟨⟨hJ.read (by omega), set10 h10 (by omega)⟩, fun j _ _ v h _ => h⟩
                              · have t4 := ht' 15 rfl
                                simp at t4
                                simp [opOK, go_sem, t4]
                                exact ⟨⟨hJ.read (by omega), set10 h10 (by omega)⟩, fun j _ _ v h _ => h⟩
                              · have hA := hJ.look (i := 2) (by simp) hSi
                                have hL3 : L 3 = false := by
                                  cases hL : L 3
                                  · rfl
                                  · have := hJ.rds hL 2 (by simp)
                                    rw [hSi] at this; cases this
                                refine opOK_val (v := .slice (some ⟨W.heap.size, 0, none⟩) 1 1) (w' := W.alloc (.cells #[.int .i64 p] 3)) (by simp [go_sem, execOp, hpre]) ?_
                                refine ⟨⟨⟨fun _ => bThen hA (aB _ _), fun h => by simp [setB, hL3] at h, fun h => by simp [setB, hL3] at h⟩, set10 h10 (by omega)⟩, ?_, _, rfl, hA.size, by simp, cell_new _ _ _⟩
                                intro j hj hLj v h _
                                match j, hj, hLj, h with
                                | 0, _, _, h | 1, _, _, h | 4, _, _, h | 5, _, _, h | 6, _, _, h | 7, _, _, h | 8, _, _, h | 9, _, _, h => exact h
                                | 2, hj, _, _ => exact absurd rfl hj
                                | 3, _, _, h | 10, _, _, h => exact ownsN_below h (aB _ _)
                                | _ + 11, _, _, _ => trivial
                              · obtain ⟨⟨hS0, t0⟩, hS2, v2, ⟨b, rfl, hb1, hb2, hbc⟩, t2⟩ := hpre
                                have hA := hJ.off hSi
                                have hrow := ownsN_below HOJ.out hA
                                refine opOK_mono (opOK_append1_at (.tmp 117) (.tmp 119) 22 rfl B 3 (.int .i64 0) 8 Try.underlying22 info3 rfl u4 i _ (by simp [go_sem, t0]) hrow b 0 1 (.int .i64 p) (by simp [go_sem, t2]) hbc rfl (by omega) (by decide) (Nat.le_trans hBwj hA.size)) ?_
                                rintro _ Wn ⟨g, cap', rfl, hown, hg, hat⟩
                                have hWb : Below W'.heap.size W' Wn := (bThen HBJ.out hA).trans (below_grownBy hg (by rw [HBE.out]; exact Nat.le_trans hBwj hA.size) (fun k hk => by rw [HBE.out]; exact (HLT.out k hk).1))
                                refine ⟨⟨JSt.write (by simp [hS2]) ⟨hWb, ?_⟩, fun _ => by simp [setB]⟩, ?_, hown⟩
                                · rw [World.cell?_of_block (hg.block _ (World.block_lt_of_cell? W _ hcell) (fun e => absurd (HLT.out _ e.symm).2 (Nat.lt_irrefl _)))]
                                  exact hcell
                                intro j hj hLj v h _
                                match j, hj, hLj, h with
                                | 0, _, _, h | 1, _, _, h | 4, _, _, h | 5, _, _, h | 6, _, _, h | 7, _, _, h | 8, _, _, h | 9, _, _, h => exact h
                                | 2, _, _, ⟨b', e', g1, g2, g3⟩ =>
                                  refine ⟨b', e', g1, Nat.lt_of_lt_of_le g2 hg.size, ?_⟩
                                  rw [World.cell?_of_block (hg.block _ g2 (fun e => by have h2 : b' < wo.heap.size := (HLT.out _ e.symm).2; omega))]
                                  exact g3
                                | 3, hj, _, _ => exact absurd rfl hj
                                | 10, _, hL10, _ => rw [h10 hL10] at hSi; cases hSi
                                | _ + 11, _, _, _ => trivial
                              · have t4 := ht' 0 rfl
                                simp at t4
                                simp [opOK, go_sem, t4]
                                exact ⟨⟨hJ.read (by omega), set10 h10 (by omega)⟩, fun j _ _ v h _ => h⟩
                              · have t4 := ht' 15 rfl
                                simp at t4
                                simp [opOK, go_sem, t4]
                                exact ⟨⟨hJ.read (by omega), set10 h10 (by omega)⟩, fun j _ _ v h _ => h⟩
                              · have t4 := ht' 12 rfl
                                simp at t4
                                simp [opOK, go_sem, t4]
                                exact ⟨⟨hJ.read (by omega), set10 h10 (by omega)⟩, fun j _ _ v h _ => h⟩
                              iterate 3
                                (· simp [opOK, go_sem, hpre, hcell, hmI, hwm, hws]
                                   exact ⟨⟨hJ.read (by omega), set10 h10 (by omega)⟩, fun j _ _ v h _ => h⟩)
                              · obtain ⟨hS3, v3, hv3, t3⟩ := hpre.1
                                refine opOK_val (v := v3) (w' := W) (by simp [go_sem, execOp, t3]) ?_
                                exact ⟨⟨hJ.read (by omega), fun _ => by simp [setB, hS3]⟩, fun j _ _ v h _ => h, hv3⟩
                            · intro Wn hJ
                              have hJ10 := hJ.2
                              have HJN := Lib.hid (hJ.1.on (by decide))
                              simp only [List.take_succ_cons, List.take_zero, List.drop_succ_cons, List.drop_zero, EndAll]
                              rintro _ rfl _ rfl _ - _ - _ rfl _ rfl _ rfl _ rfl _ rfl _ rfl cv hcv
                              have HCV := Lib.hid hcv
                              have hsx : a' - p * X1 = s := by rw [HM.out, HS.out]
                              clear hcv hJ hJ10 hn
                              gi_wp2_with fail
                              go_roundw
                              case rel => exact ⟨i + 1, s, by omega, by go_num, rfl, Lib.hid (by rw [HNEXT.out, HTEQ.out, hsx]), Lib.hid (by rw [HNEXT.out, HTEQ.out, ints_append]; exact HCV.out), by rw [← HBE.out]; exact HJN.out.1⟩
                              case measure => simp [intOf]; omega
                          · have hne : (p : Int) + r ≠ v := by simpa using HBB2.out
                            have hp1 : 1 ≤ p := by
                              rcases Nat.eq_zero_or_pos p with h0 | h0
                              · exfalso
                                have hT0 : T = 0 := by rw [HTP.out, h0]; rfl
                                have h2 := HTOK.out
                                rw [hT0, HV2.out] at h2
                                subst h0
                                rw [hdn] at h2
                                exact hne h2
                              · exact h0
                            have hskip : T = downN (rowF tin u1) X1 a' (rowF tin u a') (p - 1) := by
                              obtain ⟨p', rfl⟩ : ∃ p', p = p' + 1 := ⟨p - 1, by omega⟩
                              rw [HTP.out, downN_skip _ _ _ _ p' (by rw [hdn, HV2.out]; exact hne)]; rfl
                            have hw1p : IntKind.i64.wrap ((p : Int) - 1) = ((p - 1 : Nat) : Int) := by rw [show ((p : Int) - 1) = ((p - 1 : Nat) : Int) by omega]; exact wrap_small _ (by omega) (by omega)
                            have HSK := Lib.hid hskip
                            clear hskip hdn
                            gi_wp2_with fail
                            exact ⟨⟨p - 1, by omega, by rw [show ((p - 1 : Nat) : Int) = (p : Int) - 1 by omega], HSK, HAJ⟩, by simp [intOf]; omega⟩
                · obtain rfl : i = n := by omega
                  clear hn
                  have hDlt : D < W'.heap.size := (Array.getElem?_eq_some_iff.1 HDD.out).1
                  have hmk : Marks 0 wo [D] := (Marks.nil _ _).cons ((HB.out.block D hDlt).trans HDD.out) (Nat.zero_le _) (by simp)
                  have hwB : w.heap.size ≤ B := by rw [← HBE.out]; exact HBW.out.size
                  gi_wp2
                  refine leave_marks [D] _ hmk fun W'' hp => ⟨.tuple #[u4, .int .i64 0], by simp [results, go_sem], _, rfl, (bThen HBW.out HB.out).trans (hp.below fun E hE => ?_), ?_⟩
                  · simp at hE
                    have h1 := HD.out
                    have h2 := HZ9.out
                    have h3 := HZ8.out
                    have h4 := HZ57.out
                    have h5 := HB5.out.size
                    omega
                  · refine (Sl.of_owns (ownsN_kept HO.out fun g hg => hp.block g fun h => ?_)).mono fun k hk => Nat.le_trans hwB hk
                    simp at h
                    have h1 := (HO.out.lt g hg).1
                    have h2 := HBE.out
                    omega
            · have her : er = 7 := by
                rw [ER4.out]
                have h1 := of_decide_eq_true HBT.out
                rw [HNL.out, Int.toNat_natCast, HV.out, if_pos (by unfold noneC; omega)]
              have rs2 := NOK.out (by omega)
              clear ER4 RS NOK
              subst her rs2
              gi_wp2
              clear xn xv hbt
              have hmk : Marks 0 W' [D] := (Marks.nil _ _).cons HDD.out (Nat.zero_le _) (by simp)
              refine leave_marks [D] _ hmk fun W'' hp => ⟨.tuple #[.slice none 0 0, .int .i64 7], by simp [results, go_sem], _, rfl, HBW.out.trans (hp.below fun E hE => ?_), Sl.nil _ _⟩
              simp at hE
              have h1 := HD.out
              have h2 := HZ9.out
              have h3 := HZ8.out
              have h4 := HZ57.out
              have h5 := HB5.out.size
              omega
          case stop => intro D c pre O₁ W' _ _ _ _ h; exact h.elim
        · have er2 : er = 6 := by rw [ER3.out, HDD.out]; rfl
          have rs2 := NOK.out (by omega)
          clear ER3 RS NOK
          subst er2 rs2
          gi_wp2
          exact leave_marks [] _ (Marks.nil 0 _) fun W'' hp => ⟨.tuple #[.slice none 0 0, .int .i64 6], by simp [results, go_sem], _, rfl, HB5.out.trans (hp.below fun D hD => by cases hD), Sl.nil _ _⟩
      · have er2 : er = 2 := by rw [ER2.out]; simp
        have rs2 := NOK.out (by omega)
        clear ER2 RS NOK
        subst er2 rs2
        gi_wp2
        exact leave_marks [] _ (Marks.nil 0 _) fun W'' hp => ⟨.tuple #[.slice none 0 0, .int .i64 2], by simp [results, go_sem], _, rfl, HB2.out.trans (hp.below fun D hD => by cases hD), Sl.nil _ _⟩
end Go.Proofs.Ytagfcodpgochjaa
