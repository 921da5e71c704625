/- The texts RS, WS, in build order. -/
import Derived.Test.YtagfcodpgochjaaZao

/- Chapter 12, the reference: Settle; a copy of integers. -/
namespace Go.Proofs.Ytagfcodpgochjaa
open Go.RowKit Go.Oche Go.Proofs

theorem SameW.setCell {w W : World} (h : SameW w W) (p : Addr) (v : Value) : SameW (w.setCell p v) (W.setCell p v) := by
  refine ⟨h.os, h.tape, h.output, ?_⟩
  simp only [World.setCell, h.heap]
theorem SameW.below {w W : World} (h : SameW w W) : Below w.heap.size w W := ⟨h.os, h.tape, h.output, by rw [h.heap]; exact Nat.le_refl _, fun k _ => by rw [h.heap]⟩
theorem ints_one (xs : List Int) : ∀ r ∈ (ints xs).map (fun x => [x]), ∀ u ∈ r, u.oneCell' = true := by
  intro r hr u hu
  obtain ⟨x, hx, rfl⟩ := List.mem_map.1 hr
  simp only [List.mem_singleton] at hu
  subst hu
  obtain ⟨z, _, rfl⟩ := List.mem_map.1 hx
  rfl
theorem copyInts_any {S : Nat → Prop} (xs : List Int) (v : Value) (w : World) (hs : Sl S w v (ints xs)) (hl : xs.length ≤ 100000) :
    Calls Try.prog 13 #[v] w fun e w' => ∃ r, e = .returned r ∧ Below w.heap.size w w' ∧ Sl (fun k => w.heap.size ≤ k) w' r (ints xs) := by
  have HS := Lib.hid hs
  clear hs
  go_enter Try.func13, Try.ntmps13
  go_wp2_with (at_builtin; refine wpList_copy rfl (.tmp 3) (.tmp 4) 22 rfl 3 (.int .i64 0) 1 8 Try.underlying22 info3 rfl (by decide) rfl _ _ rfl HS.out.toN (ints_one xs) (by simp; omega) (by decide) ?_)
  intro v1 w1 hb1 hs1
  have HB := Lib.hid hb1
  have H1 := Lib.hid hs1
  clear hb1 hs1
  go_wp2
  go_ret
  exact ⟨_, rfl, HB.out, H1.out.to1⟩
theorem sum_bdB {B : Int} (hB : 0 ≤ B) : ∀ (l : List Int), (∀ y ∈ l, -B ≤ y ∧ y ≤ B) → -B * (l.length : Int) ≤ l.sum ∧ l.sum ≤ B * (l.length : Int)
  | [], _ => by simp
  | x :: l, h => by
    have h1 := h x (by simp)
    have h2 := sum_bdB hB l fun y hy => h y (by simp [hy])
    rw [List.sum_cons, List.length_cons, Int.natCast_add, Int.mul_add, Int.mul_add]
    simp only [Int.natCast_one, Int.mul_one]
    omega
theorem owns_sliceLenN {W : World} {base n k : Nat} {e : TypeId} {v : Value} {xs : List Value} (h : W.ownsRow base e k v n xs) : sliceLen v = n := by
  rcases h.2 with ⟨rfl, rfl⟩ | ⟨g, c, cur, rfl, _⟩ <;> rfl
set_option maxRecDepth 100000 in
set_option maxHeartbeats 4000000 in
theorem refSettle_any {S : Nat → Prop} (xs : List Int) (v : Value) (w : World) (hs : Sl S w v (ints xs)) :
    Calls Try.prog 22 #[v] w fun e w' => ∃ r, e = .returned (.tuple #[r, .int .i64 (setErr xs)]) ∧ Below w.heap.size w w' ∧ SlN 4 (fun k => w.heap.size ≤ k) w' r (payRows (setRes xs)) := by
  obtain ⟨a, cap, rfl, h2, h3⟩ := hs.form
  simp only [ints_length] at *
  unfold maxLen at h3
  obtain ⟨b1, hb1⟩ : ∃ b, isIn (xs.length : Int) 1 60 = b := ⟨_, rfl⟩
  obtain ⟨b2, hb2⟩ : ∃ b, xs.any (outB (-1000000000) 1000000000) = b := ⟨_, rfl⟩
  obtain ⟨er, her⟩ : ∃ x, setErr xs = x := ⟨_, rfl⟩
  obtain ⟨rs, hrs⟩ : ∃ x, setRes xs = x := ⟨_, rfl⟩
  have ER : Hid (er = if b1 = false then 4 else if b2 = true then 2 else if xs.sum ≠ 0 then 9 else 0) := Lib.hid (by rw [← her, ← hb1, ← hb2]; rfl)
  have RS : Hid (rs = if er = 0 then setl (xs.length + 1) xs else []) := Lib.hid (by rw [← hrs, ← her]; rfl)
  have NOK : Hid (er ≠ 0 → rs = []) := Lib.hid (fun h => by rw [RS.out, if_neg h])
  have H1 := Lib.hid hb1
  have H2 := Lib.hid hb2
  have HS := Lib.hid (hs.lt)
  rw [her, hrs]
  clear her hrs hb1 hb2 hs
  go_enter Try.func22, Try.ntmps22
  go_wp2_with fail
  refine (refIn_any xs.length 1 60 b1 H1 w).mono ?_
  rintro e w1 ⟨rfl, rfl⟩
  cases b1
  · have er2 : er = 4 := ER.out
    have rs2 := NOK.out (by omega)
    clear ER RS NOK
    subst er2 rs2
    go_wp2
    go_ret2
    exact ⟨_, rfl, Below.refl _ _, SlN.nil _ _ _⟩
  · have hlen : 1 ≤ xs.length ∧ xs.length ≤ 60 := by have := H1.out; simp [isIn] at this; omega
    go_wp2_with fail
    obtain ⟨w0, hw0⟩ : ∃ w0, w.alloc (.cells #[] 3) = w0 := ⟨_, rfl⟩
    have hb0 : Below w.heap.size w w0 := by rw [← hw0]; exact aB _ _
    have ho0 : w0.ownsRow w.heap.size 3 1 (.slice (some ⟨w.heap.size, 0, none⟩) 0 0) 0 (ints (xs.take 0)) := by
      rw [← hw0]; exact World.ownsRow_made w #[] 0 (Nat.le_refl _) (Nat.zero_le _) rfl
    have HO0 := Lib.hid ho0
    have HW0 := Lib.hid hw0
    clear hw0 ho0
    rw [HW0.out]
    go_loopw [4, 5, 6] (fun v0 sv iv wr => ∃ (k : Nat) (u : Value), u = v0 ∧ k ≤ xs.length ∧ iv = .int .i64 k ∧ sv = .int .i64 (xs.take k).sum ∧ Hid (∀ j, j < k → ∀ h : j < xs.length, outB (-1000000000) 1000000000 xs[j] = false) ∧ Hid (wr.ownsRow w.heap.size 3 1 u k (ints (xs.take k))) ∧ Below w.heap.size w wr) (fun _ _ iv _ => xs.length - (intOf iv).toNat)
    case atStart => exact ⟨0, _, rfl, Nat.zero_le _, rfl, rfl, Lib.hid (fun j hj => by omega), HO0, hb0⟩
    case round =>
      obtain ⟨k, u, hu, hk, rfl, rfl, HP, HO, hb⟩ := hrel
      subst hu
      obtain ⟨wo, rfl⟩ : ∃ wo : World, wo = wr := ⟨_, rfl⟩
      clear hb0
      by_cases hlt : k < xs.length
      · obtain ⟨b, off, hal, hbS, hc⟩ := (HS.out.below hb).cell hlt
        cases hal
        obtain ⟨x, hx⟩ : ∃ x, xs[k] = x := ⟨_, rfl⟩
        rw [hx] at hc
        obtain ⟨c1, hc1⟩ : ∃ c, isIn x (-1000000000) 1000000000 = c := ⟨_, rfl⟩
        have hob : outB (-1000000000) 1000000000 xs[k] = !c1 := by rw [hx, ← hc1, Bool.eq_iff_iff]; simp [outB, isIn]
        have HOB := Lib.hid hob
        have C1 := Lib.hid hc1
        have HB := Lib.hid hb
        have HX := Lib.hid hx
        clear hob hc1 hb
        go_wp2_with fail
        refine (refIn_any x (-1000000000) 1000000000 c1 C1 wo).mono ?_
        rintro e w1 ⟨rfl, rfl⟩
        cases c1
        · have er2 : er = 2 := by
            rw [ER.out, if_neg (by decide), if_pos]
            rw [← H2.out]
            exact List.any_eq_true.2 ⟨xs[k], List.getElem_mem hlt, by rw [HOB.out]; rfl⟩
          have rs2 := NOK.out (by omega)
          clear ER RS NOK
          subst er2 rs2
          go_wp2
          go_ret2
          exact ⟨_, rfl, HB.out, SlN.nil _ _ _⟩
        · have hxb : -1000000000 ≤ x ∧ x ≤ 1000000000 := by simpa [isIn] using C1.out
          have hsb : -1000000000 * (k : Int) ≤ (xs.take k).sum ∧ (xs.take k).sum ≤ 1000000000 * (k : Int) := by
            have := sum_bdB (B := 1000000000) (by decide) (xs.take k) (fun y hy => by
              obtain ⟨j, hj, e⟩ := List.mem_take_iff_getElem.1 hy
              have h1 := outB_spec (HP.out j (by omega) (by omega))
              rw [← e]; exact h1)
            have hl : (xs.take k).length = k := by simp; omega
            rw [hl] at this
            exact this
          obtain ⟨s, hs⟩ : ∃ s, (xs.take k).sum = s := ⟨_, rfl⟩
          have hws : IntKind.i64.wrap (s + x) = s + x := by rw [IntKind.wrap_i64]; omega
          have hub : some b ≠ u.ownBlock := fun e => by have := HO.out.lt b e.symm; have := hbS.2; omega
          have hlu : ∀ g, u.ownBlock = some g → g < wo.heap.size := fun g hg => (HO.out.lt g hg).2
          have HLU := Lib.hid hlu
          have hsx : (xs.take (k + 1)).sum = s + x := by rw [List.take_succ_eq_append_getElem hlt, List.sum_append, hs, hx]; simp
          have hix : ints (xs.take (k + 1)) = ints (xs.take k) ++ [.int .i64 x] := by rw [List.take_succ_eq_append_getElem hlt, hx]; simp [ints]
          have HSX := Lib.hid hsx
          have HIX := Lib.hid hix
          rw [hs]
          clear hs hsx hix hx hlu
          go_wp2_with fail
          refine wp_region_gen 15 (fun j v W => match j with
            | 0 => v = u
            | 1 | 8 => v = .slice (some ⟨b, off, none⟩) xs.length cap
            | 2 | 9 => v = .int .i64 k
            | 3 | 10 => v = .pointer (some ⟨b, off + k, none⟩)
            | 4 | 11 => v = .int .i64 x
            | 5 => LitAt wo (.int .i64 x) v W
            | 6 | 13 => W.ownsRow w.heap.size 3 1 v (k + 1) (ints (xs.take k) ++ [.int .i64 x])
            | 7 => v = .int .i64 s
            | 12 | 14 => v = .int .i64 (s + x)
            | _ => True) (JApp wo u 5 6 [13]) mix (by kernel_rfl) JApp.start ?_ ?_
          · refine ⟨?_, ?_, ?_, ?_, ?_, ?_, ?_, ?_, ?_, ?_, ?_, ?_, ?_, ?_, ?_, trivial⟩
            all_goals refine gen_plain rfl fun a W L hSi hJ hpre ht' => ?_
            all_goals
              simp [Region.binds] at hpre
              have hcell := hJ.cell hc hub
            · have t4 := ht' 4 rfl
              simp at t4
              simp [opOK, go_sem, t4]
              exact ⟨hJ.read (by omega) (by simp), fun j _ _ v h _ => h⟩
            · have t0 := ht' 0 rfl
              simp at t0
              simp [opOK, go_sem, t0]
              exact ⟨hJ.read (by omega) (by simp), fun j _ _ v h _ => h⟩
            · have t6 := ht' 6 rfl
              simp at t6
              simp [opOK, go_sem, t6]
              exact ⟨hJ.read (by omega) (by simp), fun j _ _ v h _ => h⟩
            iterate 2
              (· simp [opOK, go_sem, hpre, hcell, hlt]
                 exact ⟨hJ.read (by omega) (by simp), fun j _ _ v h _ => h⟩)
            · refine opOK_val (v := .slice (some ⟨W.heap.size, 0, none⟩) 1 1) (w' := W.alloc (.cells #[.int .i64 x] 3)) (by simp [go_sem, execOp, hpre]) ?_
              refine ⟨hJ.lit hSi (by omega) (by simp) _, ?_, _, rfl, hJ.size, by simp, cell_new _ _ _⟩
              intro j hj hLj v h _
              match j, hj, hLj, h with
              | 0, _, _, h | 1, _, _, h | 2, _, _, h | 3, _, _, h | 4, _, _, h | 7, _, _, h | 8, _, _, h | 9, _, _, h | 10, _, _, h | 11, _, _, h | 12, _, _, h | 14, _, _, h => exact h
              | 5, hj, _, _ => exact absurd rfl hj
              | 6, _, _, h | 13, _, _, h => exact ownsN_below h (aB _ _)
              | _ + 15, _, _, _ => trivial
            · obtain ⟨⟨hS0, t0⟩, hS5, v5, ⟨b5, rfl, hb1, hb2, hbc⟩, t5⟩ := hpre
              have hrow := ownsN_below HO.out (hJ.off hSi)
              refine opOK_mono (opOK_append1_at (.tmp 29) (.tmp 34) 22 rfl w.heap.size 3 (.int .i64 0) 8 Try.underlying22 info3 rfl u k _ (by simp [go_sem, t0]) hrow b5 0 1 (.int .i64 x) (by simp [go_sem, t5]) hbc rfl (by omega) (by decide) (Nat.le_trans HB.out.size hJ.size)) ?_
              rintro _ Wn ⟨g, cap', rfl, hown, hg, hat⟩
              refine ⟨hJ.app hS5 hSi hg (by omega), ?_, hown⟩
              intro j hj hLj v h _
              match j, hj, hLj, h with
              | 0, _, _, h | 1, _, _, h | 2, _, _, h | 3, _, _, h | 4, _, _, h | 7, _, _, h | 8, _, _, h | 9, _, _, h | 10, _, _, h | 11, _, _, h | 12, _, _, h | 14, _, _, h => exact h
              | 5, _, _, h => exact LitAt.grown h hg HLU.out
              | 6, hj, _, _ => exact absurd rfl hj
              | 13, _, hL13, _ => rw [hJ.asg 13 (by simp) hL13] at hSi; cases hSi
              | _ + 15, _, _, _ => trivial
            · have t5 := ht' 5 rfl
              simp at t5
              simp [opOK, go_sem, t5]
              exact ⟨hJ.read (by omega) (by simp), fun j _ _ v h _ => h⟩
            · have t0 := ht' 0 rfl
              simp at t0
              simp [opOK, go_sem, t0]
              exact ⟨hJ.read (by omega) (by simp), fun j _ _ v h _ => h⟩
            · have t6 := ht' 6 rfl
              simp at t6
              simp [opOK, go_sem, t6]
              exact ⟨hJ.read (by omega) (by simp), fun j _ _ v h _ => h⟩
            iterate 3
              (· simp [opOK, go_sem, hpre, hcell, hlt, hws]
                 exact ⟨hJ.read (by omega) (by simp), fun j _ _ v h _ => h⟩)
            · obtain ⟨hS6, v6, hv6, t6⟩ := hpre.1
              simp [opOK, go_sem, t6]
              exact ⟨hJ.readAs (by omega) hS6, fun j _ _ v h _ => h, hv6⟩
            · simp [opOK, go_sem, hpre]
              exact ⟨hJ.read (by omega) (by simp), fun j _ _ v h _ => h⟩
          · intro W' hJ
            simp only [List.take_succ_cons, List.take_zero, List.drop_succ_cons, List.drop_zero, EndAll]
            rintro _ rfl _ rfl _ rfl _ rfl _ rfl v5 - v6 - _ rfl _ rfl _ rfl _ rfl _ rfl _ rfl v13 hv13 _ rfl
            simp only [Act.put, List.setIfInBounds_toArray, List.set_cons_succ, List.set_cons_zero]
            have hbW : Below w.heap.size w W' := HB.out.trans (below_grownBy (hJ.on rfl).2 HB.out.size fun q hq => (HO.out.lt q hq).1)
            have HBW := Lib.hid hbW
            have HO2 := Lib.hid hv13
            clear hJ hbW hv13 hc hub hws
            go_wp2
            go_roundw
            case rel => exact ⟨k + 1, v13, rfl, by omega, by go_num, by rw [HSX.out], Lib.hid (fun j hj h => by
              by_cases e : j = k
              · subst e; rw [HOB.out]; rfl
              · exact HP.out j (by omega) h), by rw [HIX.out]; exact HO2, HBW.out⟩
            case measure => simp [intOf]; omega
      · obtain rfl : k = xs.length := by omega
        have hb2 : b2 = false := by
          rw [← H2.out, List.any_eq_false]
          intro t ht
          obtain ⟨j, hj, rfl⟩ := List.mem_iff_getElem.1 ht
          simp [HP.out j hj hj]
        subst hb2
        have hbd : ∀ x ∈ xs, -1000000000 ≤ x ∧ x ≤ 1000000000 := any_outB H2.out
        have htk : xs.take xs.length = xs := List.take_length
        rw [htk] at HO ⊢
        obtain ⟨bz, hbz⟩ : ∃ b, (xs.sum != 0) = b := ⟨_, rfl⟩
        have HB := Lib.hid hb
        clear hb HP
        cases bz
        · have hs0 : xs.sum = 0 := by simpa using hbz
          have er2 : er = 0 := by rw [ER.out]; simp [hs0]
          clear ER
          subst er2
          have rs2 : rs = setl (xs.length + 1) xs := by have := RS.out; simpa using this
          clear RS NOK
          subst rs2
          have HST := Lib.hid (StOk.start hs0 hbd)
          obtain ⟨n, hn⟩ : ∃ n, xs.length = n := ⟨_, rfl⟩
          have HN := Lib.hid hn
          rw [hn] at hlen HO
          clear htk hbd hs0
          obtain ⟨g, c, rfl⟩ : ∃ g c, u = .slice (some ⟨g, 0, none⟩) n c := by
            rcases HO.out.2 with ⟨_, h⟩ | ⟨g, c, cur, h, _⟩
            · omega
            · exact ⟨g, c, h⟩
          obtain ⟨w2, hw2⟩ : ∃ w2, wo.alloc (.cells #[] 44) = w2 := ⟨_, rfl⟩
          have hb2 : Below wo.heap.size wo w2 := by rw [← hw2]; exact aB _ _
          have ho2 : w2.ownsRow w.heap.size 44 4 (.slice (some ⟨wo.heap.size, 0, none⟩) 0 0) 0 (payRows (payTo xs 0)).flatten := by
            rw [← hw2]; exact World.ownsRow_made wo #[] 0 HB.out.size (Nat.zero_le _) rfl
          have HO2 := Lib.hid ho2
          have HG2 := Lib.hid (ownsN_below HO.out hb2)
          have HB2 := Lib.hid (bThen HB.out hb2)
          have HW2 := Lib.hid hw2
          have HBS := Lib.hid HB.out.size
          clear hw2 ho2 hb2 hn
          go_wp2_with fail
          rw [HW2.out]
          clear hbz
          go_loopw [7] (fun lv wr => ∃ (k : Nat) (l : List Int) (u : Value), u = lv ∧ Hid (StOk xs k l) ∧ Hid (wr.ownsRow w.heap.size 3 1 (.slice (some ⟨g, 0, none⟩) n c) n (ints l)) ∧ Hid (wr.ownsRow w.heap.size 44 4 u k (payRows (payTo xs k)).flatten) ∧ Below w.heap.size w wr) (fun lv _ => n + 1 - sliceLen lv)
          case atStart => exact ⟨0, xs, _, rfl, HST, HG2, HO2, HB2.out⟩
          case round =>
            obtain ⟨k, l, u, hu, HK, HG, HL, hb⟩ := hrel
            subst hu
            obtain ⟨wi, rfl⟩ : ∃ wi : World, wi = wr := ⟨_, rfl⟩
            have hln : l.length = n := by rw [HK.out.len, HN.out]
            have HLN := Lib.hid hln
            have HBI := Lib.hid hb
            clear hb hln HST HG2 HO2 HB2
            go_wp2_with fail
            go_loopw [8, 9, 10] (fun fv tv iv wr => ∃ i : Nat, i ≤ n ∧ iv = .int .i64 i ∧ fv = .int .i64 (amin l i : Nat) ∧ tv = .int .i64 (amax l i : Nat) ∧ Below wi.heap.size wi wr) (fun _ _ iv _ => n - (intOf iv).toNat)
            case atStart => exact ⟨0, Nat.zero_le _, rfl, rfl, rfl, Below.refl _ _⟩
            case round =>
              obtain ⟨i, hi, rfl, rfl, rfl, hbi⟩ := hrel
              obtain ⟨wj, rfl⟩ : ∃ wj : World, wj = wr := ⟨_, rfl⟩
              have HGJ := Lib.hid (ownsN_below HG.out hbi)
              by_cases hin : i < n
              · have hF0 : amin l i < n := by
                  rcases Nat.eq_zero_or_pos i with rfl | h
                  · simp [amin]; omega
                  · have := amin_lt l i h; omega
                have hT0 : amax l i < n := by
                  rcases Nat.eq_zero_or_pos i with rfl | h
                  · simp [amax]; omega
                  · have := amax_lt l i h; omega
                have ci : wj.cell? ⟨g, i, none⟩ = some (.int .i64 (l.getD i 0)) := by rw [HGJ.out.cellAt i (by omega), intsAt (by rw [HLN.out]; exact hin), ← getD_at (by rw [HLN.out]; exact hin)]
                have cF : wj.cell? ⟨g, amin l i, none⟩ = some (.int .i64 (l.getD (amin l i) 0)) := by rw [HGJ.out.cellAt _ (by omega), intsAt (by rw [HLN.out]; exact hF0), ← getD_at (by rw [HLN.out]; exact hF0)]
                have cT : wj.cell? ⟨g, amax l i, none⟩ = some (.int .i64 (l.getD (amax l i) 0)) := by rw [HGJ.out.cellAt _ (by omega), intsAt (by rw [HLN.out]; exact hT0), ← getD_at (by rw [HLN.out]; exact hT0)]
                obtain ⟨q1, hq1⟩ : ∃ q, decide (l.getD i 0 < l.getD (amin l i) 0) = q := ⟨_, rfl⟩
                obtain ⟨q2, hq2⟩ : ∃ q, decide (l.getD (amax l i) 0 < l.getD i 0) = q := ⟨_, rfl⟩
                have hFn : amin l (i + 1) = if q1 then i else amin l i := by rw [← hq1, amin]; by_cases h : l.getD i 0 < l.getD (amin l i) 0 <;> simp
                have hTn : amax l (i + 1) = if q2 then i else amax l i := by rw [← hq2, amax]; by_cases h : l.getD (amax l i) 0 < l.getD i 0 <;> simp
                obtain ⟨F, hF⟩ : ∃ F, amin l i = F := ⟨_, rfl⟩
                obtain ⟨T, hT⟩ : ∃ T, amax l i = T := ⟨_, rfl⟩
                obtain ⟨xi, hxi⟩ : ∃ x, l.getD i 0 = x := ⟨_, rfl⟩
                obtain ⟨xF, hxF⟩ : ∃ x, l.getD F 0 = x := ⟨_, rfl⟩
                obtain ⟨xT, hxT⟩ : ∃ x, l.getD T 0 = x := ⟨_, rfl⟩
                rw [hF] at hF0 cF hFn hq1 ⊢
                rw [hT] at hT0 cT hTn hq2 ⊢
                rw [hxi] at ci hq1 hq2
                rw [hxF] at cF hq1
                rw [hxT] at cT hq2
                have HFN := Lib.hid hFn
                have HTN := Lib.hid hTn
                have HBJ := Lib.hid hbi
                clear hFn hTn hF hT hxi hxF hxT hbi
                go_wp2_with fail
                refine wp_region_seq 9 [.is ?_, .is ?_, .is ?_, .is ?_, .is ?_, .is ?_, .is ?_, .is ?_, .is (.bool q1)] rfl mix (by kernel_rfl) (by kernel_rfl) ?seqm
                case seqm =>
                  simp only [List.take_succ_cons, List.take_zero]
                  iterate 9
                    refine seq_is rfl (fun u1 hb1 _ => ?_) ?_
                    · have ci' := bAt hb1 ci
                      have cF' := bAt hb1 cF
                      simp [opOK, go_sem, ci', cF', hin, hF0, hq1, Below.refl]
                      try exact rfl
                    simp only [Act.put, List.setIfInBounds_toArray, List.set_cons_succ, List.set_cons_zero]
                  refine seq_end fun w6 hb6 _ => ?_
                  simp only [List.drop_succ_cons, List.drop_zero]
                  replace ci := bAt hb6 ci
                  replace cT := bAt hb6 cT
                  have HB6 := Lib.hid (bThen HBJ.out hb6)
                  clear hb6 cF hq1
                  cases q1
                  all_goals
                    go_wp2_with fail
                    refine wp_region_seq 9 [.is ?_, .is ?_, .is ?_, .is ?_, .is ?_, .is ?_, .is ?_, .is ?_, .is (.bool q2)] rfl mix (by kernel_rfl) (by kernel_rfl) ?seqm2
                    case seqm2 =>
                      simp only [List.take_succ_cons, List.take_zero]
                      iterate 9
                        refine seq_is rfl (fun u1 hb1 _ => ?_) ?_
                        · have ci' := bAt hb1 ci
                          have cT' := bAt hb1 cT
                          simp [opOK, go_sem, ci', cT', hin, hT0, hq2, Below.refl]
                          try exact rfl
                        simp only [Act.put, List.setIfInBounds_toArray, List.set_cons_succ, List.set_cons_zero]
                      refine seq_end fun w7 hb7 _ => ?_
                      simp only [List.drop_succ_cons, List.drop_zero]
                      have HB7 := Lib.hid (bThen HB6.out hb7)
                      clear hb7 ci cT hq2
                      cases q2
                      all_goals
                        go_wp2
                        go_roundw
                        case rel => exact ⟨i + 1, by omega, by go_num, by rw [HFN.out]; rfl, by rw [HTN.out]; rfl, HB7.out⟩
                        case measure => simp [intOf]; omega
              · obtain rfl : i = n := by omega
                obtain ⟨p1, p2, p3⟩ := HK.out.facts (by rw [HN.out]; omega)
                rw [HLN.out] at p2 p3
                obtain ⟨F, hF⟩ : ∃ F, amin l i = F := ⟨_, rfl⟩
                obtain ⟨T, hT⟩ : ∃ T, amax l i = T := ⟨_, rfl⟩
                obtain ⟨m, hm⟩ : ∃ x, l.getD F 0 = x := ⟨_, rfl⟩
                obtain ⟨M, hM⟩ : ∃ x, l.getD T 0 = x := ⟨_, rfl⟩
                have hMx : mxV l = M := by rw [mxV, HLN.out, hT, hM]
                rw [hF] at p3 ⊢
                rw [hT] at p2 ⊢
                have cF : wj.cell? ⟨g, F, none⟩ = some (.int .i64 m) := by rw [HGJ.out.cellAt _ (by omega), intsAt (by rw [HLN.out]; exact p3), ← getD_at (by rw [HLN.out]; exact p3), hm]
                have cT : wj.cell? ⟨g, T, none⟩ = some (.int .i64 M) := by rw [HGJ.out.cellAt _ (by omega), intsAt (by rw [HLN.out]; exact p2), ← getD_at (by rw [HLN.out]; exact p2), hM]
                obtain ⟨bz, hbz⟩ : ∃ b, (M == 0) = b := ⟨_, rfl⟩
                have HL7 := Lib.hid (ownsN_below HL.out hbi)
                have HB7 := Lib.hid (bThen HBI.out hbi)
                have HF := Lib.hid hF
                have HT := Lib.hid hT
                have Hm := Lib.hid hm
                have HM := Lib.hid hM
                have HMX := Lib.hid hMx
                clear hbi hF hT hm hM hMx HL HG
                cases bz
                · have hM0 : M ≠ 0 := by simpa using hbz
                  obtain ⟨HK2, e1, e2, e3, e4, e5, e6⟩ := HK.out.next (by rw [HN.out]; omega) (by rw [HMX.out]; exact hM0)
                  rw [HMX.out] at e2
                  rw [HLN.out, HF.out, Hm.out] at e3 e4
                  obtain ⟨A, hA⟩ : ∃ A, payAmt l = A := ⟨_, rfl⟩
                  rw [hA] at e1 e2 e3
                  have hAm : min M (-m) = A := by
                    rw [← hA, payAmt, HLN.out, HT.out, HF.out, HM.out, Hm.out]
                  have bm := getD_bd HK.out.bd (i := F) (by rw [HLN.out]; exact p3)
                  have bM := getD_bd HK.out.bd (i := T) (by rw [HLN.out]; exact p2)
                  rw [Hm.out] at bm
                  rw [HM.out] at bM
                  have hwm : IntKind.i64.wrap (-m) = -m := wrap_small _ (by omega) (by omega)
                  have hwa : IntKind.i64.wrap (m + A) = m + A := wrap_small _ (by omega) (by omega)
                  have hws : IntKind.i64.wrap (M - A) = M - A := wrap_small _ (by omega) (by omega)
                  have hFT : F ≠ T := by rw [← HF.out, ← HT.out, ← HLN.out]; exact e5
                  have hpay : payL l = (l.set F (m + A)).set T (M - A) := by
                    unfold payL; simp only [HLN.out, HF.out, HT.out, Hm.out, HM.out, hA]
                  have hpt : payT (stN k xs) = (F, T, A) := by rw [← HK.out.eq, payT, HLN.out, HF.out, HT.out, hA]
                  have hk60 : k ≤ 60 := by rw [HN.out] at e6; omega
                  obtain ⟨al, cl, rfl⟩ : ∃ al cl, u = .slice al k cl := by
                    rcases HL7.out.2 with ⟨h1, h2⟩ | ⟨g, cap, cur, h1, _⟩
                    · exact ⟨_, _, by rw [h1, h2]⟩
                    · exact ⟨_, _, h1⟩
                  have HK2' := Lib.hid HK2
                  have HPAY := Lib.hid hpay
                  have HPT := Lib.hid hpt
                  have HE := Lib.hid (And.intro hFT e6)
                  clear HK2 hA e1 e2 e3 e4 e5 hpay hpt bm bM p1 hM0
                  go_wp2_with fail
                  refine wp_region_seq 11 [.is ?_, .is ?_, .is ?_, .is ?_, .is ?_, .is ?_, .is ?_, .is ?_, .is ?_, .is (.int .i64 A), .is ?_] rfl mix (by kernel_rfl) (by kernel_rfl) ?seqm
                  case seqm =>
                    simp only [List.take_succ_cons, List.take_zero]
                    iterate 11
                      refine seq_is rfl (fun u1 hb1 _ => ?_) ?_
                      · have cF' := bAt hb1 cF
                        have cT' := bAt hb1 cT
                        simp [opOK, go_sem, cF', cT', p2, p3, hwm, hAm, Below.refl]
                        try exact rfl
                      simp only [Act.put, List.setIfInBounds_toArray, List.set_cons_succ, List.set_cons_zero]
                    refine seq_end fun wa hba _ => ?_
                    simp only [List.drop_succ_cons, List.drop_zero]
                    replace cF := bAt hba cF
                    replace cT := bAt hba cT
                    have HGA := Lib.hid (ownsN_below HGJ.out hba)
                    have HLA := Lib.hid (ownsN_below HL7.out hba)
                    have HBA := Lib.hid (bThen HB7.out hba)
                    have hfz := HGA.out.frozenAt F
                    clear hba hwm hAm hbz
                    go_wp2_with fail
                    refine wp_region_gen 18 (fun j v _ => match j with
                      | 0 | 2 | 4 | 10 => v = .slice (some ⟨g, 0, none⟩) i c
                      | 1 | 5 => v = .int .i64 F
                      | 3 | 11 => v = .int .i64 T
                      | 6 | 16 => v = .pointer (some ⟨g, F, none⟩)
                      | 7 => v = .int .i64 m
                      | 8 | 14 => v = .int .i64 A
                      | 9 => v = .int .i64 (m + A)
                      | 12 => v = .pointer (some ⟨g, T, none⟩)
                      | 13 => v = .int .i64 M
                      | 15 => v = .int .i64 (M - A)
                      | _ => True) (JSt 17 [7, 13] (fun W => SameW wa W) (fun W => SameW (wa.setCell ⟨g, F, none⟩ (.int .i64 (m + A))) W)) mix (by kernel_rfl) (JSt.start (SameW.drew _)) ?_ ?_
                    · refine ⟨?_, ?_, ?_, ?_, ?_, ?_, ?_, ?_, ?_, ?_, ?_, ?_, ?_, ?_, ?_, ?_, ?_, ?_, trivial⟩
                      all_goals refine gen_plain rfl fun a W L hSi hJ hpre ht' => ?_
                      all_goals
                        simp [Region.binds] at hpre
                        have t4 := ht' 4 rfl
                        have t8 := ht' 8 rfl
                        have t9 := ht' 9 rfl
                        have t11 := ht' 11 rfl
                        simp at t4 t8 t9 t11
                      iterate 7
                        (· simp [opOK, go_sem, t4, t8, t9, hpre, p3]
                           exact ⟨hJ.read (by omega), fun j _ _ v h _ => h⟩)
                      · have hA := hJ.look (i := 7) (by simp) hSi
                        have cF' := hA.cell cF
                        simp [opOK, go_sem, hpre, cF']
                        exact ⟨hJ.read (by omega), fun j _ _ v h _ => h⟩
                      iterate 5
                        (· simp [opOK, go_sem, t4, t9, t11, hpre, p2, hwa]
                           exact ⟨hJ.read (by omega), fun j _ _ v h _ => h⟩)
                      · have hA := hJ.look (i := 13) (by simp) hSi
                        have cT' := hA.cell cT
                        simp [opOK, go_sem, hpre, cT']
                        exact ⟨hJ.read (by omega), fun j _ _ v h _ => h⟩
                      iterate 3
                        (· simp [opOK, go_sem, t11, hpre, p3, hws]
                           exact ⟨hJ.read (by omega), fun j _ _ v h _ => h⟩)
                      · have hA := hJ.off hSi
                        have cF' := hA.cell cF
                        have fF' := hA.frozen hfz
                        have h7 : L 7 = true := by simp_all
                        have h13 : L 13 = true := by simp_all
                        simp [opOK, go_sem, hpre, cF', fF']
                        exact ⟨JSt.write (by simp [h7, h13]) (hA.setCell _ _), fun j _ _ v h _ => h⟩
                    intro wb hJ
                    simp only [List.take_succ_cons, List.take_zero, List.drop_succ_cons, List.drop_zero, EndAll]
                    rintro _ rfl _ rfl _ rfl _ rfl _ rfl _ rfl _ rfl _ rfl _ rfl _ rfl _ rfl _ rfl _ rfl _ rfl _ rfl _ rfl _ rfl v17 -
                    simp only [Act.put, List.setIfInBounds_toArray, List.set_cons_succ, List.set_cons_zero]
                    have hS := hJ.on (by decide)
                    have hst := HGA.out.stored F (.int .i64 (m + A))
                    rw [ints_set] at hst
                    have hGb := ownsN_below hst.1 hS.below
                    have hLb := ownsN_below (HLA.out.kept hst.2 (ownsN_ne HLA.out HGA.out (by decide))) hS.below
                    have hBb : Below w.heap.size w wb := (HBA.out.trans (below_grownBy hst.2 HBA.out.size fun q hq => by cases hq; exact (owns_blk HGA.out).1)).trans (hS.below.mono (by have := HBA.out.size; simp; omega))
                    have cTb : wb.cell? ⟨g, T, none⟩ = some (.int .i64 M) := hS.cell (by rw [World.cell?_setCell_other _ _ _ _ (by simp)]; exact cT)
                    have fTb := hGb.frozenAt T
                    obtain ⟨wc, hwc⟩ : ∃ wc, wb.setCell ⟨g, T, none⟩ (.int .i64 (M - A)) = wc := ⟨_, rfl⟩
                    have hst2 := hGb.stored T (.int .i64 (M - A))
                    rw [ints_set, ← HPAY.out, hwc] at hst2
                    have hLc := hLb.kept hst2.2 (ownsN_ne hLb hGb (by decide))
                    have hBc : Below w.heap.size w wc := hBb.trans (below_grownBy hst2.2 hBb.size fun q hq => by cases hq; exact (owns_blk HGA.out).1)
                    obtain ⟨wd, hwd⟩ : ∃ wd, wc.alloc (.cells #[.int .i64 k, .int .i64 F, .int .i64 T, .int .i64 A] 44) = wd := ⟨_, rfl⟩
                    have hbd : Below wc.heap.size wc wd := by rw [← hwd]; exact aB _ _
                    have hNd : wd.heap[wb.heap.size]? = some (.cells #[.int .i64 k, .int .i64 F, .int .i64 T, .int .i64 A] 44 (0, 0)) := by
                      rw [← hwd, show wb.heap.size = wc.heap.size by rw [← hwc]; simp]; exact World.alloc_heap_new _ _
                    have HGD := Lib.hid (ownsN_below hst2.1 hbd)
                    have HLD := Lib.hid (ownsN_below hLc hbd)
                    have HBD := Lib.hid (bThen hBc hbd)
                    have HND := Lib.hid hNd
                    have HWC := Lib.hid hwc
                    have HWD := Lib.hid hwd
                    clear hJ hS hst hGb hLb hBb hwc hst2 hLc hBc hwd hbd hNd v17 cF cT hfz hwa hws HGA HLA
                    go_wp2_with (at_builtin; rw [HWC.out, HWD.out]; refine wpList_appendN rfl (.tmp 105) (.tmp 112) 40 rfl w.heap.size 44 _ 4 32 Try.underlying40 info44 rfl (by decide) _ k _ rfl HLD.out wb.heap.size 0 1 1 [.int .i64 k, .int .i64 F, .int .i64 T, .int .i64 A] rfl rfl (fun j u hj => ?c1) (fun u hu => ?c2) (by omega) (by decide) HBD.out.size ?_)
                    case c1 => rw [cell_of_heap HND.out, Nat.zero_add]; simpa using hj
                    case c2 => simp at hu; rcases hu with rfl | rfl | rfl | rfl <;> rfl
                    intro v' we hown hgr hat
                    have hGe := HGD.out.kept hgr (ownsN_ne HGD.out HLD.out (by decide))
                    have hBe : Below w.heap.size w we := HBD.out.trans (below_grownBy hgr HBD.out.size fun q hq => (HLD.out.lt q hq).1)
                    have hfl : (payRows (payTo xs (k + 1))).flatten = (payRows (payTo xs k)).flatten ++ [.int .i64 k, .int .i64 F, .int .i64 T, .int .i64 A] := by
                      rw [payTo_succ, payRows_snoc, HPT.out]; simp [payRow]
                    have HFL := Lib.hid hfl
                    have HGE := Lib.hid hGe
                    have HBE := Lib.hid hBe
                    have HLE := Lib.hid hown
                    have hsl := owns_sliceLenN hown
                    clear hown hgr hat hGe hBe hfl
                    go_wp2
                    go_roundw
                    case rel => exact ⟨k + 1, payL l, v', rfl, HK2', HGE, Lib.hid (by rw [HFL.out]; exact HLE.out), HBE.out⟩
                    case measure => rw [hsl]; simp [sliceLen]; have := HE.out.2; rw [HN.out] at this; omega
                · have hM0 : M = 0 := by simpa using hbz
                  have hdn := HK.out.done (by rw [HMX.out]; exact hM0)
                  have HDN := Lib.hid hdn
                  clear hdn cF
                  go_wp2
                  go_ret2
                  refine ⟨_, rfl, HB7.out, ?_⟩
                  rw [HDN.out]
                  have h1 := HL7.out
                  rw [show k = (payRows (payTo xs k)).length by simp] at h1
                  exact (SlN.of_ownsN (rows := payRows (payTo xs k)) (by simpa using h1) (payRows_four _))
        · have hs0 : xs.sum ≠ 0 := by simpa using hbz
          have er2 : er = 9 := by rw [ER.out]; simp [hs0]
          have rs2 := NOK.out (by omega)
          clear ER RS NOK
          subst er2 rs2
          go_wp2
          go_ret2
          exact ⟨_, rfl, HB.out, SlN.nil _ _ _⟩
end Go.Proofs.Ytagfcodpgochjaa

/- Chapter 12: PurseSettles. -/
namespace Go.Proofs.Ytagfcodpgochjaa
open Go.RowKit Go.Oche Go.Proofs
set_option maxRecDepth 100000 in
set_option maxHeartbeats 4000000 in
theorem purseSettles_any {S : Nat → Prop} (xs : List Int) (v : Value) (w : World) (hs : Sl S w v (ints xs)) :
    Calls Try.prog 6 #[v] w fun e w' => e = .returned (.bool true) ∧ Below w.heap.size w w' := by
  obtain ⟨a, cap, rfl, h2, h3⟩ := hs.form
  simp only [ints_length] at *
  unfold maxLen at h3
  have HS := Lib.hid hs
  clear hs
  obtain ⟨b1, hb1⟩ : ∃ b, decide (70 < xs.length) = b := ⟨_, rfl⟩
  have hb1i : decide ((70 : Int) < (xs.length : Int)) = b1 := by rw [← hb1]; exact decide_eq_decide.2 (by omega)
  have g1 : b1 = false → xs.length ≤ 70 := fun h => by have := of_decide_eq_false (hb1.trans h); omega
  have G1 := Lib.hid g1
  clear g1
  go_enter Try.func6, Try.ntmps6
  cases b1
  · have hl := G1.out rfl
    go_wp2_with fail
    refine (copyInts_any xs _ w HS.out (by omega)).mono ?_
    rintro e w1 ⟨r1, rfl, hb1, hs1⟩
    have HB1 := Lib.hid hb1
    have HR1 := Lib.hid hs1
    clear hb1 hs1
    go_wp2_with fail
    refine (settle_any xs _ w1 HR1.out).mono ?_
    rintro e w2 ⟨r2, rfl, hb2, hs2⟩
    have HB2 := Lib.hid (bThen HB1.out hb2)
    have HR2 := Lib.hid (HR1.out.below hb2)
    have HT2 := Lib.hid hs2
    clear hb2 hs2 HR1
    go_wp2_with fail
    refine (refSettle_any xs _ w2 (HS.out.below HB2.out)).mono ?_
    rintro e w3 ⟨r3, rfl, hb3, hs3⟩
    have HB3 := Lib.hid (bThen HB2.out hb3)
    have HR3 := Lib.hid (HR2.out.below hb3)
    have HT3 := Lib.hid (HT2.out.below hb3)
    have HU3 := Lib.hid hs3
    clear hb3 hs3 HR2 HT2
    go_wp2_with fail
    refine (ints_any xs xs _ _ w3 HR3.out (HS.out.below HB3.out)).mono ?_
    rintro e w4 ⟨rfl, hb4⟩
    have hd : decide (xs = xs) = true := decide_eq_true rfl
    rw [hd]
    have HB4 := Lib.hid (bThen HB3.out hb4)
    have HT4 := Lib.hid (HT3.out.below hb4)
    have HU4 := Lib.hid (HU3.out.below hb4)
    clear hb4 hd HT3 HU3 HR3
    obtain ⟨rs, hrs⟩ : ∃ rs, setRes xs = rs := ⟨_, rfl⟩
    obtain ⟨er, her⟩ : ∃ er, setErr xs = er := ⟨_, rfl⟩
    rw [hrs] at HT4 HU4
    rw [her]
    clear hrs her
    obtain ⟨a2, c2, rfl, k2, m2⟩ := HT4.out.form
    obtain ⟨a3, c3, rfl, k3, m3⟩ := HU4.out.form
    simp only [payRows_length] at *
    unfold maxLen at m2 m3
    go_wp2
    go_loopw [8] (fun iv wr => ∃ i : Nat, i ≤ rs.length ∧ iv = .int .i64 i ∧ Below w4.heap.size w4 wr) (fun iv _ => rs.length - (intOf iv).toNat)
    case atStart => exact ⟨0, Nat.zero_le _, rfl, Below.refl _ _⟩
    case round =>
      obtain ⟨i, hi, rfl, hb⟩ := hrel
      obtain ⟨wo, rfl⟩ : ∃ wo : World, wo = wr := ⟨_, rfl⟩
      by_cases hlt : i < rs.length
      · obtain ⟨b2, o2, e2, _, _, hc2⟩ := (HT4.out.below hb).cell (show i < (payRows rs).length by simpa using hlt)
        obtain ⟨b3, o3, e3, _, _, hc3⟩ := (HU4.out.below hb).cell (show i < (payRows rs).length by simpa using hlt)
        cases e2
        cases e3
        obtain ⟨⟨F, T, A⟩, hp⟩ : ∃ p, rs[i] = p := ⟨_, rfl⟩
        have hrow : (payRows rs)[i]'(by simpa using hlt) = [.int .i64 i, .int .i64 F, .int .i64 T, .int .i64 A] := by simp [payRows, hp, payRow]
        rw [hrow] at hc2 hc3
        have x0 := hc2 0 _ rfl
        have x1 := hc2 1 _ rfl
        have x2 := hc2 2 _ rfl
        have x3 := hc2 3 _ rfl
        have y0 := hc3 0 _ rfl
        have y1 := hc3 1 _ rfl
        have y2 := hc3 2 _ rfl
        have y3 := hc3 3 _ rfl
        simp only [Nat.add_zero] at x0 y0
        have hne : ∀ w, (binOp .neq 44 (.agg #[.int .i64 i, .int .i64 F, .int .i64 T, .int .i64 A]) (.agg #[.int .i64 i, .int .i64 F, .int .i64 T, .int .i64 A])).run Try.prog w = .ok (.bool false) w := fun w => by
          have := ne_mv ((i : Int), (F : Int), (T : Int), A) ((i : Int), (F : Int), (T : Int), A) w
          rw [decide_eq_true rfl] at this
          exact this
        have HB := Lib.hid hb
        clear hc2 hc3 hrow hp hb
        go_wp2_with fail
        refine wp_region_seq 9 [.is ?_, .is ?_, .is ?_, .is ?_, .is ?_, .is ?_, .is ?_, .is ?_, .is (.bool false)] rfl mix (by kernel_rfl) (by kernel_rfl) ?seqm
        case seqm =>
          simp only [List.take_succ_cons, List.take_zero]
          iterate 9
            refine seq_is rfl (fun u1 hb1 _ => ?_) ?_
            · have x0' := bAt hb1 x0
              have x1' := bAt hb1 x1
              have x2' := bAt hb1 x2
              have x3' := bAt hb1 x3
              have y0' := bAt hb1 y0
              have y1' := bAt hb1 y1
              have y2' := bAt hb1 y2
              have y3' := bAt hb1 y3
              simp [opOK, go_sem, x0', x1', x2', x3', y0', y1', y2', y3', hlt, hne, Below.refl]
              try exact rfl
            simp only [Act.put, List.setIfInBounds_toArray, List.set_cons_succ, List.set_cons_zero]
          refine seq_end fun w6 hb6 _ => ?_
          simp only [List.drop_succ_cons, List.drop_zero]
          have HB6 := Lib.hid (bThen HB.out hb6)
          clear hb6 x0 x1 x2 x3 y0 y1 y2 y3 hne
          go_wp2
          go_roundw
          case rel => exact ⟨i + 1, by omega, by go_num, HB6.out⟩
          case measure => simp [intOf]; omega
      · obtain rfl : i = rs.length := by omega
        have HB := Lib.hid (bThen HB4.out hb)
        clear hb
        go_wp2_with fail
        refine (known_any wo).mono ?_
        rintro e w6 ⟨rfl, hb6⟩
        have HB6 := Lib.hid (bThen HB.out hb6)
        clear hb6
        go_wp2
        go_ret
        exact ⟨rfl, HB6.out⟩
  · go_wp2_with fail
    refine (known_any w).mono ?_
    rintro e w6 ⟨rfl, hb6⟩
    have HB6 := Lib.hid hb6
    clear hb6
    go_wp2
    go_ret
    exact ⟨rfl, HB6.out⟩
end Go.Proofs.Ytagfcodpgochjaa
