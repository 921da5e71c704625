/- The texts YG, WU, in build order. -/
import Derived.Test.YtagfcodpgochjaaZau
import Derived.Deep.QuietTactic
import Derived.BigQuiet

/- Chapter 12, the reference: Share. -/
namespace Go.Proofs.Ytagfcodpgochjaa
open Go.RowKit Go.Oche Go.Proofs

def rests (amount sum : Int) (ws : List Int) (k : Nat) : List Int := (List.range k).map fun (i : Nat) => restOf amount sum ws i
@[simp] theorem rests_length (amount sum : Int) (ws : List Int) (k : Nat) : (rests amount sum ws k).length = k := by simp [rests]
theorem rests_succ (amount sum : Int) (ws : List Int) (k : Nat) : rests amount sum ws (k + 1) = rests amount sum ws k ++ [restOf amount sum ws k] := by simp [rests, List.range_succ]
/-- The remainders, when k of the order have their penny. -/
def restsY (amount sum : Int) (ws ys : List Int) (k : Nat) : List Int := (List.range ws.length).map fun (i : Nat) => if (i : Int) ∈ ys.take k then -1 else restOf amount sum ws i
@[simp] theorem restsY_length (amount sum : Int) (ws ys : List Int) (k : Nat) : (restsY amount sum ws ys k).length = ws.length := by simp [restsY]
theorem restsY_zero (amount sum : Int) (ws ys : List Int) : restsY amount sum ws ys 0 = rests amount sum ws ws.length := by simp [restsY, rests]
theorem restsY_at {amount sum : Int} {ws ys : List Int} {k i : Nat} (hi : i < ws.length) : at0 (restsY amount sum ws ys k) i = if (i : Int) ∈ ys.take k then -1 else restOf amount sum ws i := by
  rw [at0_eq (by simpa using hi)]; simp [restsY]
theorem mem_take_succ {ys : List Int} {k y : Nat} (hk : k < ys.length) (hy : at0 ys k = y) (q : Nat) : ((q : Int) ∈ ys.take (k + 1)) ↔ ((q : Int) ∈ ys.take k ∨ q = y) := by
  rw [List.take_succ_eq_append_getElem hk, ← at0_eq hk, hy, List.mem_append, List.mem_singleton]
  exact ⟨fun h => h.imp id fun e => by omega, fun h => h.imp id fun e => by omega⟩
theorem restsY_succ {amount sum : Int} {ws ys : List Int} {k y : Nat} (h : AllOk (restOf amount sum ws) (upTo ws.length) ys) (hk : k < ws.length) (hy : at0 ys k = y) : (restsY amount sum ws ys k).set y (-1) = restsY amount sum ws ys (k + 1) := by
  have hl := h.len
  rw [upTo_length] at hl
  have hyl : y < ws.length := by have := h.rng hk; omega
  refine at0_ext (by simp) fun q hq => ?_
  have hq' : q < ws.length := by simpa using hq
  rw [at0_set (by simpa using hyl), restsY_at hq', restsY_at hq']
  simp only [mem_take_succ (show k < ys.length by omega) hy q]
  by_cases e : q = y
  · rw [if_pos e, if_pos (.inr e)]
  · rw [if_neg e]; simp only [e, or_false]
theorem restsY_best {amount sum : Int} {ws ys : List Int} {k y : Nat} (hs : 0 < sum) (h : AllOk (restOf amount sum ws) (upTo ws.length) ys) (hk : k < ws.length) (hy : at0 ys k = y) : amax (restsY amount sum ws ys k) ws.length = y := by
  have hl := h.len
  rw [upTo_length] at hl
  have hyl : y < ws.length := by have := h.rng hk; omega
  have hf := h.fresh hk
  rw [hy] at hf
  have hnn : ∀ j, 0 ≤ restOf amount sum ws j := fun j => Int.emod_nonneg _ (by omega)
  have key : ∀ q, q < ws.length → q ≠ y → (restsY amount sum ws ys k).getD q 0 ≤ (restsY amount sum ws ys k).getD y 0 ∧ (q < y → (restsY amount sum ws ys k).getD q 0 < (restsY amount sum ws ys k).getD y 0) := fun q hq hne => by
    have e1 := restsY_at (amount := amount) (sum := sum) (ys := ys) (k := k) hq
    have e2 := restsY_at (amount := amount) (sum := sum) (ys := ys) (k := k) hyl
    unfold at0 at e1 e2
    rw [e1, e2, if_neg hf]
    have := hnn y
    by_cases hm : (q : Int) ∈ ys.take k
    · rw [if_pos hm]; omega
    · rw [if_neg hm]
      have hq2 : (q : Int) ∈ ys := h.perm.mem_iff.2 (mem_upTo.2 (by omega))
      obtain ⟨p, hp, e⟩ := List.mem_iff_getElem.1 hq2
      have hpk : k < p := by
        rcases Nat.lt_trichotomy p k with g | g | g
        · exact absurd (by rw [← e]; exact List.mem_iff_getElem.2 ⟨p, by simp; omega, by rw [List.getElem_take]⟩) hm
        · exfalso; rw [g] at hp; have e3 : at0 ys k = ys[k] := at0_eq hp
          subst g
          rw [e3, e] at hy; omega
        · exact g
      have ho := h.ord k p hpk (by rw [upTo_length]; omega)
      rw [hy, at0_eq hp, e] at ho
      unfold befo at ho
      omega
  refine amax_only hyl (fun q hq => ?_) (fun q hq => ?_)
  · by_cases e : q = y
    · rw [e]; exact Int.le_refl _
    · exact (key q hq e).1
  · exact (key q (by omega) (by omega)).2 hq
theorem sum_take_bd2 {B : Int} (hB : 0 ≤ B) : ∀ {l : List Int}, (∀ x ∈ l, 0 ≤ x ∧ x ≤ B) → 0 ≤ l.sum ∧ l.sum ≤ B * l.length
  | [], _ => by simp
  | a :: l, h => by
    have h1 := h a (by simp)
    have h2 := sum_take_bd2 hB (l := l) fun x hx => h x (by simp [hx])
    rw [List.sum_cons, List.length_cons, Int.natCast_add, Int.mul_add]
    omega
theorem bAt8 {w0 W : World} {v1 v2 : Value} {i1 i2 : Nat} {L : Nat → Bool} {b o : Nat} {x : Value} (h : JTwoA w0 v1 v2 i1 i2 L W) (hc : w0.cell? ⟨b, o, none⟩ = some x) (h1 : v1.ownBlock ≠ some b) (h2 : v2.ownBlock ≠ some b) : W.cell? ⟨b, o, none⟩ = some x :=
  (World.cell?_of_block (w := w0) (h.block b (World.block_lt_of_cell? w0 _ hc) (.inr h1) (.inr h2))).trans hc
set_option maxRecDepth 100000 in
set_option maxHeartbeats 20000000 in
theorem refShare_any {S : Nat → Prop} (amount : Int) (ws : List Int) (v : Value) (w : World) (hs : Sl S w v (ints ws)) (hl70 : ws.length ≤ 70) :
    Calls Try.prog 15 #[.int .i64 amount, v] w fun e w' => ∃ r, e = .returned (.tuple #[r, .int .i64 (shareErr amount ws)]) ∧ Below w.heap.size w w' ∧ Sl (fun _ => True) w' r (ints (shareRes amount ws)) := by
  obtain ⟨a, cap, rfl, h2, h3⟩ := hs.form
  simp only [ints_length] at *
  unfold maxLen at h3
  obtain ⟨b1, hb1⟩ : ∃ b, isIn amount 0 1000000000 = b := ⟨_, rfl⟩
  obtain ⟨b2, hb2⟩ : ∃ b, isIn (ws.length : Int) 1 60 = b := ⟨_, rfl⟩
  obtain ⟨er, her⟩ : ∃ x, shareErr amount ws = x := ⟨_, rfl⟩
  obtain ⟨rs, hrs⟩ : ∃ x, shareRes amount ws = x := ⟨_, rfl⟩
  have ER : Hid (er = if b1 = false then 3 else if b2 = false then 4 else if ws.any (outB 0 10000) = true ∨ sumW ws = 0 then 2 else 0) := Lib.hid (by rw [← her, ← hb1, ← hb2]; rfl)
  have RS : Hid (rs = if er = 0 then shareL amount ws else []) := Lib.hid (by rw [← hrs, ← her]; rfl)
  have NOK : Hid (er ≠ 0 → rs = []) := Lib.hid (fun h => by rw [RS.out, if_neg h])
  have H1 := Lib.hid hb1
  have H2 := Lib.hid hb2
  have HS := Lib.hid hs
  rw [her, hrs]
  clear her hrs hb1 hb2 hs
  obtain ⟨N, hN⟩ : ∃ N, w.heap.size = N := ⟨_, rfl⟩
  have HN := Lib.hid hN
  clear hN
  go_enter Try.func15, Try.ntmps15
  go_wp2_with fail
  refine (refIn_any amount 0 1000000000 b1 H1 _).mono ?_
  rintro e w' ⟨rfl, rfl⟩
  cases b1
  · have he : er = 3 := by rw [ER.out]; rfl
    have hr := NOK.out (by omega)
    subst he hr
    clear ER RS NOK
    go_wp2
    go_returns
    exact ⟨_, rfl, Below.refl _ _, Sl.nil _ _⟩
  go_wp2_with fail
  refine (refIn_any ws.length 1 60 b2 H2 _).mono ?_
  rintro e w' ⟨rfl, rfl⟩
  cases b2
  · have he : er = 4 := by rw [ER.out]; rfl
    have hr := NOK.out (by omega)
    subst he hr
    clear ER RS NOK
    go_wp2
    go_returns
    exact ⟨_, rfl, Below.refl _ _, Sl.nil _ _⟩
  have hlen : 1 ≤ ws.length ∧ ws.length ≤ 60 := by have := H2.out; simp [isIn] at this; omega
  have hamt : 0 ≤ amount ∧ amount ≤ 1000000000 := by have := H1.out; simp [isIn] at this; omega
  go_wp2_with fail
  go_loop [6, 7] (fun sv iv => ∃ i : Nat, i ≤ ws.length ∧ iv = .int .i64 (i : Int) ∧ sv = .int .i64 (ws.take i).sum ∧ Hid (∀ x ∈ ws.take i, 0 ≤ x ∧ x ≤ 10000)) (fun _ iv => ws.length - (intOf iv).toNat)
  case atStart => exact ⟨0, Nat.zero_le _, rfl, rfl, Lib.hid (by simp)⟩
  case round =>
    obtain ⟨i, hi, rfl, rfl, HX⟩ := hrel
    by_cases hlt : i < ws.length
    · as_aux_lemma =>
      obtain ⟨b, off, hal, _, cx⟩ := HS.out.cell hlt
      cases hal
      obtain ⟨x, hx⟩ : ∃ x, ws[i] = x := ⟨_, rfl⟩
      rw [hx] at cx
      obtain ⟨b3, hb3⟩ : ∃ b, isIn x 0 10000 = b := ⟨_, rfl⟩
      have HXE := Lib.hid hx
      have H3 := Lib.hid hb3
      have hsb := sum_take_bd2 (B := 10000) (by decide) (l := ws.take i) HX.out
      have hl : (ws.take i).length = i := by rw [List.length_take]; omega
      rw [hl] at hsb
      obtain ⟨s0, hs0⟩ : ∃ s, (ws.take i).sum = s := ⟨_, rfl⟩
      rw [hs0] at hsb ⊢
      have HSS : Hid ((ws.take (i + 1)).sum = s0 + x) := Lib.hid (by rw [List.take_succ_eq_append_getElem hlt, List.sum_append, hs0, hx]; simp)
      have bi0 : (0 : Int) ≤ (i : Int) := by omega
      have bin : (i : Int) < (ws.length : Int) := by omega
      clear hx hb3 hl hs0
      go_wp2_with fail
      refine (refIn_any x 0 10000 b3 H3 _).mono ?_
      rintro e w' ⟨rfl, rfl⟩
      cases b3
      · have hany : ws.any (outB 0 10000) = true := by
          refine List.any_eq_true.2 ⟨x, by rw [← HXE.out]; exact List.getElem_mem hlt, ?_⟩
          have := H3.out
          simp [isIn, outB] at this ⊢
          omega
        have he : er = 2 := by rw [ER.out, if_neg (by decide), if_neg (by decide), if_pos (.inl hany)]
        have hr := NOK.out (by omega)
        subst he hr
        clear ER RS NOK hany
        go_wp2
        go_returns
        exact ⟨_, rfl, Below.refl _ _, Sl.nil _ _⟩
      · have hxb : 0 ≤ x ∧ x ≤ 10000 := by have := H3.out; simp [isIn] at this; omega
        have hws : IntKind.i64.wrap (s0 + x) = s0 + x := wrap_small _ (by omega) (by omega)
        have HX2 : Hid (∀ y ∈ ws.take (i + 1), 0 ≤ y ∧ y ≤ 10000) := Lib.hid fun y hy => by
          rw [List.take_succ_eq_append_getElem hlt, List.mem_append, List.mem_singleton] at hy
          rcases hy with hy | hy
          · exact HX.out y hy
          · rw [hy, HXE.out]; exact hxb
        go_wp2_with fail
        go_round
        case rel => exact ⟨i + 1, by omega, by go_num, by rw [HSS.out], HX2⟩
        case measure => simp [intOf]; omega
    · obtain rfl : i = ws.length := by omega
      as_aux_lemma =>
      have HWB : Hid (∀ x ∈ ws, 0 ≤ x ∧ x ≤ 10000) := Lib.hid (by have := HX.out; rwa [List.take_length] at this)
      rw [List.take_length]
      obtain ⟨T, hT⟩ : ∃ T, ws.sum = T := ⟨_, rfl⟩
      rw [hT]
      have hsW : sumW ws = T := by rw [← hT]; exact sumW_sum (B := 10000) (by decide) ws (fun x hx => by have := HWB.out x hx; omega) (by omega)
      have hTb := sum_take_bd2 (B := 10000) (by decide) (l := ws) HWB.out
      rw [hT] at hTb
      have hany : ws.any (outB 0 10000) = false := by rw [List.any_eq_false]; intro x hx; have := HWB.out x hx; simp [outB]; omega
      have HT := Lib.hid hT
      by_cases h0 : T = 0
      · have he : er = 2 := by rw [ER.out, if_neg (by decide), if_neg (by decide), if_pos (.inr (by rw [hsW]; exact h0))]
        have hr := NOK.out (by omega)
        subst he hr h0
        clear ER RS NOK hany hsW HT
        go_wp2
        go_returns
        exact ⟨_, rfl, Below.refl _ _, Sl.nil _ _⟩
      have t0 : (T == 0) = false := beq_eq_false_iff_ne.2 h0
      have he : er = 0 := by rw [ER.out, if_neg (by decide), if_neg (by decide), if_neg (by rw [hany, hsW]; simp [h0])]
      have hr : rs = shareL amount ws := by rw [RS.out, if_pos he]
      subst he hr
      clear ER RS NOK hany hsW hT HX hi hlt
      have hT1 : 0 < T ∧ T ≤ 600000 := by omega
      obtain ⟨w0, hw0⟩ : ∃ w0, (w.alloc (.cells #[] 3)).alloc (.cells #[] 3) = w0 := ⟨_, rfl⟩
      have hb0 : Below N w w0 := by rw [← hw0, ← HN.out]; exact bThen (aB _ _) (aB _ _)
      have r1 : w0.ownsRow N 3 1 (.slice (some ⟨N, 0, none⟩) 0 0) 0 (ints (bases amount T ws 0)) := by
        rw [← hw0, ← HN.out]
        exact (World.ownsRow_made w #[] 0 (Nat.le_refl _) (Nat.zero_le _) rfl : (w.alloc (.cells #[] 3)).ownsRow w.heap.size 3 1 (.slice (some ⟨w.heap.size, 0, none⟩) 0 0) 0 []).alloc _
      have r2 : w0.ownsRow N 3 1 (.slice (some ⟨N + 1, 0, none⟩) 0 0) 0 (ints (rests amount T ws 0)) := by
        have := World.ownsRow_made (base := N) (e := 3) (size := 1) (w.alloc (.cells #[] 3)) #[] 0 (by rw [← HN.out]; simp) (Nat.zero_le _) rfl
        rw [hw0] at this
        simpa [HN.out, rests] using this
      have hz0 : N + 2 ≤ w0.heap.size := by rw [← hw0, ← HN.out]; simp
      have HB0 := Lib.hid hb0
      have HR10 := Lib.hid r1
      have HR20 := Lib.hid r2
      have HZ0 := Lib.hid hz0
      have HW0 := Lib.hid hw0
      have HSUM0 : Hid (amount = amount - (bases amount T ws 0).sum) := Lib.hid (by simp [bases])
      clear hb0 r1 r2 hz0 hw0
      go_wp2_with fail
      rw [HW0.out, HN.out]
      go_loopw [8, 9, 10, 11] (fun ov rv lv iv wr => ∃ (i go co gr cr : Nat) (l : Int), ov = .slice (some ⟨go, 0, none⟩) i co ∧ rv = .slice (some ⟨gr, 0, none⟩) i cr ∧ lv = .int .i64 l ∧ iv = .int .i64 (i : Int) ∧ i ≤ ws.length ∧ Hid (l = amount - (bases amount T ws i).sum) ∧ Hid (wr.ownsRow N 3 1 (.slice (some ⟨go, 0, none⟩) i co) i (ints (bases amount T ws i))) ∧ Hid (wr.ownsRow N 3 1 (.slice (some ⟨gr, 0, none⟩) i cr) i (ints (rests amount T ws i))) ∧ go ≠ gr ∧ Hid (Below N w wr) ∧ Hid (N + 2 ≤ wr.heap.size)) (fun _ _ _ iv _ => ws.length - (intOf iv).toNat)
      case atStart => exact ⟨0, N, 0, N + 1, 0, amount, rfl, rfl, rfl, rfl, Nat.zero_le _, HSUM0, HR10, HR20, by omega, HB0, HZ0⟩
      case round =>
        obtain ⟨i, go, co, gr, cr, l, rfl, rfl, rfl, rfl, hi, HL, HR1, HR2, hgn, HBr, HSr⟩ := hrel
        obtain ⟨wo, rfl⟩ : ∃ wo : World, wo = wr := ⟨_, rfl⟩
        clear HB0 HR10 HR20 HZ0 HW0 HSUM0
        by_cases hlt : i < ws.length
        · as_aux_lemma =>
          obtain ⟨b, off, hal, _, cx0⟩ := HS.out.cell hlt
          cases hal
          obtain ⟨x, hx⟩ : ∃ x, ws[i] = x := ⟨_, rfl⟩
          rw [hx] at cx0
          have hbN : b < N := by rw [← HN.out]; exact World.block_lt_of_cell? w _ cx0
          have cx : wo.cell? ⟨b, off + i, none⟩ = some (.int .i64 x) := bAt (by rw [HN.out]; exact HBr.out : Below w.heap.size w wo) cx0
          have hxb := HWB.out ws[i] (List.getElem_mem hlt)
          rw [hx] at hxb
          have hgd : ws.getD i 0 = x := by rw [getD_at hlt, hx]
          have hpb := mul_bd hamt hxb
          obtain ⟨p, hpp⟩ : ∃ p, amount * x = p := ⟨_, rfl⟩
          rw [hpp] at hpb
          have hpm : IntKind.i64.wrap (amount * x) = p := by rw [hpp]; exact wrap_small _ (by omega) (by omega)
          obtain ⟨y1, hy1'⟩ : ∃ y, p / T = y := ⟨_, rfl⟩
          obtain ⟨y2, hy2'⟩ : ∃ y, p % T = y := ⟨_, rfl⟩
          have hy1b : 0 ≤ y1 ∧ y1 ≤ p := by rw [← hy1']; exact ⟨Int.ediv_nonneg hpb.1 (by omega), Int.ediv_le_self _ hpb.1⟩
          have hy2b : 0 ≤ y2 ∧ y2 < T := by rw [← hy2']; exact ⟨Int.emod_nonneg _ (by omega), Int.emod_lt_of_pos _ hT1.1⟩
          have hy1 : p.tdiv T = y1 := by rw [Int.tdiv_eq_ediv_of_nonneg hpb.1]; exact hy1'
          have hy2 : p.tmod T = y2 := by rw [Int.tmod_eq_emod_of_nonneg hpb.1]; exact hy2'
          have wy1 : IntKind.i64.wrap y1 = y1 := wrap_small _ (by omega) (by omega)
          have wy2 : IntKind.i64.wrap y2 = y2 := wrap_small _ (by omega) (by omega)
          have HBS : Hid (bases amount T ws (i + 1) = bases amount T ws i ++ [y1]) := Lib.hid (by rw [bases_succ, baseOf, hgd, hpp, hy1'])
          have HRS : Hid (rests amount T ws (i + 1) = rests amount T ws i ++ [y2]) := Lib.hid (by rw [rests_succ, restOf, Int.toNat_natCast, hgd, hpp, hy2'])
          have HLB : Hid (0 ≤ (bases amount T ws i).sum ∧ (bases amount T ws i).sum ≤ 10000000000000 * (i : Int)) := Lib.hid (by
            have := sum_take_bd2 (B := 10000000000000) (by decide) (l := bases amount T ws i) fun z hz => by
              obtain ⟨j, hj, rfl⟩ := List.mem_map.1 hz
              have hj := List.mem_range.1 hj
              have hwj : 0 ≤ ws.getD j 0 ∧ ws.getD j 0 ≤ 10000 := by rw [getD_at (by omega)]; exact HWB.out _ (List.getElem_mem _)
              have h9 := mul_bd hamt hwj
              unfold baseOf
              exact ⟨Int.ediv_nonneg h9.1 (by omega), Int.le_trans (Int.ediv_le_self _ h9.1) h9.2⟩
            rwa [bases_length] at this)
          have neo : (Value.slice (some ⟨go, 0, none⟩) i co).ownBlock ≠ some b := by
            have := (HR1.out.lt go rfl).1
            simp only [Value.ownBlock, ne_eq, Option.some.injEq]; omega
          have ner : (Value.slice (some ⟨gr, 0, none⟩) i cr).ownBlock ≠ some b := by
            have := (HR2.out.lt gr rfl).1
            simp only [Value.ownBlock, ne_eq, Option.some.injEq]; omega
          have HNE : Hid ((Value.slice (some ⟨go, 0, none⟩) i co).ownBlock = none ∨ (Value.slice (some ⟨go, 0, none⟩) i co).ownBlock ≠ (Value.slice (some ⟨gr, 0, none⟩) i cr).ownBlock) := Lib.hid (.inr (by simpa [Value.ownBlock] using hgn))
          obtain ⟨v1, hv1⟩ : ∃ v, Value.slice (some ⟨go, 0, none⟩) i co = v := ⟨_, rfl⟩
          obtain ⟨v2, hv2⟩ : ∃ v, Value.slice (some ⟨gr, 0, none⟩) i cr = v := ⟨_, rfl⟩
          have bi0 : (0 : Int) ≤ (i : Int) := by omega
          have bin : (i : Int) < (ws.length : Int) := by omega
          have nz : ¬ T = 0 := by omega
          rw [hv1] at HR1 neo HNE
          rw [hv2] at HR2 ner HNE
          rw [hv1, hv2]
          have HV1 := Lib.hid hv1
          have HV2 := Lib.hid hv2
          clear hx hgd hy1' hy2' hv1 hv2 cx0
          have HPP := Lib.hid hpp
          clear hpp
          go_wp2_with fail
          refine wp_region_seqV 22 ((fun v => v = v1) :: (fun v => v = .int .i64 amount) :: (fun v => v = .slice (some ⟨b, off, none⟩) ws.length cap) :: (fun v => v = .int .i64 (i : Int)) :: (fun v => v = .pointer (some ⟨b, off + i, none⟩)) :: (fun v => v = .int .i64 x) :: (fun v => v = .int .i64 p) :: (fun v => v = .int .i64 T) :: (fun v => v = .int .i64 y1) :: (fun v => ∃ q, v = .slice (some ⟨q, 0, none⟩) 1 1) :: (fun v => ∃ g c, v = .slice (some ⟨g, 0, none⟩) (i + 1) c) :: (fun v => v = v2) :: (fun v => v = .int .i64 amount) :: (fun v => v = .slice (some ⟨b, off, none⟩) ws.length cap) :: (fun v => v = .int .i64 (i : Int)) :: (fun v => v = .pointer (some ⟨b, off + i, none⟩)) :: (fun v => v = .int .i64 x) :: (fun v => v = .int .i64 p) :: (fun v => v = .int .i64 T) :: (fun v => v = .int .i64 y2) :: (fun v => ∃ q, v = .slice (some ⟨q, 0, none⟩) 1 1) :: (fun v => ∃ g c, v = .slice (some ⟨g, 0, none⟩) (i + 1) c) :: []) (JTwoV wo v1 v2 9 10 20 21 N 3 3 i i (ints (bases amount T ws i)) (ints (rests amount T ws i)) (.int .i64 y1) (.int .i64 y2)) rfl mix (by kernel_rfl) (by kernel_rfl) (fun _ _ _ _ hc h => h.congr hc) (fun _ => .start) ?_
          simp only [List.take_succ_cons, List.take_zero]
          refine sv_rd rfl (fun _ _ _ h => h.read (by simp) (by simp) (by simp) (by simp)) (fun u1 L1 vs1 hvs1 hL1 hJ1 => ?_) ?_
          · simp [opOK, go_sem]
          simp only [Act.put, List.setIfInBounds_toArray, List.set_cons_succ, List.set_cons_zero, List.nil_append]
          refine sv_rd rfl (fun _ _ _ h => h.read (by simp) (by simp) (by simp) (by simp)) (fun u1 L1 vs1 hvs1 hL1 hJ1 => ?_) ?_
          · simp [opOK, go_sem]
          simp only [Act.put, List.setIfInBounds_toArray, List.set_cons_succ, List.set_cons_zero, List.nil_append, List.cons_append]
          refine sv_rd rfl (fun _ _ _ h => h.read (by simp) (by simp) (by simp) (by simp)) (fun u1 L1 vs1 hvs1 hL1 hJ1 => ?_) ?_
          · simp [opOK, go_sem]
          simp only [Act.put, List.setIfInBounds_toArray, List.set_cons_succ, List.set_cons_zero, List.nil_append, List.cons_append]
          refine sv_rd rfl (fun _ _ _ h => h.read (by simp) (by simp) (by simp) (by simp)) (fun u1 L1 vs1 hvs1 hL1 hJ1 => ?_) ?_
          · simp [opOK, go_sem]
          simp only [Act.put, List.setIfInBounds_toArray, List.set_cons_succ, List.set_cons_zero, List.nil_append, List.cons_append]
          refine sv_rd rfl (fun _ _ _ h => h.read (by simp) (by simp) (by simp) (by simp)) (fun u1 L1 vs1 hvs1 hL1 hJ1 => ?_) ?_
          · simp [opOK, go_sem, bi0, bin]
          simp only [Act.put, List.setIfInBounds_toArray, List.set_cons_succ, List.set_cons_zero, List.nil_append, List.cons_append]
          refine sv_rd rfl (fun _ _ _ h => h.read (by simp) (by simp) (by simp) (by simp)) (fun u1 L1 vs1 hvs1 hL1 hJ1 => ?_) ?_
          · have c0 := bAt8 hJ1.b cx neo ner
            simp [opOK, go_sem, c0]
          simp only [Act.put, List.setIfInBounds_toArray, List.set_cons_succ, List.set_cons_zero, List.nil_append, List.cons_append]
          refine sv_rd rfl (fun _ _ _ h => h.read (by simp) (by simp) (by simp) (by simp)) (fun u1 L1 vs1 hvs1 hL1 hJ1 => ?_) ?_
          · simp [opOK, go_sem, hpm]
          simp only [Act.put, List.setIfInBounds_toArray, List.set_cons_succ, List.set_cons_zero, List.nil_append, List.cons_append]
          refine sv_rd rfl (fun _ _ _ h => h.read (by simp) (by simp) (by simp) (by simp)) (fun u1 L1 vs1 hvs1 hL1 hJ1 => ?_) ?_
          · simp [opOK, go_sem]
          simp only [Act.put, List.setIfInBounds_toArray, List.set_cons_succ, List.set_cons_zero, List.nil_append, List.cons_append]
          refine sv_rd rfl (fun _ _ _ h => h.read (by simp) (by simp) (by simp) (by simp)) (fun u1 L1 vs1 hvs1 hL1 hJ1 => ?_) ?_
          · simp [opOK, go_sem, hy1, nz, wy1]
          simp only [Act.put, List.setIfInBounds_toArray, List.set_cons_succ, List.set_cons_zero, List.nil_append, List.cons_append]
          refine sv_new ⟨.slice (some ⟨0, 0, none⟩) 1 1, 0, rfl⟩ rfl (fun u1 L1 vs1 hvs1 hL1 hJ1 hd => ?_) ?_
          · simp [opOK, go_sem]
            exact hJ1.swapLit (aB _ _) hJ1.b.size (by rw [cell_of_heap (World.alloc_heap_new _ _)]; rfl) (by decide) (by decide) (by decide)
          rintro _ ⟨b48, rfl⟩
          simp only [Act.put, List.setIfInBounds_toArray, List.set_cons_succ, List.set_cons_zero, List.nil_append, List.cons_append]
          refine sv_new ⟨.slice (some ⟨0, 0, none⟩) (i + 1) 0, 0, 0, rfl⟩ rfl (fun u1 L1 vs1 hvs1 hL1 hJ1 hd => ?_) ?_
          · obtain ⟨bq, eq, hbq, hcq⟩ := hJ1.lit1 (hd ⟨9, .data⟩ (by simp) rfl)
            rw [hvs1 9 _ rfl] at eq
            cases eq
            have hown := hJ1.b.own1 HR1.out hL1 HNE.out
            refine opOK_mono (opOK_append1_at (.tmp 50) (.tmp 59) 22 rfl N 3 (.int .i64 0) 8 Try.underlying22 info3 rfl v1 i (ints (bases amount T ws i)) rfl hown b48 0 1 _ rfl hcq rfl (by omega) (by decide) (by have := HSr.out; have := hJ1.b.size; omega)) ?_
            rintro v' w' ⟨g, c, rfl, h1, h2, h3⟩
            exact ⟨⟨g, c, rfl⟩, hJ1.app1 hL1 h2 (fun q hq => (HR1.out.lt q hq).2) h1 (h3.elim (fun e => .inl e.symm) (fun e => .inr ⟨g, rfl, by rw [e]; exact hJ1.b.size⟩)) (by decide) (by decide) (by decide)⟩
          rintro _ ⟨g4, c4, rfl⟩
          simp only [Act.put, List.setIfInBounds_toArray, List.set_cons_succ, List.set_cons_zero, List.nil_append, List.cons_append]
          refine sv_rd rfl (fun _ _ _ h => h.read (by simp) (by simp) (by simp) (by simp)) (fun u1 L1 vs1 hvs1 hL1 hJ1 => ?_) ?_
          · simp [opOK, go_sem]
          simp only [Act.put, List.setIfInBounds_toArray, List.set_cons_succ, List.set_cons_zero, List.nil_append, List.cons_append]
          refine sv_rd rfl (fun _ _ _ h => h.read (by simp) (by simp) (by simp) (by simp)) (fun u1 L1 vs1 hvs1 hL1 hJ1 => ?_) ?_
          · simp [opOK, go_sem]
          simp only [Act.put, List.setIfInBounds_toArray, List.set_cons_succ, List.set_cons_zero, List.nil_append, List.cons_append]
          refine sv_rd rfl (fun _ _ _ h => h.read (by simp) (by simp) (by simp) (by simp)) (fun u1 L1 vs1 hvs1 hL1 hJ1 => ?_) ?_
          · simp [opOK, go_sem]
          simp only [Act.put, List.setIfInBounds_toArray, List.set_cons_succ, List.set_cons_zero, List.nil_append, List.cons_append]
          refine sv_rd rfl (fun _ _ _ h => h.read (by simp) (by simp) (by simp) (by simp)) (fun u1 L1 vs1 hvs1 hL1 hJ1 => ?_) ?_
          · simp [opOK, go_sem]
          simp only [Act.put, List.setIfInBounds_toArray, List.set_cons_succ, List.set_cons_zero, List.nil_append, List.cons_append]
          refine sv_rd rfl (fun _ _ _ h => h.read (by simp) (by simp) (by simp) (by simp)) (fun u1 L1 vs1 hvs1 hL1 hJ1 => ?_) ?_
          · simp [opOK, go_sem, bi0, bin]
          simp only [Act.put, List.setIfInBounds_toArray, List.set_cons_succ, List.set_cons_zero, List.nil_append, List.cons_append]
          refine sv_rd rfl (fun _ _ _ h => h.read (by simp) (by simp) (by simp) (by simp)) (fun u1 L1 vs1 hvs1 hL1 hJ1 => ?_) ?_
          · have c0 := bAt8 hJ1.b cx neo ner
            simp [opOK, go_sem, c0]
          simp only [Act.put, List.setIfInBounds_toArray, List.set_cons_succ, List.set_cons_zero, List.nil_append, List.cons_append]
          refine sv_rd rfl (fun _ _ _ h => h.read (by simp) (by simp) (by simp) (by simp)) (fun u1 L1 vs1 hvs1 hL1 hJ1 => ?_) ?_
          · simp [opOK, go_sem, hpm]
          simp only [Act.put, List.setIfInBounds_toArray, List.set_cons_succ, List.set_cons_zero, List.nil_append, List.cons_append]
          refine sv_rd rfl (fun _ _ _ h => h.read (by simp) (by simp) (by simp) (by simp)) (fun u1 L1 vs1 hvs1 hL1 hJ1 => ?_) ?_
          · simp [opOK, go_sem]
          simp only [Act.put, List.setIfInBounds_toArray, List.set_cons_succ, List.set_cons_zero, List.nil_append, List.cons_append]
          refine sv_rd rfl (fun _ _ _ h => h.read (by simp) (by simp) (by simp) (by simp)) (fun u1 L1 vs1 hvs1 hL1 hJ1 => ?_) ?_
          · simp [opOK, go_sem, hy2, nz]
          simp only [Act.put, List.setIfInBounds_toArray, List.set_cons_succ, List.set_cons_zero, List.nil_append, List.cons_append]
          refine sv_new ⟨.slice (some ⟨0, 0, none⟩) 1 1, 0, rfl⟩ rfl (fun u1 L1 vs1 hvs1 hL1 hJ1 hd => ?_) ?_
          · simp [opOK, go_sem]
            exact hJ1.mkLit2 (aB _ _) hJ1.b.size (by rw [cell_of_heap (World.alloc_heap_new _ _)]; rfl) (by decide) (by decide) (by decide)
          rintro _ ⟨b53, rfl⟩
          simp only [Act.put, List.setIfInBounds_toArray, List.set_cons_succ, List.set_cons_zero, List.nil_append, List.cons_append]
          refine sv_new ⟨.slice (some ⟨0, 0, none⟩) (i + 1) 0, 0, 0, rfl⟩ rfl (fun u1 L1 vs1 hvs1 hL1 hJ1 hd => ?_) ?_
          · obtain ⟨bq, eq, hbq, hcq⟩ := hJ1.lit2 (hd ⟨20, .data⟩ (by simp) rfl)
            rw [hvs1 20 _ rfl] at eq
            cases eq
            have hown := hJ1.b.own2 HR2.out hL1 HNE.out
            refine opOK_mono (opOK_append1_at (.tmp 61) (.tmp 70) 22 rfl N 3 (.int .i64 0) 8 Try.underlying22 info3 rfl v2 i (ints (rests amount T ws i)) rfl hown b53 0 1 _ rfl hcq rfl (by omega) (by decide) (by have := HSr.out; have := hJ1.b.size; omega)) ?_
            rintro v' w' ⟨g, c, rfl, h1, h2, h3⟩
            exact ⟨⟨g, c, rfl⟩, hJ1.app2 (hd ⟨10, .chain⟩ (by simp) rfl) h2 (fun q hq => (HR2.out.lt q hq).2) HNE.out h1 rfl h3 (by decide) (by decide) (by decide)⟩
          rintro _ ⟨g9, c9, rfl⟩
          simp only [Act.put, List.setIfInBounds_toArray, List.set_cons_succ, List.set_cons_zero, List.nil_append, List.cons_append]
          refine sv_end fun vs6 w6 hvs6 hJ6 => ?_
          simp only [List.drop_succ_cons, List.drop_zero]
          have h4 := (hJ6.row1 (by decide)).1
          have h9 := (hJ6.row2 (by decide)).1
          have hne := hJ6.ne (by decide) (by decide)
          rw [hvs6 10 _ rfl] at h4 hne
          rw [hvs6 21 _ rfl] at h9 hne
          have hb6 : Below N w w6 := HBr.out.trans ⟨hJ6.b.os, hJ6.b.tape, hJ6.b.output, hJ6.b.size, fun k hk => hJ6.b.block k (by have := HSr.out; omega) (.inr fun e => by have := (HR1.out.lt k e).1; omega) (.inr fun e => by have := (HR2.out.lt k e).1; omega)⟩
          have ho6 : w6.ownsRow N 3 1 (.slice (some ⟨g4, 0, none⟩) (i + 1) c4) (i + 1) (ints (bases amount T ws (i + 1))) := by rw [HBS.out]; simpa [ints] using h4
          have hr6 : w6.ownsRow N 3 1 (.slice (some ⟨g9, 0, none⟩) (i + 1) c9) (i + 1) (ints (rests amount T ws (i + 1))) := by rw [HRS.out]; simpa [ints] using h9
          have cy : w6.cell? ⟨g4, i, none⟩ = some (.int .i64 y1) := by
            rw [h4.cellAt i (by simp), List.getElem?_append_right (by simp), ints_length, bases_length, Nat.sub_self]; rfl
          have hlb : -100000000000000000 ≤ l ∧ l ≤ 1000000000 := by have := HL.out; have := HLB.out; omega
          have wly : IntKind.i64.wrap (l - y1) = l - y1 := wrap_small _ (by omega) (by omega)
          have HL6 : Hid (l - y1 = amount - (bases amount T ws (i + 1)).sum) := Lib.hid (by rw [HBS.out, List.sum_append, HL.out]; simp; omega)
          have hg49 : g4 ≠ g9 := by simpa [Value.ownBlock] using hne
          have HO6 := Lib.hid ho6
          have HR6 := Lib.hid hr6
          have HB6 := Lib.hid hb6
          have HZ6 : Hid (N + 2 ≤ w6.heap.size) := Lib.hid (by have := HSr.out; have := hJ6.b.size; omega)
          have bi1 : (i : Int) < (i : Int) + 1 := by omega
          clear hJ6 hvs6 hne h4 h9 ho6 hr6 hb6 cx hpm hy1 hy2 wy1 wy2 neo ner
          go_wp2_with fail
          go_roundw
          case rel => exact ⟨i + 1, g4, c4, g9, c9, l - y1, by go_num, by go_num, rfl, by go_num, by omega, HL6, HO6, HR6, hg49, HB6, HZ6⟩
          case measure => simp [intOf]; omega
        · obtain rfl : i = ws.length := by omega
          as_aux_lemma =>
          obtain ⟨ys, hys⟩ := sorted_ex (restOf amount T ws) ws.length
          have hlo := leftOf_bd (amount := amount) (ws := ws) (by rw [HT.out]; exact hT1.1) (by omega)
          have hll : leftOf amount ws = l := by unfold leftOf; rw [HT.out, HL.out]
          rw [hll] at hlo
          obtain ⟨kL, hkL⟩ : ∃ kL : Nat, l = (kL : Int) := ⟨l.toNat, by omega⟩
          subst hkL
          have HLO := Lib.hid hll
          have HY := Lib.hid hys
          have HYL : Hid (ys.length = ws.length) := Lib.hid (by rw [hys.len, upTo_length])
          have ho0 := HR1.out
          have hr0 := HR2.out
          rw [← partsK_zero amount T ws ys] at ho0
          rw [← restsY_zero amount T ws ys] at hr0
          have HO0 := Lib.hid ho0
          have HQ0 := Lib.hid hr0
          clear hys hll ho0 hr0 HR1 HR2 HL hlt hi
          go_wp2_with fail
          go_loopw [10, 12, 13] (fun lv _ _ wr => ∃ k lf : Nat, k ≤ kL ∧ lv = .int .i64 (lf : Int) ∧ lf + k = kL ∧ Hid (wr.ownsRow N 3 1 (.slice (some ⟨go, 0, none⟩) ws.length co) ws.length (ints (partsK amount T ws ys k))) ∧ Hid (wr.ownsRow N 3 1 (.slice (some ⟨gr, 0, none⟩) ws.length cr) ws.length (ints (restsY amount T ws ys k))) ∧ Hid (Below N w wr)) (fun lv _ _ _ => (intOf lv).toNat)
          case atStart => exact ⟨0, kL, Nat.zero_le _, rfl, by omega, HO0, HQ0, HBr⟩
          case round =>
            obtain ⟨k, lf, hk, rfl, hlf, HO, HQ, HBk⟩ := hrel
            obtain ⟨wk, rfl⟩ : ∃ wk : World, wk = wr := ⟨_, rfl⟩
            clear HO0 HQ0 HBr
            by_cases hkl : k < kL
            · as_aux_lemma =>
              have d1 : decide (0 < lf) = true := decide_eq_true (by omega)
              have d1i : decide ((0 : Int) < (lf : Int)) = true := decide_eq_true (by omega)
              have hkn : k < ws.length := by omega
              obtain ⟨y, hy⟩ : ∃ y : Nat, at0 ys k = y := ⟨(at0 ys k).toNat, by have := HY.out.rng hkn; omega⟩
              have hyn : y < ws.length := by have := HY.out.rng hkn; omega
              obtain ⟨R, hR⟩ : ∃ R, restsY amount T ws ys k = R := ⟨_, rfl⟩
              have hRl : R.length = ws.length := by rw [← hR]; simp
              have hbest : amax R ws.length = y := by rw [← hR]; exact restsY_best hT1.1 HY.out hkn hy
              have hRn : R.set y (-1) = restsY amount T ws ys (k + 1) := by rw [← hR]; exact restsY_succ HY.out hkn hy
              obtain ⟨P, hP⟩ : ∃ P, partsK amount T ws ys k = P := ⟨_, rfl⟩
              have hPl : P.length = ws.length := by rw [← hP]; simp
              have hPn : P.set y (at0 P y + 1) = partsK amount T ws ys (k + 1) := by
                rw [← hP]
                have := partsK_succ (amount := amount) (ws := ws) (ys := ys) (k := k) (y := y) (sum := T) HY.out hkn hy
                exact this
              have hPb : 0 ≤ at0 P y ∧ at0 P y ≤ 10000000000001 := by
                rw [← hP, partsK_at hyn]
                have hwj : 0 ≤ ws.getD y 0 ∧ ws.getD y 0 ≤ 10000 := by rw [getD_at hyn]; exact HWB.out _ (List.getElem_mem _)
                have h9 := mul_bd hamt hwj
                have g1 : 0 ≤ baseOf amount T ws y := Int.ediv_nonneg h9.1 (by omega)
                have g2 : baseOf amount T ws y ≤ 10000000000000 := Int.le_trans (Int.ediv_le_self _ h9.1) h9.2
                split <;> omega
              rw [hR] at HQ
              rw [hP] at HO
              obtain ⟨z, hz⟩ : ∃ z, at0 P y = z := ⟨_, rfl⟩
              rw [hz] at hPn hPb
              have HRL := Lib.hid hRl
              have HPL := Lib.hid hPl
              have HBE := Lib.hid hbest
              have HRN := Lib.hid hRn
              have HPN := Lib.hid hPn
              have HZE := Lib.hid hz
              clear hy hR hRl hbest hRn hP hPl hPn hz
              go_wp2_with fail
              go_loopw [12, 13] (fun bv iv wr => ∃ j : Nat, bv = .int .i64 ((amax R j : Nat) : Int) ∧ iv = .int .i64 (j : Int) ∧ j ≤ ws.length ∧ Hid (Below wk.heap.size wk wr)) (fun _ iv _ => ws.length - (intOf iv).toNat)
              case atStart => exact ⟨0, rfl, rfl, Nat.zero_le _, Lib.hid (Below.refl _ _)⟩
              case round =>
                obtain ⟨j, rfl, rfl, hj, HBj⟩ := hrel
                obtain ⟨wj, rfl⟩ : ∃ wj : World, wj = wr := ⟨_, rfl⟩
                have hQj := ownsN_below HQ.out HBj.out
                have hOj := ownsN_below HO.out HBj.out
                by_cases hjn : j < ws.length
                · as_aux_lemma =>
                  obtain ⟨bs, hbs⟩ : ∃ bs, amax R j = bs := ⟨_, rfl⟩
                  have hbn : bs < ws.length := by
                    rw [← hbs]
                    rcases Nat.eq_zero_or_pos j with e | e
                    · rw [e]; simp [amax]; omega
                    · have := amax_lt R j e; omega
                  obtain ⟨c1, hc1⟩ : ∃ c, R.getD j 0 = c := ⟨_, rfl⟩
                  obtain ⟨c2, hc2⟩ : ∃ c, R.getD bs 0 = c := ⟨_, rfl⟩
                  have q1 : wj.cell? ⟨gr, j, none⟩ = some (.int .i64 c1) := by rw [hQj.cellAt j (by simpa using hjn), intsAt (by rw [HRL.out]; exact hjn), ← getD_at (by rw [HRL.out]; exact hjn), hc1]
                  have q2 : wj.cell? ⟨gr, bs, none⟩ = some (.int .i64 c2) := by rw [hQj.cellAt bs (by simpa using hbn), intsAt (by rw [HRL.out]; exact hbn), ← getD_at (by rw [HRL.out]; exact hbn), hc2]
                  have HAM : Hid (amax R (j + 1) = if c2 < c1 then j else bs) := Lib.hid (by rw [amax, hbs, hc1, hc2])
                  rw [hbs]
                  have bj0 : (0 : Int) ≤ (j : Int) := by omega
                  have bjn : (j : Int) < (ws.length : Int) := by omega
                  have bb0 : (0 : Int) ≤ (bs : Int) := by omega
                  have bbn : (bs : Int) < (ws.length : Int) := by omega
                  clear hbs hc1 hc2 hQj hOj
                  by_cases hcc : c2 < c1
                  · have t1 : decide (c2 < c1) = true := decide_eq_true hcc
                    go_wp2_with fail
                    go_quiet (fail)
                    go_wp2_with fail
                    go_roundw
                    case rel => exact ⟨j + 1, by rw [HAM.out, if_pos hcc], by go_num, by omega, Lib.hid (bThen HBj.out (bDrew _ _))⟩
                    case measure => simp [intOf]; omega
                  · have t1 : decide (c2 < c1) = false := decide_eq_false hcc
                    go_wp2_with fail
                    go_quiet (fail)
                    go_wp2_with fail
                    go_roundw
                    case rel => exact ⟨j + 1, by rw [HAM.out, if_neg (by omega)], by go_num, by omega, Lib.hid (bThen HBj.out (bDrew _ _))⟩
                    case measure => simp [intOf]; omega
                · obtain rfl : j = ws.length := by omega
                  as_aux_lemma =>
                  rw [HBE.out]
                  have cO : wj.cell? ⟨go, y, none⟩ = some (.int .i64 z) := by rw [hOj.cellAt y (by simpa using hyn), intsAt (by rw [HPL.out]; exact hyn), ← at0_eq (by rw [HPL.out]; exact hyn), HZE.out]
                  have fO := hOj.frozenAt y
                  have wz1 : IntKind.i64.wrap (z + 1) = z + 1 := wrap_small _ (by omega) (by omega)
                  obtain ⟨wq, hwq⟩ : ∃ wq, wj.setCell ⟨go, y, none⟩ (.int .i64 (z + 1)) = wq := ⟨_, rfl⟩
                  have hO1 := (hOj.stored y (.int .i64 (z + 1))).1
                  rw [ints_set, HPN.out, hwq] at hO1
                  have hQ1 : wq.ownsRow N 3 1 (.slice (some ⟨gr, 0, none⟩) ws.length cr) ws.length (ints R) := by rw [← hwq]; exact ownsRow_setCell_other hQj (by simpa [Value.ownBlock] using Ne.symm hgn) _
                  have hb1 : Below N w wq := by rw [← hwq]; exact (HBk.out.trans (HBj.out.mono (by have := (HO.out.lt go rfl); omega))).setCell (HO.out.lt go rfl).1 _
                  have cQ : (wj.setCell ⟨go, y, none⟩ (.int .i64 (z + 1))).cell? ⟨gr, y, none⟩ = some (.int .i64 (at0 R y)) := by rw [hwq, hQ1.cellAt y (by simpa using hyn), intsAt (by rw [HRL.out]; exact hyn), ← at0_eq (by rw [HRL.out]; exact hyn)]
                  have fQ : (wj.setCell ⟨go, y, none⟩ (.int .i64 (z + 1))).frozen? ⟨gr, y, none⟩ = false := by rw [hwq]; exact hQ1.frozenAt y
                  have hQ2 := (hQ1.stored y (.int .i64 (-1))).1
                  rw [ints_set, HRN.out] at hQ2
                  have hO2 := ownsRow_setCell_other hO1 (a := ⟨gr, y, none⟩) (by simpa [Value.ownBlock] using hgn) (.int .i64 (-1))
                  have hb2 := hb1.setCell (p := ⟨gr, y, none⟩) (HQ.out.lt gr rfl).1 (.int .i64 (-1))
                  have hwl : IntKind.i64.wrap ((lf : Int) - 1) = ((lf - 1 : Nat) : Int) := by rw [wrap_small _ (by omega) (by omega)]; omega
                  have by0 : (0 : Int) ≤ (y : Int) := by omega
                  have byn : (y : Int) < (ws.length : Int) := by omega
                  have HQ2 := Lib.hid hQ2
                  have HO2 := Lib.hid hO2
                  have HB2 := Lib.hid hb2
                  have HWQ := Lib.hid hwq
                  clear hQ2 hO2 hb2 hwq hO1 hQ1 hb1 hQj hOj
                  go_wp2_with fail
                  rw [HWQ.out]
                  go_roundw
                  case rel => exact ⟨k + 1, lf - 1, by omega, rfl, by omega, HO2, HQ2, HB2⟩
                  case measure => simp [intOf]; omega
            · obtain rfl : k = kL := by omega
              obtain rfl : lf = 0 := by omega
              have hfin : partsK amount T ws ys k = shareL amount ws := by
                have h1 := HY.out
                have h2 := HT.out
                rw [← h2] at h1 ⊢
                exact partsK_end h1 HLO.out.symm
              have ho := HO.out
              rw [hfin] at ho
              have HOF := Lib.hid ((owns_sl ho).mono (S' := fun _ => True) fun _ _ => trivial)
              have HBF : Hid (Below w.heap.size w wk) := Lib.hid (by rw [HN.out]; exact HBk.out)
              clear hfin ho
              go_wp2
              go_returns
              exact ⟨_, rfl, HBF.out, HOF.out⟩
end Go.Proofs.Ytagfcodpgochjaa

/- Chapter 12: PurseShares. -/
namespace Go.Proofs.Ytagfcodpgochjaa
open Go.RowKit Go.Oche Go.Proofs
theorem shareErr_len {amount : Int} {ws : List Int} (h : shareErr amount ws = 0) : ws.length ≤ 60 := by
  unfold shareErr at h
  split at h
  · cases h
  · split at h
    · cases h
    · rename_i h2
      have : isIn (ws.length : Int) 1 60 = true := by simpa using h2
      simp [isIn] at this
      omega
set_option maxRecDepth 100000 in
set_option maxHeartbeats 4000000 in
theorem purseShares_any {S : Nat → Prop} (amount : Int) (ws : List Int) (v : Value) (w : World) (hs : Sl S w v (ints ws)) :
    Calls Try.prog 3 #[.int .i64 amount, v] w fun e w' => e = .returned (.bool true) ∧ Below w.heap.size w w' := by
  obtain ⟨a, cap, rfl, h2, h3⟩ := hs.form
  simp only [ints_length] at *
  unfold maxLen at h3
  have HS := Lib.hid hs
  clear hs
  by_cases hl : ws.length ≤ 70
  · have d1 : decide (70 < ws.length) = false := decide_eq_false (by omega)
    have d1i : decide ((70 : Int) < (ws.length : Int)) = false := decide_eq_false (by omega)
    go_enter Try.func3, Try.ntmps3
    go_wp2_with fail
    refine (copyInts_any ws _ w HS.out (by omega)).mono ?_
    rintro e w1 ⟨r1, rfl, hb1, hs1⟩
    have HB1 := Lib.hid hb1
    have HR1 := Lib.hid hs1
    clear hb1 hs1
    go_wp2_with fail
    refine (shareAll_any amount ws _ w1 HR1.out shareErr_len).mono ?_
    rintro e w2 ⟨r2, rfl, hb2, hs2⟩
    have HB2 := Lib.hid (bThen HB1.out hb2)
    have HR2 := Lib.hid (HR1.out.below hb2)
    have HT2 := Lib.hid hs2
    clear hb2 hs2 HR1
    obtain ⟨er, her⟩ : ∃ er, shareErr amount ws = er := ⟨_, rfl⟩
    have HER := Lib.hid her
    rw [her]
    clear her
    go_wp2_with fail
    refine (refShare_any amount ws _ w2 (HS.out.below HB2.out) hl).mono ?_
    rintro e w3 ⟨r3, rfl, hb3, hs3⟩
    have HB3 := Lib.hid (bThen HB2.out hb3)
    have HR3 := Lib.hid (HR2.out.below hb3)
    have HT3 := Lib.hid (HT2.out.below hb3)
    have HU3 := Lib.hid hs3
    clear hb3 hs3 HR2 HT2
    rw [HER.out]
    have hee : (er == er) = true := by simp
    go_wp2_with fail
    refine (ints_any ws ws _ _ w3 HR3.out (HS.out.below HB3.out)).mono ?_
    rintro e w4 ⟨rfl, hb4⟩
    have hd : decide (ws = ws) = true := decide_eq_true rfl
    rw [hd]
    have HB4 := Lib.hid (bThen HB3.out hb4)
    have HT4 := Lib.hid (HT3.out.below hb4)
    have HU4 := Lib.hid (HU3.out.below hb4)
    clear hb4 hd HT3 HU3 HR3
    go_wp2_with fail
    refine (ints_any (shareRes amount ws) (shareRes amount ws) _ _ w4 HT4.out HU4.out).mono ?_
    rintro e w5 ⟨rfl, hb5⟩
    have hd : decide (shareRes amount ws = shareRes amount ws) = true := decide_eq_true rfl
    rw [hd]
    have HB5 := Lib.hid (bThen HB4.out hb5)
    clear hb5 hd HT4 HU4
    go_wp2_with fail
    refine (known_any w5).mono ?_
    rintro e w6 ⟨rfl, hb6⟩
    have HB6 := Lib.hid (bThen HB5.out hb6)
    clear hb6
    go_wp2
    go_ret
    exact ⟨rfl, HB6.out⟩
  · have d1 : decide (70 < ws.length) = true := decide_eq_true (by omega)
    have d1i : decide ((70 : Int) < (ws.length : Int)) = true := decide_eq_true (by omega)
    go_enter Try.func3, Try.ntmps3
    go_wp2_with fail
    refine (known_any w).mono ?_
    rintro e w6 ⟨rfl, hb6⟩
    have HB6 := Lib.hid hb6
    clear hb6
    go_wp2
    go_ret
    exact ⟨rfl, HB6.out⟩
end Go.Proofs.Ytagfcodpgochjaa
