/- The texts MV, XA, XT, in build order. -/
import Derived.Test.YtnhggfnnolfcdaaZay

/- Chapter 4, in plain Lean: what is true of all games that are played one after another. -/
namespace Go.Proofs.Ytnhggfnnolfcdaa
open Go.RowKit Go.Oche Go.Proofs
theorem playS_all {r : Rul} (P : Nat → Gam → Prop) (hstep : ∀ k g y, Good r k g → P k g → g.win = [] → P (k + 1) (stepS r g y)) : ∀ (l : List Nat) (k : Nat) (g : Gam), Good r k g → P k g → ∀ (i : Nat) (h : Gam), (g :: (playS r g l).map (·.2))[i]? = some h → Good r (k + i) h ∧ P (k + i) h ∧ (h.win ≠ [] → i + 1 = (g :: (playS r g l).map (·.2)).length)
  | [], k, g, hg, hp, i, h, hi => by
    cases i with
    | zero => simp [playS] at hi ⊢; subst hi; exact ⟨hg, hp⟩
    | succ i => simp [playS] at hi
  | y :: l, k, g, hg, hp, i, h, hi => by
    by_cases hw : g.win = []
    · have e : playS r g (y :: l) = (dartS r g y, stepS r g y) :: playS r (stepS r g y) l := by rw [playS, if_pos hw]
      have hG : Good r (k + 1) (stepS r g y) := hg.throw hw (okBed_hit (dartS_ok (hg.live hw) y))
      rw [e] at hi ⊢
      cases i with
      | zero =>
        simp only [List.getElem?_cons_zero, Option.some.injEq] at hi
        subst hi
        exact ⟨hg, hp, fun h => (h hw).elim⟩
      | succ i =>
        rw [List.map_cons] at hi ⊢
        have := playS_all P hstep l (k + 1) (stepS r g y) hG (hstep k g y hg hp hw) i h (by simpa using hi)
        rw [show k + (i + 1) = k + 1 + i by omega]
        refine ⟨this.1, this.2.1, fun hh => ?_⟩
        rw [List.length_cons, ← this.2.2 hh]
    · have e : playS r g (y :: l) = [] := by rw [playS, if_neg hw]
      rw [e] at hi ⊢
      cases i with
      | zero => simp at hi; subst hi; exact ⟨hg, hp, fun _ => rfl⟩
      | succ i => simp at hi
theorem playS_pair {r : Rul} : ∀ (l : List Nat) (k : Nat) (g : Gam), Good r k g → ∀ (i : Nat) (a b : Gam), (g :: (playS r g l).map (·.2))[i]? = some a → (g :: (playS r g l).map (·.2))[i + 1]? = some b → Good r (k + i) a ∧ a.win = [] ∧ ∃ y, b = stepS r a y
  | [], k, g, hg, i, a, b, ha, hb => by simp [playS] at hb
  | y :: l, k, g, hg, i, a, b, ha, hb => by
    by_cases hw : g.win = []
    · have e : playS r g (y :: l) = (dartS r g y, stepS r g y) :: playS r (stepS r g y) l := by rw [playS, if_pos hw]
      have hG : Good r (k + 1) (stepS r g y) := hg.throw hw (okBed_hit (dartS_ok (hg.live hw) y))
      rw [e] at ha hb
      cases i with
      | zero =>
        simp at ha hb
        subst ha hb
        exact ⟨hg, hw, y, rfl⟩
      | succ i =>
        have := playS_pair l (k + 1) (stepS r g y) hG i a b (by simpa using ha) (by simpa using hb)
        rw [show k + (i + 1) = k + 1 + i by omega]
        exact this
    · rw [playS, if_neg hw] at hb; simp at hb
/-- IN TURN: each of the games. -/
structure TurnOk (r : Rul) (n len : Nat) (g : Gam) : Prop where
  over : g.win ≠ [] → n + 1 = len ∧ 1 ≤ g.darts ∧ g.darts ≤ 3
  live : g.win = [] → Live r (9 + 100 * n) g
  turn : g.win = [] → Turn r n g
  good : Good r n g
theorem games_turn {r : Rul} (hc : checkR r = 0) (ys : List Nat) : ∀ (i : Nat) (g : Gam), (gamesS r ys)[i]? = some g → TurnOk r i (gamesS r ys).length g := fun i g hi => by
  have := playS_all (r := r) (fun k g => (g.win = [] → Turn r k g) ∧ (g.win ≠ [] → 1 ≤ g.darts ∧ g.darts ≤ 3)) (fun k g y hg hp hw => by
    have hl := hg.live hw
    have hb := okBed_hit (dartS_ok hl y)
    refine ⟨fun hn => (hp.1 hw).throw hl hb hn, fun hn => ?_⟩
    have ho := (throw_thrown hl hb).over hn
    have h3 := hl.darts
    have e : (stepS r g y).darts = g.darts + 1 := ho.2.2.2
    omega) ys 0 (initG r) (Good.init hc) ⟨fun _ => Turn.init, fun h => (h rfl).elim⟩ i g hi
  rw [Nat.zero_add] at this
  exact ⟨fun h => ⟨this.2.2 h, this.2.1.2 h⟩, fun h => by have := this.1.live h; exact this, fun h => this.2.1.1 h, this.1⟩
/-- DART BY DART: two games, one after the other. -/
theorem games_step {r : Rul} (hc : checkR r = 0) (ys : List Nat) : ∀ (i : Nat) (a b : Gam), (gamesS r ys)[i]? = some a → (gamesS r ys)[i + 1]? = some b → Inv r (9 + 100 * i) a ∧ Inv r (9 + 100 * (i + 1)) b ∧ ∀ k, k < a.pls.length → StepOk r (k = a.player) (plr a k) (plr b k) := fun i a b ha hb => by
  obtain ⟨hg, hw, y, rfl⟩ := playS_pair ys 0 (initG r) (Good.init hc) i a b ha hb
  rw [Nat.zero_add] at hg
  have hl := hg.live hw
  have hh := okBed_hit (dartS_ok hl y)
  exact ⟨hg.inv, (hg.throw hw hh).inv, fun k hk => throw_step hl hh hk⟩
theorem games_len (r : Rul) (ys : List Nat) : (gamesS r ys).length = (dartsS r ys).length + 1 := by simp [gamesS, dartsS]
theorem lastS_games (r : Rul) : ∀ (l : List Nat) (g : Gam), (g :: (playS r g l).map (·.2))[(playS r g l).length]? = some (lastS r g l)
  | [], g => by simp [playS, lastS]
  | y :: l, g => by
    rw [playS, lastS]
    by_cases hw : g.win = []
    · rw [if_pos hw, if_pos hw, List.length_cons, List.getElem?_cons_succ, List.map_cons]
      exact lastS_games r l (stepS r g y)
    · rw [if_neg hw, if_neg hw]; rfl
theorem games_last (r : Rul) (ys : List Nat) : (gamesS r ys)[(dartsS r ys).length]? = some (lastS r (initG r) ys) := by
  unfold gamesS dartsS; rw [List.length_map]; exact lastS_games r ys (initG r)
/-- One dart more. -/
theorem playG_more {r : Rul} (hc : checkR r = 0) {ys : List Nat} (hl : ys.length < 600) (b : Int) : playG r (dartsS r ys ++ [b]) = if okBed b = false then (none, (dartsS r ys).length, 2) else if (lastS r (initG r) ys).win ≠ [] then (none, (dartsS r ys).length, 9) else (some (throwG r (lastS r (initG r) ys) (b.tdiv 100) (b.tmod 100)), 0, 0) := by
  have hlen : (dartsS r ys).length ≤ ys.length := by unfold dartsS; rw [List.length_map]; exact playS_len r ys _
  have h := (playS_play ys 0 (initG r) (Good.init hc)).1
  rw [playG_of hc (by simp; omega)]
  have hs := playF_snoc (b := b) _ 0 (initG r) _ _ _ h
  have e : dartsS r ys = (playS r (initG r) ys).map (·.1) := rfl
  rw [e, hs, Nat.zero_add]
  rw [playF]
  cases okBed b
  · rfl
  · by_cases hw : (lastS r (initG r) ys).win = []
    · simp [hw, playF]
    · simp [hw]
end Go.Proofs.Ytnhggfnnolfcdaa

/- Chapter 4: what the plain laws begin with: a play's states in memory. -/
namespace Go.Proofs.Ytnhggfnnolfcdaa
open Go.RowKit Go.Oche Go.Proofs
theorem StsV.at_ {S : Nat → Prop} {w : World} {a : Option Addr} {n c : Nat} {gs : List Gam} (h : StsV S w (.slice a n c) gs) {i : Nat} {g : Gam} (hi : gs[i]? = some g) : ∃ b o pa pc wa wc, a = some ⟨b, o, none⟩ ∧
    (∀ j x, [Value.int .i64 g.round, .int .i64 g.player, .int .i64 g.darts, .slice pa g.pls.length pc, .slice wa g.win.length wc][j]? = some x → w.cell? ⟨b, o + i * 5 + j, none⟩ = some x) ∧
    SlN 9 S w (.slice pa g.pls.length pc) (g.pls.map plrRow) ∧ Sevens g.pls ∧ Sl S w (.slice wa g.win.length wc) (ints g.win) := by
  obtain ⟨rows, h1, h2⟩ := h
  obtain ⟨r, hr, hl, pa, pc, wa, wc, e, h3, h7, h4⟩ := h2.2 i g hi
  have hil : i < rows.length := (List.getElem?_eq_some_iff.1 hr).1
  obtain ⟨b, o, ea, -, -, hc⟩ := h1.cell hil
  have hre : rows[i] = r := by rw [List.getElem?_eq_getElem hil] at hr; exact Option.some.inj hr
  refine ⟨b, o, pa, pc, wa, wc, ea, fun j x hx => hc j x ?_, h3, h7, h4⟩
  rw [hre]
  simp only [Value.agg.injEq] at e
  have e2 : r = [Value.int .i64 g.round, .int .i64 g.player, .int .i64 g.darts, .slice pa g.pls.length pc, .slice wa g.win.length wc] := by
    have := congrArg Array.toList e
    simp at this; exact this
  rw [e2]; exact hx
theorem StsV.len {S : Nat → Prop} {w : World} {v : Value} {gs : List Gam} (h : StsV S w v gs) : ∃ a c, v = .slice a gs.length c ∧ gs.length ≤ c ∧ c ≤ maxLen := by
  obtain ⟨rows, h1, h2⟩ := h
  obtain ⟨a, c, e, l1, l2⟩ := h1.form
  rw [h2.1] at e l1
  exact ⟨a, c, e, l1, l2⟩
theorem play_r {S : Nat → Prop} (k p l f : Nat) (hk : k ≤ 255) (hp : p ≤ 255) (hl : l ≤ 255) (hf : f ≤ 255) (ys : List Nat) (hys : ∀ y ∈ ys, y ≤ 255) (most : Nat) (hmost : most ≤ 500) (r : Rul) (hr : rulS k p l f = r) (D : Nat) (hD : (dartsS r (ys.take most)).length = D) (bv : Value) (w : World) (hb : Sl S w bv (ys.map fun (y : Nat) => Value.int .u8 y)) :
    Calls Try.prog 25 #[.agg #[.int .u8 k, .int .u8 p, .int .u8 l, .int .u8 f], bv, .int .i64 most] w fun e w' => ∃ na nl nc da dc sa sc, e = .returned (.tuple #[.agg #[.int .i64 r.kind, .int .i64 r.players, .int .i64 r.last, .bool r.bull, .bool r.jump, .int .i64 r.rounds, .bool r.cut, .slice na nl nc, .int .i64 r.lives, .bool r.own], .slice da D dc, .slice sa (D + 1) sc, .bool true]) ∧ Below w.heap.size w w' ∧
      Sl (fun _ => True) w' (.slice na nl nc) (ints r.nums) ∧ nl ≤ 8 ∧ Sl (fun _ => True) w' (.slice da D dc) (ints (dartsS r (ys.take most))) ∧ StsV (fun _ => True) w' (.slice sa (D + 1) sc) (gamesS r (ys.take most)) := by
  have hc := playS_any k p l f hk hp hl hf ys hys most hmost bv w hb
  have hrc := rulS_check k p l f
  rw [hr] at hc hrc
  refine hc.mono ?_
  rintro e w' ⟨na, nl, nc, dv, sv, rfl, hb', hs1, hs2, hs3⟩
  obtain ⟨da, dc, rfl, _, _⟩ := hs2.form
  obtain ⟨sa, sc, rfl, _, _⟩ := hs3.len
  rw [ints_length, hD] at hs2
  rw [games_len, hD] at hs3
  rw [ints_length, hD, games_len, hD]
  have hnl : r.nums.length = nl := by obtain ⟨_, _, e, _⟩ := hs1.form; rw [ints_length] at e; cases e; rfl
  refine ⟨na, nl, nc, da, dc, sa, sc, rfl, hb', hs1, ?_, hs2, hs3⟩
  rw [← hnl]
  rcases kind_of hrc with q | q | q | q
  · rw [(ok1 hrc q).2.2.2.2.1]; simp
  · rw [(ok2 hrc q).2.2.2.2.2.1]; simp
  · rw [(ok3 hrc q).2.2.2.2.2.2.1]; simp
  · have := ok4 hrc q; have h1 := this.2.2.1; have h2 := this.2.2.2.2.2.2.2.2.2.2; omega
end Go.Proofs.Ytnhggfnnolfcdaa

/- Chapter 4: GameTurns. -/
namespace Go.Proofs.Ytnhggfnnolfcdaa
open Go.RowKit Go.Oche Go.Proofs
set_option maxRecDepth 100000 in
set_option maxHeartbeats 8000000 in
theorem gameTurns_any {S : Nat → Prop} (k p l f : Nat) (hk : k ≤ 255) (hp : p ≤ 255) (hl : l ≤ 255) (hf : f ≤ 255) (ys : List Nat) (hys : ∀ y ∈ ys, y ≤ 255) (bv : Value) (w : World) (hb : Sl S w bv (ys.map fun (y : Nat) => Value.int .u8 y)) :
    Calls Try.prog 6 #[.agg #[.int .u8 k, .int .u8 p, .int .u8 l, .int .u8 f], bv] w fun e w' => e = .returned (.bool true) ∧ Below w.heap.size w w' := by
  obtain ⟨r, hr⟩ : ∃ r, rulS k p l f = r := ⟨_, rfl⟩
  have hrc := rulS_check k p l f
  rw [hr] at hrc
  obtain ⟨D, hD⟩ : ∃ D, (dartsS r (ys.take 60)).length = D := ⟨_, rfl⟩
  have hD60 : D ≤ 60 := by rw [← hD]; unfold dartsS; rw [List.length_map]; have := playS_len r (ys.take 60) (initG r); have h2 : (ys.take 60).length ≤ 60 := by rw [List.length_take]; omega
                           omega
  obtain ⟨w0, hw0⟩ : ∃ w0, w.alloc (.cells #[.int .u8 k, .int .u8 p, .int .u8 l, .int .u8 f] 55) = w0 := ⟨_, rfl⟩
  have hb0 : Below w.heap.size w w0 := by rw [← hw0]; exact aB _ _
  have HPL := Lib.hid (play_r k p l f hk hp hl hf ys hys 60 (by decide) r hr D hD bv w0 (hb.below hb0))
  have HGL : Hid ((gamesS r (ys.take 60)).length = D + 1) := Lib.hid (by rw [games_len, hD])
  obtain ⟨GS, hGS⟩ : ∃ GS, gamesS r (ys.take 60) = GS := ⟨_, rfl⟩
  have HTN : Hid (∀ (i : Nat) (g : Gam), GS[i]? = some g → TurnOk r i GS.length g) := Lib.hid (by rw [← hGS]; exact games_turn hrc (ys.take 60))
  rw [hGS] at HGL HPL
  have HRC := Lib.hid hrc
  have HB0 := Lib.hid hb0
  have HW0 := Lib.hid hw0
  clear hb hys hb0 hw0 hr hrc hk hp hl hf hD hGS
  go_enter Try.func6, Try.ntmps6
  go_wp2_with fail
  rw [HW0.out]
  refine HPL.out.mono ?_
  rintro e w1 ⟨na, nl, nc, da, dc, sa, sc, rfl, hb1, _, _, _, hst⟩
  obtain ⟨E, hE⟩ : ∃ E, D + 1 = E := ⟨_, rfl⟩
  rw [hE] at hst HGL ⊢
  have hE61 : 1 ≤ E ∧ E ≤ 61 := by omega
  obtain ⟨b5, hb5⟩ : ∃ b, w1.heap.size = b := ⟨_, rfl⟩
  obtain ⟨w2, hw2⟩ : ∃ w2, w1.alloc (.cells #[.int .i64 r.kind, .int .i64 r.players, .int .i64 r.last, .bool r.bull, .bool r.jump, .int .i64 r.rounds, .bool r.cut, .slice na nl nc, .int .i64 r.lives, .bool r.own] 25) = w2 := ⟨_, rfl⟩
  have hb2 : Below w1.heap.size w1 w2 := by rw [← hw2]; exact aB _ _
  have KR : Hid (w2.heap[b5]? = some (.cells #[.int .i64 r.kind, .int .i64 r.players, .int .i64 r.last, .bool r.bull, .bool r.jump, .int .i64 r.rounds, .bool r.cut, .slice na nl nc, .int .i64 r.lives, .bool r.own] 25 (0, 0))) := Lib.hid (by rw [← hw2, ← hb5]; exact World.alloc_heap_new _ _)
  have HST := Lib.hid (hst.below hb2)
  have HB2 := Lib.hid (bThen HB0.out (bThen hb1 hb2))
  have HW2 := Lib.hid hw2
  have HB5 := Lib.hid hb5
  clear hb1 hst hb2 hw2 hb5 HPL hE hD60
  go_wp2_with fail
  rw [HW2.out, HB5.out]
  go_loopw [9] (fun iv wr => ∃ i : Nat, i ≤ E ∧ iv = .int .i64 i ∧ Hid (wr.heap[b5]? = some (.cells #[.int .i64 r.kind, .int .i64 r.players, .int .i64 r.last, .bool r.bull, .bool r.jump, .int .i64 r.rounds, .bool r.cut, .slice na nl nc, .int .i64 r.lives, .bool r.own] 25 (0, 0))) ∧ Hid (StsV (fun _ => True) wr (.slice sa E sc) GS) ∧ Hid (Below w.heap.size w wr)) (fun iv _ => E - (intOf iv).toNat)
  case atStart => exact ⟨0, by omega, by go_num, KR, HST, HB2⟩
  case round =>
    obtain ⟨i, hi, rfl, KR, HST, HB⟩ := hrel
    obtain ⟨wo, rfl⟩ : ∃ wo : World, wo = wr := ⟨_, rfl⟩
    by_cases hlt : i < E
    · have d1 : decide ((i : Int) < (E : Int)) = true := decide_eq_true (by omega)
      have d1n : decide (i < E) = true := decide_eq_true hlt
      have hig : i < GS.length := by rw [HGL.out]; exact hlt
      obtain ⟨g, hg⟩ : ∃ g, GS[i] = g := ⟨_, rfl⟩
      have hgi : GS[i]? = some g := by rw [List.getElem?_eq_getElem hig, hg]
      have htn := HTN.out i g hgi
      rw [HGL.out] at htn
      obtain ⟨sb, so, pa, pc, wa, wc, rfl, hrow, hpl, h7, hwin⟩ := HST.out.at_ hgi
      obtain ⟨n, hn⟩ : ∃ n, g.pls.length = n := ⟨_, rfl⟩
      obtain ⟨m, hm⟩ : ∃ m, g.win.length = m := ⟨_, rfl⟩
      rw [hn] at hpl hrow
      rw [hm] at hrow
      obtain ⟨b10, hb10⟩ : ∃ b, wo.heap.size = b := ⟨_, rfl⟩
      obtain ⟨w3, hw3⟩ : ∃ w3, wo.alloc (.cells #[.int .i64 g.round, .int .i64 g.player, .int .i64 g.darts, .slice pa n pc, .slice wa m wc] 34) = w3 := ⟨_, rfl⟩
      have hb3 : Below wo.heap.size wo w3 := by rw [← hw3]; exact aB _ _
      have k3 : w3.heap[b10]? = some (.cells #[.int .i64 g.round, .int .i64 g.player, .int .i64 g.darts, .slice pa n pc, .slice wa m wc] 34 (0, 0)) := by rw [← hw3, ← hb10]; exact World.alloc_heap_new _ _
      have s0 : w3.cell? ⟨b10, 0, none⟩ = _ := cell_of_heap (o := 0) k3
      have s1 : w3.cell? ⟨b10, 1, none⟩ = _ := cell_of_heap (o := 1) k3
      have s2 : w3.cell? ⟨b10, 2, none⟩ = _ := cell_of_heap (o := 2) k3
      have s3 : w3.cell? ⟨b10, 3, none⟩ = _ := cell_of_heap (o := 3) k3
      have s4 : w3.cell? ⟨b10, 4, none⟩ = _ := cell_of_heap (o := 4) k3
      simp only [List.getElem?_toArray, List.getElem?_cons_zero, List.getElem?_cons_succ] at s0 s1 s2 s3 s4
      have hkr := (hb3.block _ (Array.getElem?_eq_some_iff.1 KR.out).1).trans KR.out
      have r0 : w3.cell? ⟨b5, 0, none⟩ = some (.int .i64 r.kind) := by rw [cell_of_heap hkr]; rfl
      have r1 : w3.cell? ⟨b5, 1, none⟩ = some (.int .i64 r.players) := by rw [cell_of_heap hkr]; rfl
      have r8 : w3.cell? ⟨b5, 8, none⟩ = some (.int .i64 r.lives) := by rw [cell_of_heap hkr]; rfl
      have c0 := hrow 0 _ rfl
      have c1 := hrow 1 _ rfl
      have c2 := hrow 2 _ rfl
      have c3 := hrow 3 _ rfl
      have c4 := hrow 4 _ rfl
      simp only [Nat.add_zero] at c0
      have KR3 := Lib.hid hkr
      have HST3 := Lib.hid (HST.out.below hb3)
      have HPL3 := Lib.hid (hpl.below hb3)
      have HB3 := Lib.hid (bThen HB.out hb3)
      have HW3 := Lib.hid hw3
      have HB10 := Lib.hid hb10
      have HT := Lib.hid htn
      have HN := Lib.hid hn
      have HM := Lib.hid hm
      clear hkr hb3 hw3 hb10 hrow hpl h7 hwin k3 htn hgi hg hig hn hm
      by_cases hm0 : m = 0
      · subst hm0
        have hw0 : g.win = [] := List.eq_nil_of_length_eq_zero HM.out
        have hlv := HT.out.live hw0
        have hinv := hlv.toInv
        have hdl := hlv.darts
        have hpn : g.player < n := by rw [← HN.out]; exact hlv.pl
        have hnr : (n : Int) = r.players := by rw [← HN.out]; exact hlv.len
        have hn8 := players_of HRC.out
        have ht := HT.out.turn hw0
        have t1 : decide ((g.darts : Int) < 0) = false := decide_eq_false (by omega)
        have t2 : decide ((2 : Int) < (g.darts : Int)) = false := decide_eq_false (by omega)
        have t2n : decide (2 < g.darts) = false := decide_eq_false (by omega)
        have t3 : decide ((g.player : Int) < 0) = false := decide_eq_false (by omega)
        have t4 : decide ((n : Int) ≤ (g.player : Int)) = false := decide_eq_false (by omega)
        have t4n : decide (n ≤ g.player) = false := decide_eq_false (by omega)
        by_cases k4 : r.kind = 4
        · have e4 : (r.kind != 4) = false := by rw [k4]; rfl
          obtain ⟨pb, po, hpa, hc⟩ := slN_cell9 HPL3.out hlv.pl
          subst hpa
          have hgl := hlv.pl
          have hc0 := hc 0 (.int .i64 g.pls[g.player].pts) rfl
          rw [plr_at hlv.pl] at hc0
          have hok := (hlv.each _ (plr_mem hlv.pl)).1
          have hp0 : (plr g g.player).pts ≠ 0 := by
            have := hlv.inn; unfold isOutG at this; rw [k4] at this; simpa using this
          have hpl1 : 1 ≤ (plr g g.player).pts ∧ (plr g g.player).pts ≤ r.lives := by have := hok.nn; have := hok.liv k4; omega
          have hlives := (ok4 HRC.out k4).2.2.2.2.1
          obtain ⟨P, hP⟩ : ∃ P, (plr g g.player).pts = P := ⟨_, rfl⟩
          rw [hP] at hc0 hpl1
          simp only [Nat.add_zero] at hc0
          have u1 : decide (P < 1) = false := decide_eq_false (by omega)
          have u2 : decide (r.lives < P) = false := decide_eq_false (by omega)
          have hkill := ht.kill
          rw [HN.out] at hkill
          have hrb : g.round ≤ 122 := by have := HT.out.good.rd; omega
          obtain ⟨X, hX⟩ : ∃ X, 3 * r.players * ((g.round : Int) + 1) = X := ⟨_, rfl⟩
          have hXi : (i : Int) ≤ X := by
            rw [← hX, ← hnr]
            have h2 : n * g.round + g.player + 1 ≤ n * (g.round + 1) := by rw [Nat.mul_add]; omega
            have h3 : i ≤ 3 * (n * (g.round + 1)) := by omega
            have h4 : (3 * (n : Int) * ((g.round : Int) + 1)) = ((3 * (n * (g.round + 1)) : Nat) : Int) := by push_cast; rw [Int.mul_assoc]
            rw [h4]; omega
          have hXb : X ≤ 100000 := by
            rw [← hX, ← hnr]
            have h2 : n * (g.round + 1) ≤ 8 * 123 := Nat.mul_le_mul (by omega) (by omega)
            have h4 : (3 * (n : Int) * ((g.round : Int) + 1)) = ((3 * (n * (g.round + 1)) : Nat) : Int) := by push_cast; rw [Int.mul_assoc]
            rw [h4]; omega
          have u3 : decide (X < (i : Int)) = false := decide_eq_false (by omega)
          have z1 : IntKind.i64.wrap (3 * r.players) = 3 * r.players := wrap_small _ (by omega) (by omega)
          have z2 : IntKind.i64.wrap ((g.round : Int) + 1) = (g.round : Int) + 1 := wrap_small _ (by omega) (by omega)
          have z3 : IntKind.i64.wrap (3 * r.players * ((g.round : Int) + 1)) = X := by rw [hX]; exact wrap_small _ (by omega) (by omega)
          clear hc hP hok hp0 hinv hkill hX
          go_upto_region 8 with fail
          rw [HW3.out, HB10.out]
          clear c0 c1 c2 c3 c4
          go_wp2_with fail
          refine wp_region_seq 31 [.is (.pointer (some ⟨b10, 3, none⟩)), .is (.slice (some ⟨pb, po, none⟩) n pc), .is (.pointer (some ⟨b10, 1, none⟩)), .is (.int .i64 g.player), .is (.pointer (some ⟨pb, po + g.player * 9, none⟩)), .is (.pointer (some ⟨pb, po + g.player * 9, none⟩)), .is (.int .i64 P), .is (.bool false), .is (.bool false), .is (.pointer (some ⟨b10, 3, none⟩)), .is (.slice (some ⟨pb, po, none⟩) n pc), .is (.pointer (some ⟨b10, 1, none⟩)), .is (.int .i64 g.player), .is (.pointer (some ⟨pb, po + g.player * 9, none⟩)), .is (.pointer (some ⟨pb, po + g.player * 9, none⟩)), .is (.int .i64 P), .is (.pointer (some ⟨b5, 8, none⟩)), .is (.int .i64 r.lives), .is (.bool false), .is (.bool false), .is (.bool false), .is (.pointer (some ⟨b5, 1, none⟩)), .is (.int .i64 r.players), .is (.int .i64 (3 * r.players)), .is (.pointer (some ⟨b10, 0, none⟩)), .is (.int .i64 g.round), .is (.int .i64 ((g.round : Int) + 1)), .is (.int .i64 X), .is (.int .i64 i), .is (.bool false), .is (.bool false)] rfl mix (by kernel_rfl) (by kernel_rfl) ?seqm
          case seqm =>
            simp only [List.take_succ_cons, List.take_zero]
            iterate 31
              refine seq_on (by rfl) (fun w3 hb3 _ => ?_) ?_
              · have a0 := bAt hb3 s0
                have a1 := bAt hb3 s1
                have a2 := bAt hb3 s2
                have a3 := bAt hb3 s3
                have a8 := bAt hb3 r8
                have a9 := bAt hb3 r1
                have c0 := bAt hb3 hc0
                simp [opOK, go_sem, a0, a1, a3, a8, a9, c0, u1, u2, u3, z1, z2, z3, hpn, Below.refl]
                try exact rfl
              simp only [Act.put, List.setIfInBounds_toArray, List.set_cons_succ, List.set_cons_zero]
            refine seq_end fun w4 hb4 _ => ?_
            simp only [List.drop_succ_cons, List.drop_zero]
            have HB4 := Lib.hid (bThen HB3.out hb4)
            have KR4 := Lib.hid ((hb4.block _ (Array.getElem?_eq_some_iff.1 KR3.out).1).trans KR3.out)
            have HST4 := Lib.hid (HST3.out.below hb4)
            clear hb4 s0 s1 s2 s3 s4 r0 r1 r8 hc0
            go_wp2
            go_roundw
            case rel => exact ⟨i + 1, by omega, by go_num, KR4, HST4, HB4⟩
            case measure => simp [intOf]; omega
        · have e4 : (r.kind != 4) = true := by simpa using k4
          have hpt := ht.plain k4
          rw [HN.out] at hpt
          obtain ⟨v, hv⟩ : ∃ v, i / 3 = v := ⟨_, rfl⟩
          rw [hv] at hpt
          have y1 : (i : Int).tmod 3 = (g.darts : Int) := by have := tmod_nat i 3; rw [← hpt.1] at this; simpa using this
          have y2 : (i : Int).tdiv 3 = (v : Int) := by have := tdiv_nat i 3; rw [hv] at this; simpa using this
          have y3 : (v : Int).tmod r.players = (g.player : Int) := by rw [← hnr, tmod_nat, hpt.2.1]
          have y4 : (v : Int).tdiv r.players = (g.round : Int) := by rw [← hnr, tdiv_nat, hpt.2.2]
          have y5 : ¬ r.players = 0 := by omega
          have hvb : v ≤ 30 := by omega
          have hrb : g.round ≤ 30 := by rw [hpt.2.2]; exact Nat.le_trans (Nat.div_le_self _ _) hvb
          have x1 : IntKind.i64.wrap (g.darts : Int) = (g.darts : Int) := wrap_small _ (by omega) (by omega)
          have x2 : IntKind.i64.wrap (v : Int) = (v : Int) := wrap_small _ (by omega) (by omega)
          have x3 : IntKind.i64.wrap (g.player : Int) = (g.player : Int) := wrap_small _ (by omega) (by omega)
          have x4 : IntKind.i64.wrap (g.round : Int) = (g.round : Int) := wrap_small _ (by omega) (by omega)
          clear hinv hpt hv
          go_upto_region 8 with fail
          rw [HW3.out, HB10.out]
          clear c0 c1 c2 c3 c4
          go_wp2_with fail
          refine wp_region_seq 25 [.is (.pointer (some ⟨b10, 2, none⟩)), .is (.int .i64 g.darts), .is (.int .i64 i), .is (.int .i64 g.darts), .is (.bool false), .is (.bool false), .is (.pointer (some ⟨b10, 1, none⟩)), .is (.int .i64 g.player), .is (.int .i64 i), .is (.int .i64 v), .is (.pointer (some ⟨b5, 1, none⟩)), .is (.int .i64 r.players), .is (.int .i64 g.player), .is (.bool false), .is (.bool false), .is (.bool false), .is (.pointer (some ⟨b10, 0, none⟩)), .is (.int .i64 g.round), .is (.int .i64 i), .is (.int .i64 v), .is (.pointer (some ⟨b5, 1, none⟩)), .is (.int .i64 r.players), .is (.int .i64 g.round), .is (.bool false), .is (.bool false)] rfl mix (by kernel_rfl) (by kernel_rfl) ?seqm
          case seqm =>
            simp only [List.take_succ_cons, List.take_zero]
            iterate 25
              refine seq_on (by rfl) (fun w3 hb3 _ => ?_) ?_
              · have a0 := bAt hb3 s0
                have a1 := bAt hb3 s1
                have a2 := bAt hb3 s2
                have a3 := bAt hb3 s3
                have a8 := bAt hb3 r8
                have a9 := bAt hb3 r1
                simp [opOK, go_sem, a0, a1, a2, a9, y1, y2, y3, y4, y5, x2, x4, Below.refl]
                try exact rfl
              simp only [Act.put, List.setIfInBounds_toArray, List.set_cons_succ, List.set_cons_zero]
            refine seq_end fun w4 hb4 _ => ?_
            simp only [List.drop_succ_cons, List.drop_zero]
            have HB4 := Lib.hid (bThen HB3.out hb4)
            have KR4 := Lib.hid ((hb4.block _ (Array.getElem?_eq_some_iff.1 KR3.out).1).trans KR3.out)
            have HST4 := Lib.hid (HST3.out.below hb4)
            clear hb4 s0 s1 s2 s3 s4 r0 r1 r8
            go_wp2
            go_roundw
            case rel => exact ⟨i + 1, by omega, by go_num, KR4, HST4, HB4⟩
            case measure => simp [intOf]; omega
      · have hw0 : g.win ≠ [] := fun e => hm0 (by rw [← HM.out, e]; rfl)
        have hov := HT.out.over hw0
        have t0 : decide ((0 : Int) < (m : Int)) = true := decide_eq_true (by omega)
        have t0n : decide (0 < m) = true := decide_eq_true (by omega)
        have z1 : IntKind.i64.wrap ((E : Int) - 1) = (E : Int) - 1 := wrap_small _ (by omega) (by omega)
        have t1 : ((i : Int) == (E : Int) - 1) = true := by simp; omega
        have t2 : decide ((1 : Int) ≤ (g.darts : Int)) = true := decide_eq_true (by omega)
        have t2n : decide (1 ≤ g.darts) = true := decide_eq_true (by omega)
        have t3 : decide ((g.darts : Int) ≤ 3) = true := decide_eq_true (by omega)
        have t3n : decide (g.darts ≤ 3) = true := decide_eq_true (by omega)
        clear hw0
        go_upto_region 8 with fail
        rw [HW3.out, HB10.out]
        clear c0 c1 c2 c3 c4
        go_wp2_with fail
        refine (known_any w3).mono ?_
        rintro e w4 ⟨rfl, hb4⟩
        have HB4 := Lib.hid (bThen HB3.out hb4)
        clear hb4 s0 s1 s2 s3 s4 r0 r1 r8
        go_wp2
        go_ret
        exact ⟨rfl, HB4.out⟩
    · obtain rfl : i = E := by omega
      have d1 : decide ((i : Int) < (i : Int)) = false := decide_eq_false (by omega)
      go_wp2_with fail
      refine (known_any wo).mono ?_
      rintro e w4 ⟨rfl, hb4⟩
      have HB4 := Lib.hid (bThen HB.out hb4)
      clear hb4
      go_wp2
      go_ret
      exact ⟨rfl, HB4.out⟩
end Go.Proofs.Ytnhggfnnolfcdaa
