/- The texts MV, XA, Cpy4, XB, in build order. -/
import Derived.Test.YtnhggfnnolfcdaaZay

/- Chapter 4, in plain Lean: what is true of all games that are played one after another. -/
namespace Go.Proofs.Ytnhggfnnolfcdaa
open Go.RowKit Go.Oche Go.Proofs
theorem playS_all {r : Rul} (P : Nat → Gam → Prop) (hstep : ∀ k g y, Good r k g → P k g → g.win = [] → P (k + 1) (stepS r g y)) : ∀ (l : List Nat) (k : Nat) (g : Gam), Good r k g → P k g → ∀ (i : Nat) (h : Gam), (g :: (playS r g l).map (·.2))[i]? = some h → Good r (k + i) h ∧ P (k + i) h ∧ (h.win ≠ [] → i + 1 = (g :: (playS r g l).map (·.2)).length)
  | [], k, g, hg, hp, i, h, hi => by
    cases i with
    | zero => simp [playS] at hi ⊢; subst hi; exact ⟨hg, hp⟩
    | succ i => simp [playS] at hi
  | y :: l, k, g, hg, hp, i, h, hi => by
    by_cases hw : g.win = []
    · have e : playS r g (y :: l) = (dartS r g y, stepS r g y) :: playS r (stepS r g y) l := by rw [playS, if_pos hw]
      have hG : Good r (k + 1) (stepS r g y) := hg.throw hw (okBed_hit (dartS_ok (hg.live hw) y))
      rw [e] at hi ⊢
      cases i with
      | zero =>
        simp only [List.getElem?_cons_zero, Option.some.injEq] at hi
        subst hi
        exact ⟨hg, hp, fun h => (h hw).elim⟩
      | succ i =>
        rw [List.map_cons] at hi ⊢
        have := playS_all P hstep l (k + 1) (stepS r g y) hG (hstep k g y hg hp hw) i h (by simpa using hi)
        rw [show k + (i + 1) = k + 1 + i by omega]
        refine ⟨this.1, this.2.1, fun hh => ?_⟩
        rw [List.length_cons, ← this.2.2 hh]
    · have e : playS r g (y :: l) = [] := by rw [playS, if_neg hw]
      rw [e] at hi ⊢
      cases i with
      | zero => simp at hi; subst hi; exact ⟨hg, hp, fun _ => rfl⟩
      | succ i => simp at hi
theorem playS_pair {r : Rul} : ∀ (l : List Nat) (k : Nat) (g : Gam), Good r k g → ∀ (i : Nat) (a b : Gam), (g :: (playS r g l).map (·.2))[i]? = some a → (g :: (playS r g l).map (·.2))[i + 1]? = some b → Good r (k + i) a ∧ a.win = [] ∧ ∃ y, b = stepS r a y
  | [], k, g, hg, i, a, b, ha, hb => by simp [playS] at hb
  | y :: l, k, g, hg, i, a, b, ha, hb => by
    by_cases hw : g.win = []
    · have e : playS r g (y :: l) = (dartS r g y, stepS r g y) :: playS r (stepS r g y) l := by rw [playS, if_pos hw]
      have hG : Good r (k + 1) (stepS r g y) := hg.throw hw (okBed_hit (dartS_ok (hg.live hw) y))
      rw [e] at ha hb
      cases i with
      | zero =>
        simp at ha hb
        subst ha hb
        exact ⟨hg, hw, y, rfl⟩
      | succ i =>
        have := playS_pair l (k + 1) (stepS r g y) hG i a b (by simpa using ha) (by simpa using hb)
        rw [show k + (i + 1) = k + 1 + i by omega]
        exact this
    · rw [playS, if_neg hw] at hb; simp at hb
/-- IN TURN: each of the games. -/
structure TurnOk (r : Rul) (n len : Nat) (g : Gam) : Prop where
  over : g.win ≠ [] → n + 1 = len ∧ 1 ≤ g.darts ∧ g.darts ≤ 3
  live : g.win = [] → Live r (9 + 100 * n) g
  turn : g.win = [] → Turn r n g
  good : Good r n g
theorem games_turn {r : Rul} (hc : checkR r = 0) (ys : List Nat) : ∀ (i : Nat) (g : Gam), (gamesS r ys)[i]? = some g → TurnOk r i (gamesS r ys).length g := fun i g hi => by
  have := playS_all (r := r) (fun k g => (g.win = [] → Turn r k g) ∧ (g.win ≠ [] → 1 ≤ g.darts ∧ g.darts ≤ 3)) (fun k g y hg hp hw => by
    have hl := hg.live hw
    have hb := okBed_hit (dartS_ok hl y)
    refine ⟨fun hn => (hp.1 hw).throw hl hb hn, fun hn => ?_⟩
    have ho := (throw_thrown hl hb).over hn
    have h3 := hl.darts
    have e : (stepS r g y).darts = g.darts + 1 := ho.2.2.2
    omega) ys 0 (initG r) (Good.init hc) ⟨fun _ => Turn.init, fun h => (h rfl).elim⟩ i g hi
  rw [Nat.zero_add] at this
  exact ⟨fun h => ⟨this.2.2 h, this.2.1.2 h⟩, fun h => by have := this.1.live h; exact this, fun h => this.2.1.1 h, this.1⟩
/-- DART BY DART: two games, one after the other. -/
theorem games_step {r : Rul} (hc : checkR r = 0) (ys : List Nat) : ∀ (i : Nat) (a b : Gam), (gamesS r ys)[i]? = some a → (gamesS r ys)[i + 1]? = some b → Inv r (9 + 100 * i) a ∧ Inv r (9 + 100 * (i + 1)) b ∧ ∀ k, k < a.pls.length → StepOk r (k = a.player) (plr a k) (plr b k) := fun i a b ha hb => by
  obtain ⟨hg, hw, y, rfl⟩ := playS_pair ys 0 (initG r) (Good.init hc) i a b ha hb
  rw [Nat.zero_add] at hg
  have hl := hg.live hw
  have hh := okBed_hit (dartS_ok hl y)
  exact ⟨hg.inv, (hg.throw hw hh).inv, fun k hk => throw_step hl hh hk⟩
theorem games_len (r : Rul) (ys : List Nat) : (gamesS r ys).length = (dartsS r ys).length + 1 := by simp [gamesS, dartsS]
theorem lastS_games (r : Rul) : ∀ (l : List Nat) (g : Gam), (g :: (playS r g l).map (·.2))[(playS r g l).length]? = some (lastS r g l)
  | [], g => by simp [playS, lastS]
  | y :: l, g => by
    rw [playS, lastS]
    by_cases hw : g.win = []
    · rw [if_pos hw, if_pos hw, List.length_cons, List.getElem?_cons_succ, List.map_cons]
      exact lastS_games r l (stepS r g y)
    · rw [if_neg hw, if_neg hw]; rfl
theorem games_last (r : Rul) (ys : List Nat) : (gamesS r ys)[(dartsS r ys).length]? = some (lastS r (initG r) ys) := by
  unfold gamesS dartsS; rw [List.length_map]; exact lastS_games r ys (initG r)
/-- One dart more. -/
theorem playG_more {r : Rul} (hc : checkR r = 0) {ys : List Nat} (hl : ys.length < 600) (b : Int) : playG r (dartsS r ys ++ [b]) = if okBed b = false then (none, (dartsS r ys).length, 2) else if (lastS r (initG r) ys).win ≠ [] then (none, (dartsS r ys).length, 9) else (some (throwG r (lastS r (initG r) ys) (b.tdiv 100) (b.tmod 100)), 0, 0) := by
  have hlen : (dartsS r ys).length ≤ ys.length := by unfold dartsS; rw [List.length_map]; exact playS_len r ys _
  have h := (playS_play ys 0 (initG r) (Good.init hc)).1
  rw [playG_of hc (by simp; omega)]
  have hs := playF_snoc (b := b) _ 0 (initG r) _ _ _ h
  have e : dartsS r ys = (playS r (initG r) ys).map (·.1) := rfl
  rw [e, hs, Nat.zero_add]
  rw [playF]
  cases okBed b
  · rfl
  · by_cases hw : (lastS r (initG r) ys).win = []
    · simp [hw, playF]
    · simp [hw]
end Go.Proofs.Ytnhggfnnolfcdaa

/- Chapter 4: what the plain laws begin with: a play's states in memory. -/
namespace Go.Proofs.Ytnhggfnnolfcdaa
open Go.RowKit Go.Oche Go.Proofs
theorem StsV.at_ {S : Nat → Prop} {w : World} {a : Option Addr} {n c : Nat} {gs : List Gam} (h : StsV S w (.slice a n c) gs) {i : Nat} {g : Gam} (hi : gs[i]? = some g) : ∃ b o pa pc wa wc, a = some ⟨b, o, none⟩ ∧
    (∀ j x, [Value.int .i64 g.round, .int .i64 g.player, .int .i64 g.darts, .slice pa g.pls.length pc, .slice wa g.win.length wc][j]? = some x → w.cell? ⟨b, o + i * 5 + j, none⟩ = some x) ∧
    SlN 9 S w (.slice pa g.pls.length pc) (g.pls.map plrRow) ∧ Sevens g.pls ∧ Sl S w (.slice wa g.win.length wc) (ints g.win) := by
  obtain ⟨rows, h1, h2⟩ := h
  obtain ⟨r, hr, hl, pa, pc, wa, wc, e, h3, h7, h4⟩ := h2.2 i g hi
  have hil : i < rows.length := (List.getElem?_eq_some_iff.1 hr).1
  obtain ⟨b, o, ea, -, -, hc⟩ := h1.cell hil
  have hre : rows[i] = r := by rw [List.getElem?_eq_getElem hil] at hr; exact Option.some.inj hr
  refine ⟨b, o, pa, pc, wa, wc, ea, fun j x hx => hc j x ?_, h3, h7, h4⟩
  rw [hre]
  simp only [Value.agg.injEq] at e
  have e2 : r = [Value.int .i64 g.round, .int .i64 g.player, .int .i64 g.darts, .slice pa g.pls.length pc, .slice wa g.win.length wc] := by
    have := congrArg Array.toList e
    simp at this; exact this
  rw [e2]; exact hx
theorem StsV.len {S : Nat → Prop} {w : World} {v : Value} {gs : List Gam} (h : StsV S w v gs) : ∃ a c, v = .slice a gs.length c ∧ gs.length ≤ c ∧ c ≤ maxLen := by
  obtain ⟨rows, h1, h2⟩ := h
  obtain ⟨a, c, e, l1, l2⟩ := h1.form
  rw [h2.1] at e l1
  exact ⟨a, c, e, l1, l2⟩
theorem play_r {S : Nat → Prop} (k p l f : Nat) (hk : k ≤ 255) (hp : p ≤ 255) (hl : l ≤ 255) (hf : f ≤ 255) (ys : List Nat) (hys : ∀ y ∈ ys, y ≤ 255) (most : Nat) (hmost : most ≤ 500) (r : Rul) (hr : rulS k p l f = r) (D : Nat) (hD : (dartsS r (ys.take most)).length = D) (bv : Value) (w : World) (hb : Sl S w bv (ys.map fun (y : Nat) => Value.int .u8 y)) :
    Calls Try.prog 25 #[.agg #[.int .u8 k, .int .u8 p, .int .u8 l, .int .u8 f], bv, .int .i64 most] w fun e w' => ∃ na nl nc da dc sa sc, e = .returned (.tuple #[.agg #[.int .i64 r.kind, .int .i64 r.players, .int .i64 r.last, .bool r.bull, .bool r.jump, .int .i64 r.rounds, .bool r.cut, .slice na nl nc, .int .i64 r.lives, .bool r.own], .slice da D dc, .slice sa (D + 1) sc, .bool true]) ∧ Below w.heap.size w w' ∧
      Sl (fun _ => True) w' (.slice na nl nc) (ints r.nums) ∧ nl ≤ 8 ∧ Sl (fun _ => True) w' (.slice da D dc) (ints (dartsS r (ys.take most))) ∧ StsV (fun _ => True) w' (.slice sa (D + 1) sc) (gamesS r (ys.take most)) := by
  have hc := playS_any k p l f hk hp hl hf ys hys most hmost bv w hb
  have hrc := rulS_check k p l f
  rw [hr] at hc hrc
  refine hc.mono ?_
  rintro e w' ⟨na, nl, nc, dv, sv, rfl, hb', hs1, hs2, hs3⟩
  obtain ⟨da, dc, rfl, _, _⟩ := hs2.form
  obtain ⟨sa, sc, rfl, _, _⟩ := hs3.len
  rw [ints_length, hD] at hs2
  rw [games_len, hD] at hs3
  rw [ints_length, hD, games_len, hD]
  have hnl : r.nums.length = nl := by obtain ⟨_, _, e, _⟩ := hs1.form; rw [ints_length] at e; cases e; rfl
  refine ⟨na, nl, nc, da, dc, sa, sc, rfl, hb', hs1, ?_, hs2, hs3⟩
  rw [← hnl]
  rcases kind_of hrc with q | q | q | q
  · rw [(ok1 hrc q).2.2.2.2.1]; simp
  · rw [(ok2 hrc q).2.2.2.2.2.1]; simp
  · rw [(ok3 hrc q).2.2.2.2.2.2.1]; simp
  · have := ok4 hrc q; have h1 := this.2.2.1; have h2 := this.2.2.2.2.2.2.2.2.2.2; omega
end Go.Proofs.Ytnhggfnnolfcdaa

/- append([]T{}, l...) once more: the copy is a row of one's own, also where l is empty. -/
namespace Go.Oche
open Go Go.RowKit
section
variable {P : Program} {w : World}
theorem wpList_copyE {ops : Array Oper} {rest : List Oper} {Q : Exit → Act → World → Prop} {o : Oper} {a : Act} (hg : o.guard = none) (s x : Operand) (t : TypeId) (ho : o.op = .call { callee := .builtin .append, args := #[s, x], argTypes := #[t, t] })
    (e : TypeId) (z : Value) (bytes : Nat) (ht : P.underlying t = some (.slice e)) (hi : (P.info? e).map (fun i => (i.zero, i.size, i.bytes)) = some (some z, 1, bytes)) (hzs : z.cells.size = 1)
    (hs : a.eval s = .slice (some ⟨w.heap.size, 0, none⟩) 0 0) {S : Nat → Prop} (v : Value) (xs : List Value) (hx : a.eval x = v) (hsl : Sl S w v xs) (h1 : ∀ u ∈ xs, u.oneCell' = true)
    (h63 : xs.length ≤ 100000) (hbytes : bytes ≤ 1000)
    (hK : ∀ g c w', Below w.heap.size w w' → w'.ownsRow w.heap.size e 1 (.slice (some ⟨g, 0, none⟩) xs.length c) xs.length xs → wpList P ops Q rest (a.put o.dst (.slice (some ⟨g, 0, none⟩) xs.length c)) w') : wpList P ops Q (o :: rest) a (w.alloc (.cells #[] e)) := by
  by_cases h0 : 0 < xs.length
  · refine wpList_copyO hg s x t ho e z bytes ht hi hzs hs v xs hx hsl h1 h0 h63 hbytes fun v' w' hb ho => ?_
    obtain ⟨g, c, rfl⟩ : ∃ g c, v' = .slice (some ⟨g, 0, none⟩) xs.length c := by
      rcases ho.2 with ⟨_, h⟩ | ⟨g, c, cur, h, _⟩
      · omega
      · exact ⟨g, c, h⟩
    exact hK g c w' hb ho
  · have hn : xs = [] := List.eq_nil_of_length_eq_zero (by omega)
    subst hn
    obtain ⟨al, cap, rfl, hc1, hc2, hcell⟩ := hsl
    obtain ⟨i, hi', hz0, hz1, hz2⟩ := info_parts hi
    refine wpList_opOK hg (R := fun v' w' => v' = .slice (some ⟨w.heap.size, 0, none⟩) 0 0 ∧ w' = w.alloc (.cells #[] e)) ?_ ?_
    · unfold opOK execOp
      simp only [ho, resolve, invoke, builtin, Sem.run_bind, Sem.run_pure, Result.andThen_ok, List.map_toArray, List.map_cons, List.map_nil, hs, hx, List.length_nil, run_append_empty t o.type e i z ht hi' hz0]
      first | exact ⟨rfl, rfl⟩ | simp
    · rintro _ _ ⟨rfl, rfl⟩
      exact hK w.heap.size 0 _ (aB _ _) (World.ownsRow_made w #[] 0 (Nat.le_refl _) (Nat.zero_le _) (by simp))
end
end Go.Oche

/- Chapter 4: darts copied, as a row of one's own; a game after one dart more. -/
namespace Go.Proofs.Ytnhggfnnolfcdaa
open Go.RowKit Go.Oche Go.Proofs
theorem ints_oneC (xs : List Int) : ∀ u ∈ ints xs, u.oneCell' = true := by
  intro u hu
  obtain ⟨z, _, rfl⟩ := List.mem_map.1 hu
  rfl
set_option maxRecDepth 100000 in
set_option maxHeartbeats 1000000 in
theorem copiedE_any {S : Nat → Prop} (xs : List Int) (n : Nat) (hn : xs.length = n) (v : Value) (w : World) (hs : Sl S w v (ints xs)) (hl : n ≤ 100000) :
    Calls Try.prog 11 #[v] w fun e w' => ∃ g c, e = .returned (.slice (some ⟨g, 0, none⟩) n c) ∧ Below w.heap.size w w' ∧ w'.ownsRow w.heap.size 63 1 (.slice (some ⟨g, 0, none⟩) n c) n (ints xs) := by
  have HS := Lib.hid hs
  have HN := Lib.hid hn
  clear hs hn
  go_enter Try.func11, Try.ntmps11
  go_wp2_with (at_builtin; refine wpList_copyE rfl (.tmp 3) (.tmp 4) 26 rfl 63 (.int .i64 0) 8 Try.underlying26 info_bed rfl rfl _ _ rfl HS.out (ints_oneC xs) (by rw [ints_length, HN.out]; exact hl) (by decide) ?_)
  intro g c w1 hb1 ho1
  rw [HN.out] at ho1
  try rw [ints_length]
  rw [HN.out]
  have HB := Lib.hid hb1
  have HO := Lib.hid ho1
  clear hb1 ho1
  go_wp2
  go_ret
  exact ⟨g, c, rfl, HB.out, HO.out⟩
/-- A state by value: whatever Play returns. -/
theorem play_st {S S' : Nat → Prop} (r : Rul) (va : Option Addr) (nl vc : Nat) (da : Option Addr) (n0 dc : Nat) (darts : List Int) (x : Option Gam × Nat × Int) (hx : playG r darts = x) (hn : darts.length = n0) (h64 : ∀ b ∈ darts, -9223372036854775808 ≤ b ∧ b ≤ 9223372036854775807) (w : World) (hs : Sl S w (.slice va nl vc) (ints r.nums)) (hd : Sl S' w (.slice da n0 dc) (ints darts)) :
    Calls Try.prog 13 #[.agg #[.int .i64 r.kind, .int .i64 r.players, .int .i64 r.last, .bool r.bull, .bool r.jump, .int .i64 r.rounds, .bool r.cut, .slice va nl vc, .int .i64 r.lives, .bool r.own], .slice da n0 dc] w fun e w' => ∃ rd pl d pa n pc wa m wc, e = .returned (.tuple #[.agg #[.int .i64 rd, .int .i64 pl, .int .i64 d, .slice pa n pc, .slice wa m wc], .int .i64 x.2.1, .int .i64 x.2.2]) ∧ Below w.heap.size w w' ∧ StaV (fun _ => True) w' (.agg #[.int .i64 rd, .int .i64 pl, .int .i64 d, .slice pa n pc, .slice wa m wc]) (staOf x.1) := by
  refine (play_any r va nl vc da n0 dc darts hn h64 w hs hd).mono fun e w' ⟨v, he, hb, hst⟩ => ?_
  rw [hx] at he hst
  have h0 := StV.keepS (S' := fun _ => True) hst fun k _ _ => ⟨rfl, trivial⟩
  obtain ⟨pa, pc, wa, wc, hv, -⟩ := hst
  subst hv
  exact ⟨_, _, _, pa, _, pc, wa, _, wc, he, hb, h0⟩
end Go.Proofs.Ytnhggfnnolfcdaa
