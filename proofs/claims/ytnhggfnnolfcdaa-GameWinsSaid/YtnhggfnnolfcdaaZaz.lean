/- The texts MV, XA, Cpy4, XB, MW, JBox2, in build order. -/
import Derived.Test.YtnhggfnnolfcdaaZay

/- Chapter 4, in plain Lean: what is true of all games that are played one after another. -/
namespace Go.Proofs.Ytnhggfnnolfcdaa
open Go.RowKit Go.Oche Go.Proofs
theorem playS_all {r : Rul} (P : Nat → Gam → Prop) (hstep : ∀ k g y, Good r k g → P k g → g.win = [] → P (k + 1) (stepS r g y)) : ∀ (l : List Nat) (k : Nat) (g : Gam), Good r k g → P k g → ∀ (i : Nat) (h : Gam), (g :: (playS r g l).map (·.2))[i]? = some h → Good r (k + i) h ∧ P (k + i) h ∧ (h.win ≠ [] → i + 1 = (g :: (playS r g l).map (·.2)).length)
  | [], k, g, hg, hp, i, h, hi => by
    cases i with
    | zero => simp [playS] at hi ⊢; subst hi; exact ⟨hg, hp⟩
    | succ i => simp [playS] at hi
  | y :: l, k, g, hg, hp, i, h, hi => by
    by_cases hw : g.win = []
    · have e : playS r g (y :: l) = (dartS r g y, stepS r g y) :: playS r (stepS r g y) l := by rw [playS, if_pos hw]
      have hG : Good r (k + 1) (stepS r g y) := hg.throw hw (okBed_hit (dartS_ok (hg.live hw) y))
      rw [e] at hi ⊢
      cases i with
      | zero =>
        simp only [List.getElem?_cons_zero, Option.some.injEq] at hi
        subst hi
        exact ⟨hg, hp, fun h => (h hw).elim⟩
      | succ i =>
        rw [List.map_cons] at hi ⊢
        have := playS_all P hstep l (k + 1) (stepS r g y) hG (hstep k g y hg hp hw) i h (by simpa using hi)
        rw [show k + (i + 1) = k + 1 + i by omega]
        refine ⟨this.1, this.2.1, fun hh => ?_⟩
        rw [List.length_cons, ← this.2.2 hh]
    · have e : playS r g (y :: l) = [] := by rw [playS, if_neg hw]
      rw [e] at hi ⊢
      cases i with
      | zero => simp at hi; subst hi; exact ⟨hg, hp, fun _ => rfl⟩
      | succ i => simp at hi
theorem playS_pair {r : Rul} : ∀ (l : List Nat) (k : Nat) (g : Gam), Good r k g → ∀ (i : Nat) (a b : Gam), (g :: (playS r g l).map (·.2))[i]? = some a → (g :: (playS r g l).map (·.2))[i + 1]? = some b → Good r (k + i) a ∧ a.win = [] ∧ ∃ y, b = stepS r a y
  | [], k, g, hg, i, a, b, ha, hb => by simp [playS] at hb
  | y :: l, k, g, hg, i, a, b, ha, hb => by
    by_cases hw : g.win = []
    · have e : playS r g (y :: l) = (dartS r g y, stepS r g y) :: playS r (stepS r g y) l := by rw [playS, if_pos hw]
      have hG : Good r (k + 1) (stepS r g y) := hg.throw hw (okBed_hit (dartS_ok (hg.live hw) y))
      rw [e] at ha hb
      cases i with
      | zero =>
        simp at ha hb
        subst ha hb
        exact ⟨hg, hw, y, rfl⟩
      | succ i =>
        have := playS_pair l (k + 1) (stepS r g y) hG i a b (by simpa using ha) (by simpa using hb)
        rw [show k + (i + 1) = k + 1 + i by omega]
        exact this
    · rw [playS, if_neg hw] at hb; simp at hb
/-- IN TURN: each of the games. -/
structure TurnOk (r : Rul) (n len : Nat) (g : Gam) : Prop where
  over : g.win ≠ [] → n + 1 = len ∧ 1 ≤ g.darts ∧ g.darts ≤ 3
  live : g.win = [] → Live r (9 + 100 * n) g
  turn : g.win = [] → Turn r n g
  good : Good r n g
theorem games_turn {r : Rul} (hc : checkR r = 0) (ys : List Nat) : ∀ (i : Nat) (g : Gam), (gamesS r ys)[i]? = some g → TurnOk r i (gamesS r ys).length g := fun i g hi => by
  have := playS_all (r := r) (fun k g => (g.win = [] → Turn r k g) ∧ (g.win ≠ [] → 1 ≤ g.darts ∧ g.darts ≤ 3)) (fun k g y hg hp hw => by
    have hl := hg.live hw
    have hb := okBed_hit (dartS_ok hl y)
    refine ⟨fun hn => (hp.1 hw).throw hl hb hn, fun hn => ?_⟩
    have ho := (throw_thrown hl hb).over hn
    have h3 := hl.darts
    have e : (stepS r g y).darts = g.darts + 1 := ho.2.2.2
    omega) ys 0 (initG r) (Good.init hc) ⟨fun _ => Turn.init, fun h => (h rfl).elim⟩ i g hi
  rw [Nat.zero_add] at this
  exact ⟨fun h => ⟨this.2.2 h, this.2.1.2 h⟩, fun h => by have := this.1.live h; exact this, fun h => this.2.1.1 h, this.1⟩
/-- DART BY DART: two games, one after the other. -/
theorem games_step {r : Rul} (hc : checkR r = 0) (ys : List Nat) : ∀ (i : Nat) (a b : Gam), (gamesS r ys)[i]? = some a → (gamesS r ys)[i + 1]? = some b → Inv r (9 + 100 * i) a ∧ Inv r (9 + 100 * (i + 1)) b ∧ ∀ k, k < a.pls.length → StepOk r (k = a.player) (plr a k) (plr b k) := fun i a b ha hb => by
  obtain ⟨hg, hw, y, rfl⟩ := playS_pair ys 0 (initG r) (Good.init hc) i a b ha hb
  rw [Nat.zero_add] at hg
  have hl := hg.live hw
  have hh := okBed_hit (dartS_ok hl y)
  exact ⟨hg.inv, (hg.throw hw hh).inv, fun k hk => throw_step hl hh hk⟩
theorem games_len (r : Rul) (ys : List Nat) : (gamesS r ys).length = (dartsS r ys).length + 1 := by simp [gamesS, dartsS]
theorem lastS_games (r : Rul) : ∀ (l : List Nat) (g : Gam), (g :: (playS r g l).map (·.2))[(playS r g l).length]? = some (lastS r g l)
  | [], g => by simp [playS, lastS]
  | y :: l, g => by
    rw [playS, lastS]
    by_cases hw : g.win = []
    · rw [if_pos hw, if_pos hw, List.length_cons, List.getElem?_cons_succ, List.map_cons]
      exact lastS_games r l (stepS r g y)
    · rw [if_neg hw, if_neg hw]; rfl
theorem games_last (r : Rul) (ys : List Nat) : (gamesS r ys)[(dartsS r ys).length]? = some (lastS r (initG r) ys) := by
  unfold gamesS dartsS; rw [List.length_map]; exact lastS_games r ys (initG r)
/-- One dart more. -/
theorem playG_more {r : Rul} (hc : checkR r = 0) {ys : List Nat} (hl : ys.length < 600) (b : Int) : playG r (dartsS r ys ++ [b]) = if okBed b = false then (none, (dartsS r ys).length, 2) else if (lastS r (initG r) ys).win ≠ [] then (none, (dartsS r ys).length, 9) else (some (throwG r (lastS r (initG r) ys) (b.tdiv 100) (b.tmod 100)), 0, 0) := by
  have hlen : (dartsS r ys).length ≤ ys.length := by unfold dartsS; rw [List.length_map]; exact playS_len r ys _
  have h := (playS_play ys 0 (initG r) (Good.init hc)).1
  rw [playG_of hc (by simp; omega)]
  have hs := playF_snoc (b := b) _ 0 (initG r) _ _ _ h
  have e : dartsS r ys = (playS r (initG r) ys).map (·.1) := rfl
  rw [e, hs, Nat.zero_add]
  rw [playF]
  cases okBed b
  · rfl
  · by_cases hw : (lastS r (initG r) ys).win = []
    · simp [hw, playF]
    · simp [hw]
end Go.Proofs.Ytnhggfnnolfcdaa

/- Chapter 4: what the plain laws begin with: a play's states in memory. -/
namespace Go.Proofs.Ytnhggfnnolfcdaa
open Go.RowKit Go.Oche Go.Proofs
theorem StsV.at_ {S : Nat → Prop} {w : World} {a : Option Addr} {n c : Nat} {gs : List Gam} (h : StsV S w (.slice a n c) gs) {i : Nat} {g : Gam} (hi : gs[i]? = some g) : ∃ b o pa pc wa wc, a = some ⟨b, o, none⟩ ∧
    (∀ j x, [Value.int .i64 g.round, .int .i64 g.player, .int .i64 g.darts, .slice pa g.pls.length pc, .slice wa g.win.length wc][j]? = some x → w.cell? ⟨b, o + i * 5 + j, none⟩ = some x) ∧
    SlN 9 S w (.slice pa g.pls.length pc) (g.pls.map plrRow) ∧ Sevens g.pls ∧ Sl S w (.slice wa g.win.length wc) (ints g.win) := by
  obtain ⟨rows, h1, h2⟩ := h
  obtain ⟨r, hr, hl, pa, pc, wa, wc, e, h3, h7, h4⟩ := h2.2 i g hi
  have hil : i < rows.length := (List.getElem?_eq_some_iff.1 hr).1
  obtain ⟨b, o, ea, -, -, hc⟩ := h1.cell hil
  have hre : rows[i] = r := by rw [List.getElem?_eq_getElem hil] at hr; exact Option.some.inj hr
  refine ⟨b, o, pa, pc, wa, wc, ea, fun j x hx => hc j x ?_, h3, h7, h4⟩
  rw [hre]
  simp only [Value.agg.injEq] at e
  have e2 : r = [Value.int .i64 g.round, .int .i64 g.player, .int .i64 g.darts, .slice pa g.pls.length pc, .slice wa g.win.length wc] := by
    have := congrArg Array.toList e
    simp at this; exact this
  rw [e2]; exact hx
theorem StsV.len {S : Nat → Prop} {w : World} {v : Value} {gs : List Gam} (h : StsV S w v gs) : ∃ a c, v = .slice a gs.length c ∧ gs.length ≤ c ∧ c ≤ maxLen := by
  obtain ⟨rows, h1, h2⟩ := h
  obtain ⟨a, c, e, l1, l2⟩ := h1.form
  rw [h2.1] at e l1
  exact ⟨a, c, e, l1, l2⟩
theorem play_r {S : Nat → Prop} (k p l f : Nat) (hk : k ≤ 255) (hp : p ≤ 255) (hl : l ≤ 255) (hf : f ≤ 255) (ys : List Nat) (hys : ∀ y ∈ ys, y ≤ 255) (most : Nat) (hmost : most ≤ 500) (r : Rul) (hr : rulS k p l f = r) (D : Nat) (hD : (dartsS r (ys.take most)).length = D) (bv : Value) (w : World) (hb : Sl S w bv (ys.map fun (y : Nat) => Value.int .u8 y)) :
    Calls Try.prog 25 #[.agg #[.int .u8 k, .int .u8 p, .int .u8 l, .int .u8 f], bv, .int .i64 most] w fun e w' => ∃ na nl nc da dc sa sc, e = .returned (.tuple #[.agg #[.int .i64 r.kind, .int .i64 r.players, .int .i64 r.last, .bool r.bull, .bool r.jump, .int .i64 r.rounds, .bool r.cut, .slice na nl nc, .int .i64 r.lives, .bool r.own], .slice da D dc, .slice sa (D + 1) sc, .bool true]) ∧ Below w.heap.size w w' ∧
      Sl (fun _ => True) w' (.slice na nl nc) (ints r.nums) ∧ nl ≤ 8 ∧ Sl (fun _ => True) w' (.slice da D dc) (ints (dartsS r (ys.take most))) ∧ StsV (fun _ => True) w' (.slice sa (D + 1) sc) (gamesS r (ys.take most)) := by
  have hc := playS_any k p l f hk hp hl hf ys hys most hmost bv w hb
  have hrc := rulS_check k p l f
  rw [hr] at hc hrc
  refine hc.mono ?_
  rintro e w' ⟨na, nl, nc, dv, sv, rfl, hb', hs1, hs2, hs3⟩
  obtain ⟨da, dc, rfl, _, _⟩ := hs2.form
  obtain ⟨sa, sc, rfl, _, _⟩ := hs3.len
  rw [ints_length, hD] at hs2
  rw [games_len, hD] at hs3
  rw [ints_length, hD, games_len, hD]
  have hnl : r.nums.length = nl := by obtain ⟨_, _, e, _⟩ := hs1.form; rw [ints_length] at e; cases e; rfl
  refine ⟨na, nl, nc, da, dc, sa, sc, rfl, hb', hs1, ?_, hs2, hs3⟩
  rw [← hnl]
  rcases kind_of hrc with q | q | q | q
  · rw [(ok1 hrc q).2.2.2.2.1]; simp
  · rw [(ok2 hrc q).2.2.2.2.2.1]; simp
  · rw [(ok3 hrc q).2.2.2.2.2.2.1]; simp
  · have := ok4 hrc q; have h1 := this.2.2.1; have h2 := this.2.2.2.2.2.2.2.2.2.2; omega
end Go.Proofs.Ytnhggfnnolfcdaa

/- append([]T{}, l...) once more: the copy is a row of one's own, also where l is empty. -/
namespace Go.Oche
open Go Go.RowKit
section
variable {P : Program} {w : World}
theorem wpList_copyE {ops : Array Oper} {rest : List Oper} {Q : Exit → Act → World → Prop} {o : Oper} {a : Act} (hg : o.guard = none) (s x : Operand) (t : TypeId) (ho : o.op = .call { callee := .builtin .append, args := #[s, x], argTypes := #[t, t] })
    (e : TypeId) (z : Value) (bytes : Nat) (ht : P.underlying t = some (.slice e)) (hi : (P.info? e).map (fun i => (i.zero, i.size, i.bytes)) = some (some z, 1, bytes)) (hzs : z.cells.size = 1)
    (hs : a.eval s = .slice (some ⟨w.heap.size, 0, none⟩) 0 0) {S : Nat → Prop} (v : Value) (xs : List Value) (hx : a.eval x = v) (hsl : Sl S w v xs) (h1 : ∀ u ∈ xs, u.oneCell' = true)
    (h63 : xs.length ≤ 100000) (hbytes : bytes ≤ 1000)
    (hK : ∀ g c w', Below w.heap.size w w' → w'.ownsRow w.heap.size e 1 (.slice (some ⟨g, 0, none⟩) xs.length c) xs.length xs → wpList P ops Q rest (a.put o.dst (.slice (some ⟨g, 0, none⟩) xs.length c)) w') : wpList P ops Q (o :: rest) a (w.alloc (.cells #[] e)) := by
  by_cases h0 : 0 < xs.length
  · refine wpList_copyO hg s x t ho e z bytes ht hi hzs hs v xs hx hsl h1 h0 h63 hbytes fun v' w' hb ho => ?_
    obtain ⟨g, c, rfl⟩ : ∃ g c, v' = .slice (some ⟨g, 0, none⟩) xs.length c := by
      rcases ho.2 with ⟨_, h⟩ | ⟨g, c, cur, h, _⟩
      · omega
      · exact ⟨g, c, h⟩
    exact hK g c w' hb ho
  · have hn : xs = [] := List.eq_nil_of_length_eq_zero (by omega)
    subst hn
    obtain ⟨al, cap, rfl, hc1, hc2, hcell⟩ := hsl
    obtain ⟨i, hi', hz0, hz1, hz2⟩ := info_parts hi
    refine wpList_opOK hg (R := fun v' w' => v' = .slice (some ⟨w.heap.size, 0, none⟩) 0 0 ∧ w' = w.alloc (.cells #[] e)) ?_ ?_
    · unfold opOK execOp
      simp only [ho, resolve, invoke, builtin, Sem.run_bind, Sem.run_pure, Result.andThen_ok, List.map_toArray, List.map_cons, List.map_nil, hs, hx, List.length_nil, run_append_empty t o.type e i z ht hi' hz0]
      first | exact ⟨rfl, rfl⟩ | simp
    · rintro _ _ ⟨rfl, rfl⟩
      exact hK w.heap.size 0 _ (aB _ _) (World.ownsRow_made w #[] 0 (Nat.le_refl _) (Nat.zero_le _) (by simp))
end
end Go.Oche

/- Chapter 4: darts copied, as a row of one's own; a game after one dart more. -/
namespace Go.Proofs.Ytnhggfnnolfcdaa
open Go.RowKit Go.Oche Go.Proofs
theorem ints_oneC (xs : List Int) : ∀ u ∈ ints xs, u.oneCell' = true := by
  intro u hu
  obtain ⟨z, _, rfl⟩ := List.mem_map.1 hu
  rfl
set_option maxRecDepth 100000 in
set_option maxHeartbeats 1000000 in
theorem copiedE_any {S : Nat → Prop} (xs : List Int) (n : Nat) (hn : xs.length = n) (v : Value) (w : World) (hs : Sl S w v (ints xs)) (hl : n ≤ 100000) :
    Calls Try.prog 11 #[v] w fun e w' => ∃ g c, e = .returned (.slice (some ⟨g, 0, none⟩) n c) ∧ Below w.heap.size w w' ∧ w'.ownsRow w.heap.size 63 1 (.slice (some ⟨g, 0, none⟩) n c) n (ints xs) := by
  have HS := Lib.hid hs
  have HN := Lib.hid hn
  clear hs hn
  go_enter Try.func11, Try.ntmps11
  go_wp2_with (at_builtin; refine wpList_copyE rfl (.tmp 3) (.tmp 4) 26 rfl 63 (.int .i64 0) 8 Try.underlying26 info_bed rfl rfl _ _ rfl HS.out (ints_oneC xs) (by rw [ints_length, HN.out]; exact hl) (by decide) ?_)
  intro g c w1 hb1 ho1
  rw [HN.out] at ho1
  try rw [ints_length]
  rw [HN.out]
  have HB := Lib.hid hb1
  have HO := Lib.hid ho1
  clear hb1 ho1
  go_wp2
  go_ret
  exact ⟨g, c, rfl, HB.out, HO.out⟩
/-- A state by value: whatever Play returns. -/
theorem play_st {S S' : Nat → Prop} (r : Rul) (va : Option Addr) (nl vc : Nat) (da : Option Addr) (n0 dc : Nat) (darts : List Int) (x : Option Gam × Nat × Int) (hx : playG r darts = x) (hn : darts.length = n0) (h64 : ∀ b ∈ darts, -9223372036854775808 ≤ b ∧ b ≤ 9223372036854775807) (w : World) (hs : Sl S w (.slice va nl vc) (ints r.nums)) (hd : Sl S' w (.slice da n0 dc) (ints darts)) :
    Calls Try.prog 13 #[.agg #[.int .i64 r.kind, .int .i64 r.players, .int .i64 r.last, .bool r.bull, .bool r.jump, .int .i64 r.rounds, .bool r.cut, .slice va nl vc, .int .i64 r.lives, .bool r.own], .slice da n0 dc] w fun e w' => ∃ rd pl d pa n pc wa m wc, e = .returned (.tuple #[.agg #[.int .i64 rd, .int .i64 pl, .int .i64 d, .slice pa n pc, .slice wa m wc], .int .i64 x.2.1, .int .i64 x.2.2]) ∧ Below w.heap.size w w' ∧ StaV (fun _ => True) w' (.agg #[.int .i64 rd, .int .i64 pl, .int .i64 d, .slice pa n pc, .slice wa m wc]) (staOf x.1) := by
  refine (play_any r va nl vc da n0 dc darts hn h64 w hs hd).mono fun e w' ⟨v, he, hb, hst⟩ => ?_
  rw [hx] at he hst
  have h0 := StV.keepS (S' := fun _ => True) hst fun k _ _ => ⟨rfl, trivial⟩
  obtain ⟨pa, pc, wa, wc, hv, -⟩ := hst
  subst hv
  exact ⟨_, _, _, pa, _, pc, wa, _, wc, he, hb, h0⟩
end Go.Proofs.Ytnhggfnnolfcdaa

/- Chapter 4, in plain Lean: who wins: factors that were hit in this visit; whom the groups name. -/
namespace Go.Proofs.Ytnhggfnnolfcdaa
open Go.RowKit Go.Oche Go.Proofs
/-- The factors among the last k darts. -/
def thr (rd : Nat) (ds : List Int) : Nat → Nat
  | 0 => 0
  | k + 1 => if (ds.getD (ds.length - 1 - k) 0).tmod 100 = rd + 1 then thr rd ds k ||| 2 ^ ((ds.getD (ds.length - 1 - k) 0).tdiv 100).toNat else thr rd ds k
theorem thr_lt {rd : Nat} {ds : List Int} (h : ∀ b ∈ ds, okBed b = true) : ∀ k, thr rd ds k < 32
  | 0 => by simp [thr]
  | k + 1 => by
    have ih := thr_lt (rd := rd) h k
    rw [thr]
    split
    · have hf : ((ds.getD (ds.length - 1 - k) 0).tdiv 100).toNat ≤ 4 := by
        by_cases hk : ds.length - 1 - k < ds.length
        · rw [getD_of hk]
          have := (okBed_hit (h _ (List.getElem_mem hk))).f
          omega
        · rw [List.getD_eq_getElem?_getD, List.getElem?_eq_none (by omega)]; decide
      have h2 : 2 ^ ((ds.getD (ds.length - 1 - k) 0).tdiv 100).toNat < 2 ^ 5 := Nat.pow_lt_pow_right (by decide) (by omega)
      exact Nat.or_lt_two_pow (n := 5) ih h2
    · exact ih
theorem thr_bit {rd : Nat} {ds : List Int} {f : Nat} : ∀ k, (∃ j, j < k ∧ (ds.getD (ds.length - 1 - j) 0).tmod 100 = rd + 1 ∧ (ds.getD (ds.length - 1 - j) 0).tdiv 100 = f) → (thr rd ds k).testBit f = true
  | 0, ⟨j, h, _⟩ => by omega
  | k + 1, ⟨j, h, h1, h2⟩ => by
    rw [thr]
    by_cases hjk : j = k
    · subst hjk
      rw [if_pos h1, Nat.testBit_or, h2]
      simp
    · have := thr_bit (rd := rd) (ds := ds) (f := f) k ⟨j, by omega, h1, h2⟩
      split
      · rw [Nat.testBit_or, this]; rfl
      · exact this
theorem and14 : ∀ t : Fin 32, t.val.testBit 1 = true → t.val.testBit 2 = true → t.val.testBit 3 = true → t.val &&& 14 = 14 := by decide
/-- Somebody has more than a winner only if all three factors were hit. -/
theorem more_three {r : Rul} {g : Gam} {ds : List Int} {J : Nat} (hw : Won r g) (hh : HitOk ds g) (hb : ∀ b ∈ ds, okBed b = true) (hJ : ∀ j, j < g.darts → j < ds.length → j < J) {x : Int} (hx : x ∈ g.win) {i : Nat} (hi : i < g.pls.length)
    (hm : ((plr g x.toNat).pts < (plr g i).pts ∧ r.cut = false) ∨ ((plr g i).pts < (plr g x.toNat).pts ∧ r.cut = true)) : r.kind = 3 ∧ thr g.round ds J &&& 14 = 14 := by
  by_cases h : r.kind ≠ 3 ∨ ¬ (g.hit.getD 1 false = true ∧ g.hit.getD 2 false = true ∧ g.hit.getD 3 false = true)
  · have := hw.top h x hx i hi
    rcases hm with hm | hm
    · exact (this.1 hm).elim
    · exact (this.2 hm).elim
  · have hk : r.kind = 3 := by
      by_cases hk : r.kind = 3
      · exact hk
      · exact (h (.inl hk)).elim
    have h3 : g.hit.getD 1 false = true ∧ g.hit.getD 2 false = true ∧ g.hit.getD 3 false = true := by
      by_cases h3 : g.hit.getD 1 false = true ∧ g.hit.getD 2 false = true ∧ g.hit.getD 3 false = true
      · exact h3
      · exact (h (.inr h3)).elim
    have hbit : ∀ f : Nat, g.hit.getD f false = true → (thr g.round ds J).testBit f = true := fun f hf => by
      obtain ⟨j, a, b, c, d⟩ := hh f hf
      exact thr_bit J ⟨j, hJ j a b, c, d⟩
    exact ⟨hk, and14 ⟨_, thr_lt hb J⟩ (hbit 1 h3.1) (hbit 2 h3.2.1) (hbit 3 h3.2.2)⟩
/-- Whom the first groups name. -/
theorem flat_split {gs : List (List Int)} {i : Nat} (hi : i < gs.length) : gs.flatten = (gs.take i).flatten ++ (gs[i] ++ (gs.drop (i + 1)).flatten) := by
  conv => lhs; rw [← List.take_append_drop i gs, List.drop_eq_getElem_cons hi]
  rw [List.flatten_append, List.flatten_cons]
theorem RankOk.fresh {n : Nat} {gs : List (List Int)} (h : RankOk n gs) {i k : Nat} (hi : i < gs.length) (hk : k < gs[i].length) : gs[i][k] ∉ (gs.take i).flatten ++ (gs[i]).take k := by
  have hnd := h.nd
  rw [flat_split hi, List.nodup_append] at hnd
  obtain ⟨-, h2, h3⟩ := hnd
  rw [List.nodup_append] at h2
  intro hm
  rcases List.mem_append.1 hm with hm | hm
  · exact h3 _ hm _ (List.mem_append_left _ (List.getElem_mem hk)) rfl
  · obtain ⟨j, hj, e⟩ := List.getElem_of_mem hm
    rw [List.length_take] at hj
    rw [List.getElem_take] at e
    have := (List.nodup_iff_pairwise_ne.1 h2.1)
    exact (List.pairwise_iff_getElem.1 this) j k (by omega) hk (by omega) e
theorem RankOk.in_ {n : Nat} {gs : List (List Int)} (h : RankOk n gs) {i k : Nat} (hi : i < gs.length) (hk : k < gs[i].length) : 0 ≤ gs[i][k] ∧ (gs[i][k]).toNat < n :=
  h.mem _ (List.mem_flatten.2 ⟨_, List.getElem_mem hi, List.getElem_mem hk⟩)
theorem RankOk.up {n : Nat} {gs : List (List Int)} (h : RankOk n gs) {i k : Nat} (hi : i < gs.length) (hk : k + 1 < gs[i].length) : gs[i][k] < gs[i][k + 1] :=
  (List.pairwise_iff_getElem.1 (h.asc _ (List.getElem_mem hi))) k (k + 1) (by omega) hk (by omega)
theorem games_won {r : Rul} (hc : checkR r = 0) (ys : List Nat) : HitOk (dartsS r ys) (lastS r (initG r) ys) ∧ Won r (lastS r (initG r) ys) := by
  have := playS_hit ys 0 [] (initG r) (Good.init hc) HitOk.init (Won.none rfl)
  simpa [dartsS] using this
theorem rank_first {r : Rul} {g : Gam} (h : g.win ≠ []) : ∃ l, rankG r g = g.win :: l := by
  unfold rankG; rw [if_neg h]; exact ⟨_, rfl⟩
/-- Who was seen. -/
def seenB (l : List Int) (p : Nat) : Bool := decide ((p : Int) ∈ l)
theorem seenB_snoc (l : List Int) (x : Int) (p : Nat) : seenB (l ++ [x]) p = (seenB l p || decide ((p : Int) = x)) := by
  unfold seenB
  rw [Bool.eq_iff_iff]
  simp
end Go.Proofs.Ytnhggfnnolfcdaa

/- A region that draws its order, with two new blocks and a store into each, among operations that only read. -/
namespace Go.Oche
open Go Go.RowKit
/-- Operations ia and ib make blocks, sa and sb fill them. -/
structure JBox2 (w0 : World) (ia ib sa sb : Nat) (t1 t2 : TypeId) (za A zb B : Array Value) (L : Nat → Bool) (vs : Nat → Value) (W : World) : Prop where
  below : Below w0.heap.size w0 W
  a : L ia = true → ∃ p, vs ia = .pointer (some ⟨p, 0, none⟩) ∧ w0.heap.size ≤ p ∧ W.heap[p]? = some (.cells (if L sa = true then A else za) t1 (0, 0))
  b : L ib = true → ∃ p, vs ib = .pointer (some ⟨p, 0, none⟩) ∧ w0.heap.size ≤ p ∧ W.heap[p]? = some (.cells (if L sb = true then B else zb) t2 (0, 0))
  ne : L ia = true → L ib = true → vs ia ≠ vs ib
  na : L ia = false → L sa = false
  nb : L ib = false → L sb = false
section
variable {w0 W W' : World} {ia ib sa sb : Nat} {t1 t2 : TypeId} {za A zb B : Array Value} {L : Nat → Bool} {vs vs' : Nat → Value}
theorem JBox2.congr (hc : ∀ j, L j = true → vs j = vs' j) (h : JBox2 w0 ia ib sa sb t1 t2 za A zb B L vs W) : JBox2 w0 ia ib sa sb t1 t2 za A zb B L vs' W :=
  ⟨h.below, fun hl => hc _ hl ▸ h.a hl, fun hl => hc _ hl ▸ h.b hl, fun h1 h2 => by rw [← hc _ h1, ← hc _ h2]; exact h.ne h1 h2, h.na, h.nb⟩
theorem JBox2.start : JBox2 w0 ia ib sa sb t1 t2 za A zb B (fun _ => false) vs w0.drew :=
  ⟨⟨rfl, rfl, rfl, Nat.le_refl _, fun _ _ => rfl⟩, fun h => (by cases h), fun h => (by cases h), fun h => (by cases h), fun _ => rfl, fun _ => rfl⟩
theorem JBox2.read (h : JBox2 w0 ia ib sa sb t1 t2 za A zb B L vs W) {i : Nat} {v : Value} (h1 : ia ≠ i) (h2 : ib ≠ i) (h3 : sa ≠ i) (h4 : sb ≠ i) : JBox2 w0 ia ib sa sb t1 t2 za A zb B (setB L i) (updV vs i v) W := by
  refine ⟨h.below, ?_, ?_, ?_, ?_, ?_⟩ <;> simp only [setB_ne h1, setB_ne h2, setB_ne h3, setB_ne h4, updV_ne h1, updV_ne h2]
  · exact h.a
  · exact h.b
  · exact h.ne
  · exact h.na
  · exact h.nb
theorem JBox2.mkA (h : JBox2 w0 ia ib sa sb t1 t2 za A zb B L vs W) (hL : L ia = false) (h2 : ib ≠ ia) (h3 : sa ≠ ia) (h4 : sb ≠ ia) : JBox2 w0 ia ib sa sb t1 t2 za A zb B (setB L ia) (updV vs ia (.pointer (some ⟨W.heap.size, 0, none⟩))) (W.alloc (.cells za t1)) := by
  have hb : Below W.heap.size W (W.alloc (.cells za t1)) := aB _ _
  refine ⟨h.below.trans (hb.mono h.below.size), ?_, ?_, ?_, ?_, ?_⟩
  · intro _
    rw [setB_ne h3, h.na hL, updV_eq]
    exact ⟨_, rfl, h.below.size, World.alloc_heap_new _ _⟩
  · rw [setB_ne h2, setB_ne h4, updV_ne h2]
    intro hl
    obtain ⟨p, e1, e2, e3⟩ := h.b hl
    exact ⟨p, e1, e2, (hb.block p (Array.getElem?_eq_some_iff.1 e3).1).trans e3⟩
  · rw [setB_ne h2, updV_ne h2, updV_eq]
    intro _ hl e
    obtain ⟨p, e1, e2, e3⟩ := h.b hl
    rw [e1] at e
    simp only [Value.pointer.injEq, Option.some.injEq, Addr.mk.injEq] at e
    have := (Array.getElem?_eq_some_iff.1 e3).1
    omega
  · rw [setB_eq]; intro h; cases h
  · rw [setB_ne h2, setB_ne h4]; exact h.nb
theorem JBox2.mkB (h : JBox2 w0 ia ib sa sb t1 t2 za A zb B L vs W) (hL : L ib = false) (h2 : ia ≠ ib) (h3 : sa ≠ ib) (h4 : sb ≠ ib) : JBox2 w0 ia ib sa sb t1 t2 za A zb B (setB L ib) (updV vs ib (.pointer (some ⟨W.heap.size, 0, none⟩))) (W.alloc (.cells zb t2)) := by
  have hb : Below W.heap.size W (W.alloc (.cells zb t2)) := aB _ _
  refine ⟨h.below.trans (hb.mono h.below.size), ?_, ?_, ?_, ?_, ?_⟩
  · rw [setB_ne h2, setB_ne h3, updV_ne h2]
    intro hl
    obtain ⟨p, e1, e2, e3⟩ := h.a hl
    exact ⟨p, e1, e2, (hb.block p (Array.getElem?_eq_some_iff.1 e3).1).trans e3⟩
  · intro _
    rw [setB_ne h4, h.nb hL, updV_eq]
    exact ⟨_, rfl, h.below.size, World.alloc_heap_new _ _⟩
  · rw [setB_ne h2, updV_ne h2, updV_eq]
    intro hl _ e
    obtain ⟨p, e1, e2, e3⟩ := h.a hl
    rw [e1] at e
    simp only [Value.pointer.injEq, Option.some.injEq, Addr.mk.injEq] at e
    have := (Array.getElem?_eq_some_iff.1 e3).1
    omega
  · rw [setB_ne h2, setB_ne h3]; exact h.na
  · rw [setB_eq]; intro h; cases h
theorem JBox2.stA (h : JBox2 w0 ia ib sa sb t1 t2 za A zb B L vs W) (hL : L ia = true) {p : Nat} (hp : vs ia = .pointer (some ⟨p, 0, none⟩)) {v : Value} (h1 : ia ≠ sa) (h2 : ib ≠ sa) (h4 : sb ≠ sa) : JBox2 w0 ia ib sa sb t1 t2 za A zb B (setB L sa) (updV vs sa v) (W.setRow p A) := by
  obtain ⟨p', e1, e2, e3⟩ := h.a hL
  have hpp : p' = p := by rw [hp] at e1; simp at e1; exact e1.symm
  subst hpp
  refine ⟨below_setRow h.below e2 _, ?_, ?_, ?_, ?_, ?_⟩
  · rw [setB_ne h1, setB_eq, updV_ne h1]
    exact fun _ => ⟨p', hp, e2, setRow_heap _ _ _ _ _ _ e3⟩
  · rw [setB_ne h2, setB_ne h4, updV_ne h2]
    intro hl
    obtain ⟨q, f1, f2, f3⟩ := h.b hl
    refine ⟨q, f1, f2, (setRow_other _ _ _ _ fun e => ?_).trans f3⟩
    subst e
    exact h.ne hL hl (by rw [hp, f1])
  · rw [setB_ne h1, setB_ne h2, updV_ne h1, updV_ne h2]; exact h.ne
  · rw [setB_ne h1]; intro hf; rw [hL] at hf; cases hf
  · rw [setB_ne h2, setB_ne h4]; exact h.nb
theorem JBox2.stB (h : JBox2 w0 ia ib sa sb t1 t2 za A zb B L vs W) (hL : L ib = true) {p : Nat} (hp : vs ib = .pointer (some ⟨p, 0, none⟩)) {v : Value} (h1 : ia ≠ sb) (h2 : ib ≠ sb) (h3 : sa ≠ sb) : JBox2 w0 ia ib sa sb t1 t2 za A zb B (setB L sb) (updV vs sb v) (W.setRow p B) := by
  obtain ⟨p', e1, e2, e3⟩ := h.b hL
  have hpp : p' = p := by rw [hp] at e1; simp at e1; exact e1.symm
  subst hpp
  refine ⟨below_setRow h.below e2 _, ?_, ?_, ?_, ?_, ?_⟩
  · rw [setB_ne h1, setB_ne h3, updV_ne h1]
    intro hl
    obtain ⟨q, f1, f2, f3⟩ := h.a hl
    refine ⟨q, f1, f2, (setRow_other _ _ _ _ fun e => ?_).trans f3⟩
    subst e
    exact h.ne hl hL (by rw [hp, f1])
  · rw [setB_ne h2, setB_eq, updV_ne h2]
    exact fun _ => ⟨p', hp, e2, setRow_heap _ _ _ _ _ _ e3⟩
  · rw [setB_ne h1, setB_ne h2, updV_ne h1, updV_ne h2]; exact h.ne
  · rw [setB_ne h1, setB_ne h3]; exact h.na
  · rw [setB_ne h2]; intro hf; rw [hL] at hf; cases hf
end
end Go.Oche
