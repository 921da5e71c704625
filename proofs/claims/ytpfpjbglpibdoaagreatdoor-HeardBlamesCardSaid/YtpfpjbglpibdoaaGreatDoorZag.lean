/- The texts KM, HA, HB, HG, HC, HD, KF, in build order. -/
import Derived.Test.YtpfpjbglpibdoaaGreatDoorZaf
import Derived.Handy
import Derived.Deep.DeepCutAuto
import Derived.Deep.CutRange
import Derived.Deep.MidRow
import Derived.Lib.MinMax
import Derived.Laws.NewBlocks

/- Chapter 5: what heard's maps hold; a leg that is known in memory. -/
namespace Go.Proofs.YtpfpjbglpibdoaaGreatDoor
open Go Go.RowKit Go.Oche Go.Proofs

def HoldsM {κ : Type} [DecidableEq κ] (enc : κ → Value) (W : World) (b : Nat) (f : κ → Option Value) : Prop :=
  ∃ L, MapAt enc W b L ∧ (L.map (·.1)).Nodup ∧ ∀ k, lookM L k = f k
def EndsAt (W : World) (b : Nat) (f : En → Option Sm) : Prop := HoldsM enV W b fun x => (f x).map smV
def KnownAt (l : Lg) (F : Nat → Prop) (W : World) (kb : Nat) : Prop :=
  ∃ L, MapAt atV W kb L ∧ (L.map (·.1)).Nodup ∧ ∀ p ∈ L, ∃ b, p.2 = .map (some b) ∧ ¬ F b ∧ EndsAt W b (agg (from5 l p.1.2 p.1.1))
structure Chg (O : Nat → Prop) (W W' : World) : Prop where
  os : W'.os = W.os
  tape : W'.tape = W.tape
  output : W'.output = W.output
  size : W.heap.size ≤ W'.heap.size
  block : ∀ q, q < W.heap.size → ¬ O q → W'.heap[q]? = W.heap[q]?
section
variable {O O' : Nat → Prop} {W W' W'' : World}
theorem Chg.refl : Chg O W W := ⟨rfl, rfl, rfl, Nat.le_refl _, fun _ _ _ => rfl⟩
theorem Chg.trans (h : Chg O W W') (h' : Chg O W' W'') : Chg O W W'' := ⟨h'.os.trans h.os, h'.tape.trans h.tape, h'.output.trans h.output, Nat.le_trans h.size h'.size, fun q hq ho => (h'.block q (Nat.lt_of_lt_of_le hq h.size) ho).trans (h.block q hq ho)⟩
theorem Chg.below (h : Below W.heap.size W W') : Chg O W W' := ⟨h.os, h.tape, h.output, h.size, fun q hq _ => h.block q hq⟩
theorem Chg.grown {o : Option Nat} (h : W.grownBy W' o) (hO : ∀ x, o = some x → x < W.heap.size → O x) : Chg O W W' := ⟨h.os, h.tape, h.output, h.size, fun q hq hn => h.block q hq fun e => hn (hO q e.symm hq)⟩
theorem Chg.mono (h : Chg O W W') (hO : ∀ q, q < W.heap.size → O q → O' q) : Chg O' W W' := ⟨h.os, h.tape, h.output, h.size, fun q hq hn => h.block q hq fun ho => hn (hO q hq ho)⟩
theorem Chg.toGrown {k : Nat} (h : Chg O W W') (hO : ∀ q, q < W.heap.size → O q → q = k) : W.grownBy W' (some k) := ⟨h.os, h.tape, h.output, h.size, fun q hq hn => h.block q hq fun ho => hn (by rw [hO q hq ho])⟩
theorem Chg.toBelow (h : Chg O W W') (hO : ∀ q, q < W.heap.size → ¬ O q) : Below W.heap.size W W' := ⟨h.os, h.tape, h.output, h.size, fun q hq => h.block q hq (hO q hq)⟩
end
def seenN (W : World) (r : Nat) : Nat := match W.heap[r]? with
  | some (.mapIter _ _ seen _) => seen.size
  | _ => 0
theorem SeenD.count {κ : Type} {enc : κ → Value} {W : World} {r b : Nat} {L0 L : List (κ × Value)} {ks : List κ} (h : SeenD enc W r b L0 L ks) : seenN W r = ks.length := by
  obtain ⟨es0, es, c, since, c0, s, q, h1, h2, h3, h4, h5, h6, h7, h8, h9, h10, h11, h12, _⟩ := h
  unfold seenN
  rw [h2]
  have e1 := congrArg List.length h11
  have e2 := congrArg List.length h12
  simp at e1 e2
  simp only; omega
section
variable {κ : Type} [DecidableEq κ] {enc : κ → Value} {W W' : World} {b : Nat} {f g : κ → Option Value}
theorem HoldsM.keep (h : HoldsM enc W b f) (hb : W'.heap[b]? = W.heap[b]?) : HoldsM enc W' b f := by
  obtain ⟨L, h1, h2⟩ := h; exact ⟨L, h1.keep hb, h2⟩
theorem HoldsM.lt (h : HoldsM enc W b f) : b < W.heap.size := by
  obtain ⟨L, ⟨es, c, h1, _⟩, _⟩ := h; exact (Array.getElem?_eq_some_iff.1 h1).1
theorem HoldsM.grown (h : HoldsM enc W b f) {o : Option Nat} (hg : W.grownBy W' o) (hne : some b ≠ o) : HoldsM enc W' b f := h.keep (hg.block b h.lt hne)
theorem HoldsM.below (h : HoldsM enc W b f) (hb : Below W.heap.size W W') : HoldsM enc W' b f := h.keep (hb.block b h.lt)
theorem HoldsM.congr (h : HoldsM enc W b f) (e : ∀ k, f k = g k) : HoldsM enc W b g := by
  obtain ⟨L, h1, h2, h3⟩ := h; exact ⟨L, h1, h2, fun k => by rw [h3, e]⟩
theorem HoldsM.made (W : World) : HoldsM enc (W.alloc (.map #[] 0)) W.heap.size fun _ => none := ⟨[], MapAt.made enc W, List.nodup_nil, fun _ => rfl⟩
theorem lookM_mem {L : List (κ × Value)} {k : κ} {v : Value} (h : lookM L k = some v) : (k, v) ∈ L := by
  unfold lookM at h
  obtain ⟨p, hp, rfl⟩ := Option.map_eq_some_iff.1 h
  have h1 := List.mem_of_find?_eq_some hp
  have h2 := List.find?_some hp
  rw [decide_eq_true_eq] at h2
  rw [← h2]; exact h1
theorem mem_lookM {L : List (κ × Value)} (hn : (L.map (·.1)).Nodup) {k : κ} {v : Value} (h : (k, v) ∈ L) : lookM L k = some v := by
  induction L with
  | nil => cases h
  | cons p L ih =>
    rw [List.map_cons, List.nodup_cons] at hn
    rcases List.mem_cons.1 h with rfl | h
    · simp [lookM]
    · have hne : ¬ p.1 = k := fun e => hn.1 (by rw [e]; exact List.mem_map_of_mem (f := (·.1)) h)
      have := ih hn.2 h
      unfold lookM at this ⊢
      rw [List.find?_cons_of_neg (by simpa using hne)]
      exact this
theorem key_isSome {L : List (κ × Value)} {k : κ} : k ∈ L.map (·.1) ↔ (lookM L k).isSome = true := by
  constructor
  · intro h
    obtain ⟨p, hp, rfl⟩ := List.mem_map.1 h
    unfold lookM
    rw [Option.isSome_map, List.find?_isSome]
    exact ⟨p, hp, by simp⟩
  · intro h
    obtain ⟨v, hv⟩ := Option.isSome_iff_exists.1 h
    exact List.mem_map_of_mem (f := (·.1)) (lookM_mem hv)
theorem upd_nodup {L : List (κ × Value)} (hn : (L.map (·.1)).Nodup) (k : κ) (v : Value) : ((upd L k v).map (·.1)).Nodup := by
  by_cases h : k ∈ L.map (·.1)
  · have : ∀ {L : List (κ × Value)}, k ∈ L.map (·.1) → (upd L k v).map (·.1) = L.map (·.1) := by
      intro L
      induction L with
      | nil => intro h; cases h
      | cons p L ih =>
        intro h
        rw [upd]
        by_cases e : p.1 = k
        · rw [if_pos e]; simp [e]
        · rw [if_neg e, List.map_cons, List.map_cons, ih]
          rcases List.mem_cons.1 h with h | h
          · exact (e h.symm).elim
          · exact h
    rw [this h]; exact hn
  · rw [upd_none h, List.map_append]
    exact List.nodup_append.2 ⟨hn, by simp, fun a ha b hb e => h (by simp at hb; rw [← hb, ← e]; exact ha)⟩
theorem HoldsM.update {P : Program} {K T E : TypeId} (KE : KeyEq P K enc) (ht : P.underlying T = some (.map K E)) (h : HoldsM enc W b f) (k : κ) (v : Value) :
    ∃ W', (Instr.mapUpdate T (.map (some b)) (enc k) v).run P W = .ok () W' ∧ HoldsM enc W' b (fun y => if y = k then some v else f y) ∧ W.grownBy W' (some b) := by
  obtain ⟨L, h1, h2, h3⟩ := h
  obtain ⟨W', hr, hm, hg⟩ := h1.update KE ht k v
  exact ⟨W', hr, ⟨_, hm, upd_nodup h2 k v, fun y => by rw [lookM_upd, h3]; by_cases e : k = y <;> simp [e, eq_comm]⟩, hg⟩
theorem HoldsM.lookup {P : Program} {K T E : TypeId} (KE : KeyEq P K enc) (ht : P.underlying T = some (.map K E)) {z : Value} (hz : (zeroValue E).run P W = .ok z W) (h : HoldsM enc W b f) (k : κ) (c : Bool) :
    (Instr.lookup T (.map (some b)) (enc k) c).run P W = .ok (if c then .tuple #[(f k).getD z, .bool (f k).isSome] else (f k).getD z) W := by
  obtain ⟨L, h1, h2, h3⟩ := h
  rw [← h3]; exact h1.lookup KE ht hz k c
end
theorem EndsAt.lt {W : World} {b : Nat} {f : En → Option Sm} (h : EndsAt W b f) : b < W.heap.size := HoldsM.lt h
theorem EndsAt.grown {W W' : World} {b : Nat} {f : En → Option Sm} (h : EndsAt W b f) {o : Option Nat} (hg : W.grownBy W' o) (hne : some b ≠ o) : EndsAt W' b f := HoldsM.grown h hg hne
theorem EndsAt.below {W W' : World} {b : Nat} {f : En → Option Sm} (h : EndsAt W b f) (hb : Below W.heap.size W W') : EndsAt W' b f := HoldsM.below h hb
theorem EndsAt.congr {W : World} {b : Nat} {f g : En → Option Sm} (h : EndsAt W b f) (e : ∀ x, f x = g x) : EndsAt W b g := HoldsM.congr h fun x => by rw [e]
theorem EndsAt.made (W : World) : EndsAt (W.alloc (.map #[] 0)) W.heap.size fun _ => none := HoldsM.made W
theorem EndsAt.update {W : World} {b : Nat} {f : En → Option Sm} {T : TypeId} (ht : Tryz.prog.underlying T = some (.map 113 121)) (h : EndsAt W b f) (x : En) (s : Sm) :
    ∃ W', (Instr.mapUpdate T (.map (some b)) (enV x) (smV s)).run Tryz.prog W = .ok () W' ∧ EndsAt W' b (fun y => if y = x then some s else f y) ∧ W.grownBy W' (some b) := by
  obtain ⟨W', h1, h2, h3⟩ := HoldsM.update en_key ht h x (smV s)
  exact ⟨W', h1, HoldsM.congr h2 fun y => by by_cases e : y = x <;> simp [e], h3⟩
section
variable {l : Lg} {F F' : Nat → Prop} {W W' : World} {gb hb kb : Nat}
theorem KnownAt.lt (h : KnownAt l F W kb) : kb < W.heap.size := by
  obtain ⟨L, ⟨es, c, h1, _⟩, _⟩ := h; exact (Array.getElem?_eq_some_iff.1 h1).1
theorem KnownAt.keep (h : KnownAt l F W kb) (hk : ∀ q, q < W.heap.size → q = kb ∨ ¬ F q → W'.heap[q]? = W.heap[q]?) : KnownAt l F W' kb := by
  have hlt := h.lt
  obtain ⟨L, h1, h2, h3⟩ := h
  refine ⟨L, h1.keep (hk _ hlt (.inl rfl)), h2, fun p hp => ?_⟩
  obtain ⟨b, hb1, hb2, hb3⟩ := h3 p hp
  exact ⟨b, hb1, hb2, HoldsM.keep hb3 (hk _ hb3.lt (.inr hb2))⟩
theorem KnownAt.more (h : KnownAt l F W kb) (hF : ∀ q, F' q → F q ∨ W.heap.size ≤ q) : KnownAt l F' W kb := by
  obtain ⟨L, h1, h2, h3⟩ := h
  refine ⟨L, h1, h2, fun p hp => ?_⟩
  obtain ⟨b, hb1, hb2, hb3⟩ := h3 p hp
  refine ⟨b, hb1, fun hf => ?_, hb3⟩
  rcases hF b hf with h | h
  · exact hb2 h
  · have := hb3.lt; omega
theorem KnownAt.grown (h : KnownAt l F W kb) {o : Option Nat} (hg : W.grownBy W' o) (hne : ∀ x, o = some x → x ≠ kb ∧ (F x ∨ W.heap.size ≤ x)) : KnownAt l F W' kb :=
  h.keep fun q hq hk => hg.block q hq fun e => by
    have := hne q e.symm
    rcases hk with h | h
    · exact this.1 h
    · rcases this.2 with h' | h'
      · exact h h'
      · omega
theorem KnownAt.put (h : KnownAt l F W kb) {T : TypeId} {E : TypeId} (ht : Tryz.prog.underlying T = some (.map 164 E)) (hk : F kb) {a : Std × Nat} {b : Nat} (hE : EndsAt W b (agg (from5 l a.2 a.1))) (hF : ¬ F b) :
    ∃ W', (Instr.mapUpdate T (.map (some kb)) (atV a) (.map (some b))).run Tryz.prog W = .ok () W' ∧ KnownAt l F W' kb ∧ W.grownBy W' (some kb) := by
  obtain ⟨L, h1, h2, h3⟩ := h
  obtain ⟨W', hr, hm, hg⟩ := h1.update at_key ht a (.map (some b))
  have hn := upd_nodup h2 a (.map (some b))
  refine ⟨W', hr, ⟨_, hm, hn, fun p hp => ?_⟩, hg⟩
  have hlk := mem_lookM hn (show (p.1, p.2) ∈ _ from hp)
  rw [lookM_upd] at hlk
  by_cases e : a = p.1
  · rw [if_pos e] at hlk
    have e2 := (Option.some.inj hlk).symm
    rw [← e]
    exact ⟨b, e2, hF, hE.grown hg fun q => hF (by cases q; exact hk)⟩
  · rw [if_neg e] at hlk
    obtain ⟨b', hb1, hb2, hb3⟩ := h3 (p.1, p.2) (lookM_mem hlk)
    exact ⟨b', hb1, hb2, hb3.grown hg fun q => hb2 (by cases q; exact hk)⟩
theorem KnownAt.look (h : KnownAt l F W kb) {T : TypeId} (ht : Tryz.prog.underlying T = some (.map 164 110)) (a : Std × Nat) :
    ∃ mv hasx, (∀ w, Below W.heap.size W w → (Instr.lookup T (.map (some kb)) (atV a) true).run Tryz.prog w = .ok (.tuple #[mv, .bool hasx]) w) ∧ (hasx = true → ∃ b, mv = .map (some b) ∧ ¬ F b ∧ EndsAt W b (agg (from5 l a.2 a.1))) := by
  obtain ⟨L, h1, h2, h3⟩ := h
  refine ⟨(lookM L a).getD (.map none), (lookM L a).isSome, fun w hw => (h1.below hw).lookup at_key ht (zero_ends w) a true, fun hs => ?_⟩
  obtain ⟨v, hv⟩ := Option.isSome_iff_exists.1 hs
  obtain ⟨b, hb1, hb2, hb3⟩ := h3 _ (lookM_mem hv)
  rw [hv]
  exact ⟨b, hb1, hb2, hb3⟩
def gameCells (l : Lg) (bv : Value) (hb kb : Nat) : Array Value := #[.int .i64 l.start, .int .i64 l.gin, .int .i64 l.gout, bv, .int .i64 l.players, .int .i64 l.turns, .bool l.won, .map (some hb), .map (some kb)]
structure GameAt (l : Lg) (F : Nat → Prop) (W : World) (gb hb kb : Nat) : Prop where
  box : ∃ bv, W.heap[gb]? = some (.cells (gameCells l bv hb kb) 173 (0, 0))
  hits : HoldsM htV W hb fun h => if h ∈ hits5 l then some (.int .i64 ((hits5 l).count h : Nat)) else none
  known : KnownAt l F W kb
  fg : F gb
  fh : F hb
  fk : F kb
  hk : hb ≠ kb
  gk : gb ≠ kb
theorem GameAt.lt (h : GameAt l F W gb hb kb) : gb < W.heap.size ∧ hb < W.heap.size ∧ kb < W.heap.size := by
  obtain ⟨bv, hbx⟩ := h.box
  exact ⟨(Array.getElem?_eq_some_iff.1 hbx).1, h.hits.lt, h.known.lt⟩
theorem GameAt.grown (h : GameAt l F W gb hb kb) {o : Option Nat} (hg : W.grownBy W' o) (hne : ∀ x, o = some x → x ≠ kb ∧ x ≠ gb ∧ x ≠ hb ∧ (F x ∨ W.heap.size ≤ x)) : GameAt l F W' gb hb kb := by
  have hlt := h.lt
  obtain ⟨bv, hbx⟩ := h.box
  exact ⟨⟨bv, (hg.block gb hlt.1 fun e => (hne gb e.symm).2.1 rfl).trans hbx⟩, h.hits.grown hg fun e => (hne hb e.symm).2.2.1 rfl, h.known.grown hg fun x hx => ⟨(hne x hx).1, (hne x hx).2.2.2⟩, h.fg, h.fh, h.fk, h.hk, h.gk⟩
theorem GameAt.new (h : GameAt l F W gb hb kb) {o : Option Nat} (hg : W.grownBy W' o) (hne : ∀ x, o = some x → W.heap.size ≤ x) : GameAt l F W' gb hb kb :=
  h.grown hg fun x hx => by have h1 := hne x hx; have h2 := h.lt; exact ⟨by omega, by omega, by omega, .inr h1⟩
theorem GameAt.below (h : GameAt l F W gb hb kb) (hbl : Below W.heap.size W W') : GameAt l F W' gb hb kb :=
  h.new (o := none) ⟨hbl.os, hbl.tape, hbl.output, hbl.size, fun q hq _ => hbl.block q hq⟩ fun x hx => by cases hx
theorem GameAt.learn (h : GameAt l F W gb hb kb) (hg : W.grownBy W' (some kb)) (hk : KnownAt l F W' kb) : GameAt l F W' gb hb kb := by
  have hlt := h.lt
  obtain ⟨bv, hbx⟩ := h.box
  exact ⟨⟨bv, (hg.block gb hlt.1 fun e => h.gk (Option.some.inj e)).trans hbx⟩, h.hits.grown hg fun e => h.hk (Option.some.inj e), hk, h.fg, h.fh, h.fk, h.hk, h.gk⟩
theorem GameAt.more (h : GameAt l F W gb hb kb) (h1 : ∀ q, F' q → F q ∨ W.heap.size ≤ q) (h2 : ∀ q, F q → F' q) : GameAt l F' W gb hb kb :=
  ⟨h.box, h.hits, h.known.more h1, h2 _ h.fg, h2 _ h.fh, h2 _ h.fk, h.hk, h.gk⟩
theorem GameAt.less (h : GameAt l F W gb hb kb) (h1 : ∀ q, F' q → F q) (hg : F' gb) (hh : F' hb) (hkb : F' kb) : GameAt l F' W gb hb kb :=
  ⟨h.box, h.hits, h.known.more fun q hq => .inl (h1 q hq), hg, hh, hkb, h.hk, h.gk⟩
theorem GameAt.cells (h : GameAt l F W gb hb kb) : W.cell? ⟨gb, 0, none⟩ = some (.int .i64 l.start) ∧ W.cell? ⟨gb, 1, none⟩ = some (.int .i64 l.gin) ∧ W.cell? ⟨gb, 2, none⟩ = some (.int .i64 l.gout) ∧ W.cell? ⟨gb, 4, none⟩ = some (.int .i64 l.players) ∧ W.cell? ⟨gb, 5, none⟩ = some (.int .i64 l.turns) ∧ W.cell? ⟨gb, 6, none⟩ = some (.bool l.won) ∧ W.cell? ⟨gb, 7, none⟩ = some (.map (some hb)) ∧ W.cell? ⟨gb, 8, none⟩ = some (.map (some kb)) := by
  obtain ⟨bv, hbx⟩ := h.box
  refine ⟨?_, ?_, ?_, ?_, ?_, ?_, ?_, ?_⟩ <;> rw [cell_of_heap hbx] <;> rfl
end
end Go.Proofs.YtpfpjbglpibdoaaGreatDoor

/- Chapter 5: the leaves: beds, gates, counts. -/
namespace Go.Oche
open Go Go.RowKit
theorem Sl.cell {S : Nat → Prop} {w : World} {a : Option Addr} {n cap : Nat} {xs : List Int} (h : Sl S w (.slice a n cap) (ints xs)) {k : Nat} (hk : k < xs.length) : ∃ b off, a = some ⟨b, off, none⟩ ∧ S b ∧ w.cell? ⟨b, off + k, none⟩ = some (.int .i64 xs[k]) := by
  obtain ⟨a', cap', e, _, _, h4⟩ := h
  cases e
  exact h4 k _ (intsAt hk)
end Go.Oche
namespace Go.Proofs.YtpfpjbglpibdoaaGreatDoor
open Go.RowKit Go.Oche Go.Proofs

theorem split_any (b : Int) (hb : -2 ^ 63 ≤ b ∧ b < 2 ^ 63) (w : World) : Calls Tryz.prog 79 #[.int .i64 b] w fun e w' => e = .returned (.tuple #[.int .i64 (b.tdiv 100), .int .i64 (b.tmod 100)]) ∧ w = w' := by
  go_enter Tryz.func79, Tryz.ntmps79
  go_wp2
  go_returns
  exact ⟨rfl, rfl⟩
theorem lowest_any (g : Int) (w : World) : Calls Tryz.prog 82 #[.int .i64 g] w fun e w' => e = .returned (.int .i64 (low5 g)) ∧ w = w' := by
  obtain ⟨c, hc⟩ : ∃ c, (g == 0) = c := ⟨_, rfl⟩
  have HC : Hid (low5 g = if c = true then 1 else 2) := Lib.hid (by rw [← hc]; simp [low5])
  go_enter Tryz.func82, Tryz.ntmps82
  cases c <;> go_wp2 <;> (go_ret; exact ⟨ret_int (by rw [HC.out]; rfl), rfl⟩)
theorem within_r {S : Nat → Prop} (lo hi n : Int) (r : Bool) (hr : Hid (isIn n lo hi = r)) (v : Value) (w : World) (hs : Sl S w v (ints [n])) :
    Calls Tryz.prog 49 #[.int .i64 lo, .int .i64 hi, v] w fun e w' => e = .returned (.bool r) ∧ Below w.heap.size w w' := by
  rw [← hr.out]
  exact (within_any lo hi [n] v w hs).mono fun e w' ⟨h, hb⟩ => ⟨by rw [h, out_one], hb⟩
theorem opens_any (b g : Int) (hb : -2 ^ 63 ≤ b ∧ b < 2 ^ 63) (w : World) : Calls Tryz.prog 91 #[.int .i64 b, .int .i64 g] w fun e w' => e = .returned (.bool (opens5 b g)) ∧ w = w' := by
  obtain ⟨c, hc⟩ : ∃ c, (g == 1) = c := ⟨_, rfl⟩
  obtain ⟨d, hd⟩ : ∃ d, (g == 2) = d := ⟨_, rfl⟩
  obtain ⟨f, hf⟩ : ∃ f, b.tdiv 100 = f := ⟨_, rfl⟩
  have HC : Hid (opens5 b g = if c = true then f == 2 else if d = true then decide (2 ≤ f) else true) := Lib.hid (by rw [← hc, ← hd, ← hf]; simp [opens5])
  have HB := Lib.hid hb
  have HF := Lib.hid hf
  clear hb hf
  go_enter Tryz.func91, Tryz.ntmps91
  go_wp2_with fail
  refine (split_any b HB.out _).mono ?_
  rintro e w' ⟨rfl, rfl⟩
  rw [HF.out]
  cases c
  · cases d <;> go_wp2 <;> (go_ret; exact ⟨ret_bool (by rw [HC.out]; simp), rfl⟩)
  · go_wp2
    go_ret
    exact ⟨ret_bool (by rw [HC.out]; simp), rfl⟩
theorem isBed_any (b : Int) (hb : -2 ^ 63 ≤ b ∧ b < 2 ^ 63) (w : World) : Calls Tryz.prog 48 #[.int .i64 b] w fun e w' => e = .returned (.bool (isBed5 b)) ∧ Below w.heap.size w w' := by
  obtain ⟨f, hf⟩ : ∃ f, b.tdiv 100 = f := ⟨_, rfl⟩
  obtain ⟨n, hn⟩ : ∃ n, b.tmod 100 = n := ⟨_, rfl⟩
  obtain ⟨r1, hr1⟩ : ∃ r, isIn f 1 4 = r := ⟨_, rfl⟩
  obtain ⟨r2, hr2⟩ : ∃ r, isIn n 1 20 = r := ⟨_, rfl⟩
  obtain ⟨c, hc⟩ : ∃ c, (b == 125) = c := ⟨_, rfl⟩
  obtain ⟨d, hd⟩ : ∃ d, (b == 225) = d := ⟨_, rfl⟩
  have HC : Hid (isBed5 b = ((r1 && r2) || c || d)) := Lib.hid (by rw [← hr1, ← hr2, ← hf, ← hn, ← hc, ← hd]; rfl)
  have HB := Lib.hid hb
  have HF := Lib.hid hf
  have HN := Lib.hid hn
  have HR1 := Lib.hid hr1
  have HR2 := Lib.hid hr2
  clear hb hf hn hr1 hr2
  go_enter Tryz.func48, Tryz.ntmps48
  go_wp2_with fail
  refine (split_any b HB.out _).mono ?_
  rintro e w' ⟨rfl, rfl⟩
  rw [HF.out, HN.out]
  go_wp2_with fail
  refine (within_r 1 4 f r1 HR1 _ _ (Sl.new1 (fun _ => True) w trivial 3 (.int .i64 f))).mono ?_
  rintro e w2 ⟨rfl, hb2⟩
  have HB2 := Lib.hid (bThen (aB w _) hb2)
  clear hb2
  cases r1
  · cases c <;> cases d <;> go_wp2 <;> (go_ret; exact ⟨ret_bool (by rw [HC.out]; rfl), HB2.out⟩)
  · go_wp2_with fail
    refine (within_r 1 20 n r2 HR2 _ _ (Sl.new1 (fun _ => True) w2 trivial 3 (.int .i64 n))).mono ?_
    rintro e w3 ⟨rfl, hb3⟩
    have HB3 := Lib.hid (bThen HB2.out (bThen (aB w2 _) hb3))
    clear hb3
    cases r2 <;> cases c <;> cases d <;> go_wp2 <;> (go_ret; exact ⟨ret_bool (by rw [HC.out]; rfl), HB3.out⟩)
end Go.Proofs.YtpfpjbglpibdoaaGreatDoor

/- Chapter 5: whether beds rise; beds that are none. -/
namespace Go.Proofs.YtpfpjbglpibdoaaGreatDoor
open Go.RowKit Go.Oche Go.Proofs

def cmp3 (a b : Int) : Int := if a < b then -1 else if b < a then 1 else 0
theorem isNaNb_any (a : Int) (w : World) : Calls Tryz.prog 77 #[.int .i64 a] w fun e w' => e = .returned (.bool false) ∧ w = w' := by
  go_enter Tryz.func77, Tryz.ntmps77
  go_wp2
  go_ret
  exact ⟨ret_bool (by simp), rfl⟩
theorem compareB_any (a b : Int) (w : World) : Calls Tryz.prog 44 #[.int .i64 a, .int .i64 b] w fun e w' => e = .returned (.int .i64 (cmp3 a b)) ∧ w = w' := by
  obtain ⟨c, hc⟩ : ∃ c, cmp3 a b = c := ⟨_, rfl⟩
  unfold cmp3 at hc
  have hc' := hc
  have H := Lib.hid hc
  rw [show cmp3 a b = c from hc']
  clear hc hc'
  go_enter Tryz.func44, Tryz.ntmps44
  go_wp2_with (go_at_call 77; refine (isNaNb_any _ _).mono ?_; rintro e w' ⟨rfl, rfl⟩)
  all_goals
    go_ret
    refine ⟨ret_int ?_, rfl⟩
    rw [← H.out]
    repeat' (first | omega | split)
set_option maxRecDepth 100000 in
set_option maxHeartbeats 1000000 in
theorem or_any (q : Nat) (x y : Int) (w : World) (h0 : w.cell? ⟨q, 0, none⟩ = some (.int .i64 x)) (h1 : w.cell? ⟨q, 1, none⟩ = some (.int .i64 y)) :
    Calls Tryz.prog 43 #[.slice (some ⟨q, 0, none⟩) 2 2] w fun e w' => e = .returned (.int .i64 (if x = 0 then y else x)) ∧ w = w' := by
  obtain ⟨z, hz⟩ : ∃ z, (if x = 0 then y else x) = z := ⟨_, rfl⟩
  have HZ : Hid ((if x = 0 then y else x) = z) := Lib.hid hz
  rw [hz]
  clear hz
  go_enter Tryz.func43, Tryz.ntmps43
  go_wp2
  go_loop [5, 8] (fun _ i => ∃ k : Nat, k ≤ 2 ∧ i = .int .i64 k ∧ Hid (1 ≤ k → x = 0) ∧ Hid (k = 2 → y = 0)) (fun _ i => 2 - (intOf i).toNat)
  case atStart => exact ⟨0, by omega, rfl, Lib.hid (fun h => by omega), Lib.hid (fun h => by omega)⟩
  case round =>
    obtain ⟨k, hk, rfl, H1, H2⟩ := hrel
    by_cases k0 : k = 0
    · subst k0
      by_cases hx : x = 0
      · have ex : (x != 0) = false := by simp [hx]
        have HX := Lib.hid hx
        clear hx
        go_wp2
        go_round
        case rel => exact ⟨1, by omega, rfl, Lib.hid (fun _ => HX.out), Lib.hid (fun h => by omega)⟩
        case measure => simp [intOf]
      · have ex : (x != 0) = true := by simp [hx]
        have HX := Lib.hid hx
        clear hx
        go_wp2
        go_ret
        exact ⟨ret_int (by rw [← HZ.out, if_neg HX.out]), rfl⟩
    · by_cases k1 : k = 1
      · subst k1
        by_cases hy : y = 0
        · have ey : (y != 0) = false := by simp [hy]
          have HY := Lib.hid hy
          clear hy k0
          go_wp2
          go_round
          case rel => exact ⟨2, by omega, rfl, Lib.hid (fun _ => H1.out (by omega)), Lib.hid (fun _ => HY.out)⟩
          case measure => simp [intOf]
        · have ey : (y != 0) = true := by simp [hy]
          clear hy k0
          go_wp2
          go_ret
          exact ⟨ret_int (by rw [← HZ.out, if_pos (H1.out (by omega))]), rfl⟩
      · obtain rfl : k = 2 := by omega
        clear k0 k1
        go_wp2
        go_ret
        exact ⟨ret_int (by have h2 := H2.out; simp at h2; rw [← HZ.out, if_pos (H1.out (by omega)), h2]), rfl⟩
theorem check1_any (a b : Int) (w : World) : Calls Tryz.prog 42 #[.int .i64 a, .int .i64 b] w fun e w' => e = .returned (.int .i64 (if cmp3 a b = 0 then -1 else cmp3 a b)) ∧ Below w.heap.size w w' := by
  obtain ⟨c, hc⟩ : ∃ c, cmp3 a b = c := ⟨_, rfl⟩
  have HC := Lib.hid hc
  rw [hc]
  clear hc
  obtain ⟨z, hz⟩ : ∃ z, (if c = 0 then -1 else c) = z := ⟨_, rfl⟩
  have HZ : Hid ((if c = 0 then -1 else c) = z) := Lib.hid hz
  rw [hz]
  clear hz
  go_enter Tryz.func42, Tryz.ntmps42
  go_wp2_with fail
  refine (compareB_any a b _).mono ?_
  rintro e w' ⟨rfl, rfl⟩
  rw [HC.out]
  go_wp2_with fail
  refine (or_any _ c (-1) _ (by simp) (by simp)).mono ?_
  rintro e w' ⟨rfl, rfl⟩
  rw [HZ.out]
  go_wp2
  go_ret
  exact ⟨rfl, aB _ _⟩
theorem check1_r (a b z : Int) (hz : Hid ((if cmp3 a b = 0 then -1 else cmp3 a b) = z)) (w : World) : Calls Tryz.prog 42 #[.int .i64 a, .int .i64 b] w fun e w' => e = .returned (.int .i64 z) ∧ Below w.heap.size w w' := by
  rw [← hz.out]; exact check1_any a b w
def risesL (l : List Int) : Bool := decide (l.Pairwise (· < ·))
theorem rises_step {l : List Int} : l.Pairwise (· < ·) ↔ ∀ k, (h : k + 1 < l.length) → l[k] < l[k + 1] := by
  constructor
  · intro h k hk; exact List.pairwise_iff_getElem.1 h k (k + 1) (by omega) hk (by omega)
  · intro h
    refine List.pairwise_iff_getElem.2 fun i j hi hj hij => ?_
    have key : ∀ d, (hd : i + 1 + d < l.length) → l[i] < l[i + 1 + d] := by
      intro d
      induction d with
      | zero => intro hd; exact h i hd
      | succ d ih => intro hd; exact Int.lt_trans (ih (by omega)) (h (i + 1 + d) hd)
    have := key (j - i - 1) (by omega)
    have e : i + 1 + (j - i - 1) = j := by omega
    simpa [e] using this
set_option maxRecDepth 100000 in
set_option maxHeartbeats 4000000 in
theorem isSorted_any {S : Nat → Prop} (xs : List Int) (v : Value) (w : World) (hs : Sl S w v (ints xs)) :
    Calls Tryz.prog 41 #[v, .func (.func 42) #[] #[]] w fun e w' => e = .returned (.bool (risesL xs)) ∧ Below w.heap.size w w' := by
  obtain ⟨a, cap, rfl, h2, h3⟩ := hs.form
  simp only [ints_length] at *
  unfold maxLen at h3
  have hwl : IntKind.i64.wrap ((xs.length : Int) - 1) = (xs.length : Int) - 1 := wrap_small _ (by omega) (by omega)
  have HS := Lib.hid hs
  clear hs
  go_enter Tryz.func41, Tryz.ntmps41
  go_wp2
  go_loopw [5] (fun iv wr => ∃ i : Int, -1 ≤ i ∧ i < xs.length ∧ iv = .int .i64 i ∧ Hid (∀ k, (h : k + 1 < xs.length) → i ≤ k → xs[k] < xs[k + 1]) ∧ Hid (Below w.heap.size w wr)) (fun iv _ => (intOf iv).toNat)
  case atStart => exact ⟨(xs.length : Int) - 1, by omega, by omega, rfl, Lib.hid (fun k h hk => by omega), Lib.hid (Below.refl _ _)⟩
  case round =>
    obtain ⟨i, hi0, hi1, rfl, HI, HB⟩ := hrel
    by_cases hi : 0 < i
    · obtain ⟨j, rfl⟩ : ∃ j : Nat, i = (j : Int) + 1 := ⟨(i - 1).toNat, by omega⟩
      have hj : j + 1 < xs.length := by omega
      obtain ⟨x, hx⟩ : ∃ x, xs[j + 1] = x := ⟨_, rfl⟩
      obtain ⟨y, hy⟩ : ∃ y, xs[j] = y := ⟨_, rfl⟩
      obtain ⟨b, off, hal, _, hc⟩ := HS.out.cell hj
      obtain ⟨b', off', hal', _, hc'⟩ := HS.out.cell (show j < xs.length by omega)
      rw [hal] at hal'
      cases hal'
      cases hal
      rw [hx] at hc
      rw [hy] at hc'
      have d0 : decide ((0 : Int) < (j : Int) + 1) = true := decide_eq_true hi
      have hwj : IntKind.i64.wrap ((j : Int) + 1 - 1) = (j : Int) := by rw [Int.add_sub_cancel]; exact wrap_small _ (by omega) (by omega)
      have hwj2 : IntKind.i64.wrap (j : Int) = (j : Int) := wrap_small _ (by omega) (by omega)
      obtain ⟨z, hz⟩ : ∃ z, (if cmp3 x y = 0 then -1 else cmp3 x y) = z := ⟨_, rfl⟩
      obtain ⟨c, hcz⟩ : ∃ c, decide (z < 0) = c := ⟨_, rfl⟩
      have HZ := Lib.hid hz
      have HCZ : Hid (c = decide (x ≤ y)) := Lib.hid (by
        rw [← hcz, ← hz]; unfold cmp3
        by_cases e1 : x < y
        · simp [e1]; omega
        · by_cases e2 : y < x
          · simp [e1, e2]
          · simp [e1, e2]; omega)
      have HX := Lib.hid hx
      have HY := Lib.hid hy
      have KX := Lib.hid (bAt HB.out hc)
      have KY := Lib.hid (bAt HB.out hc')
      clear hx hy hz hc hc'
      go_wp2_with fail
      refine wp_region_seq 12 [.is (.func (.func 42) #[] #[]), .is (.slice (some ⟨b, off, none⟩) xs.length cap), .is (.int .i64 ((j : Int) + 1)), .is (.pointer (some ⟨b, off + (j + 1), none⟩)), .is (.int .i64 x), .is (.slice (some ⟨b, off, none⟩) xs.length cap), .is (.int .i64 ((j : Int) + 1)), .is (.int .i64 (j : Int)), .is (.pointer (some ⟨b, off + j, none⟩)), .is (.int .i64 y), .is (.int .i64 z), .is (.bool c)] rfl mix (by kernel_rfl) (by kernel_rfl) ?seqm
      case seqm =>
        simp only [List.take_succ_cons, List.take_zero]
        iterate 10
          refine seq_on (by rfl) (fun w3 hb3 _ => ?_) ?_
          · have kx := bAt hb3 KX.out
            have ky := bAt hb3 KY.out
            have hp1 : (0 : Int) ≤ (j : Int) + 1 := by omega
            have hp2 : (j : Int) < (xs.length : Int) := by omega
            have hp3 : j < xs.length := by omega
            simp [opOK, go_sem, kx, ky, hwj2, hp1, hp2, hi1, Below.refl]
            try exact rfl
          simp only [Act.put, List.setIfInBounds_toArray, List.set_cons_succ, List.set_cons_zero]
        refine seq_on (by rfl) (fun w3 hb3 hH => ?_) ?_
        · have kx := bAt hb3 KX.out
          have ky := bAt hb3 KY.out
          have hp1 : (0 : Int) ≤ (j : Int) + 1 := by omega
          have hp2 : (j : Int) < (xs.length : Int) := by omega
          have hp3 : j < xs.length := by omega
          refine opOK_call (f := 42) (args := #[.int .i64 x, .int .i64 y]) (by simp [go_sem]) ?_
          exact (check1_r x y z HZ w3).mono fun e W' ⟨he, hb⟩ => ⟨_, he, rfl, hb⟩
        simp only [Act.put, List.setIfInBounds_toArray, List.set_cons_succ, List.set_cons_zero]
        refine seq_on (by rfl) (fun w3 hb3 _ => ?_) ?_
        · have kx := bAt hb3 KX.out
          have ky := bAt hb3 KY.out
          have hp1 : (0 : Int) ≤ (j : Int) + 1 := by omega
          have hp2 : (j : Int) < (xs.length : Int) := by omega
          have hp3 : j < xs.length := by omega
          simp [opOK, go_sem, hcz, Below.refl]
          try exact rfl
        simp only [Act.put, List.setIfInBounds_toArray, List.set_cons_succ, List.set_cons_zero]
        refine seq_end fun w3 hb3 _ => ?_
        simp only [List.drop_succ_cons, List.drop_zero]
        have HB4 := Lib.hid (bThen HB.out hb3)
        clear hb3
        cases c
        · go_wp2
          go_roundw
          case rel => exact ⟨j, by omega, by omega, by go_num, Lib.hid (fun k h hk => by
            by_cases e : k = j
            · subst e; rw [HX.out, HY.out]; have := HCZ.out; simp at this; omega
            · exact HI.out k h (by omega)), HB4⟩
          case measure => simp [intOf]
        · go_wp2
          go_ret
          exact ⟨ret_bool (by
            have h1 : x ≤ y := by have := HCZ.out; simpa using this
            unfold risesL
            rw [eq_comm, decide_eq_false_iff_not, rises_step]
            intro h
            have := h j hj
            rw [HX.out, HY.out] at this
            omega), HB4.out⟩
    · have d0 : decide ((0 : Int) < i) = false := decide_eq_false hi
      go_wp2
      go_ret
      exact ⟨ret_bool (by unfold risesL; rw [eq_comm, decide_eq_true_eq, rises_step]; exact fun k h => HI.out k h (by omega)), HB.out⟩
end Go.Proofs.YtpfpjbglpibdoaaGreatDoor

/- Chapter 5: the error of a leg (Check). -/
namespace Go.Proofs.YtpfpjbglpibdoaaGreatDoor
open Go.RowKit Go.Oche Go.Proofs

def badBed (b : Int) : Bool := !isBed5 b
theorem check2_any (b : Int) (hb : -2 ^ 63 ≤ b ∧ b < 2 ^ 63) (w : World) : Calls Tryz.prog 47 #[.int .i64 b] w fun e w' => e = .returned (.bool (badBed b)) ∧ Below w.heap.size w w' := by
  obtain ⟨r, hr⟩ : ∃ r, isBed5 b = r := ⟨_, rfl⟩
  have HR := Lib.hid hr
  have HB := Lib.hid hb
  unfold badBed
  rw [hr]
  clear hr hb
  go_enter Tryz.func47, Tryz.ntmps47
  go_wp2_with fail
  refine (isBed_any b HB.out _).mono ?_
  rintro e w1 ⟨rfl, hb1⟩
  rw [HR.out]
  go_wp2
  go_returns
  exact ⟨rfl, hb1⟩
theorem check2_r (b : Int) (r : Bool) (hr : Hid (badBed b = r)) (hb : -2 ^ 63 ≤ b ∧ b < 2 ^ 63) (w : World) : Calls Tryz.prog 47 #[.int .i64 b] w fun e w' => e = .returned (.bool r) ∧ Below w.heap.size w w' := by
  rw [← hr.out]; exact check2_any b hb w
def idxBad (xs : List Int) : Int := if xs.any badBed then (xs.findIdx badBed : Nat) else -1
theorem idxBad_hit {xs : List Int} {k : Nat} (hk : k < xs.length) (hp : ∀ j, j < k → ∀ h : j < xs.length, badBed xs[j] = false) (h : badBed xs[k] = true) : idxBad xs = k := by
  have h1 : xs.any badBed = true := List.any_eq_true.2 ⟨xs[k], List.getElem_mem hk, h⟩
  have h2 : xs.findIdx badBed = k := by
    refine (List.findIdx_eq hk).2 ⟨h, fun j hj => ?_⟩
    simpa using hp j hj (by omega)
  simp [idxBad, h1, h2]
theorem idxBad_miss {xs : List Int} (hp : ∀ j, j < xs.length → ∀ h : j < xs.length, badBed xs[j] = false) : idxBad xs = -1 := by
  have h1 : xs.any badBed = false := by
    rw [List.any_eq_false]
    intro x hx
    obtain ⟨j, hj, rfl⟩ := List.mem_iff_getElem.1 hx
    simp [hp j hj hj]
  simp [idxBad, h1]
set_option maxRecDepth 100000 in
set_option maxHeartbeats 1000000 in
theorem indexBad_any {S : Nat → Prop} (xs : List Int) (v : Value) (w : World) (hs : Sl S w v (ints xs)) (hbd : ∀ b ∈ xs, -2 ^ 63 ≤ b ∧ b < 2 ^ 63) :
    Calls Tryz.prog 78 #[v, .func (.func 47) #[] #[]] w fun e w' => e = .returned (.int .i64 (idxBad xs)) ∧ Below w.heap.size w w' := by
  obtain ⟨a, cap, rfl, h2, h3⟩ := hs.form
  simp only [ints_length] at *
  unfold maxLen at h3
  have HS := Lib.hid hs
  have HBD := Lib.hid hbd
  clear hs hbd
  go_enter Tryz.func78, Tryz.ntmps78
  go_wp2
  go_loopw [5, 8] (fun _ i wr => ∃ k : Nat, k ≤ xs.length ∧ i = .int .i64 k ∧ Hid (∀ j, j < k → ∀ h : j < xs.length, badBed xs[j] = false) ∧ Hid (Below w.heap.size w wr)) (fun _ i _ => xs.length - (intOf i).toNat)
  case atStart => exact ⟨0, Nat.zero_le _, rfl, Lib.hid (fun j hj => by omega), Lib.hid (Below.refl _ _)⟩
  case round =>
    obtain ⟨k, hk, rfl, HP, HB⟩ := hrel
    by_cases hlt : k < xs.length
    · obtain ⟨b, off, hal, _, hc⟩ := HS.out.cell hlt
      cases hal
      obtain ⟨x, hx⟩ : ∃ x, xs[k] = x := ⟨_, rfl⟩
      rw [hx] at hc
      replace hc := bAt HB.out hc
      obtain ⟨o, ho⟩ : ∃ o, badBed x = o := ⟨_, rfl⟩
      have HO := Lib.hid ho
      have HX := Lib.hid hx
      have hxb := HBD.out x (by rw [← hx]; exact List.getElem_mem hlt)
      have HXB := Lib.hid hxb
      clear ho hx hxb
      go_wp2_with fail
      refine (check2_r x o HO HXB.out _).mono ?_
      rintro e w2 ⟨rfl, hb2⟩
      have HB2 := Lib.hid (bThen HB.out hb2)
      clear hb2 hc
      cases o
      · go_wp2
        go_roundw
        case rel => exact ⟨k + 1, by omega, by go_num, Lib.hid (fun j hj h => by
          by_cases hjk : j = k
          · subst hjk; rw [HX.out]; exact HO.out
          · exact HP.out j (by omega) h), HB2⟩
        case measure => simp [intOf]; omega
      · go_wp2
        go_ret
        exact ⟨ret_int (idxBad_hit hlt HP.out (by rw [HX.out]; exact HO.out)).symm, HB2.out⟩
    · obtain rfl : k = xs.length := by omega
      go_wp2
      go_ret
      exact ⟨ret_int (idxBad_miss fun j hj h => HP.out j hj h).symm, HB.out⟩
theorem containsBad_any {S : Nat → Prop} (xs : List Int) (v : Value) (w : World) (hs : Sl S w v (ints xs)) (hbd : ∀ b ∈ xs, -2 ^ 63 ≤ b ∧ b < 2 ^ 63) :
    Calls Tryz.prog 46 #[v, .func (.func 47) #[] #[]] w fun e w' => e = .returned (.bool (xs.any badBed)) ∧ Below w.heap.size w w' := by
  go_enter Tryz.func46, Tryz.ntmps46
  go_wp2_with fail
  refine (indexBad_any xs v w hs hbd).mono ?_
  rintro e w2 ⟨rfl, hb2⟩
  go_wp2
  go_ret
  refine ⟨ret_bool ?_, hb2⟩
  unfold idxBad
  cases xs.any badBed <;> simp <;> omega
theorem containsBad_r {S : Nat → Prop} (xs : List Int) (r : Bool) (hr : Hid (xs.any badBed = r)) (v : Value) (w : World) (hs : Sl S w v (ints xs)) (hbd : ∀ b ∈ xs, -2 ^ 63 ≤ b ∧ b < 2 ^ 63) :
    Calls Tryz.prog 46 #[v, .func (.func 47) #[] #[]] w fun e w' => e = .returned (.bool r) ∧ Below w.heap.size w w' := by rw [← hr.out]; exact containsBad_any xs v w hs hbd
theorem isSorted_r {S : Nat → Prop} (xs : List Int) (r : Bool) (hr : Hid (risesL xs = r)) (v : Value) (w : World) (hs : Sl S w v (ints xs)) :
    Calls Tryz.prog 41 #[v, .func (.func 42) #[] #[]] w fun e w' => e = .returned (.bool r) ∧ Below w.heap.size w w' := by rw [← hr.out]; exact isSorted_any xs v w hs
theorem within2_r {S : Nat → Prop} (lo hi : Int) (xs : List Int) (r : Bool) (hr : Hid ((!xs.any (outB lo hi)) = r)) (v : Value) (w : World) (hs : Sl S w v (ints xs)) :
    Calls Tryz.prog 49 #[.int .i64 lo, .int .i64 hi, v] w fun e w' => e = .returned (.bool r) ∧ Below w.heap.size w w' := by
  rw [← hr.out]; exact within_any lo hi xs v w hs
theorem two_in (a b lo hi : Int) : (!([a, b] : List Int).any (outB lo hi)) = (isIn a lo hi && isIn b lo hi) := by
  simp [outB, isIn]; rw [Bool.eq_iff_iff]; simp
theorem isCount_any (l : Lg) (r : Bool) (hr : Hid (okCount l = r)) (w : World) : Calls Tryz.prog 45 #[.agg #[.int .i64 l.start, .int .i64 l.gin, .int .i64 l.gout]] w fun e w' => e = .returned (.bool r) ∧ Below w.heap.size w w' := by
  obtain ⟨b1, hb1⟩ : ∃ b, isIn l.start 2 1001 = b := ⟨_, rfl⟩
  obtain ⟨b2, hb2⟩ : ∃ b, (isIn l.gin 0 2 && isIn l.gout 0 2) = b := ⟨_, rfl⟩
  have HR : Hid (r = (b1 && b2)) := Lib.hid (by rw [← hr.out, ← hb1, ← hb2]; unfold okCount; cases isIn l.start 2 1001 <;> simp)
  have H1 := Lib.hid hb1
  have H2 : Hid ((!([l.gin, l.gout] : List Int).any (outB 0 2)) = b2) := Lib.hid (by rw [two_in]; exact hb2)
  clear hb1 hb2 hr
  obtain ⟨w1, hw1⟩ : ∃ x, w.alloc (.cells #[.int .i64 l.start, .int .i64 l.gin, .int .i64 l.gout] 24) = x := ⟨_, rfl⟩
  have hbw : Below w.heap.size w w1 := by rw [← hw1]; exact aB _ _
  have k : w1.heap[w.heap.size]? = some (.cells #[.int .i64 l.start, .int .i64 l.gin, .int .i64 l.gout] 24 (0, 0)) := by rw [← hw1]; exact World.alloc_heap_new _ _
  have c0 : w1.cell? ⟨w.heap.size, 0, none⟩ = some (.int .i64 l.start) := by rw [cell_of_heap k]; rfl
  have HW := Lib.hid hw1
  have HBW := Lib.hid hbw
  have K := Lib.hid k
  clear hw1 hbw k
  go_enter Tryz.func45, Tryz.ntmps45
  go_upto_region 1 with fail
  rw [HW.out]
  go_wp2_with fail
  refine (within_r 2 1001 l.start b1 H1 _ _ (Sl.new1 (fun _ => True) w1 trivial 3 (.int .i64 l.start))).mono ?_
  rintro e w2 ⟨rfl, hb2⟩
  have HB2 := Lib.hid (bThen HBW.out (bThen (aB w1 _) hb2))
  have k2 := (hb2.block _ (by have := (Array.getElem?_eq_some_iff.1 K.out).1; simp; omega)).trans ((Below.heap_alloc w1 (.cells #[.int .i64 l.start] 3) _ (Array.getElem?_eq_some_iff.1 K.out).1).trans K.out)
  have d1 : w2.cell? ⟨w.heap.size, 1, none⟩ = some (.int .i64 l.gin) := by rw [cell_of_heap k2]; rfl
  have d2 : w2.cell? ⟨w.heap.size, 2, none⟩ = some (.int .i64 l.gout) := by rw [cell_of_heap k2]; rfl
  clear hb2 k2
  cases b1
  · have hr : r = false := HR.out
    clear HR
    subst hr
    go_wp2
    go_returns
    exact ⟨rfl, HB2.out⟩
  · have hr : r = b2 := by have := HR.out; simpa using this
    clear HR
    subst hr
    go_wp2_with fail
    refine (within2_r 0 2 [l.gin, l.gout] _ H2 _ _ (Sl.new (fun _ => True) w2 trivial 3 (ints [l.gin, l.gout]) (by simp [maxLen]))).mono ?_
    rintro e w3 ⟨rfl, hb3⟩
    have HB3 := Lib.hid (bThen HB2.out (bThen (aB w2 _) hb3))
    clear hb3
    go_wp2
    go_returns
    exact ⟨rfl, HB3.out⟩
end Go.Proofs.YtpfpjbglpibdoaaGreatDoor

/- Chapter 5: visits that end so are added to a map of ends. -/
namespace Go.Proofs.YtpfpjbglpibdoaaGreatDoor
open Go.RowKit Go.Oche Go.Proofs

set_option maxRecDepth 100000 in
set_option maxHeartbeats 4000000 in
theorem add_any (b : Nat) (x : En) (s : Sm) (d : Nat) (f : En → Option Sm) (w : World) (h : EndsAt w b f) (hs : s.ways ≤ 10 ^ 15 ∧ s.lo ≤ 1000 ∧ s.hi ≤ 1000) (hd : d ≤ 10) (hf : SmB (10 ^ 15) 1000 (f x)) :
    Calls Tryz.prog 57 #[.map (some b), enV x, smV s, .int .i64 d] w fun e w' => e = .returned (.tuple #[]) ∧ w.grownBy w' (some b) ∧ EndsAt w' b (fun y => if y = x then addO (f x) (some (s.shift d)) else f y) := by
  obtain ⟨xl, xi, xb, xw⟩ := x
  obtain ⟨n, lo, hi⟩ := s
  simp only at hs
  have hw1 : IntKind.i64.wrap ((lo : Int) + d) = ((lo + d : Nat) : Int) := by rw [IntKind.wrap_i64]; omega
  have hw2 : IntKind.i64.wrap ((hi : Int) + d) = ((hi + d : Nat) : Int) := by rw [IntKind.wrap_i64]; omega
  have H := Lib.hid h
  have HF := Lib.hid hf
  clear h hf
  unfold enV smV
  go_enter Tryz.func57, Tryz.ntmps57
  go_upto_region 2 with fail
  obtain ⟨w2, hw⟩ : ∃ x, ((w.alloc (.cells #[.int .i64 xl, .bool xi, .bool xb, .bool xw] 113)).alloc (.cells #[.int .i64 n, .int .i64 ((lo : Int) + d), .int .i64 ((hi : Int) + d)] 121)) = x := ⟨_, rfl⟩
  have hb2 : Below w.heap.size w w2 := by rw [← hw]; exact ((aB _ _)).alloc (by simp) _
  have k5 : w2.heap[w.heap.size]? = some (.cells #[.int .i64 xl, .bool xi, .bool xb, .bool xw] 113 (0, 0)) := by
    rw [← hw]; exact (Below.heap_alloc _ _ _ (by simp)).trans (World.alloc_heap_new _ _)
  have k6 : w2.heap[w.heap.size + 1]? = some (.cells #[.int .i64 n, .int .i64 ((lo : Int) + d), .int .i64 ((hi : Int) + d)] 121 (0, 0)) := by
    rw [← hw, show w.heap.size + 1 = (w.alloc (.cells #[.int .i64 xl, .bool xi, .bool xb, .bool xw] 113)).heap.size by simp]; exact World.alloc_heap_new _ _
  have H2 := Lib.hid (H.out.below hb2)
  have HW := Lib.hid hw
  have HB2 := Lib.hid hb2
  have c0 : w2.cell? ⟨w.heap.size, 0, none⟩ = some (.int .i64 xl) := by rw [cell_of_heap k5]; rfl
  have c1 : w2.cell? ⟨w.heap.size, 1, none⟩ = some (.bool xi) := by rw [cell_of_heap k5]; rfl
  have c2 : w2.cell? ⟨w.heap.size, 2, none⟩ = some (.bool xb) := by rw [cell_of_heap k5]; rfl
  have c3 : w2.cell? ⟨w.heap.size, 3, none⟩ = some (.bool xw) := by rw [cell_of_heap k5]; rfl
  have K6 := Lib.hid k6
  clear hw hb2 k5 k6 hw1 hw2
  rw [HW.out]
  obtain ⟨⟨n0, lo0, hi0⟩, hx⟩ : ∃ t, (f ⟨xl, xi, xb, xw⟩).getD ⟨0, 0, 0⟩ = t := ⟨_, rfl⟩
  obtain ⟨hasx, hh⟩ : ∃ t, (f ⟨xl, xi, xb, xw⟩).isSome = t := ⟨_, rfl⟩
  have hlk : (Instr.lookup 110 (.map (some b)) (.agg #[.int .i64 xl, .bool xi, .bool xb, .bool xw]) true).run Tryz.prog w2 = .ok (.tuple #[.agg #[.int .i64 (n0 : Int), .int .i64 (lo0 : Int), .int .i64 (hi0 : Int)], .bool hasx]) w2 := by
    have := (HoldsM.lookup en_key (T := 110) (E := 121) (by rfl) (zero_some w2) H2.out ⟨xl, xi, xb, xw⟩ true)
    unfold enV at this
    rw [this, ← hh]
    cases e : f ⟨xl, xi, xb, xw⟩ with
    | none => rw [e] at hx; cases hx; rfl
    | some t => rw [e] at hx; simp at hx; subst hx; rfl
  have HFX : Hid (f ⟨xl, xi, xb, xw⟩ = if hasx = true then some ⟨n0, lo0, hi0⟩ else none) := Lib.hid (by
    rw [← hh]
    cases e : f ⟨xl, xi, xb, xw⟩ with
    | none => rfl
    | some t => rw [e] at hx; simp at hx; subst hx; rfl)
  clear hx hh
  obtain ⟨w3, hw3⟩ : ∃ x, w2.alloc (.cells #[.int .i64 (n0 : Int), .int .i64 (lo0 : Int), .int .i64 (hi0 : Int)] 121) = x := ⟨_, rfl⟩
  have hb3 : Below w2.heap.size w2 w3 := by rw [← hw3]; exact aB _ _
  have k8 : w3.heap[w2.heap.size]? = some (.cells #[.int .i64 (n0 : Int), .int .i64 (lo0 : Int), .int .i64 (hi0 : Int)] 121 (0, 0)) := by
    rw [← hw3]; exact World.alloc_heap_new _ _
  have hlt6 : w.heap.size + 1 < w2.heap.size := (Array.getElem?_eq_some_iff.1 K6.out).1
  have k6 := (hb3.block _ hlt6).trans K6.out
  have H3 := Lib.hid (H2.out.below hb3)
  have HB3 := Lib.hid (bThen HB2.out hb3)
  have HW3 := Lib.hid hw3
  have d0 := bAt hb3 c0
  have d1 := bAt hb3 c1
  have d2 := bAt hb3 c2
  have d3 := bAt hb3 c3
  have e0 : w3.cell? ⟨w2.heap.size, 0, none⟩ = some (.int .i64 n0) := by rw [cell_of_heap k8]; rfl
  have e1 : w3.cell? ⟨w2.heap.size, 1, none⟩ = some (.int .i64 lo0) := by rw [cell_of_heap k8]; rfl
  have e2 : w3.cell? ⟨w2.heap.size, 2, none⟩ = some (.int .i64 hi0) := by rw [cell_of_heap k8]; rfl
  have g0 : w3.cell? ⟨w.heap.size + 1, 0, none⟩ = some (.int .i64 n) := by rw [cell_of_heap k6]; rfl
  have g1 : w3.cell? ⟨w.heap.size + 1, 1, none⟩ = some (.int .i64 ((lo : Int) + d)) := by rw [cell_of_heap k6]; rfl
  have g2 : w3.cell? ⟨w.heap.size + 1, 2, none⟩ = some (.int .i64 ((hi : Int) + d)) := by rw [cell_of_heap k6]; rfl
  have fz : w3.frozen? ⟨w.heap.size + 1, 0, none⟩ = false := frozen_of_heap k6
  have fz1 : w3.frozen? ⟨w.heap.size + 1, 1, none⟩ = false := frozen_of_heap k6
  have fz2 : w3.frozen? ⟨w.heap.size + 1, 2, none⟩ = false := frozen_of_heap k6
  have K63 := Lib.hid k6
  have hbl := H3.out.lt
  have hblt := H.out.lt
  clear hw3 hb3 k8 k6 hlt6
  cases hasx
  · have hfx : f ⟨xl, xi, xb, xw⟩ = none := HFX.out
    have HFN := Lib.hid hfx
    clear hfx HFX HF
    go_upto_region 5 with fail
    rw [HW3.out]
    obtain ⟨W', hr, hE, hg⟩ := H3.out.update (T := 110) (by rfl) ⟨xl, xi, xb, xw⟩ ⟨n, lo + d, hi + d⟩
    unfold enV smV at hr
    simp only [Int.natCast_add] at hr
    clear hlk c0 c1 c2 c3 e0 e1 e2 fz fz1 fz2
    have HE := Lib.hid hE
    have HG := Lib.hid hg
    clear hE hg
    go_wp2
    go_returns
    refine ⟨rfl, grownBy_trans (grownBy_below _ HB3.out) HG.out, HE.out.congr fun y => ?_⟩
    rw [HFN.out]; rfl
  · have hfx : f ⟨xl, xi, xb, xw⟩ = some ⟨n0, lo0, hi0⟩ := HFX.out
    have hbd := HF.out _ hfx
    simp only at hbd
    have HFN := Lib.hid hfx
    have hwn : IntKind.i64.wrap ((n : Int) + n0) = (n : Int) + n0 := by rw [IntKind.wrap_i64]; omega
    clear hfx HFX HF
    go_upto_region 4 with fail
    rw [HW3.out]
    clear hlk c0 c1 c2 c3
    go_upto_region 5 with fail
    obtain ⟨w5, hw5⟩ : ∃ x, (((w3.setCell ⟨w.heap.size + 1, 0, none⟩ (.int .i64 ((n : Int) + n0))).setCell ⟨w.heap.size + 1, 1, none⟩ (.int .i64 (min ((lo : Int) + d) lo0))).setCell ⟨w.heap.size + 1, 2, none⟩ (.int .i64 (max ((hi : Int) + d) hi0))) = x := ⟨_, rfl⟩
    have hb5 : Below w.heap.size w w5 := by rw [← hw5]; exact ((HB3.out.setCell (by simp) _).setCell (by simp) _).setCell (by simp) _
    have k6 : w5.heap[w.heap.size + 1]? = some (.cells #[.int .i64 ((n : Int) + n0), .int .i64 (min ((lo : Int) + d) lo0), .int .i64 (max ((hi : Int) + d) hi0)] 121 (0, 0)) := by
      rw [← hw5]; exact heap_setCell_at (heap_setCell_at (heap_setCell_at K63.out _) _) _
    have oth : ∀ q, q ≠ w.heap.size + 1 → w5.heap[q]? = w3.heap[q]? := fun q hq => by
      rw [← hw5, Below.heap_setCell _ _ _ _ (by simpa using hq), Below.heap_setCell _ _ _ _ (by simpa using hq), Below.heap_setCell _ _ _ _ (by simpa using hq)]
    have H5 := Lib.hid (HoldsM.keep H3.out (oth b (by omega)))
    have x0 : w5.cell? ⟨w.heap.size, 0, none⟩ = some (.int .i64 xl) := (World.cell?_of_block (w := w3) (oth _ (by simp))).trans d0
    have x1 : w5.cell? ⟨w.heap.size, 1, none⟩ = some (.bool xi) := (World.cell?_of_block (w := w3) (oth _ (by simp))).trans d1
    have x2 : w5.cell? ⟨w.heap.size, 2, none⟩ = some (.bool xb) := (World.cell?_of_block (w := w3) (oth _ (by simp))).trans d2
    have x3 : w5.cell? ⟨w.heap.size, 3, none⟩ = some (.bool xw) := (World.cell?_of_block (w := w3) (oth _ (by simp))).trans d3
    have y0 : w5.cell? ⟨w.heap.size + 1, 0, none⟩ = some (.int .i64 ((n : Int) + n0)) := by rw [cell_of_heap k6]; rfl
    have y1 : w5.cell? ⟨w.heap.size + 1, 1, none⟩ = some (.int .i64 (min ((lo : Int) + d) lo0)) := by rw [cell_of_heap k6]; rfl
    have y2 : w5.cell? ⟨w.heap.size + 1, 2, none⟩ = some (.int .i64 (max ((hi : Int) + d) hi0)) := by rw [cell_of_heap k6]; rfl
    have HW5 := Lib.hid hw5
    have HB5 := Lib.hid hb5
    clear hw5 hb5 k6 oth d0 d1 d2 d3 e0 e1 e2 g0 g1 g2 fz fz1 fz2
    rw [HW5.out]
    obtain ⟨W', hr, hE, hg⟩ := EndsAt.update (T := 110) (by rfl) H5.out ⟨xl, xi, xb, xw⟩ ⟨n + n0, min (lo + d) lo0, max (hi + d) hi0⟩
    unfold enV smV at hr
    simp only at hr
    rw [show ((n + n0 : Nat) : Int) = (n : Int) + n0 by omega, show ((min (lo + d) lo0 : Nat) : Int) = min ((lo : Int) + d) lo0 by omega, show ((max (hi + d) hi0 : Nat) : Int) = max ((hi : Int) + d) hi0 by omega] at hr
    have HE := Lib.hid hE
    have HG := Lib.hid hg
    clear hE hg
    go_wp2
    go_returns
    refine ⟨rfl, grownBy_trans (grownBy_below _ HB5.out) HG.out, HE.out.congr fun y => ?_⟩
    rw [HFN.out]
    simp [addO, Sm.add, Sm.shift, Nat.add_comm, Nat.min_comm, Nat.max_comm]
end Go.Proofs.YtpfpjbglpibdoaaGreatDoor

/- Chapter 5: what a dart does. -/
namespace Go.Proofs.YtpfpjbglpibdoaaGreatDoor
open Go.RowKit Go.Oche Go.Proofs

set_option maxRecDepth 100000 in
set_option maxHeartbeats 4000000 in
theorem dart_any {l : Lg} {F : Nat → Prop} {gb hb kb : Nat} (s : Std) (x : Ht) (hs : -1000000 ≤ s.left ∧ s.left ≤ 1000000) (hx : -1000000 ≤ x.score ∧ x.score ≤ 1000000) (w : World) (h : GameAt l F w gb hb kb) :
    Calls Tryz.prog 104 #[.pointer (some ⟨gb, 0, none⟩), stV s, htV x] w fun e w' => e = .returned (.tuple #[enV (dart5 l s x).1, .bool (dart5 l s x).2]) ∧ Below w.heap.size w w' := by
  obtain ⟨sl, si⟩ := s
  obtain ⟨sc, hi, ho⟩ := x
  simp only at hs hx
  obtain ⟨z, hz⟩ : ∃ z, (sc == 0) = z := ⟨_, rfl⟩
  obtain ⟨r, hr⟩ : ∃ r, sl - sc = r := ⟨_, rfl⟩
  obtain ⟨q, hq⟩ : ∃ q, (r == 0) = q := ⟨_, rfl⟩
  obtain ⟨lw, hlw⟩ : ∃ b, low5 l.gout = b := ⟨_, rfl⟩
  obtain ⟨lt, hlt⟩ : ∃ b, decide (r < lw) = b := ⟨_, rfl⟩
  obtain ⟨en, hen⟩ : ∃ e, (dart5 l ⟨sl, si⟩ ⟨sc, hi, ho⟩).1 = e := ⟨_, rfl⟩
  obtain ⟨go, hgo⟩ : ∃ e, (dart5 l ⟨sl, si⟩ ⟨sc, hi, ho⟩).2 = e := ⟨_, rfl⟩
  have HD : Hid ((en, go) = if (si || hi) = false ∨ z = true then ((⟨sl, si || hi, false, false⟩ : En), true) else if q = true ∧ ho = true then (⟨0, true, false, true⟩, false) else if lt = true then (⟨0, false, true, false⟩, false) else (⟨r, true, false, false⟩, true)) := Lib.hid (by
    rw [← hen, ← hgo, ← hz, ← hq, ← hlt, ← hlw, ← hr]
    unfold dart5
    simp only [beq_iff_eq, decide_eq_true_eq]
    repeat' split
    all_goals rfl)
  rw [hen, hgo]
  have hwr : IntKind.i64.wrap (sl - sc) = r := by rw [IntKind.wrap_i64, ← hr]; omega
  have g2 := h.cells.2.2.1
  have hgl := h.lt.1
  have hgl1 : gb < w.heap.size + 1 := by omega
  have hgl2 : gb < w.heap.size + 1 + 1 := by omega
  have HLW := Lib.hid hlw
  clear hen hgo hlw h
  unfold stV htV
  obtain ⟨b, hb⟩ : ∃ b, (si || hi) = b := ⟨_, rfl⟩
  rw [hb] at HD
  go_enter Tryz.func104, Tryz.ntmps104
  have fin : ∀ (a b : Int) (c d e f : Bool) (v : Array Value), Below w.heap.size w (((w.alloc (.cells #[.int .i64 a, .bool c] 29)).alloc (.cells #[.int .i64 b, .bool d, .bool e] 169)).alloc (.cells v 113)) := fun a b c d e f v => ((aB _ _).alloc (by simp) _).alloc (by simp; omega) _
  have FIN := Lib.hid fin
  clear fin
  have key : b = false ∨ b = true := by cases b <;> simp
  rcases key with rfl | rfl
  · obtain ⟨rfl, rfl⟩ : si = false ∧ hi = false := by cases si <;> cases hi <;> simp_all
    have e : (en, go) = ((⟨sl, false, false, false⟩ : En), true) := by rw [HD.out]; simp
    simp only [Prod.mk.injEq] at e
    obtain ⟨rfl, rfl⟩ := e
    go_wp2
    go_returns
    exact ⟨rfl, FIN.out _ _ _ _ _ true _⟩
  · have hs2 : (si = false ∧ hi = true) ∨ si = true := by cases si <;> simp_all
    clear hb
    rcases hs2 with ⟨rfl, rfl⟩ | rfl
    all_goals
      cases z
      · cases q
        · go_wp2_with fail
          refine (lowest_any l.gout _).mono ?_
          rintro e w' ⟨rfl, rfl⟩
          rw [HLW.out]
          cases lt
          · have e : (en, go) = ((⟨r, true, false, false⟩ : En), true) := by rw [HD.out]; simp
            simp only [Prod.mk.injEq] at e
            obtain ⟨rfl, rfl⟩ := e
            go_wp2
            go_returns
            exact ⟨rfl, FIN.out _ _ _ _ _ true _⟩
          · have e : (en, go) = ((⟨0, false, true, false⟩ : En), false) := by rw [HD.out]; simp
            simp only [Prod.mk.injEq] at e
            obtain ⟨rfl, rfl⟩ := e
            go_wp2
            go_returns
            exact ⟨rfl, FIN.out _ _ _ _ _ true _⟩
        · cases ho
          · go_wp2_with fail
            refine (lowest_any l.gout _).mono ?_
            rintro e w' ⟨rfl, rfl⟩
            rw [HLW.out]
            cases lt
            · have e : (en, go) = ((⟨r, true, false, false⟩ : En), true) := by rw [HD.out]; simp
              simp only [Prod.mk.injEq] at e
              obtain ⟨rfl, rfl⟩ := e
              go_wp2
              go_returns
              exact ⟨rfl, FIN.out _ _ _ _ _ true _⟩
            · have e : (en, go) = ((⟨0, false, true, false⟩ : En), false) := by rw [HD.out]; simp
              simp only [Prod.mk.injEq] at e
              obtain ⟨rfl, rfl⟩ := e
              go_wp2
              go_returns
              exact ⟨rfl, FIN.out _ _ _ _ _ true _⟩
          · have e : (en, go) = ((⟨0, true, false, true⟩ : En), false) := by rw [HD.out]; simp
            simp only [Prod.mk.injEq] at e
            obtain ⟨rfl, rfl⟩ := e
            go_wp2
            go_returns
            exact ⟨rfl, FIN.out _ _ _ _ _ true _⟩
      · have e : (en, go) = ((⟨sl, true, false, false⟩ : En), true) := by rw [HD.out]; simp
        simp only [Prod.mk.injEq] at e
        obtain ⟨rfl, rfl⟩ := e
        go_wp2
        go_returns
        exact ⟨rfl, FIN.out _ _ _ _ _ true _⟩
end Go.Proofs.YtpfpjbglpibdoaaGreatDoor

/- Chapter 5: the state of memory in from's loops. -/
namespace Go.Proofs.YtpfpjbglpibdoaaGreatDoor
open Go Go.RowKit Go.Oche Go.Proofs

theorem Chg.thenG {O : Nat → Prop} {W W' W'' : World} (h : Chg O W W') {o : Option Nat} (hg : W'.grownBy W'' o) (hO : ∀ x, o = some x → x < W.heap.size → O x) : Chg O W W'' :=
  ⟨hg.os.trans h.os, hg.tape.trans h.tape, hg.output.trans h.output, Nat.le_trans h.size hg.size, fun q hq ho => (hg.block q (Nat.lt_of_lt_of_le hq h.size) fun e => ho (hO q e.symm hq)).trans (h.block q hq ho)⟩
theorem Chg.thenB {O : Nat → Prop} {W W' W'' : World} (h : Chg O W W') (hb : Below W'.heap.size W' W'') : Chg O W W'' := h.trans (Chg.below hb)
structure FSt (l : Lg) (F : Nat → Prop) (w5 : World) (gb hb kb A r : Nat) (L : List (Ht × Value)) (ks : List Ht) (f : En → Option Sm) (wr : World) : Prop where
  seen : SeenD htV wr r hb L L ks
  ends : EndsAt wr A f
  game : GameAt l F wr gb hb kb
  chg : Chg (fun q => q = kb ∨ q = A ∨ q = r) w5 wr
  ne : A ≠ kb ∧ A ≠ gb ∧ A ≠ hb ∧ A ≠ r ∧ r ≠ kb ∧ r ≠ gb ∧ r ≠ hb ∧ F A ∧ F r
section
variable {l : Lg} {F F' : Nat → Prop} {w5 wr wr' : World} {gb hb kb A r : Nat} {L : List (Ht × Value)} {ks : List Ht} {f g : En → Option Sm}
theorem FSt.below (h : FSt l F w5 gb hb kb A r L ks f wr) (hbl : Below wr.heap.size wr wr') : FSt l F w5 gb hb kb A r L ks f wr' :=
  ⟨h.seen.keep (hbl.block _ h.seen.lt.2.1) (hbl.block _ h.seen.lt.1), h.ends.below hbl, h.game.below hbl, h.chg.thenB hbl, h.ne⟩
theorem FSt.learn (h : FSt l F w5 gb hb kb A r L ks f wr) (hg : wr.grownBy wr' (some kb)) (hG : GameAt l F wr' gb hb kb) : FSt l F w5 gb hb kb A r L ks f wr' :=
  ⟨h.seen.keep (hg.block _ h.seen.lt.2.1 fun e => h.game.hk (Option.some.inj e)) (hg.block _ h.seen.lt.1 fun e => h.ne.2.2.2.2.1 (Option.some.inj e)), h.ends.grown hg fun e => h.ne.1 (Option.some.inj e), hG, h.chg.thenG hg fun _ hx _ => .inl (Option.some.inj hx).symm, h.ne⟩
theorem FSt.add (h : FSt l F w5 gb hb kb A r L ks f wr) (hg : wr.grownBy wr' (some A)) (hE : EndsAt wr' A g) : FSt l F w5 gb hb kb A r L ks g wr' :=
  ⟨h.seen.keep (hg.block _ h.seen.lt.2.1 fun e => h.ne.2.2.1 (Option.some.inj e).symm) (hg.block _ h.seen.lt.1 fun e => h.ne.2.2.2.1 (Option.some.inj e).symm), hE,
    h.game.grown hg (fun x hx => by cases hx; exact ⟨h.ne.1, h.ne.2.1, h.ne.2.2.1, .inl h.ne.2.2.2.2.2.2.2.1⟩), h.chg.thenG hg fun x hx _ => .inr (.inl (Option.some.inj hx).symm), h.ne⟩
theorem FSt.next {x : Ht} (h : FSt l F w5 gb hb kb A r L ks f wr) (hg : wr.grownBy wr' (some r)) (hS : SeenD htV wr' r hb L L (ks ++ [x])) : FSt l F w5 gb hb kb A r L (ks ++ [x]) f wr' :=
  ⟨hS, h.ends.grown hg fun e => h.ne.2.2.2.1 (Option.some.inj e), h.game.grown hg (fun x hx => by cases hx; exact ⟨h.ne.2.2.2.2.1, h.ne.2.2.2.2.2.1, h.ne.2.2.2.2.2.2.1, .inl h.ne.2.2.2.2.2.2.2.2⟩), h.chg.thenG hg fun x hx _ => .inr (.inr (Option.some.inj hx).symm), h.ne⟩
theorem FSt.other {x : Nat} (h : FSt l F w5 gb hb kb A r L ks f wr) (hg : wr.grownBy wr' (some x)) (h1 : x ≠ A) (h2 : x ≠ r) (h3 : x ≠ kb) (h4 : x ≠ gb) (h5 : x ≠ hb) (h6 : F x) (h7 : w5.heap.size ≤ x) : FSt l F w5 gb hb kb A r L ks f wr' :=
  ⟨h.seen.keep (hg.block _ h.seen.lt.2.1 fun e => h5 (Option.some.inj e).symm) (hg.block _ h.seen.lt.1 fun e => h2 (Option.some.inj e).symm), h.ends.grown hg fun e => h1 (Option.some.inj e).symm,
    h.game.grown hg (fun y hy => by cases hy; exact ⟨h3, h4, h5, .inl h6⟩), h.chg.thenG hg fun y hy hlt => by cases hy; omega, h.ne⟩
theorem FSt.congr (h : FSt l F w5 gb hb kb A r L ks f wr) (e : ∀ x, f x = g x) : FSt l F w5 gb hb kb A r L ks g wr := ⟨h.seen, h.ends.congr e, h.game, h.chg, h.ne⟩
theorem FSt.more (h : FSt l F w5 gb hb kb A r L ks f wr) (h1 : ∀ q, F' q → F q ∨ wr.heap.size ≤ q) (h2 : ∀ q, F q → F' q) : FSt l F' w5 gb hb kb A r L ks f wr :=
  ⟨h.seen, h.ends, h.game.more h1 h2, h.chg, h.ne.1, h.ne.2.1, h.ne.2.2.1, h.ne.2.2.2.1, h.ne.2.2.2.2.1, h.ne.2.2.2.2.2.1, h.ne.2.2.2.2.2.2.1, h2 _ h.ne.2.2.2.2.2.2.2.1, h2 _ h.ne.2.2.2.2.2.2.2.2⟩
theorem FSt.less (h : FSt l F w5 gb hb kb A r L ks f wr) (h1 : ∀ q, F' q → F q) (h2 : F' gb) (h3 : F' hb) (h4 : F' kb) (h5 : F' A) (h6 : F' r) : FSt l F' w5 gb hb kb A r L ks f wr :=
  ⟨h.seen, h.ends, h.game.less h1 h2 h3 h4, h.chg, h.ne.1, h.ne.2.1, h.ne.2.2.1, h.ne.2.2.2.1, h.ne.2.2.2.2.1, h.ne.2.2.2.2.2.1, h.ne.2.2.2.2.2.2.1, h5, h6⟩
end
end Go.Proofs.YtpfpjbglpibdoaaGreatDoor
