/- The texts RT0, RT, in build order. -/
import Derived.Test.YtpfpjbglpibdoaaGreatDoorZba

/- Chapter 5, the reference's Truth: plain part; a block of spans, turn by turn. -/
namespace Go.Proofs.YtpfpjbglpibdoaaGreatDoor
open Go Go.RowKit Go.Oche Go.Proofs

def row6 (x : Tr) : List Value := [.int .i64 x.score.1, .int .i64 x.score.2, .int .i64 x.left.1, .int .i64 x.left.2, .int .i64 x.darts.1, .int .i64 x.darts.2]
def trBlk (T : Nat) (f : Nat → Tr) : List Value := ((List.range T).map fun t => row6 (f t)).flatten
theorem trBlk_congr {T : Nat} {f g : Nat → Tr} (h : ∀ t, t < T → f t = g t) : trBlk T f = trBlk T g := by
  unfold trBlk
  congr 1
  exact List.map_congr_left fun t ht => by rw [h t (List.mem_range.1 ht)]
theorem flat6_at : ∀ {rows : List (List Value)} {t o : Nat} {r : List Value}, (∀ r ∈ rows, r.length = 6) → rows[t]? = some r → o < 6 → rows.flatten[t * 6 + o]? = r[o]?
  | [], _, _, _, _, h, _ => by simp at h
  | a :: rows, 0, o, r, hl, h, ho => by
    have : a = r := by simpa using h
    subst this
    rw [List.flatten_cons, Nat.zero_mul, Nat.zero_add, List.getElem?_append_left (by rw [hl a (by simp)]; exact ho)]
  | a :: rows, t + 1, o, r, hl, h, ho => by
    have hla := hl a (by simp)
    rw [List.flatten_cons, List.getElem?_append_right (by omega), hla]
    have e : (t + 1) * 6 + o - 6 = t * 6 + o := by omega
    rw [e]
    exact flat6_at (fun r hr => hl r (List.mem_cons_of_mem _ hr)) (by simpa using h) ho
theorem trBlk_at {T : Nat} {f : Nat → Tr} {t o : Nat} (ht : t < T) (ho : o < 6) : (trBlk T f)[t * 6 + o]? = (row6 (f t))[o]? := by
  unfold trBlk
  refine flat6_at (fun r hr => ?_) ?_ ho
  · obtain ⟨y, -, rfl⟩ := List.mem_map.1 hr; rfl
  · rw [List.getElem?_map, List.getElem?_range ht]; rfl
theorem flat6_set : ∀ {rows : List (List Value)} {t o : Nat} {r : List Value} (v : Value), (∀ r ∈ rows, r.length = 6) → rows[t]? = some r → o < 6 → rows.flatten.set (t * 6 + o) v = (rows.set t (r.set o v)).flatten
  | [], _, _, _, _, _, h, _ => by simp at h
  | a :: rows, 0, o, r, v, hl, h, ho => by
    have : a = r := by simpa using h
    subst this
    have hla := hl a (by simp)
    rw [List.flatten_cons, Nat.zero_mul, Nat.zero_add, List.set_append_left _ _ (by omega), List.set_cons_zero, List.flatten_cons]
  | a :: rows, t + 1, o, r, v, hl, h, ho => by
    have hla := hl a (by simp)
    rw [List.flatten_cons, List.set_append_right _ _ (by omega), hla, List.set_cons_succ, List.flatten_cons]
    have e : (t + 1) * 6 + o - 6 = t * 6 + o := by omega
    rw [e, flat6_set v (fun r hr => hl r (List.mem_cons_of_mem _ hr)) (by simpa using h) ho]
def updT (f : Nat → Tr) (t0 : Nat) (x : Tr) : Nat → Tr := fun t => if t = t0 then x else f t
theorem trBlk_set {T : Nat} {f : Nat → Tr} {t : Nat} (ht : t < T) {o : Nat} (ho : o < 6) {v : Value} {x : Tr} (hx : (row6 (f t)).set o v = row6 x) : (trBlk T f).set (t * 6 + o) v = trBlk T (updT f t x) := by
  unfold trBlk
  rw [flat6_set v (fun r hr => by obtain ⟨y, -, rfl⟩ := List.mem_map.1 hr; rfl) (by rw [List.getElem?_map, List.getElem?_range ht]; rfl) ho, hx]
  congr 1
  refine List.ext_getElem (by simp) fun j h1 h2 => ?_
  rw [List.getElem_set]
  by_cases e : t = j
  · subst e; rw [if_pos rfl]; simp [updT]
  · rw [if_neg e]
    have e2 : ¬ j = t := fun q => e q.symm
    simp [updT, e2]
theorem updT_at (f : Nat → Tr) (t : Nat) (x : Tr) : updT f t x t = x := if_pos rfl
theorem updT_upd (f : Nat → Tr) (t : Nat) (x y : Tr) : updT (updT f t x) t y = updT f t y := by
  funext j; unfold updT; split <;> rfl
theorem trBlk_score {T : Nat} {f : Nat → Tr} {t : Nat} (ht : t < T) (a b : Int) : ((trBlk T f).set (t * 6) (.int .i64 a)).set (t * 6 + 1) (.int .i64 b) = trBlk T (updT f t { f t with score := (a, b) }) := by
  have h1 := trBlk_set (f := f) ht (o := 0) (by decide) (v := .int .i64 a) (x := { f t with score := (a, (f t).score.2) }) rfl
  rw [Nat.add_zero] at h1
  rw [h1, trBlk_set ht (o := 1) (by decide) (x := { f t with score := (a, b) }) (by rw [updT_at]; rfl), updT_upd]
theorem trBlk_left {T : Nat} {f : Nat → Tr} {t : Nat} (ht : t < T) (a b : Int) : ((trBlk T f).set (t * 6 + 2) (.int .i64 a)).set (t * 6 + 3) (.int .i64 b) = trBlk T (updT f t { f t with left := (a, b) }) := by
  rw [trBlk_set (f := f) ht (o := 2) (by decide) (v := .int .i64 a) (x := { f t with left := (a, (f t).left.2) }) rfl, trBlk_set ht (o := 3) (by decide) (x := { f t with left := (a, b) }) (by rw [updT_at]; rfl), updT_upd]
theorem trBlk_darts {T : Nat} {f : Nat → Tr} {t : Nat} (ht : t < T) (a b : Int) : ((trBlk T f).set (t * 6 + 4) (.int .i64 a)).set (t * 6 + 5) (.int .i64 b) = trBlk T (updT f t { f t with darts := (a, b) }) := by
  rw [trBlk_set (f := f) ht (o := 4) (by decide) (v := .int .i64 a) (x := { f t with darts := (a, (f t).darts.2) }) rfl, trBlk_set ht (o := 5) (by decide) (x := { f t with darts := (a, b) }) (by rw [updT_at]; rfl), updT_upd]
section
variable {l : Lg} {list : List Rp} {P p i T : Nat}
def trT (l : Lg) (list : List Rp) (P p i : Nat) (t : Nat) : Tr := if dnT P p i t = true then trL (keptL l (allS list) t) else trL []
theorem trT_start (t : Nat) : trT l list P 0 0 t = trL [] := by
  unfold trT
  rw [if_neg]
  simp [dnT]
theorem trT_here (hp : p < P) : trT l list P p i (p + i * P) = trL [] := by
  have hP : 0 < P := by omega
  unfold trT
  rw [if_neg]
  unfold dnT
  rw [Nat.add_mul_mod_self_right, Nat.mod_eq_of_lt hp, Nat.add_mul_div_right _ _ hP, Nat.div_eq_of_lt hp, Nat.zero_add]
  simp
theorem trT_step (hp : p < P) : updT (trT l list P p i) (p + i * P) (trL (keptL l (allS list) (p + i * P))) = trT l list P p (i + 1) := by
  have hP : 0 < P := by omega
  have m0 : (p + i * P) % P = p := by rw [Nat.add_mul_mod_self_right, Nat.mod_eq_of_lt hp]
  have d0 : (p + i * P) / P = i := by rw [Nat.add_mul_div_right _ _ hP, Nat.div_eq_of_lt hp, Nat.zero_add]
  funext t
  unfold updT
  by_cases e : t = p + i * P
  · rw [if_pos e, e]
    unfold trT
    rw [if_pos (show dnT P p (i + 1) (p + i * P) = true from decide_eq_true (.inr ⟨m0, by rw [d0]; omega⟩))]
  · rw [if_neg e]
    have : dnT P p i t = dnT P p (i + 1) t := by
      unfold dnT
      have hdm := Nat.div_add_mod t P
      by_cases c : t % P = p
      · have c2 : t / P ≠ i := fun q => e (by rw [q, c, Nat.mul_comm] at hdm; omega)
        have : t / P < i ↔ t / P < i + 1 := by omega
        simp [c, this]
      · simp [c]
    unfold trT
    rw [this]
theorem trT_next (hP : 0 < P) (hi : T ≤ p + i * P) (hp : p < P) {t : Nat} (ht : t < T) : trT l list P p i t = trT l list P (p + 1) 0 t := by
  have : dnT P p i t = dnT P (p + 1) 0 t := by
    unfold dnT
    have hdm := Nat.div_add_mod t P
    have : (t % P < p ∨ t % P = p ∧ t / P < i) ↔ (t % P < p + 1 ∨ t % P = p + 1 ∧ t / P < 0) := by
      constructor
      · rintro (h | ⟨h, -⟩)
        · exact .inl (by omega)
        · exact .inl (by omega)
      · rintro (h | ⟨-, h⟩)
        · by_cases c : t % P = p
          · refine .inr ⟨c, Nat.lt_of_not_le fun q => ?_⟩
            have h3 : i * P ≤ t / P * P := Nat.mul_le_mul_right _ q
            have h4 : P * (t / P) = t / P * P := Nat.mul_comm _ _
            omega
          · exact .inl (by omega)
        · exact absurd h (Nat.not_lt_zero _)
    exact decide_eq_decide.2 this
  unfold trT
  rw [this]
theorem trT_done {t : Nat} (hP : 0 < P) : trT l list P P 0 t = trL (keptL l (allS list) t) := by
  unfold trT
  rw [if_pos (show dnT P P 0 t = true from decide_eq_true (.inl (Nat.mod_lt _ hP)))]
end
theorem trL_snoc (st : List Sp) (s : Sp) : trL (st ++ [s]) = ⟨(if st = [] then (s.score, s.score) else wideI (trL st).score s.score), (if st = [] then (s.en.left, s.en.left) else wideI (trL st).left s.en.left), (if st = [] then ((s.darts : Int), (s.darts : Int)) else wideI (trL st).darts (s.darts : Int))⟩ := by
  unfold trL
  simp only [List.map_append, List.map_cons, List.map_nil, spanL_snoc, List.map_eq_nil_iff]
theorem said_true (list : List Rp) : saidL list (fun i => (List.replicate list.length true).getD i false) = allS list := by
  funext t
  unfold allS saidL
  congr 1
  refine List.filter_congr fun p hp => ?_
  have h := List.snd_lt_of_mem_zipIdx hp
  congr 1
  have hl : p.2 < list.length := by simpa using h
  simp [List.getD_eq_getElem?_getD, hl]
end Go.Proofs.YtpfpjbglpibdoaaGreatDoor

/- Chapter 5, the reference: the spans of all turns. -/
namespace Go.Proofs.YtpfpjbglpibdoaaGreatDoor
open Go Go.RowKit Go.Oche Go.Proofs

theorem info_spans5 : (Tryz.prog.info? 64).map (fun i => (i.zero, i.size, i.bytes)) = some (some (.agg #[.int .i64 0, .int .i64 0, .int .i64 0, .int .i64 0, .int .i64 0, .int .i64 0]), 6, 48) := by kernel_rfl
theorem info_bl5 : (Tryz.prog.info? 4).map (fun i => (i.zero, i.size, i.bytes)) = some (some (.bool false), 1, 1) := by kernel_rfl
theorem made_six (a : Value) (m : Nat) : madeCells #[a, a, a, a, a, a] m = (List.replicate m a).toArray := by
  refine Array.ext (by simp [madeCells]) fun i h1 h2 => ?_
  have : i % 6 = 0 ∨ i % 6 = 1 ∨ i % 6 = 2 ∨ i % 6 = 3 ∨ i % 6 = 4 ∨ i % 6 = 5 := by omega
  rcases this with h | h | h | h | h | h <;> simp [madeCells, h]
theorem trBlk_zero : ∀ T : Nat, trBlk T (fun _ => trL []) = List.replicate (T * 6) (.int .i64 0)
  | 0 => rfl
  | T + 1 => by
    unfold trBlk
    rw [List.range_succ, List.map_append, List.flatten_append]
    have ih := trBlk_zero T
    unfold trBlk at ih
    rw [ih]
    rw [show (T + 1) * 6 = T * 6 + 6 by omega, ← List.replicate_append_replicate]
    rfl
theorem make_trs (n : Nat) (hn : n ≤ 1000) (w : World) : (Instr.makeSlice 59 (.int .i64 n) (.int .i64 n)).run Tryz.prog w = .ok (.slice (some ⟨w.heap.size, 0, none⟩) n n) (w.alloc (.cells (trBlk n (fun _ => trL [])).toArray 64)) := by
  obtain ⟨i, hi, hz, hs, hb⟩ := info_parts info_spans5
  have := run_make (P := Tryz.prog) w 59 64 i _ Tryz.underlying59 hi hz .i64 .i64 (n : Int) (n : Int) (by omega) (by omega) (by rw [hb]; omega) (by omega)
  rw [hs] at this
  have e : madeCells (Value.agg #[.int .i64 0, .int .i64 0, .int .i64 0, .int .i64 0, .int .i64 0, .int .i64 0]).cells (n * 6) = (trBlk n (fun _ => trL [])).toArray := by rw [trBlk_zero, ← made_six]; rfl
  simpa [e] using this
theorem make_bls (n : Nat) (hn : n ≤ 1000) (w : World) : (Instr.makeSlice 72 (.int .i64 n) (.int .i64 n)).run Tryz.prog w = .ok (.slice (some ⟨w.heap.size, 0, none⟩) n n) (w.alloc (.cells ((List.replicate n false).map Value.bool).toArray 4)) := by
  obtain ⟨i, hi, hz, hs, hb⟩ := info_parts info_bl5
  have := run_make (P := Tryz.prog) w 72 4 i _ Tryz.underlying72 hi hz .i64 .i64 (n : Int) (n : Int) (by omega) (by omega) (by rw [hb]; omega) (by omega)
  rw [hs] at this
  have e : madeCells (Value.bool false).cells n = Array.replicate n (Value.bool false) := by
    refine Array.ext (by simp [madeCells]) fun i h1 h2 => ?_
    simp [madeCells, Value.cells, Nat.mod_one]
  simpa [e] using this
theorem updT_self {f : Nat → Tr} {t : Nat} {x : Tr} (h : f t = x) : updT f t x = f := by
  funext j; unfold updT
  by_cases e : j = t
  · rw [if_pos e, e, h]
  · rw [if_neg e]
section
variable {l : Lg} {said : Int → List Rp} {ks : List (List Sp)} {p P T i : Nat}
theorem player_len {q : Int} (h : playerL l said q = some ks) : ks.length = (turnsL l q).length := by
  unfold playerL at h
  split at h
  · cases h
  · cases h; rw [pruneL_len, followL_len]
theorem player_in (hP : l.players = (P : Int)) (hT : l.turns = (T : Int)) (h : playerL l said (p : Int) = some ks) (hi : i < ks.length) : p + i * P < T := by
  rw [player_len h] at hi
  have h0 : (turnsF l.players l.turns l.turns.toNat (p : Int))[i]? = some (turnsL l (p : Int))[i] := List.getElem?_eq_getElem hi
  obtain ⟨e1, e2⟩ := turnsF_get _ _ _ h0
  rw [hP, ← Int.natCast_mul] at e1
  rw [hT] at e2
  omega
theorem player_out (hP1 : 1 ≤ P) (hP : l.players = (P : Int)) (hT : l.turns = (T : Int)) (h : playerL l said (p : Int) = some ks) : T ≤ p + ks.length * P := by
  refine Nat.le_of_not_lt fun q => ?_
  have h1 := turnsF_at (P := l.players) (T := l.turns) (by rw [hP]; omega) l.turns.toNat (p : Int) ks.length (by omega) (by rw [hP, ← Int.natCast_mul]; omega)
  have h2 := (List.getElem?_eq_some_iff.1 h1).1
  have h3 := player_len h
  unfold turnsL at h3
  omega
theorem kept_is {list : List Rp} {st : List Sp} (hPP : l.players.toNat = P) (hp : p < P) (h : playerL l (allS list) (p : Int) = some ks) (hi : ks[i]? = some st) : keptL l (allS list) (p + i * P) = st := by
  unfold keptL
  rw [hPP, Nat.add_mul_mod_self_right, Nat.mod_eq_of_lt hp, Nat.add_mul_div_right _ _ (by omega), Nat.div_eq_of_lt hp, Nat.zero_add, h, Option.getD_some, List.getD_eq_getElem?_getD, hi]
  rfl
theorem kept_bd2 (hv : Valid l) {q : Int} (h : playerL l said q = some ks) {st : List Sp} (hi : ks[i]? = some st) {sp : Sp} (hs : sp ∈ st) : 0 ≤ sp.en.left ∧ sp.en.left ≤ sp.bef.left ∧ sp.bef.left ≤ 1001 := by
  obtain ⟨r, hr, hri⟩ := ((player_kept h).2 i sp).1 ⟨st, hi, hs⟩
  have h0 : (start5 l).left = l.start := rfl
  have hst := hv.start
  have := Run.left hv.good (s := start5 l) (by rw [h0]; omega) hr sp (List.mem_of_getElem? hri)
  omega
theorem stage_score {b : Nat → Tr} {t0 : Nat} {x L D : Int × Int} (ht : t0 < T) (y1 y2 : Int) : ((trBlk T (updT b t0 ⟨x, L, D⟩)).set (t0 * 6) (.int .i64 y1)).set (t0 * 6 + 1) (.int .i64 y2) = trBlk T (updT b t0 ⟨(y1, y2), L, D⟩) := by
  rw [trBlk_score ht, updT_at, updT_upd]
theorem stage_left {b : Nat → Tr} {t0 : Nat} {x L D : Int × Int} (ht : t0 < T) (y1 y2 : Int) : ((trBlk T (updT b t0 ⟨x, L, D⟩)).set (t0 * 6 + 2) (.int .i64 y1)).set (t0 * 6 + 3) (.int .i64 y2) = trBlk T (updT b t0 ⟨x, (y1, y2), D⟩) := by
  rw [trBlk_left ht, updT_at, updT_upd]
theorem stage_darts {b : Nat → Tr} {t0 : Nat} {x L D : Int × Int} (ht : t0 < T) (y1 y2 : Int) : ((trBlk T (updT b t0 ⟨x, L, D⟩)).set (t0 * 6 + 4) (.int .i64 y1)).set (t0 * 6 + 5) (.int .i64 y2) = trBlk T (updT b t0 ⟨x, L, (y1, y2)⟩) := by
  rw [trBlk_darts ht, updT_at, updT_upd]
theorem blk_cell {W : World} {G t0 o : Nat} {b : Nat → Tr} {x : Tr} {v : Value} (h : W.heap[G]? = some (.cells (trBlk T (updT b t0 x)).toArray 64 (0, 0))) (ht : t0 < T) (ho : o < 6) (hv : (row6 x)[o]? = some v) : W.cell? ⟨G, t0 * 6 + o, none⟩ = some v := by
  rw [cell_of_heap h, List.getElem?_toArray, trBlk_at ht ho, updT_at]
  exact hv
theorem chg_cell {w w' : World} {b q o : Nat} {x : Value} (h : Chg (fun z => z = b) w w') (hv : w.cell? ⟨q, o, none⟩ = some x) (hq : q ≠ b) : w'.cell? ⟨q, o, none⟩ = some x :=
  (World.cell?_of_block (w := w) (h.block q (World.block_lt_of_cell? w _ hv) hq)).trans hv
theorem OutR.chg {M b : Nat} {W W' : World} {v : Value} {xss : List (List Sp)} {vs : List Value} (h : OutR M W v xss vs) (hc : Chg (fun z => z = b) W W') (hb : b < M) : OutR M W' v xss vs :=
  ⟨h.len, ownsN_kept h.row fun g hg => hc.block g (h.row.lt g hg).2 (by have := (h.row.lt g hg).1; omega), fun i u xs hu hx => ownsN_kept (h.rows i u xs hu hx) fun g hg => hc.block g ((h.rows i u xs hu hx).lt g hg).2 (by have := ((h.rows i u xs hu hx).lt g hg).1; omega)⟩
end
def truB (l : Lg) (list : List Rp) : Bool := (List.range l.players.toNat).all fun p => (playerL l (allS list) (p : Nat)).isSome
set_option maxRecDepth 100000 in
set_option maxHeartbeats 40000000 in
theorem refTruth_any {S S' : Nat → Prop} (l : Lg) (hv : Valid l) (h6 : l.beds.length ≤ 6) (h60 : l.start ≤ 60) (h8 : l.turns ≤ 8) (bv lv : Value) (list : List Rp) (hrv : ∀ r ∈ list, -1 ≤ r.score ∧ -1 ≤ r.left) (hlen : list.length ≤ 1000) (w : World)
    (hs : Sl S w bv (ints l.beds)) (hl : SlN 3 S' w lv (list.map rpRow)) :
    Calls Tryz.prog 28 #[legV l bv, lv] w fun e w' => ∃ v, e = .returned (.tuple #[v, .bool (truB l list)]) ∧ Below w.heap.size w w' ∧
      (truB l list = true → ∃ G, v = .slice (some ⟨G, 0, none⟩) l.turns.toNat l.turns.toNat ∧ w.heap.size ≤ G ∧ w'.heap[G]? = some (.cells (trBlk l.turns.toNat fun t => trL (keptL l (allS list) t)).toArray 64 (0, 0))) := by
  obtain ⟨a, cap, rfl, h2, h3⟩ := hs.form
  obtain ⟨la, lc, rfl, h2', h3'⟩ := hl.form
  simp only [ints_length, List.length_map] at *
  unfold maxLen at h3 h3'
  obtain ⟨n, hn⟩ : ∃ n, l.beds.length = n := ⟨_, rfl⟩
  obtain ⟨m, hm⟩ : ∃ n, list.length = n := ⟨_, rfl⟩
  rw [hn] at h2 hs ⊢
  rw [hm] at h2' hl hlen ⊢
  obtain ⟨N, hN⟩ : ∃ N, w.heap.size = N := ⟨_, rfl⟩
  obtain ⟨w1, hw1⟩ : ∃ x, w.alloc (.cells #[.int .i64 l.start, .int .i64 l.gin, .int .i64 l.gout, .slice a n cap, .int .i64 l.players, .int .i64 l.turns, .bool l.won] 27) = x := ⟨_, rfl⟩
  have hb1 : Below w.heap.size w w1 := by rw [← hw1]; exact aB _ _
  have k : w1.heap[N]? = some (.cells #[.int .i64 l.start, .int .i64 l.gin, .int .i64 l.gout, .slice a n cap, .int .i64 l.players, .int .i64 l.turns, .bool l.won] 27 (0, 0)) := by rw [← hw1, ← hN]; exact World.alloc_heap_new _ _
  have c0 : w1.cell? ⟨N, 0, none⟩ = some (.int .i64 l.start) := by rw [cell_of_heap k]; rfl
  have c1 : w1.cell? ⟨N, 1, none⟩ = some (.int .i64 l.gin) := by rw [cell_of_heap k]; rfl
  have c2 : w1.cell? ⟨N, 2, none⟩ = some (.int .i64 l.gout) := by rw [cell_of_heap k]; rfl
  have c3 : w1.cell? ⟨N, 3, none⟩ = some (.slice a n cap) := by rw [cell_of_heap k]; rfl
  have c4 : w1.cell? ⟨N, 4, none⟩ = some (.int .i64 l.players) := by rw [cell_of_heap k]; rfl
  have c5 : w1.cell? ⟨N, 5, none⟩ = some (.int .i64 l.turns) := by rw [cell_of_heap k]; rfl
  have c6 : w1.cell? ⟨N, 6, none⟩ = some (.bool l.won) := by rw [cell_of_heap k]; rfl
  obtain ⟨P, hP⟩ : ∃ P : Nat, l.players = (P : Int) := ⟨l.players.toNat, by have := hv.players; omega⟩
  obtain ⟨T, hT⟩ : ∃ T : Nat, l.turns = (T : Int) := ⟨l.turns.toNat, by have := hv.turns; omega⟩
  have hTT : l.turns.toNat = T := by omega
  have hPP : l.players.toNat = P := by omega
  have HP4 : Hid (1 ≤ P ∧ P ≤ 4) := Lib.hid (by have := hv.players; omega)
  have hT8 : T ≤ 8 := by omega
  have HTR : Hid (truB l list = (List.range P).all fun p => (playerL l (allS list) (p : Nat)).isSome) := Lib.hid (by unfold truB; rw [hPP])
  have HS := Lib.hid (hs.below hb1)
  have HL := Lib.hid (hl.below hb1)
  have HB : Hid (Below N w w1) := Lib.hid (by rw [← hN]; exact hb1)
  have HW := Lib.hid hw1
  have HN := Lib.hid hN
  have HV := Lib.hid hv
  have HH6 := Lib.hid h6
  have HH60 := Lib.hid h60
  have HH8 := Lib.hid h8
  have HRV := Lib.hid hrv
  have HM := Lib.hid hm
  have HP := Lib.hid hP
  have HT := Lib.hid hT
  have HTTN := Lib.hid hTT
  have hN1 : N < w1.heap.size := (Array.getElem?_eq_some_iff.1 k).1
  obtain ⟨K, hK⟩ : ∃ K, w1.heap.size = K := ⟨_, rfl⟩
  have HK := Lib.hid hK
  have HNK : Hid (N < K) := Lib.hid (by rw [← hK]; exact hN1)
  rw [hT] at c5
  unfold legV legA
  rw [hN, hTT]
  clear hw1 hN k hb1 hn hs hl hv h6 hrv h60 h8 hP hT hTT hPP hm hN1 hK
  go_enter Tryz.func28, Tryz.ntmps28
  go_upto_region 1 with fail
  rw [HW.out, HN.out]
  refine wp_region_seqW (.is (.pointer (some ⟨N, 5, none⟩)) :: .is (.int .i64 (T : Int)) :: kMk K 64 (trBlk T (fun _ => trL [])).toArray T :: .is (.slice la m lc) :: .is (.int .i64 (m : Int)) :: kMk K 4 ((List.replicate m false).map Value.bool).toArray m :: kMk K 64 (trBlk T (fun _ => trL [])).toArray T :: kMk K 4 ((List.replicate m false).map Value.bool).toArray m :: []) rfl mix (by kernel_rfl) (by kernel_rfl) ?_
  iterate 2
    refine seq_on (by rfl) (fun w3 hb3 _ => ?_) ?_
    · have c5' := bAt hb3 c5
      simp [opOK, go_sem, c5', Below.refl]
      try exact rfl
    simp only [Act.put, List.setIfInBounds_toArray, List.set_cons_succ, List.set_cons_zero]
  refine seq_new ⟨_, 0, rfl⟩ (by rfl) (fun w3 hb3 hH => ?_) ?_
  · exact opOK_val (v := .slice (some ⟨w3.heap.size, 0, none⟩) T T) (w' := w3.alloc (.cells (trBlk T (fun _ => trL [])).toArray 64)) (by simp [go_sem, execOp, make_trs T (by omega)]) ⟨aB _ _, ⟨_, rfl⟩, _, rfl, Nat.le_trans (Nat.le_of_eq HK.out.symm) hb3.size, World.alloc_heap_new _ _⟩
  rintro _ ⟨ga, rfl⟩
  simp only [Act.put, List.setIfInBounds_toArray, List.set_cons_succ, List.set_cons_zero]
  iterate 2
    refine seq_on (by rfl) (fun w3 hb3 _ => ?_) ?_
    · simp [opOK, go_sem, Below.refl]
      try exact rfl
    simp only [Act.put, List.setIfInBounds_toArray, List.set_cons_succ, List.set_cons_zero]
  refine seq_new ⟨_, 0, rfl⟩ (by rfl) (fun w3 hb3 hH => ?_) ?_
  · exact opOK_val (v := .slice (some ⟨w3.heap.size, 0, none⟩) m m) (w' := w3.alloc (.cells ((List.replicate m false).map Value.bool).toArray 4)) (by simp [go_sem, execOp, make_bls m (by omega)]) ⟨aB _ _, ⟨_, rfl⟩, _, rfl, Nat.le_trans (Nat.le_of_eq HK.out.symm) hb3.size, World.alloc_heap_new _ _⟩
  rintro _ ⟨ba, rfl⟩
  simp only [Act.put, List.setIfInBounds_toArray, List.set_cons_succ, List.set_cons_zero]
  refine seq_new ⟨_, 0, rfl⟩ (by rfl) (fun w3 hb3 hH => ?_) ?_
  · have hsl := hH ⟨2, .data⟩ (by simp) rfl
    simp only [addH, kMk] at hsl
    simp at hsl
    exact opOK_val (v := .slice (some ⟨ga, 0, none⟩) T T) (w' := w3) (by simp [go_sem, execOp]) ⟨Below.refl _ _, ⟨_, rfl⟩, _, rfl, hsl.1, by simpa using hsl.2⟩
  rintro _ ⟨ga', rfl⟩
  simp only [Act.put, List.setIfInBounds_toArray, List.set_cons_succ, List.set_cons_zero]
  refine seq_new ⟨_, 0, rfl⟩ (by rfl) (fun w3 hb3 hH => ?_) ?_
  · have hsl := hH ⟨5, .data⟩ (by simp) rfl
    simp only [addH, kMk] at hsl
    simp at hsl
    exact opOK_val (v := .slice (some ⟨ba, 0, none⟩) m m) (w' := w3) (by simp [go_sem, execOp]) ⟨Below.refl _ _, ⟨_, rfl⟩, _, rfl, hsl.1, by simpa using hsl.2⟩
  rintro _ ⟨ba', rfl⟩
  simp only [Act.put, List.setIfInBounds_toArray, List.set_cons_succ, List.set_cons_zero]
  refine seq_end fun w2 hb2 hH => ?_
  have hg2 := hH 6 (by decide)
  have hb2x := hH 7 (by decide)
  obtain ⟨G, eG, hG1, hG2⟩ := hg2
  cases eG
  obtain ⟨E, eE, hE1, hE2⟩ := hb2x
  cases eE
  rw [HK.out] at hb2
  have HB2 : Hid (Below K w1 w2) := Lib.hid hb2
  have HG2 : Hid (w2.heap[ga']? = some (.cells (trBlk T (trT l list P 0 0)).toArray 64 (0, 0))) := Lib.hid (by
    rw [hG2]
    congr 3
    exact (trBlk_congr fun t _ => trT_start t).symm)
  have HGK : Hid (K ≤ ga') := Lib.hid hG1
  have HE2 : Hid (w2.ownsRow K 4 1 (.slice (some ⟨ba', 0, none⟩) m m) m ((List.replicate 0 true ++ List.replicate (m - 0) false).map Value.bool)) := Lib.hid (by
    have h := own_lit hE2 hE1 (by omega) (k := 1) (m := m) (by simp)
    simpa using h)
  have hne : ba' ≠ ga' := by
    rintro rfl
    rw [hG2] at hE2
    have h := Option.some.inj hE2
    injection h with h1 h2
    exact absurd h2 (by decide)
  have HNE := Lib.hid hne
  clear hb2 hH hG1 hG2 hE1 hE2 hne
  go_wp2_with fail
  go_loopw [8] (fun iv wr => ∃ i : Nat, i ≤ m ∧ iv = .int .i64 (i : Int) ∧ Hid (wr.ownsRow K 4 1 (.slice (some ⟨ba', 0, none⟩) m m) m ((List.replicate i true ++ List.replicate (m - i) false).map Value.bool)) ∧ Hid (wr.heap[ga']? = some (.cells (trBlk T (trT l list P 0 0)).toArray 64 (0, 0))) ∧ Hid (Below K w1 wr)) (fun iv _ => m - (intOf iv).toNat)
  case atStart => exact ⟨0, by omega, by go_num, HE2, HG2, HB2⟩
  case round =>
    clear HE2 HG2 HB2
    obtain ⟨i, hi, rfl, HE, HG, HBr⟩ := hrel
    obtain ⟨wo, rfl⟩ : ∃ wo : World, wo = wr := ⟨_, rfl⟩
    by_cases hlt : i < m
    · have hcl : ((List.replicate i true ++ List.replicate (m - i) false).map Value.bool)[i]? = some (.bool false) := by
        rw [List.getElem?_map, List.getElem?_append_right (by simp), List.length_replicate, Nat.sub_self]
        have : 0 < m - i := by omega
        simp [this]
      obtain ⟨e0, f0⟩ := own_cell HE.out hcl
      have hst := HE.out.stored i (.bool true)
      have hset : ((List.replicate i true ++ List.replicate (m - i) false).map Value.bool).set i (.bool true) = (List.replicate (i + 1) true ++ List.replicate (m - (i + 1)) false).map Value.bool := by
        rw [← List.map_set]
        congr 1
        rw [List.set_append_right _ _ (by simp), List.length_replicate, Nat.sub_self, List.replicate_succ']
        obtain ⟨q, hq⟩ : ∃ q, m - i = q + 1 := ⟨m - i - 1, by omega⟩
        rw [hq, show m - (i + 1) = q by omega, List.replicate_succ, List.set_cons_zero, List.append_assoc]
        rfl
      rw [hset] at hst
      obtain ⟨w3, hw3⟩ : ∃ y, wo.setCell ⟨ba', i, none⟩ (.bool true) = y := ⟨_, rfl⟩
      rw [hw3] at hst
      have HE3 := Lib.hid hst.1
      have HG3 : Hid (w3.heap[ga']? = some (.cells (trBlk T (trT l list P 0 0)).toArray 64 (0, 0))) := Lib.hid (by rw [← hw3, Below.heap_setCell _ _ _ _ (show ga' ≠ ba' from fun e => HNE.out e.symm)]; exact HG.out)
      have hEK : K ≤ ba' := (HE.out.lt ba' rfl).1
      have HB3 : Hid (Below K w1 w3) := Lib.hid (by rw [← hw3]; exact HBr.out.setCell (p := ⟨ba', i, none⟩) hEK _)
      have HW3 := Lib.hid hw3
      have hii : (i : Int) < (m : Int) := by omega
      have hwi : IntKind.i64.wrap ((i : Int) + 1) = (i : Int) + 1 := wrap_small _ (by omega) (by omega)
      clear hcl hst hset hw3 hEK HE HG HBr
      go_upto_region 4 with fail
      rw [HW3.out]
      clear e0 f0
      go_wp2_with fail
      go_roundw
      case rel => exact ⟨i + 1, by omega, by go_num, HE3, HG3, HB3⟩
      case measure => simp [intOf]; omega
    · obtain rfl : i = m := by omega
      have HE4 : Hid (wo.ownsRow K 4 1 (.slice (some ⟨ba', 0, none⟩) i i) i ((List.replicate i true).map Value.bool)) := Lib.hid (by have h := HE.out; rw [Nat.sub_self, List.replicate_zero, List.append_nil] at h; exact h)
      have HQ0 : Hid (∀ q, q < 0 → (playerL l (allS list) (q : Nat)).isSome = true) := Lib.hid (fun q h => absurd h (Nat.not_lt_zero _))
      have HG4 := HG
      have HBr4 := HBr
      clear HE HG HBr
      go_wp2_with fail
      go_loopw [9] (fun iv wr => ∃ p : Nat, p ≤ P ∧ iv = .int .i64 (p : Int) ∧ Hid (∀ q, q < p → (playerL l (allS list) (q : Nat)).isSome = true) ∧ Hid (wr.ownsRow K 4 1 (.slice (some ⟨ba', 0, none⟩) i i) i ((List.replicate i true).map Value.bool)) ∧ Hid (wr.heap[ga']? = some (.cells (trBlk T (trT l list P p 0)).toArray 64 (0, 0))) ∧ Hid (Below K w1 wr)) (fun iv _ => P - (intOf iv).toNat)
      case atStart => exact ⟨0, by omega, by go_num, HQ0, HE4, HG4, HBr4⟩
      case round =>
        clear HQ0 HE4 HG4 HBr4
        obtain ⟨p, hp, rfl, HQ, HE, HG, HBr⟩ := hrel
        obtain ⟨w2, rfl⟩ : ∃ wo : World, wo = wr := ⟨_, rfl⟩
        have hb2 : Below w1.heap.size w1 w2 := by rw [HK.out]; exact HBr.out
        have c0 := bAt hb2 c0
        have c1 := bAt hb2 c1
        have c2 := bAt hb2 c2
        have c3 := bAt hb2 c3
        have c4 := bAt hb2 c4
        have c5 := bAt hb2 c5
        have c6 := bAt hb2 c6
        by_cases hlp : p < P
        · have hpi : decide ((p : Int) < l.players) = true := decide_eq_true (by rw [HP.out]; omega)
          have hwp : IntKind.i64.wrap ((p : Int) + 1) = (p : Int) + 1 := wrap_small _ (by omega) (by have := HP4.out; omega)
          go_wp2_with fail
          have hcall := refPlayer_any l HV.out HH6.out HH60.out HH8.out (.slice a n cap) (.slice la i lc) (.slice (some ⟨ba', 0, none⟩) i i) list HRV.out (List.replicate list.length true) (List.length_replicate) p (by have := HP4.out; omega) w2 (HS.out.below hb2) (HL.out.below hb2) (by rw [HM.out]; exact Sl.of_owns HE.out)
          unfold legV legA at hcall
          rw [said_true, HT.out] at hcall
          obtain ⟨b, hb⟩ : ∃ b, (playerL l (allS list) (p : Nat)).isSome = b := ⟨_, rfl⟩
          rw [hb] at hcall
          refine hcall.mono ?_
          rintro e w3 ⟨v, rfl, hb3, hks⟩
          clear hcall
          have HBB := Lib.hid hb
          have HKS := Lib.hid hks
          have HB3 : Hid (Below K w1 w3) := Lib.hid (by have h := bThen hb2 hb3; rw [HK.out] at h; exact h)
          have HE3 := Lib.hid (ownsN_below HE.out hb3)
          have hg2 := HG.out
          have HG3 : Hid (w3.heap[ga']? = some (.cells (trBlk T (trT l list P p 0)).toArray 64 (0, 0))) := Lib.hid ((hb3.block ga' (Array.getElem?_eq_some_iff.1 hg2).1).trans hg2)
          have HGL : Hid (ga' < w2.heap.size) := Lib.hid (Array.getElem?_eq_some_iff.1 hg2).1
          have c4 := bAt hb3 c4
          clear hb2 hb3 hb hks hg2 hpi HE HG HBr
          cases b
          · have HR : Hid (truB l list = false) := Lib.hid (by
              rw [HTR.out]
              refine Bool.eq_false_iff.2 fun h => ?_
              have := List.all_eq_true.1 h p (List.mem_range.2 hlp)
              rw [HBB.out] at this; cases this)
            have HBZ : Hid (Below N w w3) := Lib.hid (HB.out.trans (HB3.out.mono (Nat.le_of_lt HNK.out)))
            clear c0 c1 c2 c3 c4 c5 c6
            go_wp2_with fail
            go_returns
            rw [HR.out]
            exact ⟨_, rfl, HBZ.out, fun h => by cases h⟩
          · skip
            obtain ⟨ks, hpk⟩ : ∃ ks, playerL l (allS list) (p : Nat) = some ks := Option.isSome_iff_exists.1 HBB.out
            obtain ⟨vs, hO3⟩ := HKS.out ks hpk
            obtain ⟨oa, oc, hov⟩ := owns_form hO3.row
            subst hov
            obtain ⟨j, hj⟩ : ∃ j, vs.length = j := ⟨_, rfl⟩
            rw [hj] at hO3 ⊢
            have HJ := Lib.hid hj
            have HPK := Lib.hid hpk
            have HO3 := Lib.hid hO3
            have HJK : Hid (ks.length = j) := Lib.hid (by rw [← hO3.len]; exact hj)
            have hj8 : j ≤ 8 := by
              have h1 := player_len hpk
              have h2 := turnsF_len (P := l.players) (T := l.turns) l.turns.toNat (p : Int)
              unfold turnsL at h1
              rw [HTTN.out] at h1 h2
              have := HJK.out
              omega
            have HCE : Hid (Chg (fun z => z = ga') w3 w3) := Lib.hid Chg.refl
            have HG30 := HG3
            rw [HP.out] at c4
            clear hpk hO3 hj c0 c1 c2 c3 c5 c6
            go_wp2_with fail
            go_loopw [12] (fun jv wr => ∃ q : Nat, q ≤ j ∧ jv = .int .i64 (q : Int) ∧ Hid (wr.heap[ga']? = some (.cells (trBlk T (trT l list P p q)).toArray 64 (0, 0))) ∧ Hid (Chg (fun z => z = ga') w3 wr)) (fun jv _ => j - (intOf jv).toNat)
            case atStart => exact ⟨0, by omega, by go_num, HG30, HCE⟩
            case round =>
              clear HG30 HCE
              obtain ⟨q, hq, rfl, HGq, HCq⟩ := hrel
              obtain ⟨w4, rfl⟩ : ∃ wo : World, wo = wr := ⟨_, rfl⟩
              have c4 := chg_cell HCq.out c4 (by have := HNK.out; have := HGK.out; omega)
              by_cases hlq : q < j
              · have hql : q < ks.length := by rw [HJK.out]; exact hlq
                obtain ⟨st, hst⟩ : ∃ s, ks[q] = s := ⟨_, rfl⟩
                have hsta : ks[q]? = some st := by rw [List.getElem?_eq_getElem hql, hst]
                have hvl : q < vs.length := by rw [HJ.out]; exact hlq
                obtain ⟨u, hu⟩ : ∃ u, vs[q] = u := ⟨_, rfl⟩
                have hua : vs[q]? = some u := by rw [List.getElem?_eq_getElem hvl, hu]
                have hO4 : OutR w2.heap.size w4 (.slice oa j oc) ks vs := HO3.out.chg HCq.out HGL.out
                have hrow0 := hO4.row
                rw [HJ.out] at hrow0
                obtain ⟨g, c, ev⟩ := own_pos hrow0 (by omega)
                cases ev
                have hrow := hO4.rows q u st hua hsta
                obtain ⟨ua, uc, rfl⟩ := owns_form hrow
                obtain ⟨ns, hns⟩ : ∃ n, st.length = n := ⟨_, rfl⟩
                rw [hns] at hrow hua
                have HSS : Hid (SlN 6 (fun z => w2.heap.size ≤ z) w4 (.slice ua ns uc) (st.map spRow)) := Lib.hid (steps_sl (by rw [hns]; exact hrow))
                obtain ⟨cg, -⟩ := own_set hO4 HJ.out hua
                obtain ⟨t0, ht0⟩ : ∃ t, p + q * P = t := ⟨_, rfl⟩
                have htT : t0 < T := by rw [← ht0]; exact player_in HP.out HT.out HPK.out hql
                have HKP : Hid (keptL l (allS list) t0 = st) := Lib.hid (by rw [← ht0]; exact kept_is (by rw [HP.out]; rfl) hlp HPK.out hsta)
                have HT0 := Lib.hid ht0
                have HNS := Lib.hid hns
                have HSTA := Lib.hid hsta
                have HTT0 := Lib.hid htT
                have hgg : g ≠ ga' := by have := (hO4.row.lt g rfl).1; have := HGL.out; omega
                have HGG := Lib.hid hgg
                have hqj : (q : Int) < (j : Int) := by omega
                have hP4 := HP4.out
                have hqP : (q : Int) * (P : Int) = ((q * P : Nat) : Int) := by rw [Int.natCast_mul]
                have hm1 : IntKind.i64.wrap ((q : Int) * (P : Int)) = (q : Int) * (P : Int) := by rw [hqP]; exact wrap_small _ (by omega) (by omega)
                have hm2 : IntKind.i64.wrap ((p : Int) + (q : Int) * (P : Int)) = (t0 : Int) := by rw [hqP, wrap_small _ (by omega) (by omega)]; omega
                have hti : (t0 : Int) < (T : Int) := by omega
                have hwq : IntKind.i64.wrap ((q : Int) + 1) = (q : Int) + 1 := wrap_small _ (by omega) (by omega)
                have hnsb : ns ≤ 2 ^ 63 - 1 := by
                  obtain ⟨_, _, _, h1, h2⟩ := HSS.out.form
                  rw [List.length_map, hns] at h1
                  exact Nat.le_trans h1 h2
                have HUA := Lib.hid hua
                have HGS : Hid (w4.heap[ga']? = some (.cells (trBlk T (updT (trT l list P p q) t0 (trL (st.take 0)))).toArray 64 (0, 0))) := Lib.hid (by
                  rw [List.take_zero, updT_self (by rw [← HT0.out]; exact trT_here hlp)]; exact HGq.out)
                have HCS : Hid (Chg (fun z => z = ga') w4 w4) := Lib.hid Chg.refl
                clear hql hst hsta hvl hu hua hO4 hrow0 hrow hns ht0 hgg hP4 hqP
                go_wp2_with fail
                go_loopw [14] (fun kv wr => ∃ k : Nat, k ≤ ns ∧ kv = .int .i64 (k : Int) ∧ Hid (wr.heap[ga']? = some (.cells (trBlk T (updT (trT l list P p q) t0 (trL (st.take k)))).toArray 64 (0, 0))) ∧ Hid (Chg (fun z => z = ga') w4 wr)) (fun kv _ => ns - (intOf kv).toNat)
                case atStart => exact ⟨0, by omega, by go_num, HGS, HCS⟩
                case round =>
                  clear HGS HCS
                  obtain ⟨k, hk, rfl, HGk, HCk⟩ := hrel
                  obtain ⟨wk, rfl⟩ : ∃ wk : World, wk = wr := ⟨_, rfl⟩
                  have cg9 := chg_cell HCk.out cg HGG.out
                  by_cases hlk : k < ns
                  · skip
                    have hkl : k < st.length := by rw [HNS.out]; exact hlk
                    obtain ⟨⟨⟨bl, bi⟩, ⟨el, ei, eb, ew⟩, dd⟩, hsp⟩ : ∃ s, st[k] = s := ⟨_, rfl⟩
                    have htk : st.take (k + 1) = st.take k ++ [⟨⟨bl, bi⟩, ⟨el, ei, eb, ew⟩, dd⟩] := by rw [List.take_succ_eq_append_getElem hkl, hsp]
                    have hbd := kept_bd2 HV.out HPK.out HSTA.out (sp := ⟨⟨bl, bi⟩, ⟨el, ei, eb, ew⟩, dd⟩) (by rw [← hsp]; exact List.getElem_mem _)
                    simp only at hbd
                    have hOk : OutR w2.heap.size wk (.slice (some ⟨g, 0, none⟩) j oc) ks vs := HO3.out.chg (HCq.out.trans HCk.out) HGL.out
                    have hrow1 := hOk.rows q _ st HUA.out HSTA.out
                    rw [HNS.out] at hrow1
                    have hss := steps_sl (st := st) (by rw [HNS.out]; exact hrow1)
                    obtain ⟨ub, uf, hxa, -, -, hc⟩ := hss.cell (i := k) (by rw [List.length_map]; exact hkl)
                    cases hxa
                    have hrow : (st.map spRow)[k]'(by rw [List.length_map]; exact hkl) = [.int .i64 bl, .bool bi, .int .i64 el, .bool ei, .bool ew, .int .i64 (dd : Int)] := by rw [List.getElem_map, hsp]; rfl
                    rw [hrow] at hc
                    have p0 := hc 0 _ rfl
                    have p1 := hc 1 _ rfl
                    have p2 := hc 2 _ rfl
                    have p3 := hc 3 _ rfl
                    have p4 := hc 4 _ rfl
                    have p5 := hc 5 _ rfl
                    rw [Nat.add_zero] at p0
                    obtain ⟨⟨⟨s1, s2⟩, ⟨l1, l2⟩, ⟨d1, d2⟩⟩, htr⟩ : ∃ x, trL (st.take k) = x := ⟨_, rfl⟩
                    rw [htr] at HGk
                    obtain ⟨kz, hkz⟩ : ∃ b, ((k : Int) == 0) = b := ⟨_, rfl⟩
                    have hkz2 : kz = true ↔ st.take k = [] := by
                      rw [← hkz, beq_iff_eq]
                      constructor
                      · intro h
                        have : k = 0 := by omega
                        rw [this]; rfl
                      · intro h
                        have := congrArg List.length h
                        rw [List.length_take, HNS.out] at this
                        simp at this
                        omega
                    obtain ⟨⟨a1, a2⟩, ha⟩ : ∃ x, (if kz = true then (bl - el, bl - el) else wideI (s1, s2) (bl - el)) = x := ⟨_, rfl⟩
                    obtain ⟨⟨b1, b2⟩, hb⟩ : ∃ x, (if kz = true then (el, el) else wideI (l1, l2) el) = x := ⟨_, rfl⟩
                    obtain ⟨⟨e1, e2⟩, he⟩ : ∃ x, (if kz = true then ((dd : Int), (dd : Int)) else wideI (d1, d2) (dd : Int)) = x := ⟨_, rfl⟩
                    have HNEW : Hid (trL (st.take (k + 1)) = ⟨(a1, a2), (b1, b2), (e1, e2)⟩) := Lib.hid (by
                      rw [htk, trL_snoc, htr]
                      simp only [Sp.score]
                      rw [← ha, ← hb, ← he]
                      by_cases h0 : kz = true
                      · rw [if_pos (hkz2.1 h0), if_pos (hkz2.1 h0), if_pos (hkz2.1 h0), if_pos h0, if_pos h0, if_pos h0]
                      · rw [if_neg fun h => h0 (hkz2.2 h), if_neg fun h => h0 (hkz2.2 h), if_neg fun h => h0 (hkz2.2 h), if_neg h0, if_neg h0, if_neg h0])
                    have hcalls : ∀ (W : World), Calls Tryz.prog 65 #[.agg #[.int .i64 s1, .int .i64 s2], .bool kz, .int .i64 (bl - el)] W fun e w' => e = .returned (.agg #[.int .i64 a1, .int .i64 a2]) ∧ Below W.heap.size W w' := fun W => by
                      have h := refWide_any s1 s2 kz (bl - el) W
                      rw [ha] at h; exact h
                    have hcalll : ∀ (W : World), Calls Tryz.prog 65 #[.agg #[.int .i64 l1, .int .i64 l2], .bool kz, .int .i64 el] W fun e w' => e = .returned (.agg #[.int .i64 b1, .int .i64 b2]) ∧ Below W.heap.size W w' := fun W => by
                      have h := refWide_any l1 l2 kz el W
                      rw [hb] at h; exact h
                    have hcalld : ∀ (W : World), Calls Tryz.prog 65 #[.agg #[.int .i64 d1, .int .i64 d2], .bool kz, .int .i64 (dd : Int)] W fun e w' => e = .returned (.agg #[.int .i64 e1, .int .i64 e2]) ∧ Below W.heap.size W w' := fun W => by
                      have h := refWide_any d1 d2 kz (dd : Int) W
                      rw [he] at h; exact h
                    have HCS := Lib.hid hcalls
                    have HCL := Lib.hid hcalll
                    have HCD := Lib.hid hcalld
                    have wbe : IntKind.i64.wrap (bl - el) = bl - el := wrap_small _ (by omega) (by omega)
                    have hki : (k : Int) < (ns : Int) := by omega
                    have hwk : IntKind.i64.wrap ((k : Int) + 1) = (k : Int) + 1 := wrap_small _ (by omega) (by omega)
                    obtain ⟨X, hX⟩ : ∃ X, wk.heap.size = X := ⟨_, rfl⟩
                    obtain ⟨w5, hw5⟩ : ∃ y, wk.alloc (.cells #[.int .i64 bl, .bool bi, .int .i64 el, .bool ei, .bool ew, .int .i64 (dd : Int)] 147) = y := ⟨_, rfl⟩
                    have hb5 : Below wk.heap.size wk w5 := by rw [← hw5]; exact aB _ _
                    have k5 : w5.heap[X]? = some (.cells #[.int .i64 bl, .bool bi, .int .i64 el, .bool ei, .bool ew, .int .i64 (dd : Int)] 147 (0, 0)) := by rw [← hw5, ← hX]; exact World.alloc_heap_new _ _
                    have hgk := HGk.out
                    have HGX : Hid (ga' < X) := Lib.hid (by rw [← hX]; exact (Array.getElem?_eq_some_iff.1 hgk).1)
                    have HG5 : Hid (w5.heap[ga']? = some (.cells (trBlk T (updT (trT l list P p q) t0 ⟨(s1, s2), (l1, l2), (d1, d2)⟩)).toArray 64 (0, 0))) := Lib.hid ((hb5.block ga' (Array.getElem?_eq_some_iff.1 hgk).1).trans hgk)
                    have HC5 : Hid (Chg (fun z => z = ga') w4 w5) := Lib.hid (HCk.out.thenB hb5)
                    have HW5 := Lib.hid hw5
                    have HX := Lib.hid hX
                    have x0 : w5.cell? ⟨X, 0, none⟩ = some (.int .i64 bl) := by rw [cell_of_heap k5]; rfl
                    have x2 : w5.cell? ⟨X, 2, none⟩ = some (.int .i64 el) := by rw [cell_of_heap k5]; rfl
                    have x5 : w5.cell? ⟨X, 5, none⟩ = some (.int .i64 (dd : Int)) := by rw [cell_of_heap k5]; rfl
                    clear hkl hsp htk hbd hOk hrow1 hss hc hrow htr hkz2 ha hb he hcalls hcalll hcalld hw5 k5 hgk hb5 hX HGk HCk
                    go_upto_region 20 with fail
                    rw [HW5.out, HX.out]
                    clear p0 p1 p2 p3 p4 p5 cg9
                    have g0 := blk_cell HG5.out HTT0.out (o := 0) (by decide) rfl
                    have g1 := blk_cell HG5.out HTT0.out (o := 1) (by decide) rfl
                    rw [Nat.add_zero] at g0
                    refine wp_region_seq 18 [.is (.pointer (some ⟨ga', t0 * 6, none⟩)), .is (.pointer (some ⟨ga', t0 * 6, none⟩)), .is (.pointer (some ⟨ga', t0 * 6, none⟩)), .is (.pointer (some ⟨ga', t0 * 6, none⟩)), .is (.agg #[.int .i64 s1, .int .i64 s2]), .is (.int .i64 (k : Int)), .is (.bool kz), .is (.pointer (some ⟨X, 0, none⟩)), .is (.pointer (some ⟨X, 0, none⟩)), .is (.int .i64 bl), .is (.pointer (some ⟨X, 2, none⟩)), .is (.pointer (some ⟨X, 2, none⟩)), .is (.pointer (some ⟨X, 2, none⟩)), .is (.int .i64 el), .is (.int .i64 (bl - el)), .is (.agg #[.int .i64 a1, .int .i64 a2]), .is (.pointer (some ⟨ga', t0 * 6, none⟩)), .is (.pointer (some ⟨ga', t0 * 6, none⟩))] rfl mix (by kernel_rfl) (by kernel_rfl) ?_
                    simp only [List.take_succ_cons, List.take_zero]
                    iterate 15
                      refine seq_on (by rfl) (fun wr hbr _ => ?_) ?_
                      · have g0' := bAt hbr g0
                        have g1' := bAt hbr g1
                        have x0' := bAt hbr x0
                        have x2' := bAt hbr x2
                        have x5' := bAt hbr x5
                        simp [opOK, go_sem, g0', g1', x0', x2', hkz, wbe, Below.refl]
                        try exact rfl
                      simp only [Act.put, List.setIfInBounds_toArray, List.set_cons_succ, List.set_cons_zero]
                    refine seq_on (by rfl) (fun wr hbr hH => ?_) ?_
                    · refine opOK_call (f := 65) (args := #[.agg #[.int .i64 s1, .int .i64 s2], .bool kz, .int .i64 (bl - el)]) (by simp [go_sem]) ?_
                      exact (HCS.out wr).mono fun e W' ⟨he, hb⟩ => ⟨_, he, rfl, hb⟩
                    simp only [Act.put, List.setIfInBounds_toArray, List.set_cons_succ, List.set_cons_zero]
                    iterate 2
                      refine seq_on (by rfl) (fun wr hbr _ => ?_) ?_
                      · have g0' := bAt hbr g0
                        have g1' := bAt hbr g1
                        have x0' := bAt hbr x0
                        have x2' := bAt hbr x2
                        have x5' := bAt hbr x5
                        simp [opOK, go_sem, Below.refl]
                        try exact rfl
                      simp only [Act.put, List.setIfInBounds_toArray, List.set_cons_succ, List.set_cons_zero]
                    refine seq_end fun w6 hb6 hH => ?_
                    simp only [List.drop_succ_cons, List.drop_zero]
                    have hg5 := HG5.out
                    have hg6 := (hb6.block ga' (Array.getElem?_eq_some_iff.1 hg5).1).trans hg5
                    have g0 := bAt hb6 g0
                    have g1 := bAt hb6 g1
                    have f0 : w6.frozen? ⟨ga', t0 * 6, none⟩ = false := frozen_of_heap hg6
                    have f1 : w6.frozen? ⟨ga', t0 * 6 + 1, none⟩ = false := frozen_of_heap hg6
                    obtain ⟨w7, hw7⟩ : ∃ y, (w6.setCell ⟨ga', t0 * 6, none⟩ (.int .i64 a1)).setCell ⟨ga', t0 * 6 + 1, none⟩ (.int .i64 a2) = y := ⟨_, rfl⟩
                    have HG7 : Hid (w7.heap[ga']? = some (.cells (trBlk T (updT (trT l list P p q) t0 ⟨(a1, a2), (l1, l2), (d1, d2)⟩)).toArray 64 (0, 0))) := Lib.hid (by
                      have h := heap_setCell_at (heap_setCell_at hg6 (o := t0 * 6) (.int .i64 a1)) (o := t0 * 6 + 1) (.int .i64 a2)
                      rw [hw7] at h
                      rw [h]
                      congr 3
                      rw [List.setIfInBounds_toArray, List.setIfInBounds_toArray, stage_score HTT0.out])
                    have x0 := bAt hb6 x0
                    have x2 := bAt hb6 x2
                    have x5 := bAt hb6 x5
                    have hcc : Chg (fun z => z = ga') w6 w7 := by
                      rw [← hw7]
                      exact ⟨rfl, rfl, rfl, by simp, fun z _ hz => by rw [Below.heap_setCell _ _ _ _ (show z ≠ ga' from hz), Below.heap_setCell _ _ _ _ (show z ≠ ga' from hz)]⟩
                    have HC7 : Hid (Chg (fun z => z = ga') w4 w7) := Lib.hid ((HC5.out.thenB hb6).trans hcc)
                    have x0 := chg_cell hcc x0 (by have := HGX.out; omega)
                    have x2 := chg_cell hcc x2 (by have := HGX.out; omega)
                    have x5 := chg_cell hcc x5 (by have := HGX.out; omega)
                    have HW7 := Lib.hid hw7
                    clear hb6 hH hg5 hg6 hcc hw7 HG5 HC5
                    go_upto_region 21 with fail
                    rw [HW7.out]
                    clear g0 g1 f0 f1
                    have g0 := blk_cell HG7.out HTT0.out (o := 2) (by decide) rfl
                    have g1 := blk_cell HG7.out HTT0.out (o := 3) (by decide) rfl
                    go_upto_region 21 with fail
                    refine wp_region_seq 14 [.is (.pointer (some ⟨ga', t0 * 6, none⟩)), .is (.pointer (some ⟨ga', t0 * 6, none⟩)), .is (.pointer (some ⟨ga', t0 * 6, none⟩)), .is (.pointer (some ⟨ga', t0 * 6 + 2, none⟩)), .is (.agg #[.int .i64 l1, .int .i64 l2]), .is (.int .i64 (k : Int)), .is (.bool kz), .is (.pointer (some ⟨X, 2, none⟩)), .is (.pointer (some ⟨X, 2, none⟩)), .is (.pointer (some ⟨X, 2, none⟩)), .is (.int .i64 el), .is (.agg #[.int .i64 b1, .int .i64 b2]), .is (.pointer (some ⟨ga', t0 * 6, none⟩)), .is (.pointer (some ⟨ga', t0 * 6 + 2, none⟩))] rfl mix (by kernel_rfl) (by kernel_rfl) ?_
                    simp only [List.take_succ_cons, List.take_zero]
                    iterate 11
                      refine seq_on (by rfl) (fun wr hbr _ => ?_) ?_
                      · have g0' := bAt hbr g0
                        have g1' := bAt hbr g1
                        have x0' := bAt hbr x0
                        have x2' := bAt hbr x2
                        have x5' := bAt hbr x5
                        simp [opOK, go_sem, g0', g1', x2', hkz, Below.refl]
                        try exact rfl
                      simp only [Act.put, List.setIfInBounds_toArray, List.set_cons_succ, List.set_cons_zero]
                    refine seq_on (by rfl) (fun wr hbr hH => ?_) ?_
                    · refine opOK_call (f := 65) (args := #[.agg #[.int .i64 l1, .int .i64 l2], .bool kz, .int .i64 (el)]) (by simp [go_sem]) ?_
                      exact (HCL.out wr).mono fun e W' ⟨he, hb⟩ => ⟨_, he, rfl, hb⟩
                    simp only [Act.put, List.setIfInBounds_toArray, List.set_cons_succ, List.set_cons_zero]
                    iterate 2
                      refine seq_on (by rfl) (fun wr hbr _ => ?_) ?_
                      · have g0' := bAt hbr g0
                        have g1' := bAt hbr g1
                        have x0' := bAt hbr x0
                        have x2' := bAt hbr x2
                        have x5' := bAt hbr x5
                        simp [opOK, go_sem, Below.refl]
                        try exact rfl
                      simp only [Act.put, List.setIfInBounds_toArray, List.set_cons_succ, List.set_cons_zero]
                    refine seq_end fun w8 hb8 hH => ?_
                    simp only [List.drop_succ_cons, List.drop_zero]
                    have hg7 := HG7.out
                    have hg8 := (hb8.block ga' (Array.getElem?_eq_some_iff.1 hg7).1).trans hg7
                    have g0 := bAt hb8 g0
                    have g1 := bAt hb8 g1
                    have f0 : w8.frozen? ⟨ga', t0 * 6 + 2, none⟩ = false := frozen_of_heap hg8
                    have f1 : w8.frozen? ⟨ga', t0 * 6 + 3, none⟩ = false := frozen_of_heap hg8
                    obtain ⟨w9, hw9⟩ : ∃ y, (w8.setCell ⟨ga', t0 * 6 + 2, none⟩ (.int .i64 b1)).setCell ⟨ga', t0 * 6 + 3, none⟩ (.int .i64 b2) = y := ⟨_, rfl⟩
                    have HG9 : Hid (w9.heap[ga']? = some (.cells (trBlk T (updT (trT l list P p q) t0 ⟨(a1, a2), (b1, b2), (d1, d2)⟩)).toArray 64 (0, 0))) := Lib.hid (by
                      have h := heap_setCell_at (heap_setCell_at hg8 (o := t0 * 6 + 2) (.int .i64 b1)) (o := t0 * 6 + 3) (.int .i64 b2)
                      rw [hw9] at h
                      rw [h]
                      congr 3
                      rw [List.setIfInBounds_toArray, List.setIfInBounds_toArray, stage_left HTT0.out])
                    have x0 := bAt hb8 x0
                    have x2 := bAt hb8 x2
                    have x5 := bAt hb8 x5
                    have hcc : Chg (fun z => z = ga') w8 w9 := by
                      rw [← hw9]
                      exact ⟨rfl, rfl, rfl, by simp, fun z _ hz => by rw [Below.heap_setCell _ _ _ _ (show z ≠ ga' from hz), Below.heap_setCell _ _ _ _ (show z ≠ ga' from hz)]⟩
                    have HC9 : Hid (Chg (fun z => z = ga') w4 w9) := Lib.hid ((HC7.out.thenB hb8).trans hcc)
                    have x0 := chg_cell hcc x0 (by have := HGX.out; omega)
                    have x2 := chg_cell hcc x2 (by have := HGX.out; omega)
                    have x5 := chg_cell hcc x5 (by have := HGX.out; omega)
                    have HW9 := Lib.hid hw9
                    clear hb8 hH hg7 hg8 hcc hw9 HG7 HC7
                    go_upto_region 22 with fail
                    rw [HW9.out]
                    clear g0 g1 f0 f1
                    have g0 := blk_cell HG9.out HTT0.out (o := 4) (by decide) rfl
                    have g1 := blk_cell HG9.out HTT0.out (o := 5) (by decide) rfl
                    go_upto_region 22 with fail
                    refine wp_region_seq 13 [.is (.pointer (some ⟨ga', t0 * 6, none⟩)), .is (.pointer (some ⟨ga', t0 * 6, none⟩)), .is (.pointer (some ⟨ga', t0 * 6, none⟩)), .is (.pointer (some ⟨ga', t0 * 6 + 4, none⟩)), .is (.agg #[.int .i64 d1, .int .i64 d2]), .is (.int .i64 (k : Int)), .is (.bool kz), .is (.pointer (some ⟨X, 2, none⟩)), .is (.pointer (some ⟨X, 5, none⟩)), .is (.int .i64 (dd : Int)), .is (.agg #[.int .i64 e1, .int .i64 e2]), .is (.pointer (some ⟨ga', t0 * 6, none⟩)), .is (.pointer (some ⟨ga', t0 * 6 + 4, none⟩))] rfl mix (by kernel_rfl) (by kernel_rfl) ?_
                    simp only [List.take_succ_cons, List.take_zero]
                    iterate 10
                      refine seq_on (by rfl) (fun wr hbr _ => ?_) ?_
                      · have g0' := bAt hbr g0
                        have g1' := bAt hbr g1
                        have x0' := bAt hbr x0
                        have x2' := bAt hbr x2
                        have x5' := bAt hbr x5
                        simp [opOK, go_sem, g0', g1', x5', hkz, Below.refl]
                        try exact rfl
                      simp only [Act.put, List.setIfInBounds_toArray, List.set_cons_succ, List.set_cons_zero]
                    refine seq_on (by rfl) (fun wr hbr hH => ?_) ?_
                    · refine opOK_call (f := 65) (args := #[.agg #[.int .i64 d1, .int .i64 d2], .bool kz, .int .i64 ((dd : Int))]) (by simp [go_sem]) ?_
                      exact (HCD.out wr).mono fun e W' ⟨he, hb⟩ => ⟨_, he, rfl, hb⟩
                    simp only [Act.put, List.setIfInBounds_toArray, List.set_cons_succ, List.set_cons_zero]
                    iterate 2
                      refine seq_on (by rfl) (fun wr hbr _ => ?_) ?_
                      · have g0' := bAt hbr g0
                        have g1' := bAt hbr g1
                        have x0' := bAt hbr x0
                        have x2' := bAt hbr x2
                        have x5' := bAt hbr x5
                        simp [opOK, go_sem, Below.refl]
                        try exact rfl
                      simp only [Act.put, List.setIfInBounds_toArray, List.set_cons_succ, List.set_cons_zero]
                    refine seq_end fun w10 hb10 hH => ?_
                    simp only [List.drop_succ_cons, List.drop_zero]
                    have hg9 := HG9.out
                    have hg10 := (hb10.block ga' (Array.getElem?_eq_some_iff.1 hg9).1).trans hg9
                    have g0 := bAt hb10 g0
                    have g1 := bAt hb10 g1
                    have f0 : w10.frozen? ⟨ga', t0 * 6 + 4, none⟩ = false := frozen_of_heap hg10
                    have f1 : w10.frozen? ⟨ga', t0 * 6 + 5, none⟩ = false := frozen_of_heap hg10
                    obtain ⟨w11, hw11⟩ : ∃ y, (w10.setCell ⟨ga', t0 * 6 + 4, none⟩ (.int .i64 e1)).setCell ⟨ga', t0 * 6 + 5, none⟩ (.int .i64 e2) = y := ⟨_, rfl⟩
                    have HG11 : Hid (w11.heap[ga']? = some (.cells (trBlk T (updT (trT l list P p q) t0 ⟨(a1, a2), (b1, b2), (e1, e2)⟩)).toArray 64 (0, 0))) := Lib.hid (by
                      have h := heap_setCell_at (heap_setCell_at hg10 (o := t0 * 6 + 4) (.int .i64 e1)) (o := t0 * 6 + 5) (.int .i64 e2)
                      rw [hw11] at h
                      rw [h]
                      congr 3
                      rw [List.setIfInBounds_toArray, List.setIfInBounds_toArray, stage_darts HTT0.out])
                    have x0 := bAt hb10 x0
                    have x2 := bAt hb10 x2
                    have x5 := bAt hb10 x5
                    have hcc : Chg (fun z => z = ga') w10 w11 := by
                      rw [← hw11]
                      exact ⟨rfl, rfl, rfl, by simp, fun z _ hz => by rw [Below.heap_setCell _ _ _ _ (show z ≠ ga' from hz), Below.heap_setCell _ _ _ _ (show z ≠ ga' from hz)]⟩
                    have HC11 : Hid (Chg (fun z => z = ga') w4 w11) := Lib.hid ((HC9.out.thenB hb10).trans hcc)
                    have x0 := chg_cell hcc x0 (by have := HGX.out; omega)
                    have x2 := chg_cell hcc x2 (by have := HGX.out; omega)
                    have x5 := chg_cell hcc x5 (by have := HGX.out; omega)
                    have HW11 := Lib.hid hw11
                    clear hb10 hH hg9 hg10 hcc hw11 HG9 HC9
                    go_upto_region 18 with fail
                    rw [HW11.out]
                    clear g0 g1 f0 f1
                    have HGZ : Hid (w11.heap[ga']? = some (.cells (trBlk T (updT (trT l list P p q) t0 (trL (st.take (k + 1))))).toArray 64 (0, 0))) := Lib.hid (by rw [HNEW.out]; exact HG11.out)
                    clear HG11 x0 x2 x5
                    go_wp2_with fail
                    go_roundw
                    case rel => exact ⟨k + 1, by omega, by go_num, HGZ, HC11⟩
                    case measure => simp [intOf]; omega
                  · obtain rfl : k = ns := by omega
                    have HG9 : Hid (wk.heap[ga']? = some (.cells (trBlk T (trT l list P p (q + 1))).toArray 64 (0, 0))) := Lib.hid (by
                      have h := HGk.out
                      rw [List.take_of_length_le (by rw [HNS.out]; exact Nat.le_refl _), ← HKP.out] at h
                      rw [h]
                      have e := trT_step (l := l) (list := list) (i := q) hlp
                      rw [HT0.out] at e
                      rw [e])
                    have HC9 := Lib.hid (HCq.out.trans HCk.out)
                    clear HGk HCk
                    go_wp2_with fail
                    go_roundw
                    case rel => exact ⟨q + 1, by omega, by go_num, HG9, HC9⟩
                    case measure => simp [intOf]; omega
              · obtain rfl : q = j := by omega
                have HG9 : Hid (w4.heap[ga']? = some (.cells (trBlk T (trT l list P (p + 1) 0)).toArray 64 (0, 0))) := Lib.hid (by
                  rw [HGq.out]
                  have h := player_out HP4.out.1 HP.out HT.out HPK.out
                  rw [HJK.out] at h
                  congr 3
                  exact trBlk_congr fun t ht => trT_next (by omega) h hlp ht)
                have HQ9 : Hid (∀ z, z < p + 1 → (playerL l (allS list) (z : Nat)).isSome = true) := Lib.hid (fun z h => by
                  by_cases e : z = p
                  · rw [e, HPK.out]; rfl
                  · exact HQ.out z (by omega))
                have HE9 : Hid (w4.ownsRow K 4 1 (.slice (some ⟨ba', 0, none⟩) i i) i ((List.replicate i true).map Value.bool)) := Lib.hid (ownsN_kept HE3.out fun z hz => HCq.out.block z (HE3.out.lt z hz).2 (by cases hz; exact HNE.out))
                have HB9 : Hid (Below K w1 w4) := Lib.hid (by
                  have h := HCq.out
                  exact HB3.out.trans ⟨h.os, h.tape, h.output, h.size, fun z hz => h.block z (by have := HB3.out.size; rw [HK.out] at this; omega) (by have := HGK.out; omega)⟩)
                clear HGq HCq
                go_wp2_with fail
                go_roundw
                case rel => exact ⟨p + 1, by omega, by go_num, HQ9, HE9, HG9, HB9⟩
                case measure => simp [intOf]; omega
        · have hpi : decide ((p : Int) < l.players) = false := decide_eq_false (by rw [HP.out]; omega)
          have HR : Hid (truB l list = true) := Lib.hid (by
            rw [HTR.out, List.all_eq_true]
            intro q hq
            exact HQ.out q (by have := List.mem_range.1 hq; omega))
          have HBZ : Hid (Below N w w2) := Lib.hid (HB.out.trans (HBr.out.mono (Nat.le_of_lt HNK.out)))
          have HGF : Hid (w2.heap[ga']? = some (.cells (trBlk T fun t => trL (keptL l (allS list) t)).toArray 64 (0, 0))) := Lib.hid (by
            rw [HG.out]
            congr 3
            obtain rfl : p = P := by omega
            exact trBlk_congr fun t _ => trT_done (by have := HP4.out; omega))
          go_wp2_with fail
          go_returns
          rw [HR.out]
          exact ⟨_, rfl, HBZ.out, fun _ => ⟨ga', rfl, Nat.le_trans (Nat.le_of_lt HNK.out) HGK.out, HGF.out⟩⟩
end Go.Proofs.YtpfpjbglpibdoaaGreatDoor
