/- The texts MD, SeqJ, JArr, in build order. -/
import Derived.Test.YtnhggfnnolfcdaaZat

/- Chapter 4, in plain Lean: who wins; groups of the ranking. -/
namespace Go.Proofs.Ytnhggfnnolfcdaa
open Go.RowKit Go.Oche Go.Proofs

/-- Groups: none empty, each ascending, everybody once. -/
structure RankOk (n : Nat) (gs : List (List Int)) : Prop where
  ne : ∀ x ∈ gs, x ≠ []
  asc : ∀ x ∈ gs, x.Pairwise (· < ·)
  mem : ∀ x ∈ gs.flatten, 0 ≤ x ∧ x.toNat < n
  nd : gs.flatten.Nodup
  all : ∀ i : Nat, i < n → (i : Int) ∈ gs.flatten
theorem max_by (f : Int → Int) : ∀ l : List Int, l ≠ [] → ∃ i ∈ l, ∀ j ∈ l, f j ≤ f i
  | [], h => (h rfl).elim
  | [x], _ => ⟨x, by simp, by simp⟩
  | x :: y :: l, _ => by
    obtain ⟨i, hi, hm⟩ := max_by f (y :: l) (by simp)
    by_cases h : f i ≤ f x
    · exact ⟨x, by simp, fun j hj => by
        rcases List.mem_cons.1 hj with rfl | hj
        · exact Int.le_refl _
        · have := hm j hj; omega⟩
    · exact ⟨i, by simp [hi], fun j hj => by
        rcases List.mem_cons.1 hj with rfl | hj
        · omega
        · exact hm j hj⟩
theorem bests_ok (r : Rul) (g : Gam) : ∀ (k : Nat) (l : List Int), l.length ≤ k → (∀ x ∈ l, 0 ≤ x ∧ x.toNat < g.pls.length) → l.Pairwise (· < ·) → (bestsL r g k l).flatten.Perm l ∧ ∀ x ∈ bestsL r g k l, x ≠ [] ∧ x.Pairwise (· < ·)
  | 0, l, h, _, _ => by
    have : l = [] := List.eq_nil_of_length_eq_zero (by omega)
    subst this; simp [bestsL]
  | k + 1, [], _, _, _ => by simp [bestsL]
  | k + 1, x :: l, h, hm, ha => by
    rw [bestsL]
    generalize hL : x :: l = L at *
    have hne : L ≠ [] := by rw [← hL]; simp
    obtain ⟨i, hi, hmax⟩ := max_by (rkG r g) L hne
    have hbest : (L.all fun j => !decide (cvG r g j i < 0)) = true := by
      rw [List.all_eq_true]
      intro j hj
      have : ¬ cvG r g j i < 0 := fun e => by
        have := (cv_rk (hm j hj).2 (hm i hi).2).1 e
        have := hmax j hj; omega
      simpa using this
    have hin : i ∈ L.filter fun i => L.all fun j => !decide (cvG r g j i < 0) := List.mem_filter.2 ⟨hi, hbest⟩
    have hsum := (List.filter_append_perm (fun i => L.all fun j => !decide (cvG r g j i < 0)) L).length_eq
    rw [List.length_append] at hsum
    have hpos : 0 < (L.filter fun i => L.all fun j => !decide (cvG r g j i < 0)).length := List.length_pos_of_mem hin
    have ih := bests_ok r g k (L.filter fun i => !L.all fun j => !decide (cvG r g j i < 0)) (by omega) (fun x hx => hm x (List.mem_filter.1 hx).1) (ha.filter _)
    refine ⟨?_, fun z hz => ?_⟩
    · rw [List.flatten_cons]
      exact (List.Perm.append_left _ ih.1).trans (List.filter_append_perm _ L)
    · rcases List.mem_cons.1 hz with rfl | hz
      · exact ⟨List.ne_nil_of_mem hin, ha.filter _⟩
      · exact ih.2 z hz
theorem rank_ok {r : Rul} {g : Gam} (ha : g.win.Pairwise (· < ·)) (hm : ∀ x ∈ g.win, 0 ≤ x ∧ x.toNat < g.pls.length) : RankOk g.pls.length (rankG r g) := by
  have hrest := bests_ok r g g.pls.length (restG g) (by unfold restG; rw [List.length_map]; exact Nat.le_trans (List.length_filter_le _ _) (by simp)) (fun x hx => restG_mem hx) (restG_asc g)
  have hfl : (rankG r g).flatten.Perm (g.win ++ restG g) := by
    unfold rankG
    rw [List.flatten_append]
    refine (List.Perm.append_left _ hrest.1).trans ?_
    split
    · rename_i e; rw [e]; simp
    · simp
  have hmem : ∀ x, x ∈ (rankG r g).flatten ↔ x ∈ g.win ∨ x ∈ restG g := fun x => by rw [hfl.mem_iff, List.mem_append]
  have hno : ∀ x ∈ restG g, x ∉ g.win := fun x hx => by
    unfold restG at hx
    obtain ⟨i, hi, rfl⟩ := List.mem_map.1 hx
    have := (List.mem_filter.1 hi).2
    simpa using this
  have hnd : ∀ {l : List Int}, l.Pairwise (· < ·) → l.Nodup := fun h => List.nodup_iff_pairwise_ne.2 (h.imp fun h => by omega)
  refine ⟨fun x hx => ?_, fun x hx => ?_, fun x hx => ?_, ?_, fun i hi => ?_⟩
  · unfold rankG at hx
    rcases List.mem_append.1 hx with hx | hx
    · split at hx
      · cases hx
      · rename_i e; rw [List.mem_singleton] at hx; subst hx; exact e
    · exact (hrest.2 x hx).1
  · unfold rankG at hx
    rcases List.mem_append.1 hx with hx | hx
    · split at hx
      · cases hx
      · rw [List.mem_singleton] at hx; subst hx; exact ha
    · exact (hrest.2 x hx).2
  · rcases (hmem x).1 hx with hx | hx
    · exact hm x hx
    · exact restG_mem hx
  · rw [hfl.nodup_iff, List.nodup_append]
    exact ⟨hnd ha, hnd (restG_asc g), fun a ha b hb e => hno b hb (e ▸ ha)⟩
  · rw [hmem]
    by_cases hw : (i : Int) ∈ g.win
    · exact .inl hw
    · refine .inr ?_
      unfold restG
      exact List.mem_map.2 ⟨i, List.mem_filter.2 ⟨List.mem_range.2 hi, by simpa using hw⟩, rfl⟩

/-! Who wins. -/
/-- Nobody is better than x by points. -/
def TopP (r : Rul) (g : Gam) (x : Int) : Prop := ∀ i, i < g.pls.length → ¬ ((plr g x.toNat).pts < (plr g i).pts ∧ r.cut = false) ∧ ¬ ((plr g i).pts < (plr g x.toNat).pts ∧ r.cut = true)
structure Won (r : Rul) (g : Gam) : Prop where
  asc : g.win.Pairwise (· < ·)
  mem : ∀ x ∈ g.win, 0 ≤ x ∧ x.toNat < g.pls.length
  one : (r.kind = 1 ∨ r.kind = 4) → g.win ≠ [] → g.win.length = 1
  top : (r.kind ≠ 3 ∨ ¬ (g.hit.getD 1 false = true ∧ g.hit.getD 2 false = true ∧ g.hit.getD 3 false = true)) → ∀ x ∈ g.win, TopP r g x
theorem Won.none {r : Rul} {g : Gam} (h : g.win = []) : Won r g := by
  refine ⟨by rw [h]; exact List.Pairwise.nil, ?_, fun _ e => (e h).elim, fun _ => ?_⟩
  · rw [h]; simp
  · rw [h]; simp
/-- The dart's winners. -/
structure DWon (r : Rul) (d : Gam × List Int) : Prop where
  asc : d.2.Pairwise (· < ·)
  mem : ∀ x ∈ d.2, 0 ≤ x ∧ x.toNat < d.1.pls.length
  one : d.2 ≠ [] → d.2.length = 1
  top : d.2 ≠ [] → (r.kind ≠ 3 ∨ ¬ (d.1.hit.getD 1 false = true ∧ d.1.hit.getD 2 false = true ∧ d.1.hit.getD 3 false = true)) → ∀ x ∈ d.2, TopP r d.1 x
theorem DWon.none {r : Rul} {g : Gam} : DWon r (g, []) := ⟨List.Pairwise.nil, by simp, fun e => (e rfl).elim, by simp⟩
theorem DWon.me {r : Rul} {g : Gam} {p : Nat} (hp : p < g.pls.length) (ht : (r.kind ≠ 3 ∨ ¬ (g.hit.getD 1 false = true ∧ g.hit.getD 2 false = true ∧ g.hit.getD 3 false = true)) → TopP r g p) : DWon r (g, [(p : Int)]) :=
  ⟨by simp, fun x hx => by rw [List.mem_singleton] at hx; subst hx; exact ⟨by omega, by simpa using hp⟩, fun _ => rfl, fun _ h x hx => by rw [List.mem_singleton] at hx; subst hx; exact ht h⟩
theorem dround_won {r : Rul} {M : Int} {g : Gam} (h : Run r M g) (k : r.kind = 1) {f n : Int} (hf : 0 ≤ f ∧ f ≤ 4) : DWon r (dartRound r g f n) := by
  have hI := (round_ok h k (n := n) hf).1
  have hcut := (ok1 h.ok k).2.2.2.1
  unfold dartRound at hI ⊢
  dsimp only at hI ⊢
  by_cases hn : n = if decide (r.last < (plr g g.player).pts + 1) = true then 25 else (plr g g.player).pts + 1
  · rw [if_pos hn] at hI ⊢
    dsimp only at hI
    generalize min (if decide (r.last < (plr g g.player).pts + 1) = true then targetsR r else r.last) ((plr g g.player).pts + if r.jump = true then f else 1) = q at hI ⊢
    by_cases hq : q = targetsR r
    · rw [if_pos hq]
      refine DWon.me (by rw [setP_len]; exact h.pl) fun _ i hi => ?_
      have := (hI.each _ (plr_mem hi)).1.top k
      rw [Int.toNat_natCast, plr_setP h.pl (k := g.player), if_pos rfl]
      dsimp only
      rw [hcut]
      exact ⟨fun e => by omega, fun e => by simp at e⟩
    · rw [if_neg hq]; exact DWon.none
  · rw [if_neg hn]; exact DWon.none
theorem dcric_won {r : Rul} {g : Gam} (hp : g.player < g.pls.length) {f n : Int} : DWon r (dartCricket r g f n) := by
  unfold dartCricket
  have hr := cric_rest (r := r) (g := g) (f := f) (n := n)
  generalize cric r g f n = c at hr ⊢
  split
  · exact DWon.none
  split
  · exact DWon.none
  · rename_i hb
    refine DWon.me (by rw [hr.1, hr.2.2.2.2.2]; exact hp) fun _ i hi => ?_
    rw [Int.toNat_natCast]
    have hnb : ∀ k ∈ List.range c.pls.length, (k != c.player && (if r.cut = true then decide ((plr c k).pts < (plr c c.player).pts) else decide ((plr c c.player).pts < (plr c k).pts))) = false := by
      intro k hk
      unfold beatenG at hb
      rw [List.any_eq_true] at hb
      cases e : (k != c.player && (if r.cut = true then decide ((plr c k).pts < (plr c c.player).pts) else decide ((plr c c.player).pts < (plr c k).pts)))
      · rfl
      · exact (hb ⟨k, hk, e⟩).elim
    have := hnb i (List.mem_range.2 hi)
    by_cases e : i = c.player
    · subst e; exact ⟨fun e => by omega, fun e => by omega⟩
    · have e2 : (i != c.player) = true := by simpa using e
      rw [e2, Bool.true_and] at this
      cases hc : r.cut
      · rw [hc] at this; simp only [Bool.false_eq_true, if_false] at this
        exact ⟨fun e => by have := of_decide_eq_false this; omega, fun e => by simp at e⟩
      · rw [hc] at this; simp only [if_true] at this
        exact ⟨fun e => by simp at e, fun e => by have := of_decide_eq_false this; omega⟩
theorem dshan_won {r : Rul} {g : Gam} (k3 : r.kind = 3) (hp : g.player < g.pls.length) {f n : Int} : DWon r (dartShanghai g f n) := by
  unfold dartShanghai
  split
  · dsimp only
    split
    · rename_i hh
      refine DWon.me (g := { setP g g.player { plr g g.player with pts := (plr g g.player).pts + f * n } with hit := g.hit.set f.toNat true }) (by show g.player < (setP g g.player _).pls.length; rw [setP_len]; exact hp) fun e => ?_
      exfalso
      simp only [Bool.and_eq_true] at hh
      rcases e with e | e
      · exact e k3
      · exact e ⟨hh.1.1, hh.1.2, hh.2⟩
    · exact DWon.none
  · exact DWon.none
theorem leftG_asc (r : Rul) (g : Gam) : (leftG r g).Pairwise (· < ·) := by
  unfold leftG
  rw [List.pairwise_map]
  exact ((List.pairwise_lt_range).filter _).imp fun h => by omega
theorem leftG_mem {r : Rul} {g : Gam} {x : Int} (h : x ∈ leftG r g) : 0 ≤ x ∧ x.toNat < g.pls.length := by
  unfold leftG at h
  obtain ⟨i, hi, rfl⟩ := List.mem_map.1 h
  have := List.mem_range.1 (List.mem_filter.1 hi).1
  exact ⟨by omega, by simpa using this⟩
theorem dkill_won {r : Rul} {M : Int} {g : Gam} (h : Run r M g) (k4 : r.kind = 4) {f n : Int} : DWon r (dartKiller r g f n) := by
  have hI := killer_ok h k4 (f := f) (n := n)
  have hcut := (ok4 h.ok k4).2.2.2.2.2.2.2.2.2.1
  generalize dartKiller r g f n = d at hI ⊢
  obtain ⟨c, wn⟩ := d
  dsimp only at hI
  by_cases hw : wn = []
  · subst hw; exact DWon.none
  · obtain ⟨hl, hal⟩ := hI.2.2.2 hw
    subst hl
    refine ⟨leftG_asc r c, fun x hx => leftG_mem hx, fun _ => hal, fun _ _ x hx => fun i hi => ?_⟩
    dsimp only at hx ⊢
    have hx2 := leftG_mem hx
    rw [hcut]
    refine ⟨fun ⟨e, _⟩ => ?_, fun e => by simp at e⟩
    have hxn := (hI.1.each _ (plr_mem hx2.2)).1.nn
    have hio : isOutG r c i = false := by
      unfold isOutG
      rw [k4]; simp; omega
    have hil : (i : Int) ∈ leftG r c := by
      unfold leftG
      exact List.mem_map.2 ⟨i, List.mem_filter.2 ⟨List.mem_range.2 hi, by simp [hio]⟩, rfl⟩
    have hal' : (leftG r c).length = 1 := hal
    obtain ⟨y, hy⟩ := List.length_eq_one_iff.1 hal'
    rw [hy, List.mem_singleton] at hx hil
    subst hx
    rw [← hil] at e
    simp at e
theorem dart_won {r : Rul} {M : Int} {g : Gam} (h : Run r M g) {f n : Int} (hb : okHit f n) : DWon r (dartG r g f n) := by
  unfold dartG
  rcases kind_of h.ok with q | q | q | q
  · rw [if_pos q]; exact dround_won h q hb.f
  · rw [if_neg (by omega), if_pos q]; exact dcric_won h.pl
  · rw [if_neg (by omega), if_neg (by omega), if_pos q]; exact dshan_won q h.pl
  · rw [if_neg (by omega), if_neg (by omega), if_neg (by omega)]; exact dkill_won h q
theorem bestG_asc (r : Rul) (l : List Plr) : (bestG r l).Pairwise (· < ·) := by
  unfold bestG
  rw [List.pairwise_map]
  exact ((List.pairwise_lt_range).filter _).imp fun h => by omega
theorem throw_hit {r : Rul} {M : Int} {g : Gam} (h : Live r M g) {f n : Int} (hb : okHit f n) (hw : (throwG r g f n).win ≠ []) : (throwG r g f n).hit = (dartG r { g with darts := g.darts + 1 } f n).1.hit := by
  have ht := throw_thrown h hb
  unfold throwG at hw ⊢
  dsimp only at hw ⊢
  split
  · rename_i e
    rw [if_pos e] at hw
    unfold nextG at hw ⊢
    dsimp only at hw ⊢
    split
    · rfl
    · rename_i e2
      rw [if_neg e2] at hw
      exact (hw e.1).elim
  · rfl
/-- WHO WINS. -/
theorem throw_won {r : Rul} {M : Int} {g : Gam} (h : Live r M g) {f n : Int} (hb : okHit f n) : Won r (throwG r g f n) := by
  have ht := throw_thrown h hb
  have hd := dart_won (h.toRun.dart (g.darts + 1)) hb
  have hp := ht.pls
  have hpl : ∀ i, plr (throwG r g f n) i = plr (dartG r { g with darts := g.darts + 1 } f n).1 i := fun i => by unfold plr; rw [hp]
  have hh := throw_hit h hb
  by_cases hw : (throwG r g f n).win = []
  · exact Won.none hw
  have hh := hh hw
  by_cases hd2 : (dartG r { g with darts := g.darts + 1 } f n).2 = []
  · obtain ⟨k23, hbst⟩ := ht.best hw hd2
    refine ⟨by rw [hbst]; exact bestG_asc r _, fun x hx => ?_, fun e _ => by omega, fun _ x hx i hi => ?_⟩
    · rw [hbst] at hx
      obtain ⟨k, hk, rfl, _⟩ := best_mem hx
      rw [hp]; exact ⟨by omega, by simpa using hk⟩
    · rw [hbst] at hx
      obtain ⟨k, hk, rfl, hmin⟩ := best_mem hx
      rw [hp] at hi
      have hc := hmin i hi
      have hc2 : ¬ cmpP r ((dartG r { g with darts := g.darts + 1 } f n).1.pls.getD i default) ((dartG r { g with darts := g.darts + 1 } f n).1.pls.getD k default) < 0 := by omega
      rw [cmpP_lt] at hc2
      rw [hpl, hpl, Int.toNat_natCast]
      unfold plr
      have hnc : ¬ (if r.kind = 2 ∧ r.cut = true then ((dartG r { g with darts := g.darts + 1 } f n).1.pls.getD i default).pts < ((dartG r { g with darts := g.darts + 1 } f n).1.pls.getD k default).pts else ((dartG r { g with darts := g.darts + 1 } f n).1.pls.getD k default).pts < ((dartG r { g with darts := g.darts + 1 } f n).1.pls.getD i default).pts) := fun e => hc2 (.inl e)
      cases hcut : r.cut
      · rw [if_neg (by rw [hcut]; simp)] at hnc
        exact ⟨fun e => hnc e.1, fun e => by simp at e⟩
      · have k2 : r.kind = 2 := by
          rcases k23 with k | k
          · exact k
          · have := (ok3 h.ok k).2.2.2.2.2.1; rw [hcut] at this; cases this
        rw [if_pos ⟨k2, hcut⟩] at hnc
        exact ⟨fun e => by simp at e, fun e => hnc e.1⟩
  · have hwn := ht.won hd2
    refine ⟨by rw [hwn]; exact hd.asc, fun x hx => ?_, fun _ _ => by rw [hwn]; exact hd.one hd2, fun e x hx i hi => ?_⟩
    · rw [hwn] at hx; rw [hp]; exact hd.mem x hx
    · rw [hwn] at hx
      rw [hp] at hi
      rw [hh] at e
      have := hd.top hd2 e x hx i hi
      rw [hpl, hpl]; exact this
/-- The factors that were hit in this visit lie among its darts (ds: all darts). -/
def HitOk (ds : List Int) (g : Gam) : Prop := ∀ f : Nat, g.hit.getD f false = true → ∃ j, j < g.darts ∧ j < ds.length ∧ (ds.getD (ds.length - 1 - j) 0).tmod 100 = g.round + 1 ∧ (ds.getD (ds.length - 1 - j) 0).tdiv 100 = f
theorem HitOk.init {r : Rul} : HitOk [] (initG r) := fun f h => by
  unfold initG at h
  simp only [List.getD_eq_getElem?_getD, List.getElem?_replicate] at h
  split at h <;> simp at h
theorem dart_hit {r : Rul} {g : Gam} {f n : Int} (hb : okHit f n) {i : Nat} (hi : (dartG r g f n).1.hit.getD i false = true) : g.hit.getD i false = true ∨ (n = g.round + 1 ∧ f = i) := by
  unfold dartG at hi
  split at hi
  · left
    unfold dartRound at hi
    by_cases ht : n = if decide (r.last < (plr g g.player).pts + 1) = true then 25 else (plr g g.player).pts + 1
    · dsimp only at hi; rw [if_pos ht] at hi; exact hi
    · dsimp only at hi; rw [if_neg ht] at hi; exact hi
  split at hi
  · left
    unfold dartCricket at hi
    rw [(cric_rest (r := r) (g := g) (f := f) (n := n)).2.2.2.1] at hi; exact hi
  split at hi
  · unfold dartShanghai at hi
    split at hi
    · dsimp only at hi
      by_cases e : i = f.toNat
      · right
        have := hb.f
        exact ⟨by assumption, by omega⟩
      · left
        simp only [List.getD_eq_getElem?_getD, List.getElem?_set] at hi ⊢
        rw [if_neg (by omega)] at hi; exact hi
    · exact .inl hi
  · left
    unfold dartKiller at hi
    cases hf : r.nums.findIdx? (· == n) with
    | none => rw [hf] at hi; exact hi
    | some k =>
      rw [hf] at hi
      dsimp only at hi
      split at hi
      · exact hi
      · dsimp only at hi
        split at hi
        · exact hi
        split at hi <;> exact hi
theorem HitOk.throw {r : Rul} {M : Int} {g : Gam} {ds : List Int} (h : Live r M g) (hh : HitOk ds g) {b : Int} (hb : okBed b = true) : HitOk (ds ++ [b]) (throwG r g (b.tdiv 100) (b.tmod 100)) := by
  have hit := okBed_hit hb
  have ht := throw_thrown h hit
  have hd := dart_ok (h.toRun.dart (g.darts + 1)) hit
  have key : ∀ f : Nat, (dartG r { g with darts := g.darts + 1 } (b.tdiv 100) (b.tmod 100)).1.hit.getD f false = true → ∃ j, j < g.darts + 1 ∧ j < (ds ++ [b]).length ∧ ((ds ++ [b]).getD ((ds ++ [b]).length - 1 - j) 0).tmod 100 = g.round + 1 ∧ ((ds ++ [b]).getD ((ds ++ [b]).length - 1 - j) 0).tdiv 100 = f := fun f hf => by
    rcases dart_hit (g := { g with darts := g.darts + 1 }) hit hf with e | ⟨e1, e2⟩
    · obtain ⟨j, a1, a2, a3, a4⟩ := hh f e
      refine ⟨j + 1, by omega, by simp; omega, ?_⟩
      have he : (ds ++ [b]).getD ((ds ++ [b]).length - 1 - (j + 1)) 0 = ds.getD (ds.length - 1 - j) 0 := by
        simp only [List.getD_eq_getElem?_getD, List.length_append, List.length_singleton]
        rw [List.getElem?_append_left (by omega)]
        congr 2; omega
      rw [he]; exact ⟨a3, a4⟩
    · refine ⟨0, by omega, by simp, ?_⟩
      have he : (ds ++ [b]).getD ((ds ++ [b]).length - 1 - 0) 0 = b := by
        simp only [List.getD_eq_getElem?_getD, List.length_append, List.length_singleton]
        rw [List.getElem?_append_right (by omega)]
        simp
      rw [he]; exact ⟨e1, e2⟩
  have hz : ∀ f : Nat, (List.replicate 5 false).getD f false = true → False := fun f h => by
    simp only [List.getD_eq_getElem?_getD, List.getElem?_replicate] at h
    split at h <;> simp at h
  by_cases hw : (throwG r g (b.tdiv 100) (b.tmod 100)).win = []
  · by_cases hc : g.darts < 2 ∧ isOutG r (dartG r { g with darts := g.darts + 1 } (b.tdiv 100) (b.tmod 100)).1 g.player = false
    · rw [ht.stay hw hc.1 hc.2]
      intro f hf
      dsimp only at hf ⊢
      rw [hd.kept.darts, hd.kept.round]
      exact key f hf
    · have hc' : g.darts = 2 ∨ isOutG r (dartG r { g with darts := g.darts + 1 } (b.tdiv 100) (b.tmod 100)).1 g.player = true := by
        by_cases e : g.darts < 2
        · right
          cases e2 : isOutG r (dartG r { g with darts := g.darts + 1 } (b.tdiv 100) (b.tmod 100)).1 g.player
          · exact (hc ⟨e, e2⟩).elim
          · rfl
        · left; have := h.darts; omega
      rw [ht.next hw hc']
      intro f hf
      exact (hz f hf).elim
  · intro f hf
    rw [throw_hit h hit hw] at hf
    have ho := ht.over hw
    rw [ho.2.2.2, ho.2.2.1]
    exact key f hf
/-- A game after the darts. -/
theorem playS_hit {r : Rul} : ∀ (l : List Nat) (k : Nat) (ds : List Int) (g : Gam), Good r k g → HitOk ds g → Won r g → HitOk (ds ++ (playS r g l).map (·.1)) (lastS r g l) ∧ Won r (lastS r g l)
  | [], k, ds, g, h, hh, hw => by simp [playS, lastS, hh, hw]
  | y :: l, k, ds, g, h, hh, hW => by
    rw [playS, lastS]
    by_cases hw : g.win = []
    · rw [if_pos hw, if_pos hw]
      have ho := dartS_ok (h.live hw) y
      have := playS_hit l (k + 1) (ds ++ [dartS r g y]) (stepS r g y) (h.throw hw (okBed_hit ho)) (hh.throw (h.live hw) ho) (throw_won (h.live hw) (okBed_hit ho))
      simpa using this
    · rw [if_neg hw, if_neg hw]; simpa using ⟨hh, hW⟩
end Go.Proofs.Ytnhggfnnolfcdaa

/- A region whose order is drawn, walked in the text's order, where operations may write: J says what the world is when some have been done. -/
namespace Go.Oche
open Go Go.RowKit

/-- The condition of one operation, at the frame of the text's order. -/
def SeqJVC (P : Program) (ops : Array Oper) (J : (Nat → Bool) → World → Prop) (ks₀ : List Kn) (i : Nat) (k : Kn) (o : Oper) (a : Act) (H : Nat → World → Prop) : Prop :=
  (∃ v, k.s v) ∧
  (∀ w L, L i = false → J L w → (∀ e ∈ o.after.toList, Region.binds .any e = true → L e.on = true ∧ H e.on w) →
    if guardOn ops o a then opOK P o a w (fun v w' => J (setB L i) w' ∧ pres ops ks₀ i o a w w' ∧ k.s v ∧ k.p v w') else J (setB L i) w ∧ k.s undef ∧ k.p undef w)

def SeqJAll (P : Program) (ops : Array Oper) (J : (Nat → Bool) → World → Prop) (ks₀ : List Kn) (K : Act → (Nat → World → Prop) → Prop) : List Kn → List Oper → Act → (Nat → World → Prop) → Nat → Prop
  | _, [], a, H, _ => K a H
  | [], _ :: _, _, _, _ => False
  | k :: ks, o :: l, a, H, i => SeqJVC P ops J ks₀ i k o a H ∧ ∀ v, k.s v → SeqJAll P ops J ks₀ K ks l (a.put o.dst v) (addH H i (k.p v)) (i + 1)

section
variable {P : Program} {ops : Array Oper} {J : (Nat → Bool) → World → Prop} {ks₀ : List Kn} {K : Act → (Nat → World → Prop) → Prop}

theorem seqJ_ks : ∀ {ks : List Kn} {l : List Oper} {a : Act} {H : Nat → World → Prop} {i : Nat} (vs : Nat → Value), SeqJAll P ops J ks₀ K ks l a H i → ∀ j, j < l.length → (∀ m k, m < j → ks[m]? = some k → k.s (vs (i + m))) →
    ∃ k o H', ks[j]? = some k ∧ l[j]? = some o ∧ SeqJVC P ops J ks₀ (i + j) k o (putAll vs (l.take j) i a) H' ∧ (∀ q w, i ≤ q → q < i + j → (∀ k, ks[q - i]? = some k → k.p (vs q) w) → H' q w) ∧ (∀ q w, q < i → H q w → H' q w)
  | [], _ :: _, _, _, _, _, h, _, _, _ => h.elim
  | _, [], _, _, _, _, _, j, hj, _ => by simp at hj
  | k :: ks, o :: l, a, H, i, vs, h, 0, _, _ => ⟨k, o, H, rfl, rfl, by simpa [putAll] using h.1, fun q w h1 h2 => by omega, fun q w _ h => h⟩
  | k :: ks, o :: l, a, H, i, vs, h, j + 1, hj, hs => by
    have h0 : k.s (vs i) := by simpa using hs 0 k (by omega) rfl
    obtain ⟨k', o', H', e1, e2, e3, e4, e5⟩ := seqJ_ks vs (h.2 _ h0) j (by simp at hj; omega) (fun m k hm hk => by
      have := hs (m + 1) k (by omega) (by simpa using hk)
      rwa [show i + (m + 1) = i + 1 + m by omega] at this)
    refine ⟨k', o', H', by simpa using e1, by simpa using e2, by rw [show i + (j + 1) = i + 1 + j by omega]; simpa [putAll] using e3, fun q w h1 h2 hq => ?_, fun q w h1 hq => ?_⟩
    · by_cases hqi : q = i
      · subst hqi
        exact e5 q w (by omega) (by unfold addH; rw [if_pos rfl]; exact hq k (by simp))
      · refine e4 q w (by omega) (by omega) fun k hk => hq k ?_
        rw [show q - i = (q - (i + 1)) + 1 by omega]; simpa using hk
    · exact e5 q w (by omega) (by unfold addH; rw [if_neg (by omega)]; exact hq)

theorem seqJ_has : ∀ {ks : List Kn} {l : List Oper} {a : Act} {H : Nat → World → Prop} {i : Nat}, SeqJAll P ops J ks₀ K ks l a H i → ∀ j, j < l.length → ∃ k v, ks[j]? = some k ∧ k.s v
  | [], _ :: _, _, _, _, h, _, _ => h.elim
  | _, [], _, _, _, _, j, hj => by simp at hj
  | k :: ks, o :: l, a, H, i, h, 0, _ => let ⟨⟨v, hv⟩, _⟩ := h.1; ⟨k, v, rfl, hv⟩
  | k :: ks, o :: l, a, H, i, h, j + 1, hj => by
    obtain ⟨⟨v, hv⟩, _⟩ := h.1
    obtain ⟨k', v', e⟩ := seqJ_has (h.2 v hv) j (by simp at hj; omega)
    exact ⟨k', v', by simpa using e⟩

theorem seqJ_end {w : World} : ∀ {kk ks : List Kn} {l : List Oper} {a : Act} {H : Nat → World → Prop} {i : Nat}, SeqJAll P ops J ks₀ K ks l a H i → (∀ j, ks[j]? = kk[i + j]?) → (∀ j, j < i → H j w) →
    EndAll (knΦ kk) w (fun a => ∃ H, (∀ j, j < i + l.length → H j w) ∧ K a H) l i a
  | _, _, [], a, H, i, h, _, hH => ⟨H, by simpa using hH, by cases ‹List Kn› <;> exact h⟩
  | _, [], _ :: _, _, _, _, h, _, _ => h.elim
  | kk, k :: ks, o :: l, a, H, i, h, hk, hH => fun v hv => by
    have h0 := hv k (by rw [← Nat.add_zero i, ← hk 0]; rfl)
    have := seqJ_end (kk := kk) (w := w) (h.2 v h0.1) (fun j => by rw [show i + 1 + j = i + (j + 1) by omega, ← hk (j + 1)]; simp) (fun j hj => by
      unfold addH
      by_cases hji : j = i
      · rw [if_pos hji]; exact h0.2
      · rw [if_neg hji]; exact hH j (by omega))
    rw [List.length_cons, show i + (l.length + 1) = i + 1 + l.length by omega]
    exact this

theorem seqJ_free {n : Nat} {a₀ : Act} {ks : List Kn} (hB : freeB ops n a₀.tmps.size = true) (hR : readsB ops n = true) (_hlk : ks.length = n) (h : SeqJAll P ops J ks K ks (ops.toList.take n) a₀ (fun _ _ => True) 0) :
    GenAll P ops (knΦ ks) J a₀ (ops.toList.take n) 0 := by
  simp only [freeB, Bool.and_eq_true, Bool.or_eq_true, beq_iff_eq, decide_eq_true_eq] at hB
  obtain ⟨⟨⟨⟨⟨hn, hback⟩, hdist⟩, hin⟩, -⟩, -⟩ := hB
  have hlen : (ops.toList.take n).length = n := by simp; omega
  have key : ∀ i o, (ops.toList.take n)[i]? = some o → GenVC P ops (knΦ ks) J a₀ i o := by
    intro i o ho
    have hi : i < n := by have := (List.getElem?_eq_some_iff.1 ho).1; omega
    have hoi : ops[i]? = some o := by rw [List.getElem?_take, if_pos hi] at ho; simpa using ho
    intro a w L hL0 hb hp ht
    classical
    obtain ⟨vs, hvs⟩ : ∃ vs : Nat → Value, ∀ j, j < n → ((∃ v, knΦ ks j v w ∧ ∀ oj d, ops[j]? = some oj → oj.dst = some d → a.tmps[d]? = some v) → knΦ ks j (vs j) w ∧ ∀ oj d, ops[j]? = some oj → oj.dst = some d → a.tmps[d]? = some (vs j)) ∧ ∀ k, ks[j]? = some k → k.s (vs j) := by
      refine ⟨fun j => if hj : ∃ v, knΦ ks j v w ∧ ∀ oj d, ops[j]? = some oj → oj.dst = some d → a.tmps[d]? = some v then Classical.choose hj else if hj2 : ∃ v, ∃ k, ks[j]? = some k ∧ k.s v then Classical.choose hj2 else undef, fun j hj => ?_⟩
      by_cases hj1 : ∃ v, knΦ ks j v w ∧ ∀ oj d, ops[j]? = some oj → oj.dst = some d → a.tmps[d]? = some v
      · simp only [dif_pos hj1]
        have hc := Classical.choose_spec hj1
        exact ⟨fun _ => hc, fun k hk => (hc.1 k hk).1⟩
      · simp only [dif_neg hj1]
        refine ⟨fun hx => (hj1 hx).elim, fun k hk => ?_⟩
        obtain ⟨k', v', hk', hv'⟩ := seqJ_has h j (by omega)
        have hj2 : ∃ v, ∃ k, ks[j]? = some k ∧ k.s v := ⟨v', k', hk', hv'⟩
        rw [dif_pos hj2]
        obtain ⟨k2, hk2, hs2⟩ := Classical.choose_spec hj2
        rw [hk] at hk2
        cases hk2
        exact hs2
    obtain ⟨k, o', H', e1, e2, ⟨_, hop⟩, e4, -⟩ := seqJ_ks vs h i (by omega) (fun m k hm hk => by rw [Nat.zero_add]; exact (hvs m (by omega)).2 k hk)
    rw [ho] at e2
    cases e2
    have hlt : ∀ e ∈ o.after.toList, Region.binds .any e = true → e.on < i := fun e he hbe => by
      have h1 := List.all_eq_true.1 hback (o, i) (List.mem_iff_getElem?.2 ⟨i, by simp only [List.getElem?_zipIdx, Array.getElem?_toList, hoi, Option.map_some, Nat.zero_add]⟩)
      have h2 := List.all_eq_true.1 h1 e (by simpa using he)
      simpa [hbe] using h2
    have hdep : ∀ e ∈ o.after.toList, Region.binds .any e = true → knΦ ks e.on (vs e.on) w ∧ ∀ oj d, ops[e.on]? = some oj → oj.dst = some d → a.tmps[d]? = some (vs e.on) := fun e he hbe => by
      obtain ⟨oj, v, h1, _, h2, h3⟩ := hp e he hbe
      refine (hvs e.on (by have := hlt e he hbe; omega)).1 ⟨v, h2, fun oj' d hoj hd => ?_⟩
      rw [h1] at hoj
      cases hoj
      exact h3 d hd
    rw [Nat.zero_add] at hop
    have hop := hop w L hL0 hb (fun e he hbe => ⟨(let ⟨_, _, _, h2, _⟩ := hp e he hbe; h2), e4 e.on w (Nat.zero_le _) (by have := hlt e he hbe; omega) fun k hk => ((hdep e he hbe).1 k (by simpa using hk)).2⟩)
    have hread : ((match o.op with | .select _ _ => false | _ => true) = true) ∧ ∀ t ∈ o.looksAt ops, (∃ e ∈ o.after.toList, Region.binds .any e = true ∧ (ops[e.on]?).bind (·.dst) = some t) ∨
        (ops.toList.all fun oj => oj.dst != some t || oj.after.toList.any fun e => Region.binds .any e && e.on == i) = true := by
      have h1 := List.all_eq_true.1 hR (o, i) (List.mem_iff_getElem?.2 ⟨i, by rw [List.getElem?_zipIdx, ho]; simp⟩)
      simp only [Bool.and_eq_true] at h1
      refine ⟨h1.1, fun t ht => ?_⟩
      have h2 := List.all_eq_true.1 h1.2 t ht
      simp only [Bool.or_eq_true] at h2
      rcases h2 with h2 | h2
      · left
        obtain ⟨e, he, h3⟩ := List.any_eq_true.1 h2
        simp only [Bool.and_eq_true, beq_iff_eq] at h3
        exact ⟨e, he, h3.1, h3.2⟩
      · exact .inr h2
    have hsel : ∀ cs b, o.op ≠ .select cs b := fun cs b hc => by have := hread.1; rw [hc] at this; cases this
    have hsz : ∀ d oj j, ops[j]? = some oj → j < n → oj.dst = some d → d < a₀.tmps.size := fun d oj j hj hjn hd => by
      have hmem : oj ∈ ops.toList.take n := List.mem_of_getElem? (i := j) (by rw [List.getElem?_take, if_pos hjn]; simpa using hj)
      have := List.all_eq_true.1 hin oj hmem
      rw [hd] at this
      simpa using this
    have hdval : ∀ e ∈ o.after.toList, Region.binds .any e = true → ∀ oj d, ops[e.on]? = some oj → oj.dst = some d → (putAll vs ((ops.toList.take n).take i) 0 a₀).tmps[d]? = some (vs e.on) := by
      intro e he hbe oj t hoj hdj
      have hei := hlt e he hbe
      have hd2 : distB ((ops.toList.take n).take i) = true := by
        have : ∀ (l : List Oper) (m : Nat), distB l = true → distB (l.take m) = true := by
          intro l
          induction l with
          | nil => intro m _; simp [distB]
          | cons x l ih =>
            intro m hx
            cases m with
            | zero => rfl
            | succ m =>
              simp only [distB, Bool.and_eq_true, List.take_succ_cons] at hx ⊢
              refine ⟨?_, ih m hx.2⟩
              cases hxd : x.dst with
              | none => rfl
              | some d =>
                have h1 := hx.1
                rw [hxd] at h1
                exact List.all_eq_true.2 fun y hy => List.all_eq_true.1 h1 y (List.mem_of_mem_take hy)
        exact this _ _ hdist
      have := putAll_some vs t ((ops.toList.take n).take i) 0 a₀ e.on oj hd2 (by rw [List.getElem?_take, if_pos hei, List.getElem?_take, if_pos (by omega)]; simpa using hoj) hdj (hsz t oj e.on hoj (by omega) hdj)
      rw [this, Nat.zero_add]
    have heq : ∀ t ∈ o.looksAt ops, a.tmps[t]? = (putAll vs ((ops.toList.take n).take i) 0 a₀).tmps[t]? := by
      intro t hmem
      rcases hread.2 t hmem with ⟨e, he, hbe, hd⟩ | hall
      · obtain ⟨oj, hoj, hdj⟩ := Option.bind_eq_some_iff.1 hd
        rw [(hdep e he hbe).2 oj t hoj hdj, hdval e he hbe oj t hoj hdj]
      · rw [ht t hall, putAll_none]
        intro oj hoj hd
        obtain ⟨j, hj⟩ := List.getElem?_of_mem hoj
        rw [List.getElem?_take] at hj
        split at hj
        · rename_i hji
          rw [List.getElem?_take, if_pos (by omega)] at hj
          have hj' : ops[j]? = some oj := by simpa using hj
          have h1 := List.all_eq_true.1 hall oj (by simpa using Array.mem_of_getElem? hj')
          simp only [Bool.or_eq_true, List.any_eq_true, Bool.and_eq_true, beq_iff_eq, bne_iff_ne, ne_eq] at h1
          rcases h1 with h1 | ⟨e, he, hbe, hei⟩
          · exact h1 hd
          · have h2 := List.all_eq_true.1 hback (oj, j) (List.mem_iff_getElem?.2 ⟨j, by simp only [List.getElem?_zipIdx, Array.getElem?_toList, hj', Option.map_some, Nat.zero_add]⟩)
            have h3 := List.all_eq_true.1 h2 e (by simpa using he)
            simp only [hbe, Bool.not_true, Bool.false_or, decide_eq_true_eq] at h3
            omega
        · cases hj
    have hev : execOp a.eval o = execOp (putAll vs ((ops.toList.take n).take i) 0 a₀).eval o := execOp_congr o hsel fun x hx => by
      cases x with
      | tmp t =>
        have := heq t (List.mem_append_left _ (List.mem_filterMap.2 ⟨.tmp t, by simpa using hx, rfl⟩))
        simp only [Act.eval, Array.getD_eq_getD_getElem?, this]
      | const v => rfl
      | global g => rfl
      | func f => rfl
    have hgd : Region.wanted o (yielded ops a.tmps) = guardOn ops o (putAll vs ((ops.toList.take n).take i) 0 a₀) := by
      unfold guardOn Region.wanted
      cases hg : o.guard with
      | none => rfl
      | some jb =>
        obtain ⟨j, b⟩ := jb
        have : yielded ops a.tmps j = yielded ops (putAll vs ((ops.toList.take n).take i) 0 a₀).tmps j := by
          unfold yielded
          cases hd : (ops[j]?).bind (·.dst) with
          | none => rfl
          | some t =>
            simp only [Option.bind_some]
            rw [heq t (List.mem_append_right _ (by rw [hg]; simp [hd]))]
        simp only [this]
    rw [hgd]
    have hok : ∀ R, opOK P o (putAll vs ((ops.toList.take n).take i) 0 a₀) w R → opOK P o a w R := fun R hR => by
      unfold opOK at *
      rw [hev]; exact hR
    split at hop
    · rename_i hg
      rw [if_pos hg]
      refine hok _ (opOK_mono hop fun v w' ⟨h1, hpr, h2, h3⟩ => ⟨h1, fun j hj _ u hu hut kj hkj => ?_, fun k' hk' => ?_⟩)
      · have := hu kj hkj
        refine ⟨this.1, hpr j kj hkj (by omega) u this.1 (fun ⟨e, he, hbe, hej⟩ oj d hoj hd => ?_) this.2⟩
        subst hej
        have h1 := (hdep e he hbe).2 oj d hoj hd
        rw [hut oj d hoj hd] at h1
        rw [hdval e he hbe oj d hoj hd, h1]
      · rw [e1] at hk'
        cases hk'
        exact ⟨h2, h3⟩
    · rename_i hg
      rw [if_neg hg]
      refine ⟨hop.1, fun k' hk' => ?_⟩
      rw [e1] at hk'
      cases hk'
      exact hop.2
  have all : ∀ (l : List Oper) (i : Nat), (∀ j o, l[j]? = some o → GenVC P ops (knΦ ks) J a₀ (i + j) o) → GenAll P ops (knΦ ks) J a₀ l i := by
    intro l
    induction l with
    | nil => intro i _; trivial
    | cons o l ih =>
      intro i hl
      refine ⟨by simpa using hl 0 o rfl, ih (i + 1) fun j o' hj => ?_⟩
      have := hl (j + 1) o' (by simpa using hj)
      rwa [show i + (j + 1) = i + 1 + j by omega] at this
  exact all _ 0 fun j o ho => by rw [Nat.zero_add]; exact key j o ho
end


/-- What is asked behind the operations of the text's order. -/
def seqJK (J : (Nat → Bool) → World → Prop) (K : Act → World → Prop) (n : Nat) : Act → (Nat → World → Prop) → Prop := fun a H => ∀ w', J (fun j => decide (j < n)) w' → (∀ j, j < n → H j w') → K a w'

section
variable {P : Program} {id : Nat} {l : List Oper} {a : Act} {w : World} {Q : Exit → Act → World → Prop} {ks : List Kn}
theorem seqJ_parts (n : Nat) (J : (Nat → Bool) → World → Prop) (hlk : ks.length = n) (hB : freeB l.toArray n a.tmps.size = true) (hR : readsB l.toArray n = true) {K : Act → World → Prop} (h : SeqJAll P l.toArray J ks (seqJK J K n) ks (l.take n) a (fun _ _ => True) 0) :
    GenAll P l.toArray (knΦ ks) J a (l.take n) 0 ∧ ∀ w', J (fun j => decide (j < n)) w' → EndAll (knΦ ks) w' (fun a => K a w') (l.take n) 0 a := by
  have hn : n ≤ l.length := by simp only [freeB, Bool.and_eq_true, decide_eq_true_eq] at hB; simpa using hB.1.1.1.1.1
  have hlen : (l.take n).length = n := by simp; omega
  refine ⟨seqJ_free (ops := l.toArray) hB hR hlk h, fun w' hb => ?_⟩
  have := seqJ_end (w := w') (kk := ks) h (fun j => by simp) (fun j hj => by omega)
  rw [hlen] at this
  have mono : ∀ (l : List Oper) (i : Nat) (a : Act) (X Y : Act → Prop), (∀ a, X a → Y a) → EndAll (knΦ ks) w' X l i a → EndAll (knΦ ks) w' Y l i a := by
    intro l
    induction l with
    | nil => intro i a X Y hXY hx; exact hXY _ hx
    | cons o l ih => intro i a X Y hXY hx v hv; exact ih _ _ _ _ hXY (hx v hv)
  exact mono _ _ _ _ _ (fun a ⟨H, hH, hK⟩ => hK w' hb (by simpa using hH)) this

theorem wp_region_seqJ (n : Nat) (ks : List Kn) (J : (Nat → Bool) → World → Prop) (hlk : ks.length = n) (hmix : P.follows .mixedOrders = true) (hB : freeB l.toArray n a.tmps.size = true) (hR : readsB l.toArray n = true) (h0 : J (fun _ => false) w.drew)
    (h : SeqJAll P l.toArray J ks (seqJK J (fun a w' => wpList P l.toArray Q (l.drop n) a w') n) ks (l.take n) a (fun _ _ => True) 0) : (Code.region id l.toArray true).wp P Q a w :=
  have ⟨h1, h2⟩ := seqJ_parts n J hlk hB hR h
  wp_region_gen n (knΦ ks) J hmix hB h0 h1 h2

theorem wpIn_region_seqJ {F : Fence} (n : Nat) (ks : List Kn) (J : (Nat → Bool) → World → Prop) (hlk : ks.length = n) (hmix : P.follows .mixedOrders = true) (hF : Open F) (hnd : noDefer l.toArray = true) (hB : freeB l.toArray n a.tmps.size = true) (hR : readsB l.toArray n = true) (h0 : J (fun _ => false) w.drew)
    (h : SeqJAll P l.toArray J ks (seqJK J (fun a w' => wpListIn F 0 P l.toArray Q (l.drop n) a w') n) ks (l.take n) a (fun _ _ => True) 0) : (Code.region id l.toArray true).wpIn F 0 P Q a w :=
  have ⟨h1, h2⟩ := seqJ_parts n J hlk hB hR h
  wpIn_region_gen n (knΦ ks) J hmix hF hnd hB h0 h1 h2
end
/-! Where all values are known ahead. -/
def SeqCAll (P : Program) (ops : Array Oper) (J : (Nat → Bool) → World → Prop) (K : Act → Prop) : List Value → List Oper → Act → Nat → Prop
  | _, [], a, _ => K a
  | [], _ :: _, _, _ => False
  | c :: cs, o :: l, a, i => (∀ w L, L i = false → J L w → (∀ e ∈ o.after.toList, Region.binds .any e = true → L e.on = true) →
      if guardOn ops o a then opOK P o a w (fun v w' => v = c ∧ J (setB L i) w') else J (setB L i) w ∧ c = undef) ∧ SeqCAll P ops J K cs l (a.put o.dst c) (i + 1)
section
variable {P : Program} {ops : Array Oper} {J : (Nat → Bool) → World → Prop} {o : Oper} {l : List Oper} {a : Act} {i : Nat}
theorem pres_con {cs : List Value} {w w' : World} : pres ops (cs.map Kn.is) i o a w w' := fun j k hk _ v _ _ _ => by
  obtain ⟨c, _, rfl⟩ := List.mem_map.1 (List.mem_of_getElem? hk)
  trivial
theorem seqC_J {cs₀ : List Value} {K : Act → World → Prop} {n : Nat} : ∀ {cs : List Value} {l : List Oper} {a : Act} {i : Nat} (H : Nat → World → Prop), SeqCAll P ops J (fun a => ∀ w', J (fun j => decide (j < n)) w' → K a w') cs l a i →
    SeqJAll P ops J (cs₀.map Kn.is) (seqJK J K n) (cs.map Kn.is) l a H i
  | [], [], _, _, _, h => fun w' hJ _ => h w' hJ
  | _ :: _, [], _, _, _, h => fun w' hJ _ => h w' hJ
  | [], _ :: _, _, _, _, h => h.elim
  | c :: cs, o :: l, a, i, H, h => by
    refine ⟨⟨⟨c, rfl⟩, fun w L hL hJ hd => ?_⟩, fun v hv => by cases hv; exact seqC_J _ h.2⟩
    have := h.1 w L hL hJ fun e he hb => (hd e he hb).1
    split at this
    · rename_i hg
      rw [if_pos hg]
      exact opOK_mono this fun v w' ⟨h1, h2⟩ => ⟨h2, pres_con, h1, trivial⟩
    · rename_i hg
      rw [if_neg hg]
      exact ⟨this.1, this.2.symm, trivial⟩
theorem wp_region_seqC {id : Nat} {w : World} {Q : Exit → Act → World → Prop} (n : Nat) (cs : List Value) (J : (Nat → Bool) → World → Prop) (hlk : cs.length = n) (hmix : P.follows .mixedOrders = true) (hB : freeB l.toArray n a.tmps.size = true) (hR : readsB l.toArray n = true) (h0 : J (fun _ => false) w.drew)
    (h : SeqCAll P l.toArray J (fun a => ∀ w', J (fun j => decide (j < n)) w' → wpList P l.toArray Q (l.drop n) a w') cs (l.take n) a 0) : (Code.region id l.toArray true).wp P Q a w :=
  wp_region_seqJ n (cs.map Kn.is) J (by simpa using hlk) hmix hB hR h0 (seqC_J _ h)
theorem wpIn_region_seqC {F : Fence} {id : Nat} {w : World} {Q : Exit → Act → World → Prop} (n : Nat) (cs : List Value) (J : (Nat → Bool) → World → Prop) (hlk : cs.length = n) (hmix : P.follows .mixedOrders = true) (hF : Open F) (hnd : noDefer l.toArray = true) (hB : freeB l.toArray n a.tmps.size = true) (hR : readsB l.toArray n = true) (h0 : J (fun _ => false) w.drew)
    (h : SeqCAll P l.toArray J (fun a => ∀ w', J (fun j => decide (j < n)) w' → wpListIn F 0 P l.toArray Q (l.drop n) a w') cs (l.take n) a 0) : (Code.region id l.toArray true).wpIn F 0 P Q a w :=
  wpIn_region_seqJ n (cs.map Kn.is) J (by simpa using hlk) hmix hF hnd hB hR h0 (seqC_J _ h)
variable {K : Act → Prop} {c : Value} {cs : List Value}
/-- The next operation's value is known ahead; it may write. -/
theorem sc_is (hg : o.guard = none) (h : ∀ w L, L i = false → J L w → (∀ e ∈ o.after.toList, Region.binds .any e = true → L e.on = true) → opOK P o a w (fun v w' => v = c ∧ J (setB L i) w'))
    (hr : SeqCAll P ops J K cs l (a.put o.dst c) (i + 1)) : SeqCAll P ops J K (c :: cs) (o :: l) a i := by
  refine ⟨fun w L hL hJ hd => ?_, hr⟩
  rw [if_pos (by simp [guardOn, Region.wanted, hg])]
  exact h w L hL hJ hd
/-- .. and only reads. -/
theorem sc_rd (hg : o.guard = none) (hJ : ∀ w L, L i = false → J L w → J (setB L i) w) (h : ∀ w L, L i = false → J L w → opOK P o a w (fun v w' => v = c ∧ w' = w))
    (hr : SeqCAll P ops J K cs l (a.put o.dst c) (i + 1)) : SeqCAll P ops J K (c :: cs) (o :: l) a i :=
  sc_is hg (fun w L hL hj _ => opOK_mono (h w L hL hj) fun _ _ ⟨h1, h2⟩ => ⟨h1, by rw [h2]; exact hJ w L hL hj⟩) hr
theorem sc_end (h : K a) : SeqCAll P ops J K cs [] a i := by cases cs <;> exact h
end
/-- One cell is written by operation st, while others read; those of rd ahead of it. -/
structure JCell (w0 : World) (st : Nat) (rd : List Nat) (p : Addr) (v : Value) (L : Nat → Bool) (W : World) : Prop where
  eq : W = if L st = true then w0.setCell p v else w0
  rds : L st = true → ∀ i ∈ rd, L i = true
section
variable {w0 W : World} {st : Nat} {rd : List Nat} {p : Addr} {v : Value} {L : Nat → Bool}
theorem JCell.start : JCell w0 st rd p v (fun _ => false) w0 := ⟨rfl, fun h => (by cases h)⟩
theorem JCell.cell (h : JCell w0 st rd p v L W) {b o : Nat} {x : Value} (hv : w0.cell? ⟨b, o, none⟩ = some x) (hb : b ≠ p.block) : W.cell? ⟨b, o, none⟩ = some x := by
  rw [h.eq]
  split
  · rw [World.cell?_of_block (w := w0) (Below.heap_setCell _ _ _ _ hb)]; exact hv
  · exact hv
theorem JCell.look (h : JCell w0 st rd p v L W) {i : Nat} (hi : i ∈ rd) (hL : L i = false) : W = w0 := by
  rw [h.eq]
  split
  · rename_i hs
    rw [h.rds hs i hi] at hL; cases hL
  · rfl
theorem JCell.read (h : JCell w0 st rd p v L W) {i : Nat} (hi : st ≠ i) : JCell w0 st rd p v (setB L i) W := by
  refine ⟨by rw [setB_ne hi]; exact h.eq, fun h' j hj => ?_⟩
  rw [setB_ne hi] at h'
  unfold setB
  split
  · rfl
  · exact h.rds h' j hj
theorem JCell.before (h : JCell w0 st rd p v L W) (hL : L st = false) : W = w0 := by rw [h.eq, hL]; rfl
theorem JCell.store (h : ∀ i ∈ rd, L i = true) : JCell w0 st rd p v (setB L st) (w0.setCell p v) := by
  refine ⟨by rw [setB_eq, if_pos rfl], fun _ j hj => ?_⟩
  unfold setB
  split
  · rfl
  · exact h j hj
theorem JCell.done (h : JCell w0 st rd p v L W) (hL : L st = true) : W = w0.setCell p v := by rw [h.eq, hL]; rfl
end
end Go.Oche

/- A region that draws its order, in which some cells of one block are written, while others read: what the block holds follows from which stores were done. -/
namespace Go.Oche
open Go Go.RowKit
structure JArr (w0 : World) (bk : Nat) (t : TypeId) (A : (Nat → Bool) → Array Value) (L : Nat → Bool) (W : World) : Prop where
  os : W.os = w0.os
  tape : W.tape = w0.tape
  output : W.output = w0.output
  size : W.heap.size = w0.heap.size
  same : ∀ k, k ≠ bk → W.heap[k]? = w0.heap[k]?
  at_ : W.heap[bk]? = some (.cells (A L) t (0, 0))
section
variable {w0 W : World} {bk : Nat} {t : TypeId} {A : (Nat → Bool) → Array Value} {L : Nat → Bool}
theorem JArr.start (h : w0.heap[bk]? = some (.cells (A fun _ => false) t (0, 0))) : JArr w0 bk t A (fun _ => false) w0 := ⟨rfl, rfl, rfl, rfl, fun _ _ => rfl, h⟩
theorem JArr.read (h : JArr w0 bk t A L W) {i : Nat} (hA : A (setB L i) = A L) : JArr w0 bk t A (setB L i) W := ⟨h.os, h.tape, h.output, h.size, h.same, by rw [hA]; exact h.at_⟩
theorem JArr.cell (h : JArr w0 bk t A L W) {b o : Nat} {x : Value} (hv : w0.cell? ⟨b, o, none⟩ = some x) (hb : b ≠ bk) : W.cell? ⟨b, o, none⟩ = some x :=
  (World.cell?_of_block (w := w0) (h.same b hb)).trans hv
theorem JArr.own (h : JArr w0 bk t A L W) {o : Nat} {x : Value} (hx : (A L)[o]? = some x) : W.cell? ⟨bk, o, none⟩ = some x := by rw [cell_of_heap h.at_]; exact hx
theorem JArr.free (h : JArr w0 bk t A L W) (o : Nat) : W.frozen? ⟨bk, o, none⟩ = false := frozen_of_heap h.at_
theorem JArr.store (h : JArr w0 bk t A L W) {i o : Nat} {v : Value} (hA : (A L).setIfInBounds o v = A (setB L i)) : JArr w0 bk t A (setB L i) (W.setCell ⟨bk, o, none⟩ v) :=
  ⟨h.os, h.tape, h.output, by simp [h.size], fun k hk => (Below.heap_setCell _ _ _ _ hk).trans (h.same k hk), by rw [heap_setCell_at h.at_, hA]⟩
theorem JArr.storeRow (h : JArr w0 bk t A L W) {i : Nat} {c : Array Value} (hA : c = A (setB L i)) : JArr w0 bk t A (setB L i) (W.setRow bk c) :=
  ⟨h.os, h.tape, h.output, by rw [setRow_size]; exact h.size, fun k hk => (setRow_other _ _ _ _ hk).trans (h.same k hk), by rw [← hA]; exact setRow_heap _ _ _ _ _ _ h.at_⟩
theorem JArr.below (h : JArr w0 bk t A L W) {B : Nat} {w : World} (hb : Below B w w0) (hk : B ≤ bk) : Below B w W :=
  ⟨h.os.trans hb.os, h.tape.trans hb.tape, h.output.trans hb.output, by rw [h.size]; exact hb.size, fun k hl => (h.same k (by omega)).trans (hb.block k hl)⟩
theorem JArr.keep (h : JArr w0 bk t A L W) {k : Nat} {x : Obj} (hx : w0.heap[k]? = some x) (hk : k ≠ bk) : W.heap[k]? = some x := (h.same k hk).trans hx
end
section
variable {P : Program} {ops : Array Oper} {J : (Nat → Bool) → World → Prop} {o : Oper} {l : List Oper} {a : Act} {i : Nat} {K : Act → Prop} {c : Value} {cs : List Value}
/-- The next operation's guard is on; it only reads. -/
theorem sc_on (hg : guardOn ops o a = true) (hJ : ∀ w L, L i = false → J L w → J (setB L i) w) (h : ∀ w L, L i = false → J L w → opOK P o a w (fun v w' => v = c ∧ w' = w))
    (hr : SeqCAll P ops J K cs l (a.put o.dst c) (i + 1)) : SeqCAll P ops J K (c :: cs) (o :: l) a i := by
  refine ⟨fun w L hL hj hd => ?_, hr⟩
  rw [if_pos hg]
  exact opOK_mono (h w L hL hj) fun _ _ ⟨h1, h2⟩ => ⟨h1, by rw [h2]; exact hJ w L hL hj⟩
/-- .. is off. -/
theorem sc_off (hg : guardOn ops o a = false) (hJ : ∀ w L, L i = false → J L w → J (setB L i) w) (hr : SeqCAll P ops J K cs l (a.put o.dst undef) (i + 1)) : SeqCAll P ops J K (undef :: cs) (o :: l) a i := by
  refine ⟨fun w L hL hj hd => ?_, hr⟩
  rw [if_neg (by rw [hg]; simp)]
  exact ⟨hJ w L hL hj, rfl⟩
end
end Go.Oche
