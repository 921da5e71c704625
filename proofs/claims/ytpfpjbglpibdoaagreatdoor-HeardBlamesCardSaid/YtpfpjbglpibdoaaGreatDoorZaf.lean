/- The texts VD, VE, VF, VG, VJ, VK, VL, in build order. -/
import Derived.Test.YtpfpjbglpibdoaaGreatDoorZae

/- Chapter 5, in plain Lean: spans. -/
namespace Go.Proofs.YtpfpjbglpibdoaaGreatDoor
open Go.RowKit Go.Oche Go.Proofs

def IsSpan (p : Int × Int) (xs : List Int) : Prop := p.1 ∈ xs ∧ p.2 ∈ xs ∧ ∀ x ∈ xs, p.1 ≤ x ∧ x ≤ p.2
theorem IsSpan.unique {p q : Int × Int} {xs : List Int} (h : IsSpan p xs) (h' : IsSpan q xs) : p = q := by
  obtain ⟨a, b, c⟩ := h
  obtain ⟨a', b', c'⟩ := h'
  have h1 := c _ a'
  have h2 := c _ b'
  have h3 := c' _ a
  have h4 := c' _ b
  exact Prod.ext (by omega) (by omega)
theorem IsSpan.congr {p : Int × Int} {xs ys : List Int} (h : IsSpan p xs) (he : ∀ x, x ∈ xs ↔ x ∈ ys) : IsSpan p ys := ⟨(he _).1 h.1, (he _).1 h.2.1, fun x hx => h.2.2 x ((he x).2 hx)⟩
def wideI (p : Int × Int) (n : Int) : Int × Int := (min p.1 n, max p.2 n)
def spanL : List Int → Int × Int
  | [] => (0, 0)
  | x :: xs => xs.foldl wideI (x, x)
theorem foldl_wide : ∀ (xs : List Int) (p : Int × Int), p.1 ≤ p.2 → (xs.foldl wideI p).1 ≤ p.1 ∧ p.2 ≤ (xs.foldl wideI p).2 ∧ (∀ x ∈ xs, (xs.foldl wideI p).1 ≤ x ∧ x ≤ (xs.foldl wideI p).2) ∧ ((xs.foldl wideI p).1 = p.1 ∨ (xs.foldl wideI p).1 ∈ xs) ∧ ((xs.foldl wideI p).2 = p.2 ∨ (xs.foldl wideI p).2 ∈ xs)
  | [], p, h => ⟨Int.le_refl _, Int.le_refl _, by simp, .inl rfl, .inl rfl⟩
  | y :: xs, p, h => by
    rw [List.foldl_cons]
    obtain ⟨h1, h2, h3, h4, h5⟩ := foldl_wide xs (wideI p y) (by unfold wideI; simp only; omega)
    have e1 : (wideI p y).1 = min p.1 y := rfl
    have e2 : (wideI p y).2 = max p.2 y := rfl
    rw [e1] at h1 h4
    rw [e2] at h2 h5
    refine ⟨by omega, by omega, fun x hx => ?_, ?_, ?_⟩
    · rcases List.mem_cons.1 hx with rfl | hx
      · omega
      · exact h3 x hx
    · rcases h4 with h4 | h4
      · by_cases c : p.1 ≤ y
        · left; omega
        · right; rw [h4, show min p.1 y = y by omega]; simp
      · right; simp [h4]
    · rcases h5 with h5 | h5
      · by_cases c : y ≤ p.2
        · left; omega
        · right; rw [h5, show max p.2 y = y by omega]; simp
      · right; simp [h5]
theorem spanL_is {xs : List Int} (h : xs ≠ []) : IsSpan (spanL xs) xs := by
  cases xs with
  | nil => exact (h rfl).elim
  | cons x xs =>
    obtain ⟨h1, h2, h3, h4, h5⟩ := foldl_wide xs (x, x) (Int.le_refl _)
    have e : spanL (x :: xs) = xs.foldl wideI (x, x) := rfl
    rw [← e] at h1 h2 h3 h4 h5
    refine ⟨?_, ?_, fun y hy => ?_⟩
    · rcases h4 with h | h
      · rw [h]; simp
      · simp [h]
    · rcases h5 with h | h
      · rw [h]; simp
      · simp [h]
    · rcases List.mem_cons.1 hy with rfl | hy
      · exact ⟨h1, h2⟩
      · exact h3 y hy
def joinS (p q : Int × Int) : Int × Int := (min p.1 q.1, max p.2 q.2)
def turnsF (players turns : Int) : Nat → Int → List Int
  | 0, _ => []
  | k + 1, t => if t < turns then t :: turnsF players turns k (t + players) else []
def turnsL (l : Lg) (p : Int) : List Int := turnsF l.players l.turns l.turns.toNat p
theorem turnsF_at {P T : Int} (hP : 1 ≤ P) : ∀ (k : Nat) (t : Int) (i : Nat), T - t ≤ k → t + i * P < T → (turnsF P T k t)[i]? = some (t + i * P)
  | 0, t, i, h, hi => by
    have : (0 : Int) ≤ i * P := Int.mul_nonneg (by omega) (by omega)
    omega
  | k + 1, t, i, h, hi => by
    have h0 : (0 : Int) ≤ i * P := Int.mul_nonneg (by omega) (by omega)
    rw [turnsF, if_pos (by omega)]
    cases i with
    | zero => simp
    | succ i =>
      have e : ((i + 1 : Nat) : Int) * P = P + i * P := by rw [show ((i + 1 : Nat) : Int) = (i : Int) + 1 by omega, Int.add_mul]; omega
      rw [e] at hi ⊢
      rw [List.getElem?_cons_succ, turnsF_at hP k (t + P) i (by omega) (by omega)]
      congr 1; omega
def saidL (list : List Rp) (which : Nat → Bool) (t : Int) : List Rp := (list.zipIdx.filter fun p => (p.1.turn == t) && which p.2).map (·.1)
def start5 (l : Lg) : Std := ⟨l.start, l.gin == 0⟩
def playerL (l : Lg) (said : Int → List Rp) (p : Int) : Option (List (List Sp)) :=
  if (followL l said (turnsL l p) [start5 l]).2 = [] then none else some (pruneL (followL l said (turnsL l p) [start5 l]).1 (followL l said (turnsL l p) [start5 l]).2).1
def canL (l : Lg) (list : List Rp) (which : Nat → Bool) : Bool := (List.range l.players.toNat).all fun (p : Nat) => (playerL l (saidL list which) p).isSome
theorem player_some {l : Lg} {said : Int → List Rp} {p : Int} : (playerL l said p).isSome = true ↔ ∃ r, Run l said (turnsL l p) (start5 l) r := by
  unfold playerL
  have h := follow_end (l := l) (said := said) (turnsL l p) [start5 l]
  simp only [List.mem_singleton, exists_eq_left] at h
  by_cases e : (followL l said (turnsL l p) [start5 l]).2 = []
  · rw [if_pos e]
    constructor
    · intro h; cases h
    · intro hr; exact (h.2 hr e).elim
  · rw [if_neg e]
    exact ⟨fun _ => h.1 e, fun _ => rfl⟩
theorem player_kept {l : Lg} {said : Int → List Rp} {p : Int} {ks : List (List Sp)} (h : playerL l said p = some ks) : ks.length = (turnsL l p).length ∧ ∀ (i : Nat) (sp : Sp), (∃ k, ks[i]? = some k ∧ sp ∈ k) ↔ ∃ r, Run l said (turnsL l p) (start5 l) r ∧ r[i]? = some sp := by
  unfold playerL at h
  split at h
  · cases h
  · cases h
    refine ⟨by rw [pruneL_len, followL_len], fun i sp => ?_⟩
    have := prune_kept (l := l) (said := said) (turnsL l p) [start5 l] i sp
    simp only [List.mem_singleton, exists_eq_left] at this
    exact this
end Go.Proofs.YtpfpjbglpibdoaaGreatDoor

/- Chapter 5, in plain Lean: a leg that is truly thrown, in bytes, is a truth. -/
namespace Go.Proofs.YtpfpjbglpibdoaaGreatDoor
open Go.RowKit Go.Oche Go.Proofs

def thr5 (l : Lg) (D : Nat → Nat) : Nat → Std → Nat → En × Nat
  | 0, s, _ => (s.en, 0)
  | k + 1, s, q =>
    let h := if D q % (l.beds.length + 1) = l.beds.length then miss5 else hitB5 l (l.beds.getD (D q % (l.beds.length + 1)) 0)
    if (dart5 l s h).2 = true then ((thr5 l D k (dart5 l s h).1.std (q + 1)).1, (thr5 l D k (dart5 l s h).1.std (q + 1)).2 + 1) else ((dart5 l s h).1, 1)
theorem thr5_mem (l : Lg) (D : Nat → Nat) : ∀ (k : Nat) (s : Std) (q : Nat), thr5 l D k s q ∈ from5 l k s
  | 0, s, q => by simp [thr5, from5]
  | k + 1, s, q => by
    rw [thr5]
    obtain ⟨h, hh⟩ : ∃ h, (if D q % (l.beds.length + 1) = l.beds.length then miss5 else hitB5 l (l.beds.getD (D q % (l.beds.length + 1)) 0)) = h := ⟨_, rfl⟩
    have hm : h ∈ hits5 l := by
      rw [← hh]
      unfold hits5
      split
      · simp
      · rename_i hne
        have hlt : D q % (l.beds.length + 1) < l.beds.length := by have := Nat.mod_lt (D q) (show 0 < l.beds.length + 1 by omega); omega
        refine List.mem_cons_of_mem _ (List.mem_map_of_mem ?_)
        rw [List.getD_eq_getElem?_getD, List.getElem?_eq_getElem hlt]
        exact List.getElem_mem hlt
    rw [hh, from5, List.mem_flatMap]
    refine ⟨h, hm, ?_⟩
    by_cases hg : (dart5 l s h).2 = true
    · rw [if_pos hg, if_pos hg]
      exact List.mem_map.2 ⟨_, thr5_mem l D k _ (q + 1), rfl⟩
    · rw [if_neg hg, if_neg hg]; simp
def visT (l : Lg) (D : Nat → Nat) (s : Std) (q : Nat) : Sp := ⟨s, noBust s (thr5 l D 3 s q).1, (thr5 l D 3 s q).2⟩
theorem visT_mem (l : Lg) (D : Nat → Nat) (s : Std) (q : Nat) : ((visT l D s q).en, (visT l D s q).darts) ∈ vis5 l s := List.mem_map.2 ⟨_, thr5_mem l D 3 s q, rfl⟩
structure Pl5 where
  sts : List Std
  at_ : Nat
  out : List Sp
  won : Bool
def step5 (l : Lg) (D : Nat → Nat) (x : Pl5) : Pl5 :=
  let p := x.out.length % x.sts.length
  let v := visT l D (x.sts.getD p (start5 l)) x.at_
  ⟨x.sts.set p v.aft, x.at_ + v.darts, x.out ++ [v], v.en.won⟩
def play5 (l : Lg) (D : Nat → Nat) : Nat → Pl5 → Pl5
  | 0, x => x
  | k + 1, x => if x.won = true then x else play5 l D k (step5 l D x)
def begin5 (l : Lg) : Pl5 := ⟨List.replicate l.players.toNat (start5 l), 0, [], false⟩
def aftAt (l : Lg) (out : List Sp) (i : Nat) : Std := ((out[i]?).map Sp.aft).getD (start5 l)
structure Ok5 (l : Lg) (x : Pl5) : Prop where
  len : x.sts.length = l.players.toNat
  vis : ∀ sp ∈ x.out, (sp.en, sp.darts) ∈ vis5 l sp.bef
  won : ∀ i sp, x.out[i]? = some sp → sp.en.won = (x.won && decide (i + 1 = x.out.length))
  bef : ∀ i sp, x.out[i]? = some sp → sp.bef = if i < l.players.toNat then start5 l else aftAt l x.out (i - l.players.toNat)
  cur : ∀ j, j < l.players.toNat → x.sts[(x.out.length + j) % l.players.toNat]? = some (if x.out.length + j < l.players.toNat then start5 l else aftAt l x.out (x.out.length + j - l.players.toNat))
theorem Ok5.begin {l : Lg} (_hp : 1 ≤ l.players) : Ok5 l (begin5 l) := by
  refine ⟨by simp [begin5], by simp [begin5], fun i sp h => by simp [begin5] at h, fun i sp h => by simp [begin5] at h, fun j hj => ?_⟩
  have hm : (0 + j) % l.players.toNat = j := by rw [Nat.zero_add]; exact Nat.mod_eq_of_lt hj
  show (List.replicate l.players.toNat (start5 l))[(0 + j) % l.players.toNat]? = some (if 0 + j < l.players.toNat then start5 l else aftAt l [] (0 + j - l.players.toNat))
  rw [hm, if_pos (by omega)]
  simp [hj]
theorem aftAt_app {l : Lg} {out : List Sp} {v : Sp} {i : Nat} (h : i < out.length) : aftAt l (out ++ [v]) i = aftAt l out i := by
  unfold aftAt; rw [List.getElem?_append_left h]
theorem Ok5.step {l : Lg} {D : Nat → Nat} {x : Pl5} (hp : 1 ≤ l.players) (h : Ok5 l x) (hw : x.won = false) : Ok5 l (step5 l D x) := by
  obtain ⟨P, hP⟩ : ∃ P, l.players.toNat = P := ⟨_, rfl⟩
  have hP1 : 1 ≤ P := by omega
  obtain ⟨n, hn⟩ : ∃ n, x.out.length = n := ⟨_, rfl⟩
  have hc0 := h.cur 0 (by omega)
  have hlen := h.len
  rw [hP, hn, Nat.add_zero] at hc0
  rw [hP] at hlen
  obtain ⟨s, hs⟩ : ∃ s, (if n < P then start5 l else aftAt l x.out (n - P)) = s := ⟨_, rfl⟩
  rw [hs] at hc0
  have hgd : x.sts.getD (n % P) (start5 l) = s := by rw [List.getD_eq_getElem?_getD, hc0]; rfl
  obtain ⟨v, hv⟩ : ∃ v, visT l D s x.at_ = v := ⟨_, rfl⟩
  have hvb : v.bef = s := by rw [← hv]; rfl
  have hvm : (v.en, v.darts) ∈ vis5 l v.bef := by rw [hvb, ← hv]; exact visT_mem l D s x.at_
  have hst : step5 l D x = ⟨x.sts.set (n % P) v.aft, x.at_ + v.darts, x.out ++ [v], v.en.won⟩ := by
    unfold step5
    simp only [hn, hlen, hgd, hv]
  rw [hst]
  refine ⟨by simp [hlen, hP], fun sp hsp => ?_, fun i sp hi => ?_, fun i sp hi => ?_, fun j hj => ?_⟩
  · rcases List.mem_append.1 hsp with hsp | hsp
    · exact h.vis sp hsp
    · rw [List.mem_singleton] at hsp; rw [hsp]; exact hvm
  · simp only at hi ⊢
    rw [List.length_append, List.length_singleton, hn]
    by_cases e : i < n
    · rw [List.getElem?_append_left (by omega)] at hi
      have := h.won i sp hi
      rw [hw] at this
      rw [this, decide_eq_false (by omega : ¬ i + 1 = n + 1)]; simp
    · rw [List.getElem?_append_right (by omega), hn] at hi
      have e2 : i = n := by
        by_cases e3 : i - n = 0
        · omega
        · rw [List.getElem?_eq_none (by simp; omega)] at hi; cases hi
      subst e2
      simp at hi
      rw [← hi]; simp
  · simp only at hi ⊢
    rw [hP]
    by_cases e : i < n
    · rw [List.getElem?_append_left (by omega)] at hi
      have := h.bef i sp hi
      rw [hP] at this
      rw [this]
      by_cases c : i < P
      · rw [if_pos c, if_pos c]
      · rw [if_neg c, if_neg c, aftAt_app (by omega)]
    · rw [List.getElem?_append_right (by omega), hn] at hi
      have e2 : i = n := by
        by_cases e3 : i - n = 0
        · omega
        · rw [List.getElem?_eq_none (by simp; omega)] at hi; cases hi
      subst e2
      simp at hi
      rw [← hi, hvb, ← hs]
      by_cases c : i < P
      · rw [if_pos c, if_pos c]
      · rw [if_neg c, if_neg c, aftAt_app (by omega)]
  · simp only
    rw [hP] at hj ⊢
    rw [List.length_append, List.length_singleton, hn]
    by_cases c : j + 1 < P
    · have hc := h.cur (j + 1) (by omega)
      rw [hP, hn] at hc
      have hne : n % P ≠ (n + (j + 1)) % P := by
        intro e
        have h1 : (n + (j + 1)) % P = (n % P + (j + 1)) % P := by rw [Nat.add_mod, Nat.mod_eq_of_lt (show j + 1 < P by omega)]
        rw [h1] at e
        have h2 := Nat.mod_lt n (show 0 < P by omega)
        by_cases h3 : n % P + (j + 1) < P
        · rw [Nat.mod_eq_of_lt h3] at e; omega
        · have h4 : (n % P + (j + 1)) % P = n % P + (j + 1) - P := by
            rw [Nat.mod_eq_sub_mod (a := n % P + (j + 1)) (b := P) (by omega)]; exact Nat.mod_eq_of_lt (by omega)
          rw [h4] at e; omega
      rw [show n + 1 + j = n + (j + 1) by omega, List.getElem?_set_ne hne, hc]
      by_cases d : n + (j + 1) < P
      · rw [if_pos d, if_pos d]
      · rw [if_neg d, if_neg d, aftAt_app (by omega)]
    · have e : n + 1 + j = n + P := by omega
      rw [e, Nat.add_mod_right, if_neg (by omega), List.getElem?_set_self (by rw [hlen]; exact Nat.mod_lt _ (by omega))]
      unfold aftAt
      rw [show n + P - P = n by omega, List.getElem?_append_right (by omega), hn]
      simp
theorem Ok5.play {l : Lg} {D : Nat → Nat} (hp : 1 ≤ l.players) : ∀ (k : Nat) {x : Pl5}, Ok5 l x → Ok5 l (play5 l D k x)
  | 0, _, h => h
  | k + 1, x, h => by
    rw [play5]
    cases hw : x.won
    · rw [if_neg (by decide)]; exact Ok5.play hp k (h.step hp hw)
    · rw [if_pos rfl]; exact h
theorem vis5_upd (l : Lg) (T : Int) (W : Bool) (s : Std) : vis5 { l with turns := T, won := W } s = vis5 l s := by
  have key : ∀ k s, from5 { l with turns := T, won := W } k s = from5 l k s := by
    intro k
    induction k with
    | zero => intro s; rfl
    | succ k ih =>
      intro s
      rw [from5, from5]
      have e : hits5 { l with turns := T, won := W } = hits5 l := rfl
      rw [e]
      congr 1
      funext h
      have e2 : dart5 { l with turns := T, won := W } s h = dart5 l s h := rfl
      rw [e2, ih]
  unfold vis5
  rw [key]
def leg5 (l : Lg) (x : Pl5) : Lg := { l with turns := x.out.length, won := x.won }
theorem Ok5.run {l : Lg} {x : Pl5} (hp : 1 ≤ l.players) (h : Ok5 l x) {said : Int → List Rp} (hs : ∀ (i : Nat) (sp : Sp), x.out[i]? = some sp → fitsP sp.bef sp.en (said i) = true) :
    ∀ (k : Nat) (t : Nat), x.out.length - t ≤ k → ∃ r, Run (leg5 l x) said (turnsF l.players x.out.length k t) (if t < l.players.toNat then start5 l else aftAt l x.out (t - l.players.toNat)) r ∧ ∀ (j : Nat) (sp : Sp), x.out[t + j * l.players.toNat]? = some sp → r[j]? = some sp
  | 0, t, hk => ⟨[], rfl, fun j sp hj => by
      rw [List.getElem?_eq_none (Nat.le_trans (by omega) (Nat.le_add_right _ _))] at hj; cases hj⟩
  | k + 1, t, hk => by
    rw [turnsF]
    by_cases c : t < x.out.length
    · rw [if_pos (by omega)]
      have hsp : x.out[t]? = some x.out[t] := List.getElem?_eq_getElem c
      obtain ⟨r, hr, hrj⟩ := Ok5.run hp h hs k (t + l.players.toNat) (by omega)
      rw [if_neg (by omega), show t + l.players.toNat - l.players.toNat = t by omega] at hr
      have haft : aftAt l x.out t = x.out[t].aft := by unfold aftAt; rw [hsp]; rfl
      rw [haft] at hr
      have ht : ((t + l.players.toNat : Nat) : Int) = (t : Int) + l.players := by omega
      rw [ht] at hr
      refine ⟨x.out[t] :: r, ⟨x.out[t], r, rfl, h.bef t _ hsp, ⟨?_, ?_, hs t _ hsp⟩, hr⟩, fun j sp hj => ?_⟩
      · show _ ∈ vis5 { l with turns := x.out.length, won := x.won } _
        rw [vis5_upd]; exact h.vis _ (List.getElem_mem c)
      · rw [h.won t _ hsp]
        show _ = (x.won && (((t : Nat) : Int) == ((x.out.length : Nat) : Int) - 1))
        congr 1
        rw [Bool.eq_iff_iff, decide_eq_true_eq, beq_iff_eq]; omega
      · cases j with
        | zero => rw [Nat.zero_mul, Nat.add_zero, hsp] at hj; simpa using hj
        | succ j =>
          rw [List.getElem?_cons_succ]
          exact hrj j sp (by rw [← hj]; congr 1; rw [Nat.succ_mul]; omega)
    · rw [if_neg (by omega)]
      exact ⟨[], rfl, fun j sp hj => by rw [List.getElem?_eq_none (Nat.le_trans (by omega) (Nat.le_add_right _ _))] at hj; cases hj⟩
end Go.Proofs.YtpfpjbglpibdoaaGreatDoor

/- Chapter 5, in plain Lean: what reports leave possible, and the laws of it. -/
namespace Go.Proofs.YtpfpjbglpibdoaaGreatDoor
open Go.RowKit Go.Oche Go.Proofs

def Sp.score (s : Sp) : Int := s.bef.left - s.en.left
def allS (list : List Rp) : Int → List Rp := saidL list fun _ => true
def keptL (l : Lg) (said : Int → List Rp) (t : Nat) : List Sp := ((playerL l said ((t % l.players.toNat : Nat) : Int)).getD []).getD (t / l.players.toNat) []
structure Tr where
  score : Int × Int
  left : Int × Int
  darts : Int × Int
def trL (k : List Sp) : Tr := ⟨spanL (k.map Sp.score), spanL (k.map fun s => s.en.left), spanL (k.map fun s => (s.darts : Int))⟩
def truthL (l : Lg) (list : List Rp) : Option (List Tr) :=
  if (List.range l.players.toNat).all (fun (p : Nat) => (playerL l (allS list) p).isSome) = true then some ((List.range l.turns.toNat).map fun t => trL (keptL l (allS list) t)) else none
variable {l : Lg} {said : Int → List Rp}
theorem Run.at_ : ∀ {ts : List Int} {s : Std} {r : List Sp}, Run l said ts s r → ∀ (i : Nat) (t : Int) (sp : Sp), ts[i]? = some t → r[i]? = some sp → OkS l said t sp
  | [], _, _, _, i, t, sp, h, _ => by simp at h
  | t0 :: ts, s, _, ⟨sp0, r', e, h1, h2, h3⟩, 0, t, sp, ht, hr => by subst e; simp at ht hr; subst ht hr; exact h2
  | t0 :: ts, s, _, ⟨sp0, r', e, h1, h2, h3⟩, i + 1, t, sp, ht, hr => by
    subst e
    rw [List.getElem?_cons_succ] at ht hr
    exact Run.at_ h3 i t sp ht hr
theorem Run.turn {said' : Int → List Rp} : ∀ {ts : List Int} {s : Std} {r : List Sp}, Run l said ts s r → (∀ (i : Nat) (t : Int) (sp : Sp), ts[i]? = some t → r[i]? = some sp → fitsP sp.bef sp.en (said' t) = true) → Run l said' ts s r
  | [], _, _, h, _ => h
  | t :: ts, s, _, ⟨sp, r', e, h1, ⟨h2, h3, _⟩, h⟩, hf => by
    subst e
    exact ⟨sp, r', rfl, h1, ⟨h2, h3, hf 0 t sp rfl rfl⟩, Run.turn h fun i t' sp' hi hr => hf (i + 1) t' sp' (by simpa using hi) (by simpa using hr)⟩
def HasTruth (l : Lg) (said : Int → List Rp) : Prop := ∀ p : Nat, p < l.players.toNat → ∃ r, Run l said (turnsL l p) (start5 l) r
theorem kept_mem (hP : 1 ≤ l.players) (h : HasTruth l said) {t : Nat} {sp : Sp} : sp ∈ keptL l said t ↔ ∃ r, Run l said (turnsL l ((t % l.players.toNat : Nat) : Int)) (start5 l) r ∧ r[t / l.players.toNat]? = some sp := by
  have hp : t % l.players.toNat < l.players.toNat := Nat.mod_lt _ (by omega)
  obtain ⟨ks, hks⟩ := Option.isSome_iff_exists.1 (player_some.2 (h _ hp))
  unfold keptL
  rw [hks, Option.getD_some]
  rw [← (player_kept hks).2]
  constructor
  · intro hm
    rw [List.getD_eq_getElem?_getD] at hm
    cases e : ks[t / l.players.toNat]? with
    | none => rw [e] at hm; cases hm
    | some k => rw [e] at hm; exact ⟨k, rfl, hm⟩
  · rintro ⟨k, e, hm⟩
    rw [List.getD_eq_getElem?_getD, e]; exact hm
end Go.Proofs.YtpfpjbglpibdoaaGreatDoor

/- Chapter 5, in plain Lean: HeardTruths and HeardTwice. -/
namespace Go.Proofs.YtpfpjbglpibdoaaGreatDoor
open Go.RowKit Go.Oche Go.Proofs

variable {l : Lg} {said : Int → List Rp}
def GoodBeds (l : Lg) : Prop := ∀ b ∈ l.beds, 0 ≤ b.tdiv 100 * b.tmod 100
theorem hits_nn (h : GoodBeds l) : ∀ x ∈ hits5 l, 0 ≤ x.score := by
  intro x hx
  unfold hits5 at hx
  rcases List.mem_cons.1 hx with rfl | hx
  · simp [miss5]
  · obtain ⟨b, hb, rfl⟩ := List.mem_map.1 hx; exact h b hb
theorem dart_left {s : Std} {h : Ht} (h0 : 0 ≤ h.score) (hs : 0 ≤ s.left) : 0 ≤ (dart5 l s h).1.left ∧ (dart5 l s h).1.left ≤ s.left := by
  unfold dart5
  have : 1 ≤ low5 l.gout := by unfold low5; split <;> omega
  split
  · simp; omega
  · split
    · simp; omega
    · split
      · simp; omega
      · simp; omega
theorem from_left (hg : GoodBeds l) : ∀ (k : Nat) (s : Std), 0 ≤ s.left → ∀ p ∈ from5 l k s, 0 ≤ p.1.left ∧ p.1.left ≤ s.left
  | 0, s, hs, p, hp => by simp [from5] at hp; subst hp; simp [Std.en]; omega
  | k + 1, s, hs, p, hp => by
    rw [from5, List.mem_flatMap] at hp
    obtain ⟨h, hh, hp⟩ := hp
    have hd := dart_left (l := l) (hits_nn hg h hh) hs
    split at hp
    · obtain ⟨q, hq, rfl⟩ := List.mem_map.1 hp
      have := from_left hg k _ hd.1 q hq
      simp only [En.std] at this ⊢
      omega
    · simp at hp; subst hp; exact hd
theorem vis_left (hg : GoodBeds l) {s : Std} (hs : 0 ≤ s.left) {p : En × Nat} (hp : p ∈ vis5 l s) : 0 ≤ p.1.left ∧ p.1.left ≤ s.left := by
  unfold vis5 at hp
  obtain ⟨q, hq, rfl⟩ := List.mem_map.1 hp
  have := from_left hg 3 s hs q hq
  unfold noBust
  dsimp only
  split
  · simp [Std.en]; omega
  · exact this
theorem Run.left (hg : GoodBeds l) : ∀ {ts : List Int} {s : Std} {r : List Sp}, 0 ≤ s.left → Run l said ts s r → ∀ sp ∈ r, 0 ≤ sp.en.left ∧ sp.en.left ≤ sp.bef.left ∧ sp.bef.left ≤ s.left
  | [], _, r, _, h, sp, hsp => by rw [show r = [] from h] at hsp; cases hsp
  | t :: ts, s, _, hs, ⟨sp0, r', e, h1, h2, h3⟩, sp, hsp => by
    subst e h1
    have hv := vis_left hg hs h2.1
    rcases List.mem_cons.1 hsp with rfl | hsp
    · exact ⟨hv.1, hv.2, Int.le_refl _⟩
    · have := Run.left hg (s := sp0.aft) (by simpa [Sp.aft, En.std] using hv.1) h3 sp hsp
      simp only [Sp.aft, En.std] at this
      simp only at hv
      omega
theorem kept_congr {said said' : Int → List Rp} (h : ∀ t s x, fitsP s x (said t) = fitsP s x (said' t)) (t : Nat) : keptL l said t = keptL l said' t ∧ (HasTruth l said ↔ HasTruth l said') := by
  have hst : ∀ t now, stepL l said t now = stepL l said' t now := fun t now => by
    unfold stepL
    congr 1
    funext s
    congr 1
    refine List.filter_congr fun p _ => ?_
    rw [h]
  have hfo : ∀ ts now, followL l said ts now = followL l said' ts now := by
    intro ts
    induction ts with
    | nil => intro now; rfl
    | cons t ts ih => intro now; rw [followL, followL, hst, ih]
  have hpl : ∀ p, playerL l said p = playerL l said' p := fun p => by unfold playerL; rw [hfo]
  refine ⟨by unfold keptL; rw [hpl], ?_⟩
  unfold HasTruth
  constructor
  · intro hh p hp; exact player_some.1 (by rw [← hpl]; exact player_some.2 (hh p hp))
  · intro hh p hp; exact player_some.1 (by rw [hpl]; exact player_some.2 (hh p hp))
theorem mem_allS {list : List Rp} {t : Int} {x : Rp} : x ∈ allS list t ↔ x ∈ list ∧ x.turn = t := by
  unfold allS saidL
  simp only [Bool.and_true, List.mem_map, List.mem_filter]
  constructor
  · rintro ⟨⟨y, i⟩, ⟨h1, h2⟩, rfl⟩
    rw [List.mem_zipIdx_iff_getElem?] at h1
    exact ⟨List.mem_of_getElem? h1, by simpa using h2⟩
  · rintro ⟨h1, h2⟩
    obtain ⟨i, hi⟩ := List.getElem?_of_mem h1
    exact ⟨(x, i), ⟨by rw [List.mem_zipIdx_iff_getElem?]; exact hi, by simpa using h2⟩, rfl⟩
end Go.Proofs.YtpfpjbglpibdoaaGreatDoor

/- Chapter 5, in plain Lean: scores and ways of a visit; HeardSums. -/
namespace Go.Proofs.YtpfpjbglpibdoaaGreatDoor
open Go.RowKit Go.Oche Go.Proofs

theorem from_one (l : Lg) : ∀ (k : Nat) (s : Std), ∀ p ∈ from5 l (k + 1) s, 1 ≤ p.2 := by
  intro k s p hp
  rw [from5_succ] at hp
  obtain ⟨h, _, hp⟩ := List.mem_flatMap.1 hp
  unfold con5 at hp
  split at hp
  · obtain ⟨q, _, rfl⟩ := List.mem_map.1 hp; simp
  · simp at hp; simp [hp]
theorem vis_darts (l : Lg) {s : Std} {p : En × Nat} (hp : p ∈ vis5 l s) : 1 ≤ p.2 ∧ p.2 ≤ 3 := by
  unfold vis5 at hp
  obtain ⟨q, hq, rfl⟩ := List.mem_map.1 hp
  exact ⟨from_one l 2 s q hq, from_darts l 3 s q hq⟩
theorem vis_bust (l : Lg) {s : Std} {p : En × Nat} (hp : p ∈ vis5 l s) : p.1.bust = false := by
  unfold vis5 at hp
  obtain ⟨q, hq, rfl⟩ := List.mem_map.1 hp
  unfold noBust
  dsimp only
  by_cases hb : q.1.bust = true
  · rw [if_pos hb]; rfl
  · rw [if_neg hb]; simpa using hb
def winsL (l : Lg) (s : Std) : Bool := (vis5 l s).any fun p => p.1.won
def IsScores (l : Lg) (s : Std) (xs : List Int) : Prop := xs.Pairwise (· < ·) ∧ ∀ x, x ∈ xs ↔ ∃ p ∈ vis5 l s, p.1.won = false ∧ s.left - p.1.left = x
def waysO (l : Lg) (s : Std) (score : Int) : Option Sm := agg ((vis5 l s).map fun p => (s.left - p.1.left, p.2)) score
end Go.Proofs.YtpfpjbglpibdoaaGreatDoor

/- Chapter 5, in plain Lean: what the maps of steps hold, and the spans of their keys. -/
namespace Go.Proofs.YtpfpjbglpibdoaaGreatDoor
open Go.RowKit Go.Oche Go.Proofs

theorem agg_cons {κ : Type} [DecidableEq κ] (a : κ) (d : Nat) (l : List (κ × Nat)) (x : κ) : agg ((a, d) :: l) x = addO (if a = x then some (Sm.one d) else none) (agg l x) := rfl
def aggP (st : List Sp) : Std × Std → Option Sm := agg (st.map fun s => ((s.bef, s.aft), s.darts))
theorem aggP_append (a b : List Sp) (k : Std × Std) : aggP (a ++ b) k = addO (aggP a k) (aggP b k) := by unfold aggP; rw [List.map_append, agg_append]
theorem aggP_some {st : List Sp} {k : Std × Std} : (aggP st k).isSome = true ↔ ∃ s ∈ st, s.bef = k.1 ∧ s.aft = k.2 := by
  unfold aggP
  rw [agg_some]
  constructor
  · rintro ⟨p, hp, rfl⟩
    obtain ⟨s, hs, rfl⟩ := List.mem_map.1 hp
    exact ⟨s, hs, rfl, rfl⟩
  · rintro ⟨s, hs, h1, h2⟩
    exact ⟨_, List.mem_map_of_mem hs, by rw [← Prod.eta k, ← h1, ← h2]⟩
def fromS (l : Lg) (said : Int → List Rp) (t : Int) (s : Std) : List Sp := ((vis5 l s).filter fun p => (p.1.won == (l.won && (t == l.turns - 1))) && fitsP s p.1 (said t)).map fun p => ⟨s, p.1, p.2⟩
theorem stepL_from (l : Lg) (said : Int → List Rp) (t : Int) (now : List Std) : stepL l said t now = now.flatMap (fromS l said t) := rfl
def enOf (b : Std) (won : Bool) : En := ⟨b.left, b.inn, false, won⟩
theorem aggP_from (l : Lg) (said : Int → List Rp) (t : Int) (s : Std) (k : Std × Std) :
    aggP (fromS l said t s) k = if s = k.1 ∧ fitsP s (enOf k.2 (l.won && (t == l.turns - 1))) (said t) = true then agg (vis5 l s) (enOf k.2 (l.won && (t == l.turns - 1))) else none := by
  obtain ⟨last, hl⟩ : ∃ b, (l.won && (t == l.turns - 1)) = b := ⟨_, rfl⟩
  unfold aggP fromS
  rw [hl]
  have key : ∀ L : List (En × Nat), (∀ p ∈ L, p.1.bust = false) →
      agg (((L.filter fun p => (p.1.won == last) && fitsP s p.1 (said t)).map fun p => (⟨s, p.1, p.2⟩ : Sp)).map fun s => ((s.bef, s.aft), s.darts)) k = if s = k.1 ∧ fitsP s (enOf k.2 last) (said t) = true then agg L (enOf k.2 last) else none := by
    intro L
    induction L with
    | nil => intro _; simp [agg]
    | cons p L ih =>
      intro h
      have ih := ih fun q hq => h q (by simp [hq])
      have hb := h p (by simp)
      obtain ⟨x, d⟩ := p
      simp only at hb
      by_cases c : ((x.won == last) && fitsP s x (said t)) = true
      · rw [List.filter_cons_of_pos (by simpa using c), List.map_cons, List.map_cons, agg_cons, ih]
        rw [Bool.and_eq_true, beq_iff_eq] at c
        show addO (if (s, x.std) = k then some (Sm.one d) else none) _ = _
        by_cases e1 : s = k.1
        · by_cases e2 : x = enOf k.2 last
          · have e3 : (s, x.std) = k := by rw [e2]; exact Prod.ext e1 rfl
            rw [if_pos e3, ← e2, if_pos ⟨e1, c.2⟩, if_pos ⟨e1, c.2⟩, agg_cons, if_pos rfl]
          · have e3 : ¬ (s, x.std) = k := fun q => e2 (by
              have : x.std = k.2 := by rw [← q]
              rw [← this]; unfold enOf En.std
              cases x; simp at hb c ⊢; simp [hb, c.1])
            rw [if_neg e3, none_addO, agg_cons, if_neg e2, none_addO]
        · have e3 : ¬ (s, x.std) = k := fun q => e1 (by rw [← q])
          rw [if_neg e3, none_addO]
          simp [e1]
      · rw [List.filter_cons_of_neg (by simpa using c), ih]
        by_cases e2 : x = enOf k.2 last
        · have c2 : ¬ fitsP s (enOf k.2 last) (said t) = true := fun q => c (by rw [e2, q]; simp [enOf])
          simp [c2]
        · rw [agg_cons, if_neg e2, none_addO]
  exact key _ fun p hp => vis_bust l hp
theorem aggP_step (l : Lg) (said : Int → List Rp) (t : Int) (k : Std × Std) : ∀ {now : List Std}, now.Nodup →
    aggP (stepL l said t now) k = if k.1 ∈ now ∧ fitsP k.1 (enOf k.2 (l.won && (t == l.turns - 1))) (said t) = true then agg (vis5 l k.1) (enOf k.2 (l.won && (t == l.turns - 1))) else none
  | [], _ => by simp [stepL, aggP, agg]
  | s :: now, hn => by
    rw [List.nodup_cons] at hn
    have ih := aggP_step l said t k hn.2
    rw [stepL_from] at ih ⊢
    rw [List.flatMap_cons, aggP_append, ih, aggP_from]
    by_cases e : s = k.1
    · subst e
      have h1 := hn.1
      by_cases f : fitsP k.1 (enOf k.2 (l.won && (t == l.turns - 1))) (said t) = true
      · simp [h1, f]
      · simp [f]
    · have e' : ¬ k.1 = s := fun q => e q.symm
      simp [e, e']
theorem aggP_filter (st : List Sp) (f : Std → Bool) (k : Std × Std) : aggP (st.filter fun s => f s.aft) k = if f k.2 = true then aggP st k else none := by
  unfold aggP
  induction st with
  | nil => simp [agg]
  | cons s st ih =>
    by_cases h : f s.aft = true
    · rw [List.filter_cons_of_pos (p := fun s : Sp => f s.aft) h, List.map_cons, agg_cons, ih, List.map_cons, agg_cons]
      by_cases e : (s.bef, s.aft) = k
      · have e2 : f k.2 = true := by rw [← e]; exact h
        simp [e, e2]
      · rw [if_neg e, none_addO, none_addO]
    · rw [List.filter_cons_of_neg (p := fun s : Sp => f s.aft) h, ih, List.map_cons, agg_cons]
      by_cases e : (s.bef, s.aft) = k
      · have e2 : ¬ f k.2 = true := by rw [← e]; exact h
        simp [e2]
      · rw [if_neg e, none_addO]
theorem trL_keys {st : List Sp} {ks : List (Std × Std)} (hk : ∀ k, k ∈ ks ↔ (aggP st k).isSome = true) {a b : Int × Int} (ha : IsSpan a (ks.map fun k => k.1.left - k.2.left)) (hb : IsSpan b (ks.map fun k => k.2.left)) : (trL st).score = a ∧ (trL st).left = b := by
  have hne : st ≠ [] := by
    rintro rfl
    obtain ⟨k, hk', _⟩ := List.mem_map.1 ha.1
    have := (hk k).1 hk'
    simp [aggP, agg] at this
  have mem : ∀ (f : Std → Std → Int) (x : Int), x ∈ st.map (fun s => f s.bef s.aft) ↔ x ∈ ks.map fun k => f k.1 k.2 := fun f x => by
    rw [List.mem_map, List.mem_map]
    constructor
    · rintro ⟨s, hs, rfl⟩
      exact ⟨(s.bef, s.aft), (hk _).2 (aggP_some.2 ⟨s, hs, rfl, rfl⟩), rfl⟩
    · rintro ⟨k, hk', rfl⟩
      obtain ⟨s, hs, h1, h2⟩ := aggP_some.1 ((hk k).1 hk')
      exact ⟨s, hs, by rw [h1, h2]⟩
  constructor
  · exact IsSpan.unique (spanL_is (by simpa using hne)) (ha.congr fun x => (mem (fun p q => p.left - q.left) x).symm)
  · exact IsSpan.unique (spanL_is (by simpa using hne)) (hb.congr fun x => (mem (fun _ q => q.left) x).symm)
theorem trL_darts {st : List Sp} {ks : List (Std × Std)} (hk : ∀ k, k ∈ ks ↔ (aggP st k).isSome = true) {c : Int × Int} (hc1 : ∃ k ∈ ks, ∃ s, aggP st k = some s ∧ c.1 = s.lo) (hc2 : ∃ k ∈ ks, ∃ s, aggP st k = some s ∧ c.2 = s.hi) (hc : ∀ k ∈ ks, ∀ s, aggP st k = some s → c.1 ≤ s.lo ∧ (s.hi : Int) ≤ c.2) : (trL st).darts = c := by
  obtain ⟨k1, m1, s1, a1, e1⟩ := hc1
  obtain ⟨k2, m2, s2, a2, e2⟩ := hc2
  have b1 := (agg_bounds a1).2.1
  have b2 := (agg_bounds a2).2.2
  have pull : ∀ {k : Std × Std} {v : Nat}, (∃ p ∈ st.map (fun s => ((s.bef, s.aft), s.darts)), p.1 = k ∧ p.2 = v) → ∃ s ∈ st, (s.bef, s.aft) = k ∧ s.darts = v := by
    rintro k v ⟨p, hp, h1, h2⟩
    obtain ⟨s, hs, rfl⟩ := List.mem_map.1 hp
    exact ⟨s, hs, h1, h2⟩
  obtain ⟨x, hx, -, hx2⟩ := pull b1
  obtain ⟨y, hy, -, hy2⟩ := pull b2
  have hne : st ≠ [] := fun e => by rw [e] at hx; cases hx
  refine IsSpan.unique (spanL_is (by simpa using hne)) ⟨List.mem_map.2 ⟨x, hx, by rw [e1, hx2]⟩, List.mem_map.2 ⟨y, hy, by rw [e2, hy2]⟩, fun z hz => ?_⟩
  obtain ⟨s, hs, rfl⟩ := List.mem_map.1 hz
  obtain ⟨m, hm⟩ := Option.isSome_iff_exists.1 (aggP_some.2 ⟨s, hs, rfl, rfl⟩ : (aggP st (s.bef, s.aft)).isSome = true)
  have h1 := hc _ ((hk _).2 (by rw [hm]; rfl)) m hm
  have h2 := (agg_bounds hm).1 _ (List.mem_map_of_mem hs) rfl
  simp only at h2 ⊢
  omega
end Go.Proofs.YtpfpjbglpibdoaaGreatDoor

/- Chapter 5, in plain Lean: bounds of sums; what the loops of from and visits have so far. -/
namespace Go.Proofs.YtpfpjbglpibdoaaGreatDoor
open Go.RowKit Go.Oche Go.Proofs

def SmB (n d : Nat) (o : Option Sm) : Prop := ∀ t, o = some t → t.ways ≤ n ∧ t.lo ≤ d ∧ t.hi ≤ d
theorem SmB.none {n d : Nat} : SmB n d none := fun _ h => by cases h
theorem SmB.le {n m d : Nat} {o : Option Sm} (h : SmB n d o) (hm : n ≤ m) : SmB m d o := fun t ht => ⟨Nat.le_trans (h t ht).1 hm, (h t ht).2⟩
theorem SmB.le2 {n d e : Nat} {o : Option Sm} (h : SmB n d o) (hm : d ≤ e) : SmB n e o := fun t ht => ⟨(h t ht).1, Nat.le_trans (h t ht).2.1 hm, Nat.le_trans (h t ht).2.2 hm⟩
theorem SmB.add {n m d : Nat} {a b : Option Sm} (h : SmB n d a) (h' : SmB m d b) : SmB (n + m) d (addO a b) := by
  cases a with
  | none => rw [none_addO]; exact h'.le (by omega)
  | some x =>
    cases b with
    | none => rw [addO_none]; exact h.le (by omega)
    | some y =>
      intro t ht
      cases ht
      have h1 := h x rfl
      have h2 := h' y rfl
      simp only [Sm.add]; omega
theorem SmB.scale {n d : Nat} {a : Option Sm} (h : SmB n d a) (k : Nat) : SmB (n * k) d (a.map (Sm.scale · k)) := by
  cases a with
  | none => exact SmB.none
  | some x => intro t ht; cases ht; have := h x rfl; exact ⟨Nat.mul_le_mul_right k this.1, this.2⟩
theorem SmB.shift {n d : Nat} {a : Option Sm} (h : SmB n d a) (k : Nat) : SmB n (d + k) (a.map (Sm.shift · k)) := by
  cases a with
  | none => exact SmB.none
  | some x => intro t ht; cases ht; have := h x rfl; simp only [Sm.shift]; omega
theorem SmB.ite {n d : Nat} {a : Option Sm} (h : SmB n d a) (p : Prop) [Decidable p] : SmB n d (if p then a else .none) := by split; exact h; exact SmB.none
theorem agg_b {κ : Type} [DecidableEq κ] {B : List (κ × Nat)} {d : Nat} (h : ∀ p ∈ B, p.2 ≤ d) (x : κ) : SmB B.length d (agg B x) := fun t ht => by
  have h1 := agg_ways ht
  obtain ⟨-, ⟨a, ha, -, ea⟩, ⟨b, hb, -, eb⟩⟩ := agg_bounds ht
  have h2 := h a ha
  have h3 := h b hb
  omega
theorem aggF_b {κ ι : Type} [DecidableEq κ] [DecidableEq ι] {B : List (κ × Nat)} {d : Nat} (h : ∀ p ∈ B, p.2 ≤ d) (f : κ → ι) (y : ι) : ∀ ks, SmB (ks.length * B.length) d (aggF B f ks y)
  | [] => SmB.none
  | x :: ks => by
    rw [aggF, List.length_cons, Nat.succ_mul]
    exact (aggF_b h f y ks).add ((agg_b h x).ite _)
theorem from_b (l : Lg) (k : Nat) (s : Std) (x : En) : SmB ((l.beds.length + 1) ^ k) k (agg (from5 l k s) x) := (agg_b (from_darts l k s) x).le (from_len l k s)
theorem con_b (l : Lg) (k : Nat) (s : Std) (h : Ht) (x : En) : SmB ((l.beds.length + 1) ^ k) (k + 1) (agg (con5 l k s h) x) := by
  cases hg : (dart5 l s h).2
  · rw [con5_ends hg]
    intro t ht
    split at ht
    · cases ht
      have := Nat.one_le_pow k (l.beds.length + 1) (by omega)
      simp [Sm.one]; omega
    · cases ht
  · rw [con5_goes hg]; exact (from_b l k _ x).shift 1
theorem aggH_b (l : Lg) (k : Nat) (s : Std) (x : En) : ∀ hs, SmB (hs.length * (l.beds.length + 1) ^ (k + 1)) (k + 1) (aggH l k s hs x)
  | [] => SmB.none
  | h :: hs => by
    rw [aggH, List.length_cons, Nat.succ_mul]
    refine (aggH_b l k s x hs).add (((con_b l k s h x).scale _).le ?_)
    rw [Nat.pow_succ]
    refine Nat.mul_le_mul_left _ ?_
    rw [← hits_len]; exact List.count_le_length
def aggG (B : List (En × Nat)) (m : Nat) (xs : List En) (x : En) : Option Sm := if x ∈ xs then ((agg B x).map (Sm.shift · 1)).map (Sm.scale · m) else none
theorem aggG_nil (B : List (En × Nat)) (m : Nat) (x : En) : aggG B m [] x = none := by simp [aggG]
theorem aggG_snoc {B : List (En × Nat)} {m : Nat} {xs : List En} {y : En} (hn : y ∉ xs) {t : Sm} (ht : agg B y = some t) (x : En) :
    aggG B m (xs ++ [y]) x = if x = y then addO (aggG B m xs y) (some ((t.scale m).shift 1)) else aggG B m xs x := by
  unfold aggG
  by_cases e : x = y
  · subst e
    simp [hn, ht, Sm.scale, Sm.shift]
  · simp [e]
theorem aggG_all {B : List (En × Nat)} {m : Nat} {xs : List En} (hm : ∀ x, x ∈ xs ↔ (agg B x).isSome = true) (x : En) : aggG B m xs x = ((agg B x).map (Sm.shift · 1)).map (Sm.scale · m) := by
  unfold aggG
  by_cases h : x ∈ xs
  · rw [if_pos h]
  · rw [if_neg h]
    have : agg B x = none := by
      cases e : agg B x with
      | none => rfl
      | some t => exact (h ((hm x).2 (by rw [e]; rfl))).elim
    rw [this]; rfl
theorem aggG_b {B : List (En × Nat)} {d : Nat} (h : ∀ p ∈ B, p.2 ≤ d) (m : Nat) (xs : List En) (x : En) : SmB (B.length * m) (d + 1) (aggG B m xs x) := (((agg_b h x).shift 1).scale m).ite _
end Go.Proofs.YtpfpjbglpibdoaaGreatDoor
