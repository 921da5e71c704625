/- The texts OwS, PL0, QA, QB, QC0, in build order. -/
import Derived.Test.YtpfpjbglpibdoaaGreatDoorZay
import Derived.Laws.NewBlocks
import Derived.Deep.MidRow

/- Rows of one's own that are a literal; slices of new blocks. -/
namespace Go.Proofs.YtpfpjbglpibdoaaGreatDoor
open Go Go.RowKit Go.Oche Go.Proofs

def kMk (lo : Nat) (t : TypeId) (cells : Array Value) (n : Nat) : Kn where
  s := fun v => ∃ b, v = .slice (some ⟨b, 0, none⟩) n n
  p := fun v w => ∃ b, v = .slice (some ⟨b, 0, none⟩) n n ∧ lo ≤ b ∧ w.heap[b]? = some (.cells cells t (0, 0))
  m := fun _ _ _ hb ⟨b, e, h1, h2⟩ => ⟨b, e, h1, (hb.block b (Array.getElem?_eq_some_iff.1 h2).1).trans h2⟩
theorem own_empty {W : World} {base b k : Nat} {e : TypeId} (h : W.heap[b]? = some (.cells #[] e (0, 0))) (hb : base ≤ b) : W.ownsRow base e k (.slice (some ⟨b, 0, none⟩) 0 0) 0 [] :=
  ⟨by simp, .inr ⟨b, 0, #[], rfl, hb, h, Nat.le_refl _, Nat.zero_le _, by simp, by simp⟩⟩
theorem own_lit {W : World} {base b k m : Nat} {e : TypeId} {cs : Array Value} (h : W.heap[b]? = some (.cells cs e (0, 0))) (hb : base ≤ b) (hm : m ≤ 100000) (hs : cs.size = m * k) : W.ownsRow base e k (.slice (some ⟨b, 0, none⟩) m m) m cs.toList :=
  ⟨by simpa using hs, .inr ⟨b, m, cs, rfl, hb, h, Nat.le_refl _, by unfold maxLen; omega, hs, List.take_of_length_le (by rw [Array.length_toList, hs]; exact Nat.le_refl _)⟩⟩
theorem own_mono {W : World} {base base' k n : Nat} {e : TypeId} {v : Value} {xs : List Value} (h : W.ownsRow base e k v n xs) (hb : base' ≤ base) : W.ownsRow base' e k v n xs := by
  refine ⟨h.1, ?_⟩
  rcases h.2 with h | ⟨g, cap, cur, e1, e2, e3⟩
  · exact .inl h
  · exact .inr ⟨g, cap, cur, e1, Nat.le_trans hb e2, e3⟩
theorem bThenQ {Q : Nat} {w w1 w2 : World} (h : Below Q w w1) (hQ : w.heap.size = Q) (h2 : Below w1.heap.size w1 w2) : Below Q w w2 := h.trans (h2.mono (by rw [← hQ]; exact h.size))
end Go.Proofs.YtpfpjbglpibdoaaGreatDoor

/- Chapter 5, the reference's Player: plain part; rows of rows of steps. -/
namespace Go.Proofs.YtpfpjbglpibdoaaGreatDoor
open Go Go.RowKit Go.Oche Go.Proofs

def spRow (sp : Sp) : List Value := [.int .i64 sp.bef.left, .bool sp.bef.inn, .int .i64 sp.en.left, .bool sp.en.inn, .bool sp.en.won, .int .i64 (sp.darts : Int)]
def fitV (l : Lg) (said : Int → List Rp) (t : Int) (s : Std) (p : En × Nat) : Bool := (p.1.won == (l.won && (t == l.turns - 1))) && fitsP s p.1 (said t)
def visS (l : Lg) (said : Int → List Rp) (t : Int) (s : Std) (V : List (En × Nat)) : List Sp := (V.filter (fitV l said t s)).map fun p => ⟨s, p.1, p.2⟩
section
variable {l : Lg} {said : Int → List Rp} {t : Int} {s : Std} {V : List (En × Nat)} {p : En × Nat} {now : List Std}
theorem visS_in (h : fitV l said t s p = true) : visS l said t s (V ++ [p]) = visS l said t s V ++ [⟨s, p.1, p.2⟩] := by
  unfold visS; rw [List.filter_append]; simp [h]
theorem visS_out (h : fitV l said t s p = false) : visS l said t s (V ++ [p]) = visS l said t s V := by
  unfold visS; rw [List.filter_append]; simp [h]
theorem stepL_take {i : Nat} (h : i < now.length) : stepL l said t (now.take (i + 1)) = stepL l said t (now.take i) ++ visS l said t now[i] (vis5 l now[i]) := by
  rw [List.take_succ_eq_append_getElem h]
  unfold stepL
  rw [List.flatMap_append]
  simp only [List.flatMap_cons, List.flatMap_nil, List.append_nil]
  rfl
theorem firsts_snoc {α : Type} [DecidableEq α] (xs : List α) (y : α) : firsts (xs ++ [y]) = addNew (firsts xs) y := by
  unfold firsts; rw [List.foldl_append]; rfl
theorem visS_len (V : List (En × Nat)) : (visS l said t s V).length ≤ V.length := by
  unfold visS; rw [List.length_map]; exact List.length_filter_le _ _
theorem visN_bd (h6 : l.beds.length ≤ 6) (s : Std) : (vis5 l s).length ≤ 343 := by
  have h := new_bd (l := l) (start := s) (d := 0) (k := 3) (now := s) h6 (by decide)
  rw [← visRows_eq] at h
  unfold visRows at h
  rwa [List.length_map] at h
theorem stepL_len (h6 : l.beds.length ≤ 6) : ∀ now : List Std, (stepL l said t now).length ≤ now.length * 343
  | [] => Nat.zero_le _
  | s :: now => by
    have h1 := stepL_len h6 now
    have h2 := Nat.le_trans (visS_len (l := l) (said := said) (t := t) (s := s) (vis5 l s)) (visN_bd h6 s)
    have e : stepL l said t (s :: now) = visS l said t s (vis5 l s) ++ stepL l said t now := rfl
    rw [e, List.length_append, List.length_cons, Nat.add_mul]
    omega
def NowR (now : List Std) : Prop := now.Nodup ∧ ∀ s ∈ now, 0 ≤ s.left ∧ s.left ≤ 60
theorem NowR.len (h : NowR now) : now.length ≤ 122 := by
  let f : Std → Nat := fun s => 2 * s.left.toNat + (if s.inn = true then 1 else 0)
  have hf : ∀ a ∈ now, ∀ b ∈ now, f a = f b → a = b := fun a ha b hb e => by
    have h1 := h.2 a ha
    have h2 := h.2 b hb
    obtain ⟨al, ai⟩ := a
    obtain ⟨bl, bi⟩ := b
    simp only [f] at e h1 h2
    cases ai <;> cases bi <;> simp at e <;> first | omega | (have : al = bl := by omega); rw [this]
  have hm : (now.map f).Nodup := by
    have : ∀ l : List Std, l.Nodup → (∀ a ∈ l, ∀ b ∈ l, f a = f b → a = b) → (l.map f).Nodup := by
      intro l
      induction l with
      | nil => intro _ _; exact List.nodup_nil
      | cons a l ih =>
        intro hn hi
        rw [List.nodup_cons] at hn
        rw [List.map_cons, List.nodup_cons]
        refine ⟨fun hc => ?_, ih hn.2 fun x hx y hy => hi x (List.mem_cons_of_mem _ hx) y (List.mem_cons_of_mem _ hy)⟩
        obtain ⟨b, hb, e⟩ := List.mem_map.1 hc
        exact hn.1 (hi b (List.mem_cons_of_mem _ hb) a (by simp) e ▸ hb)
    exact this now h.1 hf
  have := List.Nodup.length_le_of_subset hm (l₂ := List.range 122) fun x hx => by
    obtain ⟨a, ha, rfl⟩ := List.mem_map.1 hx
    have h1 := h.2 a ha
    rw [List.mem_range]
    simp only [f]
    split <;> omega
  simpa using this
theorem NowR.step (h : NowR now) (hg : GoodBeds l) : NowR (firsts ((stepL l said t now).map Sp.aft)) := by
  refine ⟨nodup_firsts _, fun y hy => ?_⟩
  rw [mem_firsts, List.mem_map] at hy
  obtain ⟨sp, h0, rfl⟩ := hy
  obtain ⟨h1, h2, -⟩ := mem_stepL.1 h0
  have h3 := h.2 _ h1
  have h4 := vis_left hg h3.1 h2
  simp only [Sp.aft, En.std] at h4 ⊢
  omega
end

structure OutR (M : Nat) (W : World) (v : Value) (xss : List (List Sp)) (vs : List Value) : Prop where
  len : vs.length = xss.length
  row : W.ownsRow M 145 1 v vs.length vs
  rows : ∀ (i : Nat) (u : Value) (xs : List Sp), vs[i]? = some u → xss[i]? = some xs → W.ownsRow M 147 6 u xs.length ((xs.map spRow).flatten)
section
variable {M : Nat} {W W' : World} {v v' : Value} {xss : List (List Sp)} {vs : List Value}
theorem OutR.below (h : OutR M W v xss vs) (hb : Below W.heap.size W W') : OutR M W' v xss vs :=
  ⟨h.len, ownsN_below h.row hb, fun i u xs hu hx => ownsN_below (h.rows i u xs hu hx) hb⟩
theorem OutR.keep (h : OutR M W v xss vs) (hk : ∀ k, k < W.heap.size → W'.heap[k]? = W.heap[k]?) : OutR M W' v xss vs :=
  ⟨h.len, ownsN_kept h.row fun g hg => hk g (h.row.lt g hg).2, fun i u xs hu hx => ownsN_kept (h.rows i u xs hu hx) fun g hg => hk g ((h.rows i u xs hu hx).lt g hg).2⟩
theorem OutR.outer (h : OutR M W v xss vs) (hg : W.grownBy W' v.ownBlock) {i : Nat} {u : Value} {xs : List Sp} (hu : vs[i]? = some u) (hx : xss[i]? = some xs) : W'.ownsRow M 147 6 u xs.length ((xs.map spRow).flatten) := by
  have hr := h.rows i u xs hu hx
  exact hr.kept hg (ownsN_ne hr h.row (by decide))
theorem OutR.snoc (h : OutR M W v xss vs) {u : Value} {xs : List Sp} (hu : W.ownsRow M 147 6 u xs.length ((xs.map spRow).flatten)) (hg : W.grownBy W' v.ownBlock) (ho : W'.ownsRow M 145 1 v' (vs.length + 1) (vs ++ [u])) :
    OutR M W' v' (xss ++ [xs]) (vs ++ [u]) := by
  refine ⟨by simp [h.len], by rw [List.length_append]; exact ho, fun i u' xs' hu' hx' => ?_⟩
  by_cases hi : i < vs.length
  · rw [List.getElem?_append_left hi] at hu'
    rw [List.getElem?_append_left (by rw [← h.len]; exact hi)] at hx'
    exact h.outer hg hu' hx'
  · have hlt := (List.getElem?_eq_some_iff.1 hu').1
    rw [List.length_append, List.length_cons, List.length_nil] at hlt
    obtain rfl : i = vs.length := by omega
    have e1 : u' = u := by simpa using hu'.symm
    have e2 : xs' = xs := by rw [h.len] at hx'; simpa using hx'.symm
    subst e1 e2
    exact hu.kept hg (ownsN_ne hu h.row (by decide))
theorem OutR.set {b c j : Nat} (h : OutR M W (.slice (some ⟨b, 0, none⟩) vs.length c) xss vs) {u : Value} {xs : List Sp} (hu : W.ownsRow M 147 6 u xs.length ((xs.map spRow).flatten)) :
    OutR M (W.setCell ⟨b, j, none⟩ u) (.slice (some ⟨b, 0, none⟩) vs.length c) (xss.set j xs) (vs.set j u) ∧ W.grownBy (W.setCell ⟨b, j, none⟩ u) (some b) := by
  have hs := h.row.stored j u
  refine ⟨⟨by simp [h.len], by rw [List.length_set]; exact hs.1, fun i u' xs' hu' hx' => ?_⟩, hs.2⟩
  by_cases hij : j = i
  · subst hij
    rw [List.getElem?_set_self' ] at hu' hx'
    cases hvj : vs[j]? with
    | none => rw [hvj] at hu'; cases hu'
    | some a =>
      cases hxj : xss[j]? with
      | none => rw [hxj] at hx'; cases hx'
      | some a' =>
        rw [hvj] at hu'
        rw [hxj] at hx'
        cases hu'
        cases hx'
        exact hu.kept hs.2 (ownsN_ne hu h.row (by decide))
  · rw [List.getElem?_set_ne hij] at hu' hx'
    exact h.outer (v := .slice (some ⟨b, 0, none⟩) vs.length c) hs.2 hu' hx'
end
structure TuSt (M : Nat) (W : World) (sv nv : Value) (st : List Sp) (nx : List Std) : Prop where
  steps : W.ownsRow M 147 6 sv st.length ((st.map spRow).flatten)
  next : W.ownsRow M 29 2 nv nx.length ((nx.map stRow).flatten)
section
variable {M : Nat} {W W' : World} {sv nv : Value} {st : List Sp} {nx : List Std}
theorem TuSt.below (h : TuSt M W sv nv st nx) (hb : Below W.heap.size W W') : TuSt M W' sv nv st nx := ⟨ownsN_below h.steps hb, ownsN_below h.next hb⟩
theorem TuSt.pushS (h : TuSt M W sv nv st nx) {v : Value} {sp : Sp} (ho : W'.ownsRow M 147 6 v (st.length + 1) ((st.map spRow).flatten ++ spRow sp)) (hg : W.grownBy W' sv.ownBlock) : TuSt M W' v nv (st ++ [sp]) nx :=
  ⟨by simpa using ho, h.next.kept hg (ownsN_ne h.next h.steps (by decide))⟩
theorem TuSt.pushN (h : TuSt M W sv nv st nx) {v : Value} {s : Std} (ho : W'.ownsRow M 29 2 v (nx.length + 1) ((nx.map stRow).flatten ++ stRow s)) (hg : W.grownBy W' nv.ownBlock) : TuSt M W' sv v st (nx ++ [s]) :=
  ⟨h.steps.kept hg (ownsN_ne h.steps h.next (by decide)), by simpa using ho⟩
theorem TuSt.nowSl (h : TuSt M W sv nv st nx) : SlN 2 (fun q => M ≤ q) W nv (nx.map stRow) := SlN.of_ownsN (by rw [List.length_map]; exact h.next) (fun r hr => by obtain ⟨s, _, rfl⟩ := List.mem_map.1 hr; rfl)
theorem steps_sl (h : W.ownsRow M 147 6 sv st.length ((st.map spRow).flatten)) : SlN 6 (fun q => M ≤ q) W sv (st.map spRow) := SlN.of_ownsN (by rw [List.length_map]; exact h) (fun r hr => by obtain ⟨s, _, rfl⟩ := List.mem_map.1 hr; rfl)
end
theorem info_step5 : (Tryz.prog.info? 147).map (fun i => (i.zero, i.size, i.bytes)) = some (some (.agg #[.int .i64 0, .bool false, .int .i64 0, .bool false, .bool false, .int .i64 0]), 6, 48) := by kernel_rfl
theorem info_stand5 : (Tryz.prog.info? 29).map (fun i => (i.zero, i.size, i.bytes)) = some (some (.agg #[.int .i64 0, .bool false]), 2, 16) := by kernel_rfl
theorem info_steps5 : (Tryz.prog.info? 145).map (fun i => (i.zero, i.size, i.bytes)) = some (some (.slice none 0 0), 1, 24) := by kernel_rfl
theorem spRow_one (sp : Sp) : ∀ u ∈ spRow sp, u.oneCell' = true := fun u hu => by simp [spRow] at hu; rcases hu with rfl | rfl | rfl | rfl | rfl | rfl <;> rfl
theorem stRow_one (s : Std) : ∀ u ∈ stRow s, u.oneCell' = true := fun u hu => by simp [stRow] at hu; rcases hu with rfl | rfl <;> rfl
theorem OutR.mono {M M' : Nat} {W : World} {v : Value} {xss : List (List Sp)} {vs : List Value} (h : OutR M W v xss vs) (hb : M' ≤ M) : OutR M' W v xss vs :=
  ⟨h.len, own_mono h.row hb, fun i u xs hu hx => own_mono (h.rows i u xs hu hx) hb⟩
theorem now_sl {W : World} {base : Nat} {v : Value} {now : List Std} (h : W.ownsRow base 29 2 v now.length ((now.map stRow).flatten)) : SlN 2 (fun q => base ≤ q) W v (now.map stRow) := SlN.of_ownsN (by rw [List.length_map]; exact h) (fun r hr => by obtain ⟨s, _, rfl⟩ := List.mem_map.1 hr; rfl)
theorem visRow_sl {W : World} {base : Nat} {v : Value} {V : List (En × Nat)} (h : W.ownsRow base 44 4 v V.length (V.map fun p => visRow p.1 p.2).flatten) : SlN 4 (fun q => base ≤ q) W v (V.map fun p => visRow p.1 p.2) :=
  SlN.of_ownsN (by rw [List.length_map]; exact h) (fun r hr => by obtain ⟨p, _, rfl⟩ := List.mem_map.1 hr; rfl)
end Go.Proofs.YtpfpjbglpibdoaaGreatDoor

/- Chapter 5, in plain Lean: a leg that is thrown in bytes: its laws, its beds, the reports that are told of it. -/
namespace Go.Proofs.YtpfpjbglpibdoaaGreatDoor
open Go.RowKit Go.Oche Go.Proofs

def byteL (D : List Int) (i : Nat) : Int := if D = [] then 0 else D.getD (i % D.length) 0
def Bytes (D : List Int) : Prop := ∀ b ∈ D, 0 ≤ b ∧ b < 256
structure Thr where
  st : Int
  inn : Int
  out : Int
  pl : Int
  which : Nat
  darts : List Int
  said : List Int
def beds12 : List Int := [101, 102, 103, 105, 110, 201, 202, 204, 205, 225, 301, 303]
def bedIs (W k : Nat) : Bool := W.testBit k || k == 5
def bedsP (W k : Nat) : List Int := ((List.range k).filter (bedIs W)).map fun k => beds12.getD k 0
def bedsOf (W : Nat) : List Int := (bedsP W 12).take 6
def Thr.D (x : Thr) (q : Nat) : Nat := (byteL x.darts q).toNat
def legB (x : Thr) : Lg := { start := 2 + x.st % 20, gin := x.inn % 3, gout := x.out % 3, beds := bedsOf x.which, players := 1 + x.pl % 3, turns := 0, won := false }
def playX (x : Thr) (most : Nat) : Pl5 := play5 (legB x) x.D most (begin5 (legB x))
def legT (x : Thr) (most : Nat) : Lg := leg5 (legB x) (playX x most)
theorem Ok5.truth {l : Lg} {x : Pl5} (hp : 1 ≤ l.players) (h : Ok5 l x) {said : Int → List Rp} (hs : ∀ (i : Nat) (sp : Sp), x.out[i]? = some sp → fitsP sp.bef sp.en (said i) = true) :
    HasTruth (leg5 l x) said ∧ ∀ (t : Nat) (sp : Sp), x.out[t]? = some sp → sp ∈ keptL (leg5 l x) said t := by
  have hrun : ∀ p : Nat, p < l.players.toNat → ∃ r, Run (leg5 l x) said (turnsL (leg5 l x) p) (start5 (leg5 l x)) r ∧ ∀ (j : Nat) (sp : Sp), x.out[p + j * l.players.toNat]? = some sp → r[j]? = some sp := fun p hp2 => by
    obtain ⟨r, h1, h2⟩ := Ok5.run hp h hs x.out.length p (by omega)
    rw [if_pos hp2] at h1
    exact ⟨r, h1, h2⟩
  have ht : HasTruth (leg5 l x) said := fun p hp2 => let ⟨r, h1, _⟩ := hrun p hp2; ⟨r, h1⟩
  refine ⟨ht, fun t sp hsp => (kept_mem (l := leg5 l x) hp ht).2 ?_⟩
  obtain ⟨r, h1, h2⟩ := hrun (t % l.players.toNat) (Nat.mod_lt _ (by omega))
  refine ⟨r, h1, h2 _ _ ?_⟩
  have := Nat.mod_add_div t l.players.toNat
  rw [Nat.mul_comm] at this
  show x.out[t % l.players.toNat + t / l.players.toNat * l.players.toNat]? = some sp
  rw [this]; exact hsp
/-! ## A visit, dart by dart -/
def hitK (l : Lg) (k : Nat) : Ht := if k = l.beds.length then miss5 else hitB5 l (l.beds.getD k 0)
theorem thr5_on {l : Lg} {D : Nat → Nat} {k q : Nat} {s : Std} {j : Nat} (hj : D q % (l.beds.length + 1) = j) {x : En} (h : dart5 l s (hitK l j) = (x, true)) : thr5 l D (k + 1) s q = ((thr5 l D k x.std (q + 1)).1, (thr5 l D k x.std (q + 1)).2 + 1) := by
  unfold hitK at h
  rw [thr5]
  simp only [hj, h, if_true]
theorem thr5_off {l : Lg} {D : Nat → Nat} {k q : Nat} {s : Std} {j : Nat} (hj : D q % (l.beds.length + 1) = j) {x : En} (h : dart5 l s (hitK l j) = (x, false)) : thr5 l D (k + 1) s q = (x, 1) := by
  unfold hitK at h
  rw [thr5]
  simp only [hj, h, Bool.false_eq_true, if_false]
structure VisAt (l : Lg) (D : Nat → Nat) (E : En × Nat) (q d : Nat) (c : Std) (wn : Bool) : Prop where
  on : wn = false → E = ((thr5 l D (3 - d) c (q + d)).1, (thr5 l D (3 - d) c (q + d)).2 + d)
  off : wn = true → E = (⟨0, true, false, true⟩, d) ∧ c = ⟨0, true⟩
theorem VisAt.start (l : Lg) (D : Nat → Nat) (q : Nat) (s : Std) : VisAt l D (thr5 l D 3 s q) q 0 s false := ⟨fun _ => rfl, fun h => (by cases h)⟩
section
variable {l : Lg} {D : Nat → Nat} {E : En × Nat} {q d : Nat} {c : Std}
theorem VisAt.next (h : VisAt l D E q d c false) (hd : d < 3) {j : Nat} (hj : D (q + d) % (l.beds.length + 1) = j) {x : En} (hx : dart5 l c (hitK l j) = (x, true)) : VisAt l D E q (d + 1) x.std false := by
  refine ⟨fun _ => ?_, fun h => (by cases h)⟩
  rw [h.on rfl, show 3 - d = (3 - (d + 1)) + 1 by omega, thr5_on hj hx, Nat.add_assoc q d 1, Nat.add_assoc, Nat.add_comm 1 d]
theorem VisAt.stop (h : VisAt l D E q d c false) (hd : d < 3) {j : Nat} (hj : D (q + d) % (l.beds.length + 1) = j) {x : En} (hx : dart5 l c (hitK l j) = (x, false)) : E = (x, d + 1) := by
  rw [h.on rfl, show 3 - d = (3 - (d + 1)) + 1 by omega, thr5_off hj hx, Nat.add_comm 1 d]
theorem VisAt.win (h : VisAt l D E q d c false) (hd : d < 3) {j : Nat} (hj : D (q + d) % (l.beds.length + 1) = j) (hx : dart5 l c (hitK l j) = (⟨0, true, false, true⟩, false)) : VisAt l D E q (d + 1) ⟨0, true⟩ true :=
  ⟨fun h => (by cases h), fun _ => ⟨h.stop hd hj hx, rfl⟩⟩
structure VisEnd (V : Sp) (s : Std) (d : Nat) (c : Std) (wn : Bool) : Prop where
  left : V.en.left = c.left
  inn : V.en.inn = c.inn
  won : V.en.won = wn
  darts : V.darts = d
  bef : V.bef = s
theorem VisAt.done {s : Std} {wn : Bool} (h : VisAt l D (thr5 l D 3 s q) q d c wn) (hd : d = 3 ∨ wn = true) : VisEnd (visT l D s q) s d c wn := by
  cases wn
  · obtain rfl : d = 3 := by rcases hd with h | h; exact h; cases h
    have h1 := h.on rfl
    have h2 : thr5 l D 3 s q = (c.en, 3) := by rw [h1]; rfl
    unfold visT
    rw [h2]
    exact ⟨rfl, rfl, rfl, rfl, rfl⟩
  · obtain ⟨h1, rfl⟩ := h.off rfl
    unfold visT
    rw [h1]
    exact ⟨rfl, rfl, rfl, rfl, rfl⟩
theorem VisAt.bust {s : Std} (h : VisAt l D (thr5 l D 3 s q) q d c false) (hd : d < 3) {j : Nat} (hj : D (q + d) % (l.beds.length + 1) = j) (hx : dart5 l c (hitK l j) = (⟨0, false, true, false⟩, false)) : VisEnd (visT l D s q) s (d + 1) s false := by
  have h1 := h.stop hd hj hx
  unfold visT
  rw [h1]
  exact ⟨rfl, rfl, rfl, rfl, rfl⟩
end
structure PlAt (l : Lg) (D : Nat → Nat) (most : Nat) (F x : Pl5) : Prop where
  len : x.out.length ≤ most
  eq : play5 l D (most - x.out.length) x = F
  at_ : x.at_ ≤ 3 * x.out.length
  sts : x.sts.length = l.players.toNat
  bd : ∀ s ∈ x.sts, 0 ≤ s.left ∧ s.left ≤ l.start
theorem PlAt.start {l : Lg} {D : Nat → Nat} {most : Nat} (h0 : 0 ≤ l.start) : PlAt l D most (play5 l D most (begin5 l)) (begin5 l) :=
  ⟨Nat.zero_le _, rfl, Nat.le_refl _, by simp [begin5], fun s hs => by rw [List.eq_of_mem_replicate hs]; exact ⟨h0, Int.le_refl _⟩⟩
theorem PlAt.done {l : Lg} {D : Nat → Nat} {most : Nat} {F x : Pl5} (h : PlAt l D most F x) (hd : x.out.length = most ∨ x.won = true) : x = F := by
  rw [← h.eq]
  rcases hd with hd | hd
  · rw [hd, Nat.sub_self]; rfl
  · cases hk : most - x.out.length with
    | zero => rfl
    | succ k => rw [play5, if_pos hd]
theorem PlAt.step {l : Lg} {D : Nat → Nat} {most : Nat} {F x : Pl5} (h : PlAt l D most F x) (hg : GoodBeds l) (hm : x.out.length < most) (hw : x.won = false) {s : Std} (hs : x.sts[x.out.length % x.sts.length]? = some s) : step5 l D x = ⟨x.sts.set (x.out.length % x.sts.length) (visT l D s x.at_).aft, x.at_ + (visT l D s x.at_).darts, x.out ++ [visT l D s x.at_], (visT l D s x.at_).en.won⟩ ∧ PlAt l D most F (step5 l D x) := by
  have e : step5 l D x = ⟨x.sts.set (x.out.length % x.sts.length) (visT l D s x.at_).aft, x.at_ + (visT l D s x.at_).darts, x.out ++ [visT l D s x.at_], (visT l D s x.at_).en.won⟩ := by
    have hgd : x.sts.getD (x.out.length % x.sts.length) (start5 l) = s := by rw [List.getD_eq_getElem?_getD, hs]; rfl
    unfold step5
    simp only [hgd]
  refine ⟨e, ?_⟩
  have hv := visT_mem l D s x.at_
  have hd := vis_darts l hv
  have hb := h.bd s (List.mem_of_getElem? hs)
  have hl := vis_left hg hb.1 hv
  have h1 := h.eq
  rw [show most - x.out.length = (most - (x.out.length + 1)) + 1 by omega, play5, if_neg (by rw [hw]; simp)] at h1
  have h3 := h.at_
  rw [e] at h1 ⊢
  refine ⟨by simp; omega, by simpa using h1, by simp at hd ⊢; omega, by simpa using h.sts, fun y hy => ?_⟩
  rcases List.mem_or_eq_of_mem_set hy with hy | hy
  · exact h.bd y hy
  · rw [hy]
    simp only [Sp.aft, En.std] at hl ⊢
    omega
/-! ## Reports -/
def repOf (S : List Int) (i : Nat) (sp : Sp) : Rp := ⟨i, if byteL S i % 4 = 0 ∨ byteL S i % 4 = 1 then sp.score else -1, if byteL S i % 4 = 0 ∨ byteL S i % 4 = 2 then sp.en.left else -1⟩
def repIs (S : List Int) (i : Nat) : Bool := decide (byteL S i % 4 < 3) || decide (250 ≤ byteL S i)
def repsN (S : List Int) (out : List Sp) (i : Nat) : List Rp := ((out.take i).zipIdx.filter fun p => repIs S p.2).map fun p => repOf S p.2 p.1
def repsL (x : Thr) (most : Nat) : List Rp := repsN x.said (playX x most).out (playX x most).out.length
end Go.Proofs.YtpfpjbglpibdoaaGreatDoor

/- Chapter 5, the statements' small helpers: byteOf, opens, points, beds. -/
namespace Go.Proofs.YtpfpjbglpibdoaaGreatDoor
open Go Go.RowKit Go.Oche Go.Proofs

def u8s (D : List Int) : List Value := D.map (Value.int .u8)
end Go.Proofs.YtpfpjbglpibdoaaGreatDoor

/- Chapter 5: what play builds: what is left, who is in, the visits, the beds; each in a row of one's own. -/
namespace Go.Proofs.YtpfpjbglpibdoaaGreatDoor
open Go Go.RowKit Go.Oche Go.Proofs

def thrV (x : Thr) (dv sv : Value) : Value := .agg #[.int .u8 x.st, .int .u8 x.inn, .int .u8 x.out, .int .u8 x.pl, .int .u16 (x.which : Int), dv, sv]
def visRw (sp : Sp) : List Value := [.int .i64 sp.score, .int .i64 sp.en.left, .int .i64 (sp.darts : Int)]
theorem own_cell {W : World} {base n g c : Nat} {e : TypeId} {xs : List Value} (h : W.ownsRow base e 1 (.slice (some ⟨g, 0, none⟩) n c) n xs) {j : Nat} {x : Value} (hx : xs[j]? = some x) : W.cell? ⟨g, j, none⟩ = some x ∧ W.frozen? ⟨g, j, none⟩ = false := by
  rcases h.2 with ⟨e1, _⟩ | ⟨g', cap, cur, e1, h1, h2, h3, h4, h5, h6⟩
  · cases e1
  · cases e1
    refine ⟨?_, frozen_of_heap h2⟩
    rw [cell_of_heap h2]
    rw [← h6, List.getElem?_take] at hx
    split at hx
    · simpa using hx
    · cases hx
theorem own_pos {W : World} {base n k : Nat} {e : TypeId} {v : Value} {xs : List Value} (h : W.ownsRow base e k v n xs) (hn : 0 < n) : ∃ g c, v = .slice (some ⟨g, 0, none⟩) n c := by
  rcases h.2 with ⟨_, h0⟩ | ⟨g, cap, _, rfl, _⟩
  · omega
  · exact ⟨g, cap, rfl⟩
structure PlSt (M : Nat) (W : World) (lV iV oV bV : Value) (ls : List Int) (is : List Bool) (out : List Sp) (bs : List Int) : Prop where
  left : W.ownsRow M 3 1 lV ls.length (ints ls)
  inn : W.ownsRow M 4 1 iV is.length (bools is)
  out : W.ownsRow M 86 3 oV out.length ((out.map visRw).flatten)
  bed : W.ownsRow M 95 1 bV bs.length (ints bs)
section
variable {M : Nat} {W W' : World} {lV iV oV bV : Value} {ls : List Int} {is : List Bool} {out : List Sp} {bs : List Int}
theorem PlSt.below (h : PlSt M W lV iV oV bV ls is out bs) (hb : Below W.heap.size W W') : PlSt M W' lV iV oV bV ls is out bs :=
  ⟨ownsN_below h.left hb, ownsN_below h.inn hb, ownsN_below h.out hb, ownsN_below h.bed hb⟩
theorem PlSt.keptL (h : PlSt M W lV iV oV bV ls is out bs) (hg : W.grownBy W' lV.ownBlock) {v : Value} {x : List Int} (ho : W'.ownsRow M 3 1 v x.length (ints x)) : PlSt M W' v iV oV bV x is out bs :=
  ⟨ho, h.inn.kept hg (ownsN_ne h.inn h.left (by decide)), h.out.kept hg (ownsN_ne h.out h.left (by decide)), h.bed.kept hg (ownsN_ne h.bed h.left (by decide))⟩
theorem PlSt.blk (h : PlSt M W lV iV oV bV ls is out bs) {q : Nat} {cs : Array Value} {t : TypeId} {f : Nat × Nat} (hq : W.heap[q]? = some (.cells cs t f)) (h1 : 3 ≠ t) (h2 : 4 ≠ t) (h3 : 95 ≠ t) (h4 : 86 ≠ t ∨ oV.ownBlock ≠ some q) (hg : W.grownBy W' (some q)) : PlSt M W' lV iV oV bV ls is out bs :=
  ⟨h.left.kept hg (ownsN_ne_blk h.left hq h1), h.inn.kept hg (ownsN_ne_blk h.inn hq h2), h.out.kept hg (h4.elim (fun h4 => ownsN_ne_blk h.out hq h4) .inr), h.bed.kept hg (ownsN_ne_blk h.bed hq h3)⟩
end
end Go.Proofs.YtpfpjbglpibdoaaGreatDoor
