/- The texts SeqJ, SeqV, JTwo, in build order. -/
import Derived.Test.YtagfcodpgochjaaZaq

/- A region whose order is drawn, walked in the text's order, where operations may write: J says what the world is when some have been done. -/
namespace Go.Oche
open Go Go.RowKit

/-- The condition of one operation, at the frame of the text's order. -/
def SeqJVC (P : Program) (ops : Array Oper) (J : (Nat → Bool) → World → Prop) (ks₀ : List Kn) (i : Nat) (k : Kn) (o : Oper) (a : Act) (H : Nat → World → Prop) : Prop :=
  (∃ v, k.s v) ∧
  (∀ w L, L i = false → J L w → (∀ e ∈ o.after.toList, Region.binds .any e = true → L e.on = true ∧ H e.on w) →
    if guardOn ops o a then opOK P o a w (fun v w' => J (setB L i) w' ∧ pres ops ks₀ i o a w w' ∧ k.s v ∧ k.p v w') else J (setB L i) w ∧ k.s undef ∧ k.p undef w)

def SeqJAll (P : Program) (ops : Array Oper) (J : (Nat → Bool) → World → Prop) (ks₀ : List Kn) (K : Act → (Nat → World → Prop) → Prop) : List Kn → List Oper → Act → (Nat → World → Prop) → Nat → Prop
  | _, [], a, H, _ => K a H
  | [], _ :: _, _, _, _ => False
  | k :: ks, o :: l, a, H, i => SeqJVC P ops J ks₀ i k o a H ∧ ∀ v, k.s v → SeqJAll P ops J ks₀ K ks l (a.put o.dst v) (addH H i (k.p v)) (i + 1)

section
variable {P : Program} {ops : Array Oper} {J : (Nat → Bool) → World → Prop} {ks₀ : List Kn} {K : Act → (Nat → World → Prop) → Prop}

theorem seqJ_ks : ∀ {ks : List Kn} {l : List Oper} {a : Act} {H : Nat → World → Prop} {i : Nat} (vs : Nat → Value), SeqJAll P ops J ks₀ K ks l a H i → ∀ j, j < l.length → (∀ m k, m < j → ks[m]? = some k → k.s (vs (i + m))) →
    ∃ k o H', ks[j]? = some k ∧ l[j]? = some o ∧ SeqJVC P ops J ks₀ (i + j) k o (putAll vs (l.take j) i a) H' ∧ (∀ q w, i ≤ q → q < i + j → (∀ k, ks[q - i]? = some k → k.p (vs q) w) → H' q w) ∧ (∀ q w, q < i → H q w → H' q w)
  | [], _ :: _, _, _, _, _, h, _, _, _ => h.elim
  | _, [], _, _, _, _, _, j, hj, _ => by simp at hj
  | k :: ks, o :: l, a, H, i, vs, h, 0, _, _ => ⟨k, o, H, rfl, rfl, by simpa [putAll] using h.1, fun q w h1 h2 => by omega, fun q w _ h => h⟩
  | k :: ks, o :: l, a, H, i, vs, h, j + 1, hj, hs => by
    have h0 : k.s (vs i) := by simpa using hs 0 k (by omega) rfl
    obtain ⟨k', o', H', e1, e2, e3, e4, e5⟩ := seqJ_ks vs (h.2 _ h0) j (by simp at hj; omega) (fun m k hm hk => by
      have := hs (m + 1) k (by omega) (by simpa using hk)
      rwa [show i + (m + 1) = i + 1 + m by omega] at this)
    refine ⟨k', o', H', by simpa using e1, by simpa using e2, by rw [show i + (j + 1) = i + 1 + j by omega]; simpa [putAll] using e3, fun q w h1 h2 hq => ?_, fun q w h1 hq => ?_⟩
    · by_cases hqi : q = i
      · subst hqi
        exact e5 q w (by omega) (by unfold addH; rw [if_pos rfl]; exact hq k (by simp))
      · refine e4 q w (by omega) (by omega) fun k hk => hq k ?_
        rw [show q - i = (q - (i + 1)) + 1 by omega]; simpa using hk
    · exact e5 q w (by omega) (by unfold addH; rw [if_neg (by omega)]; exact hq)

theorem seqJ_has : ∀ {ks : List Kn} {l : List Oper} {a : Act} {H : Nat → World → Prop} {i : Nat}, SeqJAll P ops J ks₀ K ks l a H i → ∀ j, j < l.length → ∃ k v, ks[j]? = some k ∧ k.s v
  | [], _ :: _, _, _, _, h, _, _ => h.elim
  | _, [], _, _, _, _, j, hj => by simp at hj
  | k :: ks, o :: l, a, H, i, h, 0, _ => let ⟨⟨v, hv⟩, _⟩ := h.1; ⟨k, v, rfl, hv⟩
  | k :: ks, o :: l, a, H, i, h, j + 1, hj => by
    obtain ⟨⟨v, hv⟩, _⟩ := h.1
    obtain ⟨k', v', e⟩ := seqJ_has (h.2 v hv) j (by simp at hj; omega)
    exact ⟨k', v', by simpa using e⟩

theorem seqJ_end {w : World} : ∀ {kk ks : List Kn} {l : List Oper} {a : Act} {H : Nat → World → Prop} {i : Nat}, SeqJAll P ops J ks₀ K ks l a H i → (∀ j, ks[j]? = kk[i + j]?) → (∀ j, j < i → H j w) →
    EndAll (knΦ kk) w (fun a => ∃ H, (∀ j, j < i + l.length → H j w) ∧ K a H) l i a
  | _, _, [], a, H, i, h, _, hH => ⟨H, by simpa using hH, by cases ‹List Kn› <;> exact h⟩
  | _, [], _ :: _, _, _, _, h, _, _ => h.elim
  | kk, k :: ks, o :: l, a, H, i, h, hk, hH => fun v hv => by
    have h0 := hv k (by rw [← Nat.add_zero i, ← hk 0]; rfl)
    have := seqJ_end (kk := kk) (w := w) (h.2 v h0.1) (fun j => by rw [show i + 1 + j = i + (j + 1) by omega, ← hk (j + 1)]; simp) (fun j hj => by
      unfold addH
      by_cases hji : j = i
      · rw [if_pos hji]; exact h0.2
      · rw [if_neg hji]; exact hH j (by omega))
    rw [List.length_cons, show i + (l.length + 1) = i + 1 + l.length by omega]
    exact this

theorem seqJ_free {n : Nat} {a₀ : Act} {ks : List Kn} (hB : freeB ops n a₀.tmps.size = true) (hR : readsB ops n = true) (_hlk : ks.length = n) (h : SeqJAll P ops J ks K ks (ops.toList.take n) a₀ (fun _ _ => True) 0) :
    GenAll P ops (knΦ ks) J a₀ (ops.toList.take n) 0 := by
  simp only [freeB, Bool.and_eq_true, Bool.or_eq_true, beq_iff_eq, decide_eq_true_eq] at hB
  obtain ⟨⟨⟨⟨⟨hn, hback⟩, hdist⟩, hin⟩, -⟩, -⟩ := hB
  have hlen : (ops.toList.take n).length = n := by simp; omega
  have key : ∀ i o, (ops.toList.take n)[i]? = some o → GenVC P ops (knΦ ks) J a₀ i o := by
    intro i o ho
    have hi : i < n := by have := (List.getElem?_eq_some_iff.1 ho).1; omega
    have hoi : ops[i]? = some o := by rw [List.getElem?_take, if_pos hi] at ho; simpa using ho
    intro a w L hL0 hb hp ht
    classical
    obtain ⟨vs, hvs⟩ : ∃ vs : Nat → Value, ∀ j, j < n → ((∃ v, knΦ ks j v w ∧ ∀ oj d, ops[j]? = some oj → oj.dst = some d → a.tmps[d]? = some v) → knΦ ks j (vs j) w ∧ ∀ oj d, ops[j]? = some oj → oj.dst = some d → a.tmps[d]? = some (vs j)) ∧ ∀ k, ks[j]? = some k → k.s (vs j) := by
      refine ⟨fun j => if hj : ∃ v, knΦ ks j v w ∧ ∀ oj d, ops[j]? = some oj → oj.dst = some d → a.tmps[d]? = some v then Classical.choose hj else if hj2 : ∃ v, ∃ k, ks[j]? = some k ∧ k.s v then Classical.choose hj2 else undef, fun j hj => ?_⟩
      by_cases hj1 : ∃ v, knΦ ks j v w ∧ ∀ oj d, ops[j]? = some oj → oj.dst = some d → a.tmps[d]? = some v
      · simp only [dif_pos hj1]
        have hc := Classical.choose_spec hj1
        exact ⟨fun _ => hc, fun k hk => (hc.1 k hk).1⟩
      · simp only [dif_neg hj1]
        refine ⟨fun hx => (hj1 hx).elim, fun k hk => ?_⟩
        obtain ⟨k', v', hk', hv'⟩ := seqJ_has h j (by omega)
        have hj2 : ∃ v, ∃ k, ks[j]? = some k ∧ k.s v := ⟨v', k', hk', hv'⟩
        rw [dif_pos hj2]
        obtain ⟨k2, hk2, hs2⟩ := Classical.choose_spec hj2
        rw [hk] at hk2
        cases hk2
        exact hs2
    obtain ⟨k, o', H', e1, e2, ⟨_, hop⟩, e4, -⟩ := seqJ_ks vs h i (by omega) (fun m k hm hk => by rw [Nat.zero_add]; exact (hvs m (by omega)).2 k hk)
    rw [ho] at e2
    cases e2
    have hlt : ∀ e ∈ o.after.toList, Region.binds .any e = true → e.on < i := fun e he hbe => by
      have h1 := List.all_eq_true.1 hback (o, i) (List.mem_iff_getElem?.2 ⟨i, by simp only [List.getElem?_zipIdx, Array.getElem?_toList, hoi, Option.map_some, Nat.zero_add]⟩)
      have h2 := List.all_eq_true.1 h1 e (by simpa using he)
      simpa [hbe] using h2
    have hdep : ∀ e ∈ o.after.toList, Region.binds .any e = true → knΦ ks e.on (vs e.on) w ∧ ∀ oj d, ops[e.on]? = some oj → oj.dst = some d → a.tmps[d]? = some (vs e.on) := fun e he hbe => by
      obtain ⟨oj, v, h1, _, h2, h3⟩ := hp e he hbe
      refine (hvs e.on (by have := hlt e he hbe; omega)).1 ⟨v, h2, fun oj' d hoj hd => ?_⟩
      rw [h1] at hoj
      cases hoj
      exact h3 d hd
    rw [Nat.zero_add] at hop
    have hop := hop w L hL0 hb (fun e he hbe => ⟨(let ⟨_, _, _, h2, _⟩ := hp e he hbe; h2), e4 e.on w (Nat.zero_le _) (by have := hlt e he hbe; omega) fun k hk => ((hdep e he hbe).1 k (by simpa using hk)).2⟩)
    have hread : ((match o.op with | .select _ _ => false | _ => true) = true) ∧ ∀ t ∈ o.looksAt ops, (∃ e ∈ o.after.toList, Region.binds .any e = true ∧ (ops[e.on]?).bind (·.dst) = some t) ∨
        (ops.toList.all fun oj => oj.dst != some t || oj.after.toList.any fun e => Region.binds .any e && e.on == i) = true := by
      have h1 := List.all_eq_true.1 hR (o, i) (List.mem_iff_getElem?.2 ⟨i, by rw [List.getElem?_zipIdx, ho]; simp⟩)
      simp only [Bool.and_eq_true] at h1
      refine ⟨h1.1, fun t ht => ?_⟩
      have h2 := List.all_eq_true.1 h1.2 t ht
      simp only [Bool.or_eq_true] at h2
      rcases h2 with h2 | h2
      · left
        obtain ⟨e, he, h3⟩ := List.any_eq_true.1 h2
        simp only [Bool.and_eq_true, beq_iff_eq] at h3
        exact ⟨e, he, h3.1, h3.2⟩
      · exact .inr h2
    have hsel : ∀ cs b, o.op ≠ .select cs b := fun cs b hc => by have := hread.1; rw [hc] at this; cases this
    have hsz : ∀ d oj j, ops[j]? = some oj → j < n → oj.dst = some d → d < a₀.tmps.size := fun d oj j hj hjn hd => by
      have hmem : oj ∈ ops.toList.take n := List.mem_of_getElem? (i := j) (by rw [List.getElem?_take, if_pos hjn]; simpa using hj)
      have := List.all_eq_true.1 hin oj hmem
      rw [hd] at this
      simpa using this
    have hdval : ∀ e ∈ o.after.toList, Region.binds .any e = true → ∀ oj d, ops[e.on]? = some oj → oj.dst = some d → (putAll vs ((ops.toList.take n).take i) 0 a₀).tmps[d]? = some (vs e.on) := by
      intro e he hbe oj t hoj hdj
      have hei := hlt e he hbe
      have hd2 : distB ((ops.toList.take n).take i) = true := by
        have : ∀ (l : List Oper) (m : Nat), distB l = true → distB (l.take m) = true := by
          intro l
          induction l with
          | nil => intro m _; simp [distB]
          | cons x l ih =>
            intro m hx
            cases m with
            | zero => rfl
            | succ m =>
              simp only [distB, Bool.and_eq_true, List.take_succ_cons] at hx ⊢
              refine ⟨?_, ih m hx.2⟩
              cases hxd : x.dst with
              | none => rfl
              | some d =>
                have h1 := hx.1
                rw [hxd] at h1
                exact List.all_eq_true.2 fun y hy => List.all_eq_true.1 h1 y (List.mem_of_mem_take hy)
        exact this _ _ hdist
      have := putAll_some vs t ((ops.toList.take n).take i) 0 a₀ e.on oj hd2 (by rw [List.getElem?_take, if_pos hei, List.getElem?_take, if_pos (by omega)]; simpa using hoj) hdj (hsz t oj e.on hoj (by omega) hdj)
      rw [this, Nat.zero_add]
    have heq : ∀ t ∈ o.looksAt ops, a.tmps[t]? = (putAll vs ((ops.toList.take n).take i) 0 a₀).tmps[t]? := by
      intro t hmem
      rcases hread.2 t hmem with ⟨e, he, hbe, hd⟩ | hall
      · obtain ⟨oj, hoj, hdj⟩ := Option.bind_eq_some_iff.1 hd
        rw [(hdep e he hbe).2 oj t hoj hdj, hdval e he hbe oj t hoj hdj]
      · rw [ht t hall, putAll_none]
        intro oj hoj hd
        obtain ⟨j, hj⟩ := List.getElem?_of_mem hoj
        rw [List.getElem?_take] at hj
        split at hj
        · rename_i hji
          rw [List.getElem?_take, if_pos (by omega)] at hj
          have hj' : ops[j]? = some oj := by simpa using hj
          have h1 := List.all_eq_true.1 hall oj (by simpa using Array.mem_of_getElem? hj')
          simp only [Bool.or_eq_true, List.any_eq_true, Bool.and_eq_true, beq_iff_eq, bne_iff_ne, ne_eq] at h1
          rcases h1 with h1 | ⟨e, he, hbe, hei⟩
          · exact h1 hd
          · have h2 := List.all_eq_true.1 hback (oj, j) (List.mem_iff_getElem?.2 ⟨j, by simp only [List.getElem?_zipIdx, Array.getElem?_toList, hj', Option.map_some, Nat.zero_add]⟩)
            have h3 := List.all_eq_true.1 h2 e (by simpa using he)
            simp only [hbe, Bool.not_true, Bool.false_or, decide_eq_true_eq] at h3
            omega
        · cases hj
    have hev : execOp a.eval o = execOp (putAll vs ((ops.toList.take n).take i) 0 a₀).eval o := execOp_congr o hsel fun x hx => by
      cases x with
      | tmp t =>
        have := heq t (List.mem_append_left _ (List.mem_filterMap.2 ⟨.tmp t, by simpa using hx, rfl⟩))
        simp only [Act.eval, Array.getD_eq_getD_getElem?, this]
      | const v => rfl
      | global g => rfl
      | func f => rfl
    have hgd : Region.wanted o (yielded ops a.tmps) = guardOn ops o (putAll vs ((ops.toList.take n).take i) 0 a₀) := by
      unfold guardOn Region.wanted
      cases hg : o.guard with
      | none => rfl
      | some jb =>
        obtain ⟨j, b⟩ := jb
        have : yielded ops a.tmps j = yielded ops (putAll vs ((ops.toList.take n).take i) 0 a₀).tmps j := by
          unfold yielded
          cases hd : (ops[j]?).bind (·.dst) with
          | none => rfl
          | some t =>
            simp only [Option.bind_some]
            rw [heq t (List.mem_append_right _ (by rw [hg]; simp [hd]))]
        simp only [this]
    rw [hgd]
    have hok : ∀ R, opOK P o (putAll vs ((ops.toList.take n).take i) 0 a₀) w R → opOK P o a w R := fun R hR => by
      unfold opOK at *
      rw [hev]; exact hR
    split at hop
    · rename_i hg
      rw [if_pos hg]
      refine hok _ (opOK_mono hop fun v w' ⟨h1, hpr, h2, h3⟩ => ⟨h1, fun j hj _ u hu hut kj hkj => ?_, fun k' hk' => ?_⟩)
      · have := hu kj hkj
        refine ⟨this.1, hpr j kj hkj (by omega) u this.1 (fun ⟨e, he, hbe, hej⟩ oj d hoj hd => ?_) this.2⟩
        subst hej
        have h1 := (hdep e he hbe).2 oj d hoj hd
        rw [hut oj d hoj hd] at h1
        rw [hdval e he hbe oj d hoj hd, h1]
      · rw [e1] at hk'
        cases hk'
        exact ⟨h2, h3⟩
    · rename_i hg
      rw [if_neg hg]
      refine ⟨hop.1, fun k' hk' => ?_⟩
      rw [e1] at hk'
      cases hk'
      exact hop.2
  have all : ∀ (l : List Oper) (i : Nat), (∀ j o, l[j]? = some o → GenVC P ops (knΦ ks) J a₀ (i + j) o) → GenAll P ops (knΦ ks) J a₀ l i := by
    intro l
    induction l with
    | nil => intro i _; trivial
    | cons o l ih =>
      intro i hl
      refine ⟨by simpa using hl 0 o rfl, ih (i + 1) fun j o' hj => ?_⟩
      have := hl (j + 1) o' (by simpa using hj)
      rwa [show i + (j + 1) = i + 1 + j by omega] at this
  exact all _ 0 fun j o ho => by rw [Nat.zero_add]; exact key j o ho
end


/-- What is asked behind the operations of the text's order. -/
def seqJK (J : (Nat → Bool) → World → Prop) (K : Act → World → Prop) (n : Nat) : Act → (Nat → World → Prop) → Prop := fun a H => ∀ w', J (fun j => decide (j < n)) w' → (∀ j, j < n → H j w') → K a w'

section
variable {P : Program} {id : Nat} {l : List Oper} {a : Act} {w : World} {Q : Exit → Act → World → Prop} {ks : List Kn}
theorem seqJ_parts (n : Nat) (J : (Nat → Bool) → World → Prop) (hlk : ks.length = n) (hB : freeB l.toArray n a.tmps.size = true) (hR : readsB l.toArray n = true) {K : Act → World → Prop} (h : SeqJAll P l.toArray J ks (seqJK J K n) ks (l.take n) a (fun _ _ => True) 0) :
    GenAll P l.toArray (knΦ ks) J a (l.take n) 0 ∧ ∀ w', J (fun j => decide (j < n)) w' → EndAll (knΦ ks) w' (fun a => K a w') (l.take n) 0 a := by
  have hn : n ≤ l.length := by simp only [freeB, Bool.and_eq_true, decide_eq_true_eq] at hB; simpa using hB.1.1.1.1.1
  have hlen : (l.take n).length = n := by simp; omega
  refine ⟨seqJ_free (ops := l.toArray) hB hR hlk h, fun w' hb => ?_⟩
  have := seqJ_end (w := w') (kk := ks) h (fun j => by simp) (fun j hj => by omega)
  rw [hlen] at this
  have mono : ∀ (l : List Oper) (i : Nat) (a : Act) (X Y : Act → Prop), (∀ a, X a → Y a) → EndAll (knΦ ks) w' X l i a → EndAll (knΦ ks) w' Y l i a := by
    intro l
    induction l with
    | nil => intro i a X Y hXY hx; exact hXY _ hx
    | cons o l ih => intro i a X Y hXY hx v hv; exact ih _ _ _ _ hXY (hx v hv)
  exact mono _ _ _ _ _ (fun a ⟨H, hH, hK⟩ => hK w' hb (by simpa using hH)) this

theorem wp_region_seqJ (n : Nat) (ks : List Kn) (J : (Nat → Bool) → World → Prop) (hlk : ks.length = n) (hmix : P.follows .mixedOrders = true) (hB : freeB l.toArray n a.tmps.size = true) (hR : readsB l.toArray n = true) (h0 : J (fun _ => false) w.drew)
    (h : SeqJAll P l.toArray J ks (seqJK J (fun a w' => wpList P l.toArray Q (l.drop n) a w') n) ks (l.take n) a (fun _ _ => True) 0) : (Code.region id l.toArray true).wp P Q a w :=
  have ⟨h1, h2⟩ := seqJ_parts n J hlk hB hR h
  wp_region_gen n (knΦ ks) J hmix hB h0 h1 h2

theorem wpIn_region_seqJ {F : Fence} (n : Nat) (ks : List Kn) (J : (Nat → Bool) → World → Prop) (hlk : ks.length = n) (hmix : P.follows .mixedOrders = true) (hF : Open F) (hnd : noDefer l.toArray = true) (hB : freeB l.toArray n a.tmps.size = true) (hR : readsB l.toArray n = true) (h0 : J (fun _ => false) w.drew)
    (h : SeqJAll P l.toArray J ks (seqJK J (fun a w' => wpListIn F 0 P l.toArray Q (l.drop n) a w') n) ks (l.take n) a (fun _ _ => True) 0) : (Code.region id l.toArray true).wpIn F 0 P Q a w :=
  have ⟨h1, h2⟩ := seqJ_parts n J hlk hB hR h
  wpIn_region_gen n (knΦ ks) J hmix hF hnd hB h0 h1 h2
end
/-! Where all values are known ahead. -/
def SeqCAll (P : Program) (ops : Array Oper) (J : (Nat → Bool) → World → Prop) (K : Act → Prop) : List Value → List Oper → Act → Nat → Prop
  | _, [], a, _ => K a
  | [], _ :: _, _, _ => False
  | c :: cs, o :: l, a, i => (∀ w L, L i = false → J L w → (∀ e ∈ o.after.toList, Region.binds .any e = true → L e.on = true) →
      if guardOn ops o a then opOK P o a w (fun v w' => v = c ∧ J (setB L i) w') else J (setB L i) w ∧ c = undef) ∧ SeqCAll P ops J K cs l (a.put o.dst c) (i + 1)
section
variable {P : Program} {ops : Array Oper} {J : (Nat → Bool) → World → Prop} {o : Oper} {l : List Oper} {a : Act} {i : Nat}
theorem pres_con {cs : List Value} {w w' : World} : pres ops (cs.map Kn.is) i o a w w' := fun j k hk _ v _ _ _ => by
  obtain ⟨c, _, rfl⟩ := List.mem_map.1 (List.mem_of_getElem? hk)
  trivial
theorem seqC_J {cs₀ : List Value} {K : Act → World → Prop} {n : Nat} : ∀ {cs : List Value} {l : List Oper} {a : Act} {i : Nat} (H : Nat → World → Prop), SeqCAll P ops J (fun a => ∀ w', J (fun j => decide (j < n)) w' → K a w') cs l a i →
    SeqJAll P ops J (cs₀.map Kn.is) (seqJK J K n) (cs.map Kn.is) l a H i
  | [], [], _, _, _, h => fun w' hJ _ => h w' hJ
  | _ :: _, [], _, _, _, h => fun w' hJ _ => h w' hJ
  | [], _ :: _, _, _, _, h => h.elim
  | c :: cs, o :: l, a, i, H, h => by
    refine ⟨⟨⟨c, rfl⟩, fun w L hL hJ hd => ?_⟩, fun v hv => by cases hv; exact seqC_J _ h.2⟩
    have := h.1 w L hL hJ fun e he hb => (hd e he hb).1
    split at this
    · rename_i hg
      rw [if_pos hg]
      exact opOK_mono this fun v w' ⟨h1, h2⟩ => ⟨h2, pres_con, h1, trivial⟩
    · rename_i hg
      rw [if_neg hg]
      exact ⟨this.1, this.2.symm, trivial⟩
theorem wp_region_seqC {id : Nat} {w : World} {Q : Exit → Act → World → Prop} (n : Nat) (cs : List Value) (J : (Nat → Bool) → World → Prop) (hlk : cs.length = n) (hmix : P.follows .mixedOrders = true) (hB : freeB l.toArray n a.tmps.size = true) (hR : readsB l.toArray n = true) (h0 : J (fun _ => false) w.drew)
    (h : SeqCAll P l.toArray J (fun a => ∀ w', J (fun j => decide (j < n)) w' → wpList P l.toArray Q (l.drop n) a w') cs (l.take n) a 0) : (Code.region id l.toArray true).wp P Q a w :=
  wp_region_seqJ n (cs.map Kn.is) J (by simpa using hlk) hmix hB hR h0 (seqC_J _ h)
theorem wpIn_region_seqC {F : Fence} {id : Nat} {w : World} {Q : Exit → Act → World → Prop} (n : Nat) (cs : List Value) (J : (Nat → Bool) → World → Prop) (hlk : cs.length = n) (hmix : P.follows .mixedOrders = true) (hF : Open F) (hnd : noDefer l.toArray = true) (hB : freeB l.toArray n a.tmps.size = true) (hR : readsB l.toArray n = true) (h0 : J (fun _ => false) w.drew)
    (h : SeqCAll P l.toArray J (fun a => ∀ w', J (fun j => decide (j < n)) w' → wpListIn F 0 P l.toArray Q (l.drop n) a w') cs (l.take n) a 0) : (Code.region id l.toArray true).wpIn F 0 P Q a w :=
  wpIn_region_seqJ n (cs.map Kn.is) J (by simpa using hlk) hmix hF hnd hB hR h0 (seqC_J _ h)
variable {K : Act → Prop} {c : Value} {cs : List Value}
/-- The next operation's value is known ahead; it may write. -/
theorem sc_is (hg : o.guard = none) (h : ∀ w L, L i = false → J L w → (∀ e ∈ o.after.toList, Region.binds .any e = true → L e.on = true) → opOK P o a w (fun v w' => v = c ∧ J (setB L i) w'))
    (hr : SeqCAll P ops J K cs l (a.put o.dst c) (i + 1)) : SeqCAll P ops J K (c :: cs) (o :: l) a i := by
  refine ⟨fun w L hL hJ hd => ?_, hr⟩
  rw [if_pos (by simp [guardOn, Region.wanted, hg])]
  exact h w L hL hJ hd
/-- .. and only reads. -/
theorem sc_rd (hg : o.guard = none) (hJ : ∀ w L, L i = false → J L w → J (setB L i) w) (h : ∀ w L, L i = false → J L w → opOK P o a w (fun v w' => v = c ∧ w' = w))
    (hr : SeqCAll P ops J K cs l (a.put o.dst c) (i + 1)) : SeqCAll P ops J K (c :: cs) (o :: l) a i :=
  sc_is hg (fun w L hL hj _ => opOK_mono (h w L hL hj) fun _ _ ⟨h1, h2⟩ => ⟨h1, by rw [h2]; exact hJ w L hL hj⟩) hr
theorem sc_end (h : K a) : SeqCAll P ops J K cs [] a i := by cases cs <;> exact h
end
/-- One cell is written by operation st, while others read; those of rd ahead of it. -/
structure JCell (w0 : World) (st : Nat) (rd : List Nat) (p : Addr) (v : Value) (L : Nat → Bool) (W : World) : Prop where
  eq : W = if L st = true then w0.setCell p v else w0
  rds : L st = true → ∀ i ∈ rd, L i = true
section
variable {w0 W : World} {st : Nat} {rd : List Nat} {p : Addr} {v : Value} {L : Nat → Bool}
theorem JCell.start : JCell w0 st rd p v (fun _ => false) w0 := ⟨rfl, fun h => (by cases h)⟩
theorem JCell.cell (h : JCell w0 st rd p v L W) {b o : Nat} {x : Value} (hv : w0.cell? ⟨b, o, none⟩ = some x) (hb : b ≠ p.block) : W.cell? ⟨b, o, none⟩ = some x := by
  rw [h.eq]
  split
  · rw [World.cell?_of_block (w := w0) (Below.heap_setCell _ _ _ _ hb)]; exact hv
  · exact hv
theorem JCell.look (h : JCell w0 st rd p v L W) {i : Nat} (hi : i ∈ rd) (hL : L i = false) : W = w0 := by
  rw [h.eq]
  split
  · rename_i hs
    rw [h.rds hs i hi] at hL; cases hL
  · rfl
theorem JCell.read (h : JCell w0 st rd p v L W) {i : Nat} (hi : st ≠ i) : JCell w0 st rd p v (setB L i) W := by
  refine ⟨by rw [setB_ne hi]; exact h.eq, fun h' j hj => ?_⟩
  rw [setB_ne hi] at h'
  unfold setB
  split
  · rfl
  · exact h.rds h' j hj
theorem JCell.before (h : JCell w0 st rd p v L W) (hL : L st = false) : W = w0 := by rw [h.eq, hL]; rfl
theorem JCell.store (h : ∀ i ∈ rd, L i = true) : JCell w0 st rd p v (setB L st) (w0.setCell p v) := by
  refine ⟨by rw [setB_eq, if_pos rfl], fun _ j hj => ?_⟩
  unfold setB
  split
  · rfl
  · exact h j hj
theorem JCell.done (h : JCell w0 st rd p v L W) (hL : L st = true) : W = w0.setCell p v := by rw [h.eq, hL]; rfl
end
end Go.Oche

/- A region whose order is drawn, walked in the text's order, where what holds may speak of the values together. -/
namespace Go.Oche
open Go Go.RowKit
/-- .. and each value listed has its form. -/
def jShape (J : (Nat → Bool) → (Nat → Value) → World → Prop) (ss : List (Value → Prop)) : (Nat → Bool) → (Nat → Value) → World → Prop :=
  fun L vs w => J L vs w ∧ ∀ j s, ss[j]? = some s → L j = true → s (vs j)
def SeqVCd (P : Program) (ops : Array Oper) (J : (Nat → Bool) → (Nat → Value) → World → Prop) (s : Value → Prop) (o : Oper) (a : Act) (vals : List Value) : Prop :=
  ∀ w L vs, (∀ j u, vals[j]? = some u → vs j = u) → L vals.length = false → J L vs w → (∀ e ∈ o.after.toList, Region.binds .any e = true → L e.on = true) →
    if guardOn ops o a then opOK P o a w (fun v w' => s v ∧ J (setB L vals.length) (updV vs vals.length v) w') else s undef ∧ J (setB L vals.length) (updV vs vals.length undef) w
def SeqVAll (P : Program) (ops : Array Oper) (J : (Nat → Bool) → (Nat → Value) → World → Prop) (K : Act → List Value → Prop) : List (Value → Prop) → List Oper → Act → List Value → Prop
  | _, [], a, vals => K a vals
  | [], _ :: _, _, _ => False
  | s :: ss, o :: l, a, vals => (∃ v, s v) ∧ SeqVCd P ops J s o a vals ∧ ∀ v, s v → SeqVAll P ops J K ss l (a.put o.dst v) (vals ++ [v])
section
variable {P : Program} {ops : Array Oper} {J : (Nat → Bool) → (Nat → Value) → World → Prop} {K : Act → List Value → Prop}
theorem seqV_has : ∀ {ss : List (Value → Prop)} {l : List Oper} {a : Act} {vals : List Value}, SeqVAll P ops J K ss l a vals → (∀ m s, m < 0 → ss[m]? = some s → ∃ s', ss[m]? = some s') → ∀ j, j < l.length → ∃ s v, ss[j]? = some s ∧ s v
  | [], _ :: _, _, _, h, _, _, _ => h.elim
  | _, [], _, _, _, _, j, hj => by simp at hj
  | s :: ss, o :: l, a, vals, h, _, 0, _ => let ⟨v, hv⟩ := h.1; ⟨s, v, rfl, hv⟩
  | s :: ss, o :: l, a, vals, h, _, j + 1, hj => by
    obtain ⟨v, hv⟩ := h.1
    obtain ⟨s', v', e, h'⟩ := seqV_has (h.2.2 v hv) (fun m s hm _ => by omega) j (by simp at hj; omega)
    exact ⟨s', v', by simpa using e, h'⟩
theorem seqV_at : ∀ {ss : List (Value → Prop)} {l : List Oper} {a : Act} {vals : List Value} (vs : Nat → Value), SeqVAll P ops J K ss l a vals → ∀ j, j < l.length → (∀ m s, m < j → ss[m]? = some s → s (vs (vals.length + m))) →
    ∃ s o, ss[j]? = some s ∧ l[j]? = some o ∧ (∃ v, s v) ∧ SeqVCd P ops J s o (putAll vs (l.take j) vals.length a) (vals ++ (List.range j).map fun m => vs (vals.length + m))
  | [], _ :: _, _, _, _, h, _, _, _ => h.elim
  | _, [], _, _, _, _, j, hj, _ => by simp at hj
  | s :: ss, o :: l, a, vals, vs, h, 0, _, _ => ⟨s, o, rfl, rfl, h.1, by simpa [putAll] using h.2.1⟩
  | s :: ss, o :: l, a, vals, vs, h, j + 1, hj, hs => by
    have h0 : s (vs vals.length) := by simpa using hs 0 s (by omega) rfl
    obtain ⟨s', o', e1, e2, e3, e4⟩ := seqV_at vs (h.2.2 _ h0) j (by simp at hj; omega) (fun m s hm hk => by
      have := hs (m + 1) s (by omega) (by simpa using hk)
      rw [List.length_append, List.length_cons, List.length_nil]
      rwa [show vals.length + (m + 1) = vals.length + (0 + 1) + m by omega] at this)
    refine ⟨s', o', by simpa using e1, by simpa using e2, e3, ?_⟩
    have ev : vals ++ [vs vals.length] ++ (List.range j).map (fun m => vs ((vals ++ [vs vals.length]).length + m)) = vals ++ (List.range (j + 1)).map fun m => vs (vals.length + m) := by
      rw [List.append_assoc, List.range_succ_eq_map, List.map_cons, List.map_map]
      simp only [List.length_append, List.length_cons, List.length_nil, List.singleton_append, Nat.add_zero]
      congr 2
      refine List.map_congr_left fun m _ => ?_
      simp only [Function.comp_apply]
      congr 1; omega
    rw [ev] at e4
    rw [List.length_append, List.length_cons, List.length_nil, Nat.zero_add] at e4
    exact e4
theorem seqV_end : ∀ {ss : List (Value → Prop)} {l : List Oper} {a : Act} {vals : List Value} (vs : Nat → Value), SeqVAll P ops J K ss l a vals → (∀ m s, m < l.length → ss[m]? = some s → s (vs (vals.length + m))) →
    K (putAll vs l vals.length a) (vals ++ (List.range l.length).map fun m => vs (vals.length + m))
  | [], [], _, _, _, h, _ => by simpa [putAll, SeqVAll] using h
  | _ :: _, [], _, _, _, h, _ => by simpa [putAll, SeqVAll] using h
  | [], _ :: _, _, _, _, h, _ => h.elim
  | s :: ss, o :: l, a, vals, vs, h, hs => by
    have h0 : s (vs vals.length) := by simpa using hs 0 s (by simp) rfl
    have := seqV_end vs (h.2.2 _ h0) (fun m s hm hk => by
      have := hs (m + 1) s (by simp; omega) (by simpa using hk)
      rw [List.length_append, List.length_cons, List.length_nil]
      rwa [show vals.length + (m + 1) = vals.length + (0 + 1) + m by omega] at this)
    have ev : vals ++ [vs vals.length] ++ (List.range l.length).map (fun m => vs ((vals ++ [vs vals.length]).length + m)) = vals ++ (List.range (l.length + 1)).map fun m => vs (vals.length + m) := by
      rw [List.append_assoc, List.range_succ_eq_map, List.map_cons, List.map_map]
      simp only [List.length_append, List.length_cons, List.length_nil, List.singleton_append, Nat.add_zero]
      congr 2
      refine List.map_congr_left fun m _ => ?_
      simp only [Function.comp_apply]
      congr 1; omega
    rw [ev] at this
    rw [List.length_append, List.length_cons, List.length_nil, Nat.zero_add] at this
    rw [List.length_cons]
    exact this
theorem seqV_free {n : Nat} {a₀ : Act} {ss : List (Value → Prop)} (hB : freeB ops n a₀.tmps.size = true) (hR : readsB ops n = true) (_hlk : ss.length = n) (hc : ∀ L vs vs' w, (∀ j, L j = true → vs j = vs' j) → J L vs w → J L vs' w)
    (h : SeqVAll P ops J K ss (ops.toList.take n) a₀ []) :
    VAll P ops (jShape J ss) a₀ (ops.toList.take n) 0 := by
  simp only [freeB, Bool.and_eq_true, Bool.or_eq_true, beq_iff_eq, decide_eq_true_eq] at hB
  obtain ⟨⟨⟨⟨⟨hn, hback⟩, hdist⟩, hin⟩, -⟩, -⟩ := hB
  have hlen : (ops.toList.take n).length = n := by simp; omega
  have key : ∀ i o, (ops.toList.take n)[i]? = some o → VVC P ops (jShape J ss) a₀ i o := by
    intro i o ho
    have hi : i < n := by have := (List.getElem?_eq_some_iff.1 ho).1; omega
    have hoi : ops[i]? = some o := by rw [List.getElem?_take, if_pos hi] at ho; simpa using ho
    intro a w L vs₀ hL0 hb hp ht
    classical
    obtain ⟨vs, hvL, hvs⟩ : ∃ vs : Nat → Value, (∀ j, L j = true → vs₀ j = vs j) ∧ ∀ j s, j < n → ss[j]? = some s → s (vs j) := by
      refine ⟨fun j => if L j = true then vs₀ j else if hj2 : ∃ v, ∃ s, ss[j]? = some s ∧ s v then Classical.choose hj2 else undef, fun j hj => by simp [hj], fun j s hj hs => ?_⟩
      by_cases hL : L j = true
      · simp only [hL, if_true]; exact hb.2 j s hs hL
      · simp only [hL]
        obtain ⟨s', v', hs', hv'⟩ := seqV_has h (fun m s _ hs => ⟨_, hs⟩) j (by omega)
        have hj2 : ∃ v, ∃ s, ss[j]? = some s ∧ s v := ⟨v', s', hs', hv'⟩
        rw [if_neg (by decide), dif_pos hj2]
        obtain ⟨k2, hk2, hs2⟩ := Classical.choose_spec hj2
        rw [hs] at hk2
        cases hk2
        exact hs2
    obtain ⟨s, o', e1, e2, _, hop⟩ := seqV_at vs h i (by omega) (fun m s hm hs => by simpa using hvs m s (by omega) hs)
    rw [ho] at e2
    cases e2
    have hlt : ∀ e ∈ o.after.toList, Region.binds .any e = true → e.on < i := fun e he hbe => by
      have h1 := List.all_eq_true.1 hback (o, i) (List.mem_iff_getElem?.2 ⟨i, by simp only [List.getElem?_zipIdx, Array.getElem?_toList, hoi, Option.map_some, Nat.zero_add]⟩)
      have h2 := List.all_eq_true.1 h1 e (by simpa using he)
      simpa [hbe] using h2
    have hdep : ∀ e ∈ o.after.toList, Region.binds .any e = true → L e.on = true ∧ ∀ oj d, ops[e.on]? = some oj → oj.dst = some d → a.tmps[d]? = some (vs e.on) := fun e he hbe => by
      obtain ⟨oj, h1, h2, h3⟩ := hp e he hbe
      refine ⟨h2, fun oj' d hoj hd => ?_⟩
      rw [h1] at hoj
      cases hoj
      rw [← hvL _ h2]
      exact h3 d hd
    unfold SeqVCd at hop
    simp only [List.length_nil, Nat.zero_add, List.nil_append, List.length_map, List.length_range] at hop
    have hop := hop w L vs (fun j u hj => by
      rw [List.getElem?_map, Option.map_eq_some_iff] at hj
      obtain ⟨q, hq, rfl⟩ := hj
      have := List.getElem?_eq_some_iff.1 hq
      obtain ⟨hq1, hq2⟩ := this
      simp at hq2
      rw [hq2]) hL0 (hc L vs₀ vs w hvL hb.1) (fun e he hbe => (hdep e he hbe).1)
    have hread : ((match o.op with | .select _ _ => false | _ => true) = true) ∧ ∀ t ∈ o.looksAt ops, (∃ e ∈ o.after.toList, Region.binds .any e = true ∧ (ops[e.on]?).bind (·.dst) = some t) ∨
        (ops.toList.all fun oj => oj.dst != some t || oj.after.toList.any fun e => Region.binds .any e && e.on == i) = true := by
      have h1 := List.all_eq_true.1 hR (o, i) (List.mem_iff_getElem?.2 ⟨i, by rw [List.getElem?_zipIdx, ho]; simp⟩)
      simp only [Bool.and_eq_true] at h1
      refine ⟨h1.1, fun t ht => ?_⟩
      have h2 := List.all_eq_true.1 h1.2 t ht
      simp only [Bool.or_eq_true] at h2
      rcases h2 with h2 | h2
      · left
        obtain ⟨e, he, h3⟩ := List.any_eq_true.1 h2
        simp only [Bool.and_eq_true, beq_iff_eq] at h3
        exact ⟨e, he, h3.1, h3.2⟩
      · exact .inr h2
    have hsel : ∀ cs b, o.op ≠ .select cs b := fun cs b hc => by have := hread.1; rw [hc] at this; cases this
    have hsz : ∀ d oj j, ops[j]? = some oj → j < n → oj.dst = some d → d < a₀.tmps.size := fun d oj j hj hjn hd => by
      have hmem : oj ∈ ops.toList.take n := List.mem_of_getElem? (i := j) (by rw [List.getElem?_take, if_pos hjn]; simpa using hj)
      have := List.all_eq_true.1 hin oj hmem
      rw [hd] at this
      simpa using this
    have hdval : ∀ e ∈ o.after.toList, Region.binds .any e = true → ∀ oj d, ops[e.on]? = some oj → oj.dst = some d → (putAll vs ((ops.toList.take n).take i) 0 a₀).tmps[d]? = some (vs e.on) := by
      intro e he hbe oj t hoj hdj
      have hei := hlt e he hbe
      have hd2 : distB ((ops.toList.take n).take i) = true := by
        have : ∀ (l : List Oper) (m : Nat), distB l = true → distB (l.take m) = true := by
          intro l
          induction l with
          | nil => intro m _; simp [distB]
          | cons x l ih =>
            intro m hx
            cases m with
            | zero => rfl
            | succ m =>
              simp only [distB, Bool.and_eq_true, List.take_succ_cons] at hx ⊢
              refine ⟨?_, ih m hx.2⟩
              cases hxd : x.dst with
              | none => rfl
              | some d =>
                have h1 := hx.1
                rw [hxd] at h1
                exact List.all_eq_true.2 fun y hy => List.all_eq_true.1 h1 y (List.mem_of_mem_take hy)
        exact this _ _ hdist
      have := putAll_some vs t ((ops.toList.take n).take i) 0 a₀ e.on oj hd2 (by rw [List.getElem?_take, if_pos hei, List.getElem?_take, if_pos (by omega)]; simpa using hoj) hdj (hsz t oj e.on hoj (by omega) hdj)
      rw [this, Nat.zero_add]
    have heq : ∀ t ∈ o.looksAt ops, a.tmps[t]? = (putAll vs ((ops.toList.take n).take i) 0 a₀).tmps[t]? := by
      intro t hmem
      rcases hread.2 t hmem with ⟨e, he, hbe, hd⟩ | hall
      · obtain ⟨oj, hoj, hdj⟩ := Option.bind_eq_some_iff.1 hd
        rw [(hdep e he hbe).2 oj t hoj hdj, hdval e he hbe oj t hoj hdj]
      · rw [ht t hall, putAll_none]
        intro oj hoj hd
        obtain ⟨j, hj⟩ := List.getElem?_of_mem hoj
        rw [List.getElem?_take] at hj
        split at hj
        · rename_i hji
          rw [List.getElem?_take, if_pos (by omega)] at hj
          have hj' : ops[j]? = some oj := by simpa using hj
          have h1 := List.all_eq_true.1 hall oj (by simpa using Array.mem_of_getElem? hj')
          simp only [Bool.or_eq_true, List.any_eq_true, Bool.and_eq_true, beq_iff_eq, bne_iff_ne, ne_eq] at h1
          rcases h1 with h1 | ⟨e, he, hbe, hei⟩
          · exact h1 hd
          · have h2 := List.all_eq_true.1 hback (oj, j) (List.mem_iff_getElem?.2 ⟨j, by simp only [List.getElem?_zipIdx, Array.getElem?_toList, hj', Option.map_some, Nat.zero_add]⟩)
            have h3 := List.all_eq_true.1 h2 e (by simpa using he)
            simp only [hbe, Bool.not_true, Bool.false_or, decide_eq_true_eq] at h3
            omega
        · cases hj
    have hev : execOp a.eval o = execOp (putAll vs ((ops.toList.take n).take i) 0 a₀).eval o := execOp_congr o hsel fun x hx => by
      cases x with
      | tmp t =>
        have := heq t (List.mem_append_left _ (List.mem_filterMap.2 ⟨.tmp t, by simpa using hx, rfl⟩))
        simp only [Act.eval, Array.getD_eq_getD_getElem?, this]
      | const v => rfl
      | global g => rfl
      | func f => rfl
    have hgd : Region.wanted o (yielded ops a.tmps) = guardOn ops o (putAll vs ((ops.toList.take n).take i) 0 a₀) := by
      unfold guardOn Region.wanted
      cases hg : o.guard with
      | none => rfl
      | some jb =>
        obtain ⟨j, b⟩ := jb
        have : yielded ops a.tmps j = yielded ops (putAll vs ((ops.toList.take n).take i) 0 a₀).tmps j := by
          unfold yielded
          cases hd : (ops[j]?).bind (·.dst) with
          | none => rfl
          | some t =>
            simp only [Option.bind_some]
            rw [heq t (List.mem_append_right _ (by rw [hg]; simp [hd]))]
        simp only [this]
    rw [hgd]
    have hok : ∀ R, opOK P o (putAll vs ((ops.toList.take n).take i) 0 a₀) w R → opOK P o a w R := fun R hR => by
      unfold opOK at *
      rw [hev]; exact hR
    have hback2 : ∀ v w', s v → J (setB L i) (updV vs i v) w' → jShape J ss (setB L i) (updV vs₀ i v) w' := fun v w' h1 h2 => by
      refine ⟨hc _ _ _ _ (fun j hj => ?_) h2, fun j s' hs' hj => ?_⟩
      · unfold updV
        split
        · rfl
        · rename_i hji
          have : L j = true := by unfold setB at hj; rwa [if_neg hji] at hj
          exact (hvL j this).symm
      · unfold updV
        split
        · rename_i hji
          subst hji
          rw [e1] at hs'; cases hs'; exact h1
        · rename_i hji
          have : L j = true := by unfold setB at hj; rwa [if_neg hji] at hj
          exact hb.2 j s' hs' this
    split at hop
    · rename_i hg
      rw [if_pos hg]
      exact hok _ (opOK_mono hop fun v w' ⟨h1, h2⟩ => hback2 v w' h1 h2)
    · rename_i hg
      rw [if_neg hg]
      exact hback2 _ _ hop.1 hop.2
  have all : ∀ (l : List Oper) (i : Nat), (∀ j o, l[j]? = some o → VVC P ops (jShape J ss) a₀ (i + j) o) → VAll P ops (jShape J ss) a₀ l i := by
    intro l
    induction l with
    | nil => intro i _; trivial
    | cons o l ih =>
      intro i hl
      refine ⟨by simpa using hl 0 o rfl, ih (i + 1) fun j o' hj => ?_⟩
      have := hl (j + 1) o' (by simpa using hj)
      rwa [show i + (j + 1) = i + 1 + j by omega] at this
  exact all _ 0 fun j o ho => by rw [Nat.zero_add]; exact key j o ho
end
/-- What is asked behind the operations of the text's order. -/
def seqVK (J : (Nat → Bool) → (Nat → Value) → World → Prop) (K : Act → World → Prop) (n : Nat) : Act → List Value → Prop := fun a vals => ∀ vs w', (∀ j u, vals[j]? = some u → vs j = u) → J (fun j => decide (j < n)) vs w' → K a w'
section
variable {P : Program} {id : Nat} {l : List Oper} {a : Act} {w : World} {Q : Exit → Act → World → Prop}
theorem wp_region_seqV (n : Nat) (ss : List (Value → Prop)) (J : (Nat → Bool) → (Nat → Value) → World → Prop) (hlk : ss.length = n) (hmix : P.follows .mixedOrders = true) (hB : freeB l.toArray n a.tmps.size = true) (hR : readsB l.toArray n = true)
    (hc : ∀ L vs vs' w, (∀ j, L j = true → vs j = vs' j) → J L vs w → J L vs' w) (h0 : ∀ vs, J (fun _ => false) vs w.drew)
    (h : SeqVAll P l.toArray J (seqVK J (fun a w' => wpList P l.toArray Q (l.drop n) a w') n) ss (l.take n) a []) : (Code.region id l.toArray true).wp P Q a w := by
  have hn : n ≤ l.length := by simp only [freeB, Bool.and_eq_true, decide_eq_true_eq] at hB; simpa using hB.1.1.1.1.1
  have hlen : (l.take n).length = n := by simp; omega
  refine wp_region_v n (jShape J ss) hmix hB (fun vs => ⟨h0 vs, fun j s _ hj => by cases hj⟩) (seqV_free (ops := l.toArray) hB hR hlk hc (by simpa using h)) fun vs w' hJ => ?_
  have := seqV_end vs h (fun m s hm hs => by
    simp only [List.length_nil, Nat.zero_add]
    exact hJ.2 m s hs (decide_eq_true (by omega)))
  simp only [List.length_nil, Nat.zero_add, List.nil_append] at this
  refine this vs w' (fun j u hj => ?_) hJ.1
  rw [List.getElem?_map, Option.map_eq_some_iff] at hj
  obtain ⟨q, hq, rfl⟩ := hj
  obtain ⟨hq1, hq2⟩ := List.getElem?_eq_some_iff.1 hq
  simp at hq2
  rw [hq2]
end
section
variable {P : Program} {ops : Array Oper} {J : (Nat → Bool) → (Nat → Value) → World → Prop} {K : Act → List Value → Prop} {ss : List (Value → Prop)} {o : Oper} {l : List Oper} {a : Act} {vals : List Value}
/-- The next operation's value is known ahead; it only reads. -/
theorem sv_rd {c : Value} (hg : o.guard = none) (hJ : ∀ w L vs, J L vs w → J (setB L vals.length) (updV vs vals.length c) w)
    (h : ∀ w L vs, (∀ j u, vals[j]? = some u → vs j = u) → L vals.length = false → J L vs w → opOK P o a w (fun v w' => v = c ∧ w' = w))
    (hr : SeqVAll P ops J K ss l (a.put o.dst c) (vals ++ [c])) : SeqVAll P ops J K ((fun v => v = c) :: ss) (o :: l) a vals := by
  refine ⟨⟨c, rfl⟩, fun w L vs hvs hL hj _ => ?_, fun v hv => by subst hv; exact hr⟩
  rw [if_pos (by simp [guardOn, Region.wanted, hg])]
  exact opOK_mono (h w L vs hvs hL hj) fun v w' ⟨h1, h2⟩ => by subst h1 h2; exact ⟨rfl, hJ _ L vs hj⟩
/-- Its value is new. -/
theorem sv_new {s : Value → Prop} (hs : ∃ v, s v) (hg : o.guard = none)
    (h : ∀ w L vs, (∀ j u, vals[j]? = some u → vs j = u) → L vals.length = false → J L vs w → (∀ e ∈ o.after.toList, Region.binds .any e = true → L e.on = true) → opOK P o a w (fun v w' => s v ∧ J (setB L vals.length) (updV vs vals.length v) w'))
    (hr : ∀ v, s v → SeqVAll P ops J K ss l (a.put o.dst v) (vals ++ [v])) : SeqVAll P ops J K (s :: ss) (o :: l) a vals := by
  refine ⟨hs, fun w L vs hvs hL hj hd => ?_, hr⟩
  rw [if_pos (by simp [guardOn, Region.wanted, hg])]
  exact h w L vs hvs hL hj hd
theorem sv_end (h : K a vals) : SeqVAll P ops J K ss [] a vals := by cases ss <;> exact h
end
end Go.Oche

/- A region that draws its order, with an append to each of two rows of one's own. -/
namespace Go.Oche
open Go Go.RowKit
/-- Operations i1 and i2 append to v1 and v2. -/
structure JTwoA (w0 : World) (v1 v2 : Value) (i1 i2 : Nat) (L : Nat → Bool) (W : World) : Prop where
  os : W.os = w0.os
  tape : W.tape = w0.tape
  output : W.output = w0.output
  size : w0.heap.size ≤ W.heap.size
  block : ∀ k, k < w0.heap.size → (L i1 = false ∨ v1.ownBlock ≠ some k) → (L i2 = false ∨ v2.ownBlock ≠ some k) → W.heap[k]? = w0.heap[k]?
section
variable {w0 W W' : World} {v1 v2 : Value} {i1 i2 : Nat} {L : Nat → Bool}
theorem JTwoA.start : JTwoA w0 v1 v2 i1 i2 (fun _ => false) w0.drew := ⟨rfl, rfl, rfl, Nat.le_refl _, fun _ _ _ _ => rfl⟩
theorem setB_or {i j : Nat} (h : setB L i j = false) : L j = false := by
  unfold setB at h
  split at h
  · cases h
  · exact h
theorem JTwoA.read (h : JTwoA w0 v1 v2 i1 i2 L W) {i : Nat} : JTwoA w0 v1 v2 i1 i2 (setB L i) W :=
  ⟨h.os, h.tape, h.output, h.size, fun k hk h1 h2 => h.block k hk (h1.imp setB_or id) (h2.imp setB_or id)⟩
theorem JTwoA.grow (h : JTwoA w0 v1 v2 i1 i2 L W) {i : Nat} (hb : Below W.heap.size W W') : JTwoA w0 v1 v2 i1 i2 (setB L i) W' :=
  ⟨hb.os.trans h.os, hb.tape.trans h.tape, hb.output.trans h.output, Nat.le_trans h.size hb.size, fun k hk h1 h2 => (hb.block k (Nat.lt_of_lt_of_le hk h.size)).trans (h.block k hk (h1.imp setB_or id) (h2.imp setB_or id))⟩
theorem JTwoA.app1 (h : JTwoA w0 v1 v2 i1 i2 L W) (hg : W.grownBy W' v1.ownBlock) : JTwoA w0 v1 v2 i1 i2 (setB L i1) W' :=
  ⟨hg.os.trans h.os, hg.tape.trans h.tape, hg.output.trans h.output, Nat.le_trans h.size hg.size, fun k hk h1 h2 => by
    rcases h1 with h1 | h1
    · rw [setB_eq] at h1; cases h1
    · exact (hg.block k (Nat.lt_of_lt_of_le hk h.size) (Ne.symm h1)).trans (h.block k hk (.inr h1) (h2.imp setB_or id))⟩
theorem JTwoA.app2 (h : JTwoA w0 v1 v2 i1 i2 L W) (hg : W.grownBy W' v2.ownBlock) : JTwoA w0 v1 v2 i1 i2 (setB L i2) W' :=
  ⟨hg.os.trans h.os, hg.tape.trans h.tape, hg.output.trans h.output, Nat.le_trans h.size hg.size, fun k hk h1 h2 => by
    rcases h2 with h2 | h2
    · rw [setB_eq] at h2; cases h2
    · exact (hg.block k (Nat.lt_of_lt_of_le hk h.size) (Ne.symm h2)).trans (h.block k hk (h1.imp setB_or id) (.inr h2))⟩
theorem JTwoA.heap (h : JTwoA w0 v1 v2 i1 i2 L W) {b : Nat} {o : Obj} (hb : w0.heap[b]? = some o) (h1 : v1.ownBlock ≠ some b) (h2 : v2.ownBlock ≠ some b) : W.heap[b]? = some o :=
  (h.block b (Array.getElem?_eq_some_iff.1 hb).1 (.inr h1) (.inr h2)).trans hb
theorem JTwoA.own1 (h : JTwoA w0 v1 v2 i1 i2 L W) {base n k : Nat} {e : TypeId} {xs : List Value} (ho : w0.ownsRow base e k v1 n xs) (hL : L i1 = false) (hne : v1.ownBlock = none ∨ v1.ownBlock ≠ v2.ownBlock) : W.ownsRow base e k v1 n xs :=
  ownsN_kept ho fun g hg => h.block g (ho.lt g hg).2 (.inl hL) (.inr fun e => by
    rcases hne with hn | hn
    · rw [hg] at hn; cases hn
    · exact hn (hg.trans e.symm))
theorem JTwoA.own2 (h : JTwoA w0 v1 v2 i1 i2 L W) {base n k : Nat} {e : TypeId} {xs : List Value} (ho : w0.ownsRow base e k v2 n xs) (hL : L i2 = false) (hne : v1.ownBlock = none ∨ v1.ownBlock ≠ v2.ownBlock) : W.ownsRow base e k v2 n xs :=
  ownsN_kept ho fun g hg => h.block g (ho.lt g hg).2 (.inr fun e => by
    rcases hne with hn | hn
    · rw [hn] at e; cases e
    · exact hn (e.trans hg.symm)) (.inl hL)
end
/-- Operations l1 and l2 make literals of one element, i1 and i2 append them to v1 and v2. -/
structure JTwoV (w0 : World) (v1 v2 : Value) (l1 i1 l2 i2 : Nat) (base : Nat) (e1 e2 : TypeId) (n1 n2 : Nat) (xs1 xs2 : List Value) (u1 u2 : Value) (L : Nat → Bool) (vs : Nat → Value) (W : World) : Prop where
  b : JTwoA w0 v1 v2 i1 i2 L W
  lit1 : L l1 = true → ∃ q, vs l1 = .slice (some ⟨q, 0, none⟩) 1 1 ∧ w0.heap.size ≤ q ∧ W.cell? ⟨q, 0, none⟩ = some u1
  lit2 : L l2 = true → ∃ q, vs l2 = .slice (some ⟨q, 0, none⟩) 1 1 ∧ w0.heap.size ≤ q ∧ W.cell? ⟨q, 0, none⟩ = some u2
  row1 : L i1 = true → W.ownsRow base e1 1 (vs i1) (n1 + 1) (xs1 ++ [u1]) ∧ ((vs i1).ownBlock = v1.ownBlock ∨ ∃ g, (vs i1).ownBlock = some g ∧ w0.heap.size ≤ g)
  row2 : L i2 = true → W.ownsRow base e2 1 (vs i2) (n2 + 1) (xs2 ++ [u2]) ∧ ((vs i2).ownBlock = v2.ownBlock ∨ ∃ g, (vs i2).ownBlock = some g ∧ w0.heap.size ≤ g)
  ne : L i1 = true → L i2 = true → (vs i1).ownBlock ≠ (vs i2).ownBlock
  ord : L i2 = true → L i1 = true
section
variable {w0 W W' : World} {v1 v2 : Value} {l1 i1 l2 i2 base : Nat} {e1 e2 : TypeId} {n1 n2 : Nat} {xs1 xs2 : List Value} {u1 u2 : Value} {L : Nat → Bool} {vs vs' : Nat → Value}
theorem JTwoV.congr (hc : ∀ j, L j = true → vs j = vs' j) (h : JTwoV w0 v1 v2 l1 i1 l2 i2 base e1 e2 n1 n2 xs1 xs2 u1 u2 L vs W) : JTwoV w0 v1 v2 l1 i1 l2 i2 base e1 e2 n1 n2 xs1 xs2 u1 u2 L vs' W :=
  ⟨h.b, fun hl => hc _ hl ▸ h.lit1 hl, fun hl => hc _ hl ▸ h.lit2 hl, fun hl => hc _ hl ▸ h.row1 hl, fun hl => hc _ hl ▸ h.row2 hl, fun ha hb => hc _ ha ▸ hc _ hb ▸ h.ne ha hb, h.ord⟩
theorem JTwoV.start : JTwoV w0 v1 v2 l1 i1 l2 i2 base e1 e2 n1 n2 xs1 xs2 u1 u2 (fun _ => false) vs w0.drew :=
  ⟨.start, fun h => (by cases h), fun h => (by cases h), fun h => (by cases h), fun h => (by cases h), fun h => (by cases h), fun h => (by cases h)⟩
theorem updV_ne {i j : Nat} {v : Value} (h : j ≠ i) : updV vs i v j = vs j := by unfold updV; rw [if_neg h]
theorem updV_eq {i : Nat} {v : Value} : updV vs i v i = v := by unfold updV; rw [if_pos rfl]
theorem JTwoV.grow (h : JTwoV w0 v1 v2 l1 i1 l2 i2 base e1 e2 n1 n2 xs1 xs2 u1 u2 L vs W) (hb : Below W.heap.size W W') {i : Nat} {v : Value} (h1 : l1 ≠ i) (h2 : i1 ≠ i) (h3 : l2 ≠ i) (h4 : i2 ≠ i) :
    JTwoV w0 v1 v2 l1 i1 l2 i2 base e1 e2 n1 n2 xs1 xs2 u1 u2 (setB L i) (updV vs i v) W' := by
  refine ⟨h.b.grow hb, ?_, ?_, ?_, ?_, ?_, ?_⟩
  · rw [setB_ne h1, updV_ne h1]; exact fun hl => let ⟨q, a, b, c⟩ := h.lit1 hl; ⟨q, a, b, bAt hb c⟩
  · rw [setB_ne h3, updV_ne h3]; exact fun hl => let ⟨q, a, b, c⟩ := h.lit2 hl; ⟨q, a, b, bAt hb c⟩
  · rw [setB_ne h2, updV_ne h2]; exact fun hl => let ⟨a, b⟩ := h.row1 hl; ⟨ownsN_below a hb, b⟩
  · rw [setB_ne h4, updV_ne h4]; exact fun hl => let ⟨a, b⟩ := h.row2 hl; ⟨ownsN_below a hb, b⟩
  · rw [setB_ne h2, setB_ne h4, updV_ne h2, updV_ne h4]; exact h.ne
  · rw [setB_ne h2, setB_ne h4]; exact h.ord
theorem JTwoV.read (h : JTwoV w0 v1 v2 l1 i1 l2 i2 base e1 e2 n1 n2 xs1 xs2 u1 u2 L vs W) {i : Nat} {v : Value} (h1 : l1 ≠ i) (h2 : i1 ≠ i) (h3 : l2 ≠ i) (h4 : i2 ≠ i) :
    JTwoV w0 v1 v2 l1 i1 l2 i2 base e1 e2 n1 n2 xs1 xs2 u1 u2 (setB L i) (updV vs i v) W := h.grow (Below.refl _ _) h1 h2 h3 h4
theorem JTwoV.swapLit (h : JTwoV w0 v1 v2 l1 i1 l2 i2 base e1 e2 n1 n2 xs1 xs2 u1 u2 L vs W) (hb : Below W.heap.size W W') {q : Nat} (hq : w0.heap.size ≤ q) (hc : W'.cell? ⟨q, 0, none⟩ = some u1) (h2 : i1 ≠ l1) (h3 : l2 ≠ l1) (h4 : i2 ≠ l1) :
    JTwoV w0 v1 v2 l1 i1 l2 i2 base e1 e2 n1 n2 xs1 xs2 u1 u2 (setB L l1) (updV vs l1 (.slice (some ⟨q, 0, none⟩) 1 1)) W' := by
  refine ⟨h.b.grow hb, ?_, ?_, ?_, ?_, ?_, ?_⟩
  · rw [updV_eq]; exact fun _ => ⟨q, rfl, hq, hc⟩
  · rw [setB_ne h3, updV_ne h3]; exact fun hl => let ⟨q, a, b, c⟩ := h.lit2 hl; ⟨q, a, b, bAt hb c⟩
  · rw [setB_ne h2, updV_ne h2]; exact fun hl => let ⟨a, b⟩ := h.row1 hl; ⟨ownsN_below a hb, b⟩
  · rw [setB_ne h4, updV_ne h4]; exact fun hl => let ⟨a, b⟩ := h.row2 hl; ⟨ownsN_below a hb, b⟩
  · rw [setB_ne h2, setB_ne h4, updV_ne h2, updV_ne h4]; exact h.ne
  · rw [setB_ne h2, setB_ne h4]; exact h.ord
theorem JTwoV.mkLit2 (h : JTwoV w0 v1 v2 l1 i1 l2 i2 base e1 e2 n1 n2 xs1 xs2 u1 u2 L vs W) (hb : Below W.heap.size W W') {q : Nat} (hq : w0.heap.size ≤ q) (hc : W'.cell? ⟨q, 0, none⟩ = some u2) (h1 : l1 ≠ l2) (h2 : i1 ≠ l2) (h4 : i2 ≠ l2) :
    JTwoV w0 v1 v2 l1 i1 l2 i2 base e1 e2 n1 n2 xs1 xs2 u1 u2 (setB L l2) (updV vs l2 (.slice (some ⟨q, 0, none⟩) 1 1)) W' := by
  refine ⟨h.b.grow hb, ?_, ?_, ?_, ?_, ?_, ?_⟩
  · rw [setB_ne h1, updV_ne h1]; exact fun hl => let ⟨q, a, b, c⟩ := h.lit1 hl; ⟨q, a, b, bAt hb c⟩
  · rw [updV_eq]; exact fun _ => ⟨q, rfl, hq, hc⟩
  · rw [setB_ne h2, updV_ne h2]; exact fun hl => let ⟨a, b⟩ := h.row1 hl; ⟨ownsN_below a hb, b⟩
  · rw [setB_ne h4, updV_ne h4]; exact fun hl => let ⟨a, b⟩ := h.row2 hl; ⟨ownsN_below a hb, b⟩
  · rw [setB_ne h2, setB_ne h4, updV_ne h2, updV_ne h4]; exact h.ne
  · rw [setB_ne h2, setB_ne h4]; exact h.ord
theorem litKeep {g : Option Nat} {Z : Nat} {v u : Value} (hg : W.grownBy W' g) (hlt : ∀ q, g = some q → q < Z) (h : ∃ q, v = .slice (some ⟨q, 0, none⟩) 1 1 ∧ Z ≤ q ∧ W.cell? ⟨q, 0, none⟩ = some u) : ∃ q, v = .slice (some ⟨q, 0, none⟩) 1 1 ∧ Z ≤ q ∧ W'.cell? ⟨q, 0, none⟩ = some u := by
  obtain ⟨q, a, b, c⟩ := h
  exact ⟨q, a, b, (World.cell?_of_block (w := W) (hg.block q (World.block_lt_of_cell? W _ c) (fun e => by have := hlt q e.symm; omega))).trans c⟩
/-- The first append. -/
theorem JTwoV.app1 (h : JTwoV w0 v1 v2 l1 i1 l2 i2 base e1 e2 n1 n2 xs1 xs2 u1 u2 L vs W) (hL : L i1 = false) (hg : W.grownBy W' v1.ownBlock) (hv1 : ∀ q, v1.ownBlock = some q → q < w0.heap.size) {v : Value} (ho : W'.ownsRow base e1 1 v (n1 + 1) (xs1 ++ [u1]))
    (hat : v.ownBlock = v1.ownBlock ∨ ∃ g, v.ownBlock = some g ∧ w0.heap.size ≤ g) (h1 : l1 ≠ i1) (h3 : l2 ≠ i1) (h4 : i2 ≠ i1) : JTwoV w0 v1 v2 l1 i1 l2 i2 base e1 e2 n1 n2 xs1 xs2 u1 u2 (setB L i1) (updV vs i1 v) W' := by
  have h2L : L i2 = false := by
    cases hq : L i2 with
    | false => rfl
    | true => rw [h.ord hq] at hL; cases hL
  refine ⟨h.b.app1 hg, ?_, ?_, ?_, ?_, ?_, ?_⟩
  · rw [setB_ne h1, updV_ne h1]; exact fun hl => litKeep hg hv1 (h.lit1 hl)
  · rw [setB_ne h3, updV_ne h3]; exact fun hl => litKeep hg hv1 (h.lit2 hl)
  · rw [updV_eq]; exact fun _ => ⟨ho, hat⟩
  · rw [setB_ne h4, h2L]; exact fun hl => by cases hl
  · rw [setB_ne h4, h2L]; exact fun _ hl => by cases hl
  · rw [setB_eq]; exact fun _ => rfl
/-- The second one. -/
theorem JTwoV.app2 (h : JTwoV w0 v1 v2 l1 i1 l2 i2 base e1 e2 n1 n2 xs1 xs2 u1 u2 L vs W) (hL1 : L i1 = true) (hg : W.grownBy W' v2.ownBlock) (hv2 : ∀ q, v2.ownBlock = some q → q < w0.heap.size) (hne : v1.ownBlock = none ∨ v1.ownBlock ≠ v2.ownBlock)
    {v : Value} {g : Nat} (ho : W'.ownsRow base e2 1 v (n2 + 1) (xs2 ++ [u2])) (hv : v.ownBlock = some g) (hat : v2.ownBlock = some g ∨ g = W.heap.size) (h1 : l1 ≠ i2) (h2 : i1 ≠ i2) (h3 : l2 ≠ i2) : JTwoV w0 v1 v2 l1 i1 l2 i2 base e1 e2 n1 n2 xs1 xs2 u1 u2 (setB L i2) (updV vs i2 v) W' := by
  obtain ⟨hr1, hr2⟩ := h.row1 hL1
  have key : ∀ q, (vs i1).ownBlock = some q → v2.ownBlock ≠ some q := fun q hq e => by
    rcases hr2 with hr2 | ⟨q', hr2, hr3⟩
    · rw [hr2] at hq
      rcases hne with hn | hn
      · rw [hn] at hq; cases hq
      · exact hn (hq.trans e.symm)
    · rw [hq] at hr2; cases hr2; have := hv2 q e; omega
  refine ⟨h.b.app2 hg, ?_, ?_, ?_, ?_, ?_, ?_⟩
  · rw [setB_ne h1, updV_ne h1]; exact fun hl => litKeep hg hv2 (h.lit1 hl)
  · rw [setB_ne h3, updV_ne h3]; exact fun hl => litKeep hg hv2 (h.lit2 hl)
  · rw [setB_ne h2, updV_ne h2]; exact fun _ => ⟨ownsN_kept hr1 fun q hq => hg.block q (hr1.lt q hq).2 (Ne.symm (key q hq)), hr2⟩
  · rw [updV_eq]; exact fun _ => ⟨ho, hat.elim (fun e => .inl (hv.trans e.symm)) (fun e => .inr ⟨g, hv, by rw [e]; exact h.b.size⟩)⟩
  · rw [updV_eq, updV_ne h2]
    intro _ _ e
    rw [hv] at e
    rcases hat with hat | hat
    · exact key g e hat
    · have := (hr1.lt g e).2; omega
  · rw [setB_ne h2]; exact fun _ => hL1
end
end Go.Oche
