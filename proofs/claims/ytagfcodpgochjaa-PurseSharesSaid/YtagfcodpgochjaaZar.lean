/- The texts SeqJ, YA, SeqW, in build order. -/
import Derived.Test.YtagfcodpgochjaaZaq

/- A region whose order is drawn, walked in the text's order, where operations may write: J says what the world is when some have been done. -/
namespace Go.Oche
open Go Go.RowKit

/-- The condition of one operation, at the frame of the text's order. -/
def SeqJVC (P : Program) (ops : Array Oper) (J : (Nat → Bool) → World → Prop) (ks₀ : List Kn) (i : Nat) (k : Kn) (o : Oper) (a : Act) (H : Nat → World → Prop) : Prop :=
  (∃ v, k.s v) ∧
  (∀ w L, L i = false → J L w → (∀ e ∈ o.after.toList, Region.binds .any e = true → L e.on = true ∧ H e.on w) →
    if guardOn ops o a then opOK P o a w (fun v w' => J (setB L i) w' ∧ pres ops ks₀ i o a w w' ∧ k.s v ∧ k.p v w') else J (setB L i) w ∧ k.s undef ∧ k.p undef w)

def SeqJAll (P : Program) (ops : Array Oper) (J : (Nat → Bool) → World → Prop) (ks₀ : List Kn) (K : Act → (Nat → World → Prop) → Prop) : List Kn → List Oper → Act → (Nat → World → Prop) → Nat → Prop
  | _, [], a, H, _ => K a H
  | [], _ :: _, _, _, _ => False
  | k :: ks, o :: l, a, H, i => SeqJVC P ops J ks₀ i k o a H ∧ ∀ v, k.s v → SeqJAll P ops J ks₀ K ks l (a.put o.dst v) (addH H i (k.p v)) (i + 1)

section
variable {P : Program} {ops : Array Oper} {J : (Nat → Bool) → World → Prop} {ks₀ : List Kn} {K : Act → (Nat → World → Prop) → Prop}

theorem seqJ_ks : ∀ {ks : List Kn} {l : List Oper} {a : Act} {H : Nat → World → Prop} {i : Nat} (vs : Nat → Value), SeqJAll P ops J ks₀ K ks l a H i → ∀ j, j < l.length → (∀ m k, m < j → ks[m]? = some k → k.s (vs (i + m))) →
    ∃ k o H', ks[j]? = some k ∧ l[j]? = some o ∧ SeqJVC P ops J ks₀ (i + j) k o (putAll vs (l.take j) i a) H' ∧ (∀ q w, i ≤ q → q < i + j → (∀ k, ks[q - i]? = some k → k.p (vs q) w) → H' q w) ∧ (∀ q w, q < i → H q w → H' q w)
  | [], _ :: _, _, _, _, _, h, _, _, _ => h.elim
  | _, [], _, _, _, _, _, j, hj, _ => by simp at hj
  | k :: ks, o :: l, a, H, i, vs, h, 0, _, _ => ⟨k, o, H, rfl, rfl, by simpa [putAll] using h.1, fun q w h1 h2 => by omega, fun q w _ h => h⟩
  | k :: ks, o :: l, a, H, i, vs, h, j + 1, hj, hs => by
    have h0 : k.s (vs i) := by simpa using hs 0 k (by omega) rfl
    obtain ⟨k', o', H', e1, e2, e3, e4, e5⟩ := seqJ_ks vs (h.2 _ h0) j (by simp at hj; omega) (fun m k hm hk => by
      have := hs (m + 1) k (by omega) (by simpa using hk)
      rwa [show i + (m + 1) = i + 1 + m by omega] at this)
    refine ⟨k', o', H', by simpa using e1, by simpa using e2, by rw [show i + (j + 1) = i + 1 + j by omega]; simpa [putAll] using e3, fun q w h1 h2 hq => ?_, fun q w h1 hq => ?_⟩
    · by_cases hqi : q = i
      · subst hqi
        exact e5 q w (by omega) (by unfold addH; rw [if_pos rfl]; exact hq k (by simp))
      · refine e4 q w (by omega) (by omega) fun k hk => hq k ?_
        rw [show q - i = (q - (i + 1)) + 1 by omega]; simpa using hk
    · exact e5 q w (by omega) (by unfold addH; rw [if_neg (by omega)]; exact hq)

theorem seqJ_has : ∀ {ks : List Kn} {l : List Oper} {a : Act} {H : Nat → World → Prop} {i : Nat}, SeqJAll P ops J ks₀ K ks l a H i → ∀ j, j < l.length → ∃ k v, ks[j]? = some k ∧ k.s v
  | [], _ :: _, _, _, _, h, _, _ => h.elim
  | _, [], _, _, _, _, j, hj => by simp at hj
  | k :: ks, o :: l, a, H, i, h, 0, _ => let ⟨⟨v, hv⟩, _⟩ := h.1; ⟨k, v, rfl, hv⟩
  | k :: ks, o :: l, a, H, i, h, j + 1, hj => by
    obtain ⟨⟨v, hv⟩, _⟩ := h.1
    obtain ⟨k', v', e⟩ := seqJ_has (h.2 v hv) j (by simp at hj; omega)
    exact ⟨k', v', by simpa using e⟩

theorem seqJ_end {w : World} : ∀ {kk ks : List Kn} {l : List Oper} {a : Act} {H : Nat → World → Prop} {i : Nat}, SeqJAll P ops J ks₀ K ks l a H i → (∀ j, ks[j]? = kk[i + j]?) → (∀ j, j < i → H j w) →
    EndAll (knΦ kk) w (fun a => ∃ H, (∀ j, j < i + l.length → H j w) ∧ K a H) l i a
  | _, _, [], a, H, i, h, _, hH => ⟨H, by simpa using hH, by cases ‹List Kn› <;> exact h⟩
  | _, [], _ :: _, _, _, _, h, _, _ => h.elim
  | kk, k :: ks, o :: l, a, H, i, h, hk, hH => fun v hv => by
    have h0 := hv k (by rw [← Nat.add_zero i, ← hk 0]; rfl)
    have := seqJ_end (kk := kk) (w := w) (h.2 v h0.1) (fun j => by rw [show i + 1 + j = i + (j + 1) by omega, ← hk (j + 1)]; simp) (fun j hj => by
      unfold addH
      by_cases hji : j = i
      · rw [if_pos hji]; exact h0.2
      · rw [if_neg hji]; exact hH j (by omega))
    rw [List.length_cons, show i + (l.length + 1) = i + 1 + l.length by omega]
    exact this

theorem seqJ_free {n : Nat} {a₀ : Act} {ks : List Kn} (hB : freeB ops n a₀.tmps.size = true) (hR : readsB ops n = true) (_hlk : ks.length = n) (h : SeqJAll P ops J ks K ks (ops.toList.take n) a₀ (fun _ _ => True) 0) :
    GenAll P ops (knΦ ks) J a₀ (ops.toList.take n) 0 := by
  simp only [freeB, Bool.and_eq_true, Bool.or_eq_true, beq_iff_eq, decide_eq_true_eq] at hB
  obtain ⟨⟨⟨⟨⟨hn, hback⟩, hdist⟩, hin⟩, -⟩, -⟩ := hB
  have hlen : (ops.toList.take n).length = n := by simp; omega
  have key : ∀ i o, (ops.toList.take n)[i]? = some o → GenVC P ops (knΦ ks) J a₀ i o := by
    intro i o ho
    have hi : i < n := by have := (List.getElem?_eq_some_iff.1 ho).1; omega
    have hoi : ops[i]? = some o := by rw [List.getElem?_take, if_pos hi] at ho; simpa using ho
    intro a w L hL0 hb hp ht
    classical
    obtain ⟨vs, hvs⟩ : ∃ vs : Nat → Value, ∀ j, j < n → ((∃ v, knΦ ks j v w ∧ ∀ oj d, ops[j]? = some oj → oj.dst = some d → a.tmps[d]? = some v) → knΦ ks j (vs j) w ∧ ∀ oj d, ops[j]? = some oj → oj.dst = some d → a.tmps[d]? = some (vs j)) ∧ ∀ k, ks[j]? = some k → k.s (vs j) := by
      refine ⟨fun j => if hj : ∃ v, knΦ ks j v w ∧ ∀ oj d, ops[j]? = some oj → oj.dst = some d → a.tmps[d]? = some v then Classical.choose hj else if hj2 : ∃ v, ∃ k, ks[j]? = some k ∧ k.s v then Classical.choose hj2 else undef, fun j hj => ?_⟩
      by_cases hj1 : ∃ v, knΦ ks j v w ∧ ∀ oj d, ops[j]? = some oj → oj.dst = some d → a.tmps[d]? = some v
      · simp only [dif_pos hj1]
        have hc := Classical.choose_spec hj1
        exact ⟨fun _ => hc, fun k hk => (hc.1 k hk).1⟩
      · simp only [dif_neg hj1]
        refine ⟨fun hx => (hj1 hx).elim, fun k hk => ?_⟩
        obtain ⟨k', v', hk', hv'⟩ := seqJ_has h j (by omega)
        have hj2 : ∃ v, ∃ k, ks[j]? = some k ∧ k.s v := ⟨v', k', hk', hv'⟩
        rw [dif_pos hj2]
        obtain ⟨k2, hk2, hs2⟩ := Classical.choose_spec hj2
        rw [hk] at hk2
        cases hk2
        exact hs2
    obtain ⟨k, o', H', e1, e2, ⟨_, hop⟩, e4, -⟩ := seqJ_ks vs h i (by omega) (fun m k hm hk => by rw [Nat.zero_add]; exact (hvs m (by omega)).2 k hk)
    rw [ho] at e2
    cases e2
    have hlt : ∀ e ∈ o.after.toList, Region.binds .any e = true → e.on < i := fun e he hbe => by
      have h1 := List.all_eq_true.1 hback (o, i) (List.mem_iff_getElem?.2 ⟨i, by simp only [List.getElem?_zipIdx, Array.getElem?_toList, hoi, Option.map_some, Nat.zero_add]⟩)
      have h2 := List.all_eq_true.1 h1 e (by simpa using he)
      simpa [hbe] using h2
    have hdep : ∀ e ∈ o.after.toList, Region.binds .any e = true → knΦ ks e.on (vs e.on) w ∧ ∀ oj d, ops[e.on]? = some oj → oj.dst = some d → a.tmps[d]? = some (vs e.on) := fun e he hbe => by
      obtain ⟨oj, v, h1, _, h2, h3⟩ := hp e he hbe
      refine (hvs e.on (by have := hlt e he hbe; omega)).1 ⟨v, h2, fun oj' d hoj hd => ?_⟩
      rw [h1] at hoj
      cases hoj
      exact h3 d hd
    rw [Nat.zero_add] at hop
    have hop := hop w L hL0 hb (fun e he hbe => ⟨(let ⟨_, _, _, h2, _⟩ := hp e he hbe; h2), e4 e.on w (Nat.zero_le _) (by have := hlt e he hbe; omega) fun k hk => ((hdep e he hbe).1 k (by simpa using hk)).2⟩)
    have hread : ((match o.op with | .select _ _ => false | _ => true) = true) ∧ ∀ t ∈ o.looksAt ops, (∃ e ∈ o.after.toList, Region.binds .any e = true ∧ (ops[e.on]?).bind (·.dst) = some t) ∨
        (ops.toList.all fun oj => oj.dst != some t || oj.after.toList.any fun e => Region.binds .any e && e.on == i) = true := by
      have h1 := List.all_eq_true.1 hR (o, i) (List.mem_iff_getElem?.2 ⟨i, by rw [List.getElem?_zipIdx, ho]; simp⟩)
      simp only [Bool.and_eq_true] at h1
      refine ⟨h1.1, fun t ht => ?_⟩
      have h2 := List.all_eq_true.1 h1.2 t ht
      simp only [Bool.or_eq_true] at h2
      rcases h2 with h2 | h2
      · left
        obtain ⟨e, he, h3⟩ := List.any_eq_true.1 h2
        simp only [Bool.and_eq_true, beq_iff_eq] at h3
        exact ⟨e, he, h3.1, h3.2⟩
      · exact .inr h2
    have hsel : ∀ cs b, o.op ≠ .select cs b := fun cs b hc => by have := hread.1; rw [hc] at this; cases this
    have hsz : ∀ d oj j, ops[j]? = some oj → j < n → oj.dst = some d → d < a₀.tmps.size := fun d oj j hj hjn hd => by
      have hmem : oj ∈ ops.toList.take n := List.mem_of_getElem? (i := j) (by rw [List.getElem?_take, if_pos hjn]; simpa using hj)
      have := List.all_eq_true.1 hin oj hmem
      rw [hd] at this
      simpa using this
    have hdval : ∀ e ∈ o.after.toList, Region.binds .any e = true → ∀ oj d, ops[e.on]? = some oj → oj.dst = some d → (putAll vs ((ops.toList.take n).take i) 0 a₀).tmps[d]? = some (vs e.on) := by
      intro e he hbe oj t hoj hdj
      have hei := hlt e he hbe
      have hd2 : distB ((ops.toList.take n).take i) = true := by
        have : ∀ (l : List Oper) (m : Nat), distB l = true → distB (l.take m) = true := by
          intro l
          induction l with
          | nil => intro m _; simp [distB]
          | cons x l ih =>
            intro m hx
            cases m with
            | zero => rfl
            | succ m =>
              simp only [distB, Bool.and_eq_true, List.take_succ_cons] at hx ⊢
              refine ⟨?_, ih m hx.2⟩
              cases hxd : x.dst with
              | none => rfl
              | some d =>
                have h1 := hx.1
                rw [hxd] at h1
                exact List.all_eq_true.2 fun y hy => List.all_eq_true.1 h1 y (List.mem_of_mem_take hy)
        exact this _ _ hdist
      have := putAll_some vs t ((ops.toList.take n).take i) 0 a₀ e.on oj hd2 (by rw [List.getElem?_take, if_pos hei, List.getElem?_take, if_pos (by omega)]; simpa using hoj) hdj (hsz t oj e.on hoj (by omega) hdj)
      rw [this, Nat.zero_add]
    have heq : ∀ t ∈ o.looksAt ops, a.tmps[t]? = (putAll vs ((ops.toList.take n).take i) 0 a₀).tmps[t]? := by
      intro t hmem
      rcases hread.2 t hmem with ⟨e, he, hbe, hd⟩ | hall
      · obtain ⟨oj, hoj, hdj⟩ := Option.bind_eq_some_iff.1 hd
        rw [(hdep e he hbe).2 oj t hoj hdj, hdval e he hbe oj t hoj hdj]
      · rw [ht t hall, putAll_none]
        intro oj hoj hd
        obtain ⟨j, hj⟩ := List.getElem?_of_mem hoj
        rw [List.getElem?_take] at hj
        split at hj
        · rename_i hji
          rw [List.getElem?_take, if_pos (by omega)] at hj
          have hj' : ops[j]? = some oj := by simpa using hj
          have h1 := List.all_eq_true.1 hall oj (by simpa using Array.mem_of_getElem? hj')
          simp only [Bool.or_eq_true, List.any_eq_true, Bool.and_eq_true, beq_iff_eq, bne_iff_ne, ne_eq] at h1
          rcases h1 with h1 | ⟨e, he, hbe, hei⟩
          · exact h1 hd
          · have h2 := List.all_eq_true.1 hback (oj, j) (List.mem_iff_getElem?.2 ⟨j, by simp only [List.getElem?_zipIdx, Array.getElem?_toList, hj', Option.map_some, Nat.zero_add]⟩)
            have h3 := List.all_eq_true.1 h2 e (by simpa using he)
            simp only [hbe, Bool.not_true, Bool.false_or, decide_eq_true_eq] at h3
            omega
        · cases hj
    have hev : execOp a.eval o = execOp (putAll vs ((ops.toList.take n).take i) 0 a₀).eval o := execOp_congr o hsel fun x hx => by
      cases x with
      | tmp t =>
        have := heq t (List.mem_append_left _ (List.mem_filterMap.2 ⟨.tmp t, by simpa using hx, rfl⟩))
        simp only [Act.eval, Array.getD_eq_getD_getElem?, this]
      | const v => rfl
      | global g => rfl
      | func f => rfl
    have hgd : Region.wanted o (yielded ops a.tmps) = guardOn ops o (putAll vs ((ops.toList.take n).take i) 0 a₀) := by
      unfold guardOn Region.wanted
      cases hg : o.guard with
      | none => rfl
      | some jb =>
        obtain ⟨j, b⟩ := jb
        have : yielded ops a.tmps j = yielded ops (putAll vs ((ops.toList.take n).take i) 0 a₀).tmps j := by
          unfold yielded
          cases hd : (ops[j]?).bind (·.dst) with
          | none => rfl
          | some t =>
            simp only [Option.bind_some]
            rw [heq t (List.mem_append_right _ (by rw [hg]; simp [hd]))]
        simp only [this]
    rw [hgd]
    have hok : ∀ R, opOK P o (putAll vs ((ops.toList.take n).take i) 0 a₀) w R → opOK P o a w R := fun R hR => by
      unfold opOK at *
      rw [hev]; exact hR
    split at hop
    · rename_i hg
      rw [if_pos hg]
      refine hok _ (opOK_mono hop fun v w' ⟨h1, hpr, h2, h3⟩ => ⟨h1, fun j hj _ u hu hut kj hkj => ?_, fun k' hk' => ?_⟩)
      · have := hu kj hkj
        refine ⟨this.1, hpr j kj hkj (by omega) u this.1 (fun ⟨e, he, hbe, hej⟩ oj d hoj hd => ?_) this.2⟩
        subst hej
        have h1 := (hdep e he hbe).2 oj d hoj hd
        rw [hut oj d hoj hd] at h1
        rw [hdval e he hbe oj d hoj hd, h1]
      · rw [e1] at hk'
        cases hk'
        exact ⟨h2, h3⟩
    · rename_i hg
      rw [if_neg hg]
      refine ⟨hop.1, fun k' hk' => ?_⟩
      rw [e1] at hk'
      cases hk'
      exact hop.2
  have all : ∀ (l : List Oper) (i : Nat), (∀ j o, l[j]? = some o → GenVC P ops (knΦ ks) J a₀ (i + j) o) → GenAll P ops (knΦ ks) J a₀ l i := by
    intro l
    induction l with
    | nil => intro i _; trivial
    | cons o l ih =>
      intro i hl
      refine ⟨by simpa using hl 0 o rfl, ih (i + 1) fun j o' hj => ?_⟩
      have := hl (j + 1) o' (by simpa using hj)
      rwa [show i + (j + 1) = i + 1 + j by omega] at this
  exact all _ 0 fun j o ho => by rw [Nat.zero_add]; exact key j o ho
end


/-- What is asked behind the operations of the text's order. -/
def seqJK (J : (Nat → Bool) → World → Prop) (K : Act → World → Prop) (n : Nat) : Act → (Nat → World → Prop) → Prop := fun a H => ∀ w', J (fun j => decide (j < n)) w' → (∀ j, j < n → H j w') → K a w'

section
variable {P : Program} {id : Nat} {l : List Oper} {a : Act} {w : World} {Q : Exit → Act → World → Prop} {ks : List Kn}
theorem seqJ_parts (n : Nat) (J : (Nat → Bool) → World → Prop) (hlk : ks.length = n) (hB : freeB l.toArray n a.tmps.size = true) (hR : readsB l.toArray n = true) {K : Act → World → Prop} (h : SeqJAll P l.toArray J ks (seqJK J K n) ks (l.take n) a (fun _ _ => True) 0) :
    GenAll P l.toArray (knΦ ks) J a (l.take n) 0 ∧ ∀ w', J (fun j => decide (j < n)) w' → EndAll (knΦ ks) w' (fun a => K a w') (l.take n) 0 a := by
  have hn : n ≤ l.length := by simp only [freeB, Bool.and_eq_true, decide_eq_true_eq] at hB; simpa using hB.1.1.1.1.1
  have hlen : (l.take n).length = n := by simp; omega
  refine ⟨seqJ_free (ops := l.toArray) hB hR hlk h, fun w' hb => ?_⟩
  have := seqJ_end (w := w') (kk := ks) h (fun j => by simp) (fun j hj => by omega)
  rw [hlen] at this
  have mono : ∀ (l : List Oper) (i : Nat) (a : Act) (X Y : Act → Prop), (∀ a, X a → Y a) → EndAll (knΦ ks) w' X l i a → EndAll (knΦ ks) w' Y l i a := by
    intro l
    induction l with
    | nil => intro i a X Y hXY hx; exact hXY _ hx
    | cons o l ih => intro i a X Y hXY hx v hv; exact ih _ _ _ _ hXY (hx v hv)
  exact mono _ _ _ _ _ (fun a ⟨H, hH, hK⟩ => hK w' hb (by simpa using hH)) this

theorem wp_region_seqJ (n : Nat) (ks : List Kn) (J : (Nat → Bool) → World → Prop) (hlk : ks.length = n) (hmix : P.follows .mixedOrders = true) (hB : freeB l.toArray n a.tmps.size = true) (hR : readsB l.toArray n = true) (h0 : J (fun _ => false) w.drew)
    (h : SeqJAll P l.toArray J ks (seqJK J (fun a w' => wpList P l.toArray Q (l.drop n) a w') n) ks (l.take n) a (fun _ _ => True) 0) : (Code.region id l.toArray true).wp P Q a w :=
  have ⟨h1, h2⟩ := seqJ_parts n J hlk hB hR h
  wp_region_gen n (knΦ ks) J hmix hB h0 h1 h2

theorem wpIn_region_seqJ {F : Fence} (n : Nat) (ks : List Kn) (J : (Nat → Bool) → World → Prop) (hlk : ks.length = n) (hmix : P.follows .mixedOrders = true) (hF : Open F) (hnd : noDefer l.toArray = true) (hB : freeB l.toArray n a.tmps.size = true) (hR : readsB l.toArray n = true) (h0 : J (fun _ => false) w.drew)
    (h : SeqJAll P l.toArray J ks (seqJK J (fun a w' => wpListIn F 0 P l.toArray Q (l.drop n) a w') n) ks (l.take n) a (fun _ _ => True) 0) : (Code.region id l.toArray true).wpIn F 0 P Q a w :=
  have ⟨h1, h2⟩ := seqJ_parts n J hlk hB hR h
  wpIn_region_gen n (knΦ ks) J hmix hF hnd hB h0 h1 h2
end
/-! Where all values are known ahead. -/
def SeqCAll (P : Program) (ops : Array Oper) (J : (Nat → Bool) → World → Prop) (K : Act → Prop) : List Value → List Oper → Act → Nat → Prop
  | _, [], a, _ => K a
  | [], _ :: _, _, _ => False
  | c :: cs, o :: l, a, i => (∀ w L, L i = false → J L w → (∀ e ∈ o.after.toList, Region.binds .any e = true → L e.on = true) →
      if guardOn ops o a then opOK P o a w (fun v w' => v = c ∧ J (setB L i) w') else J (setB L i) w ∧ c = undef) ∧ SeqCAll P ops J K cs l (a.put o.dst c) (i + 1)
section
variable {P : Program} {ops : Array Oper} {J : (Nat → Bool) → World → Prop} {o : Oper} {l : List Oper} {a : Act} {i : Nat}
theorem pres_con {cs : List Value} {w w' : World} : pres ops (cs.map Kn.is) i o a w w' := fun j k hk _ v _ _ _ => by
  obtain ⟨c, _, rfl⟩ := List.mem_map.1 (List.mem_of_getElem? hk)
  trivial
theorem seqC_J {cs₀ : List Value} {K : Act → World → Prop} {n : Nat} : ∀ {cs : List Value} {l : List Oper} {a : Act} {i : Nat} (H : Nat → World → Prop), SeqCAll P ops J (fun a => ∀ w', J (fun j => decide (j < n)) w' → K a w') cs l a i →
    SeqJAll P ops J (cs₀.map Kn.is) (seqJK J K n) (cs.map Kn.is) l a H i
  | [], [], _, _, _, h => fun w' hJ _ => h w' hJ
  | _ :: _, [], _, _, _, h => fun w' hJ _ => h w' hJ
  | [], _ :: _, _, _, _, h => h.elim
  | c :: cs, o :: l, a, i, H, h => by
    refine ⟨⟨⟨c, rfl⟩, fun w L hL hJ hd => ?_⟩, fun v hv => by cases hv; exact seqC_J _ h.2⟩
    have := h.1 w L hL hJ fun e he hb => (hd e he hb).1
    split at this
    · rename_i hg
      rw [if_pos hg]
      exact opOK_mono this fun v w' ⟨h1, h2⟩ => ⟨h2, pres_con, h1, trivial⟩
    · rename_i hg
      rw [if_neg hg]
      exact ⟨this.1, this.2.symm, trivial⟩
theorem wp_region_seqC {id : Nat} {w : World} {Q : Exit → Act → World → Prop} (n : Nat) (cs : List Value) (J : (Nat → Bool) → World → Prop) (hlk : cs.length = n) (hmix : P.follows .mixedOrders = true) (hB : freeB l.toArray n a.tmps.size = true) (hR : readsB l.toArray n = true) (h0 : J (fun _ => false) w.drew)
    (h : SeqCAll P l.toArray J (fun a => ∀ w', J (fun j => decide (j < n)) w' → wpList P l.toArray Q (l.drop n) a w') cs (l.take n) a 0) : (Code.region id l.toArray true).wp P Q a w :=
  wp_region_seqJ n (cs.map Kn.is) J (by simpa using hlk) hmix hB hR h0 (seqC_J _ h)
theorem wpIn_region_seqC {F : Fence} {id : Nat} {w : World} {Q : Exit → Act → World → Prop} (n : Nat) (cs : List Value) (J : (Nat → Bool) → World → Prop) (hlk : cs.length = n) (hmix : P.follows .mixedOrders = true) (hF : Open F) (hnd : noDefer l.toArray = true) (hB : freeB l.toArray n a.tmps.size = true) (hR : readsB l.toArray n = true) (h0 : J (fun _ => false) w.drew)
    (h : SeqCAll P l.toArray J (fun a => ∀ w', J (fun j => decide (j < n)) w' → wpListIn F 0 P l.toArray Q (l.drop n) a w') cs (l.take n) a 0) : (Code.region id l.toArray true).wpIn F 0 P Q a w :=
  wpIn_region_seqJ n (cs.map Kn.is) J (by simpa using hlk) hmix hF hnd hB hR h0 (seqC_J _ h)
variable {K : Act → Prop} {c : Value} {cs : List Value}
/-- The next operation's value is known ahead; it may write. -/
theorem sc_is (hg : o.guard = none) (h : ∀ w L, L i = false → J L w → (∀ e ∈ o.after.toList, Region.binds .any e = true → L e.on = true) → opOK P o a w (fun v w' => v = c ∧ J (setB L i) w'))
    (hr : SeqCAll P ops J K cs l (a.put o.dst c) (i + 1)) : SeqCAll P ops J K (c :: cs) (o :: l) a i := by
  refine ⟨fun w L hL hJ hd => ?_, hr⟩
  rw [if_pos (by simp [guardOn, Region.wanted, hg])]
  exact h w L hL hJ hd
/-- .. and only reads. -/
theorem sc_rd (hg : o.guard = none) (hJ : ∀ w L, L i = false → J L w → J (setB L i) w) (h : ∀ w L, L i = false → J L w → opOK P o a w (fun v w' => v = c ∧ w' = w))
    (hr : SeqCAll P ops J K cs l (a.put o.dst c) (i + 1)) : SeqCAll P ops J K (c :: cs) (o :: l) a i :=
  sc_is hg (fun w L hL hj _ => opOK_mono (h w L hL hj) fun _ _ ⟨h1, h2⟩ => ⟨h1, by rw [h2]; exact hJ w L hL hj⟩) hr
theorem sc_end (h : K a) : SeqCAll P ops J K cs [] a i := by cases cs <;> exact h
end
/-- One cell is written by operation st, while others read; those of rd ahead of it. -/
structure JCell (w0 : World) (st : Nat) (rd : List Nat) (p : Addr) (v : Value) (L : Nat → Bool) (W : World) : Prop where
  eq : W = if L st = true then w0.setCell p v else w0
  rds : L st = true → ∀ i ∈ rd, L i = true
section
variable {w0 W : World} {st : Nat} {rd : List Nat} {p : Addr} {v : Value} {L : Nat → Bool}
theorem JCell.start : JCell w0 st rd p v (fun _ => false) w0 := ⟨rfl, fun h => (by cases h)⟩
theorem JCell.cell (h : JCell w0 st rd p v L W) {b o : Nat} {x : Value} (hv : w0.cell? ⟨b, o, none⟩ = some x) (hb : b ≠ p.block) : W.cell? ⟨b, o, none⟩ = some x := by
  rw [h.eq]
  split
  · rw [World.cell?_of_block (w := w0) (Below.heap_setCell _ _ _ _ hb)]; exact hv
  · exact hv
theorem JCell.look (h : JCell w0 st rd p v L W) {i : Nat} (hi : i ∈ rd) (hL : L i = false) : W = w0 := by
  rw [h.eq]
  split
  · rename_i hs
    rw [h.rds hs i hi] at hL; cases hL
  · rfl
theorem JCell.read (h : JCell w0 st rd p v L W) {i : Nat} (hi : st ≠ i) : JCell w0 st rd p v (setB L i) W := by
  refine ⟨by rw [setB_ne hi]; exact h.eq, fun h' j hj => ?_⟩
  rw [setB_ne hi] at h'
  unfold setB
  split
  · rfl
  · exact h.rds h' j hj
theorem JCell.before (h : JCell w0 st rd p v L W) (hL : L st = false) : W = w0 := by rw [h.eq, hL]; rfl
theorem JCell.store (h : ∀ i ∈ rd, L i = true) : JCell w0 st rd p v (setB L st) (w0.setCell p v) := by
  refine ⟨by rw [setB_eq, if_pos rfl], fun _ j hj => ?_⟩
  unfold setB
  split
  · rfl
  · exact h j hj
theorem JCell.done (h : JCell w0 st rd p v L W) (hL : L st = true) : W = w0.setCell p v := by rw [h.eq, hL]; rfl
end
end Go.Oche

/- Chapter 12, the stable sort: swapRange and rotate. -/
namespace Go.Proofs.Ytagfcodpgochjaa
open Go.RowKit Go.Oche Go.Proofs

theorem ints_swp (l : List Int) (i j : Nat) : ((ints l).set i (.int .i64 (at0 l j))).set j (.int .i64 (at0 l i)) = ints (swp l i j) := by
  unfold swp; rw [ints_set, ints_set]
set_option maxRecDepth 100000 in
set_option maxHeartbeats 4000000 in
theorem swapRange_any (fv : Value) (g c n base : Nat) (xs : List Int) (a b m : Nat) (w : World) (ho : w.ownsRow base 3 1 (.slice (some ⟨g, 0, none⟩) n c) n (ints xs)) (hn : n ≤ 1000) (hab : a + m ≤ b) (hbn : b + m ≤ n) :
    Calls Try.prog 103 #[.slice (some ⟨g, 0, none⟩) n c, .int .i64 a, .int .i64 b, .int .i64 m, fv] w fun e w' =>
      e = .returned (.tuple #[]) ∧ ∃ ys, w'.ownsRow base 3 1 (.slice (some ⟨g, 0, none⟩) n c) n (ints ys) ∧ w.grownBy w' (some g) ∧ SwpR xs a b m ys := by
  have hxl := owns_len ho
  simp only [ints_length] at hxl
  have HO := Lib.hid ho
  have HXL := Lib.hid hxl
  clear ho hxl
  go_enter Try.func103, Try.ntmps103
  go_wp2_with fail
  go_loopw [10] (fun iv wr => ∃ (i : Nat) (ys : List Int), i ≤ m ∧ iv = .int .i64 i ∧ Hid (SwpR xs a b i ys) ∧ Hid (wr.ownsRow base 3 1 (.slice (some ⟨g, 0, none⟩) n c) n (ints ys)) ∧ Hid (w.grownBy wr (some g))) (fun iv _ => m - (intOf iv).toNat)
  case atStart => exact ⟨0, xs, Nat.zero_le _, rfl, Lib.hid SwpR.start, HO, Lib.hid ⟨rfl, rfl, rfl, Nat.le_refl _, fun _ _ _ => rfl⟩⟩
  case round =>
    clear HO
    obtain ⟨i, ys, hi, rfl, HS, HO, HG⟩ := hrel
    obtain ⟨wo, rfl⟩ : ∃ wo : World, wo = wr := ⟨_, rfl⟩
    by_cases hlt : i < m
    · have hyl : ys.length = n := by rw [HS.out.len]; exact HXL.out
      have k1 : wo.cell? ⟨g, b + i, none⟩ = some (.int .i64 (at0 ys (b + i))) := by rw [HO.out.cellAt (b + i) (by omega), intsAt (by omega), ← at0_eq (by omega)]
      have k0 : wo.cell? ⟨g, a + i, none⟩ = some (.int .i64 (at0 ys (a + i))) := by rw [HO.out.cellAt (a + i) (by omega), intsAt (by omega), ← at0_eq (by omega)]
      have hst := HS.out.step (by omega) (by have := HXL.out; omega)
      have hsw := ints_swp ys (a + i) (b + i)
      obtain ⟨x, hx⟩ : ∃ x, at0 ys (b + i) = x := ⟨_, rfl⟩
      obtain ⟨y, hy⟩ : ∃ y, at0 ys (a + i) = y := ⟨_, rfl⟩
      rw [hx, hy] at hsw
      rw [hx] at k1
      rw [hy] at k0
      obtain ⟨p, hp⟩ : ∃ p, a + i = p := ⟨_, rfl⟩
      obtain ⟨q, hq⟩ : ∃ q, b + i = q := ⟨_, rfl⟩
      rw [hp, hq] at hst hsw
      rw [hp] at k0
      rw [hq] at k1
      have hpn : p < n := by omega
      have hqn : q < n := by omega
      have hpq : ¬ q = p := by omega
      have hw1 : IntKind.i64.wrap ((a : Int) + (i : Int)) = (p : Int) := by rw [wrap_small _ (by omega) (by omega)]; omega
      have hw2 : IntKind.i64.wrap ((b : Int) + (i : Int)) = (q : Int) := by rw [wrap_small _ (by omega) (by omega)]; omega
      have f1 := HO.out.frozenAt p
      have HST := Lib.hid hst
      have HSW := Lib.hid hsw
      clear hst hsw hx hy hyl hp hq
      go_wp2_with fail
      refine wp_region_seqC 23 (?_ :: ?_ :: ?_ :: ?_ :: ?_ :: ?_ :: ?_ :: ?_ :: ?_ :: ?_ :: ?_ :: ?_ :: ?_ :: ?_ :: ?_ :: ?_ :: ?_ :: ?_ :: ?_ :: ?_ :: ?_ :: undef :: ?_ :: []) (JCell wo.drew 21 [13, 19] ⟨g, p, none⟩ (.int .i64 x)) rfl mix (by kernel_rfl) (by kernel_rfl) JCell.start ?_
      rotate_left 22
      simp only [List.take_succ_cons, List.take_zero]
      iterate 13
        refine sc_rd rfl (fun _ _ _ h => h.read (by decide)) (fun u1 L1 hL1 hJ1 => ?_) ?_
        · simp [opOK, go_sem, hw1, hw2, hqn]
          try exact rfl
        simp only [Act.put, List.setIfInBounds_toArray, List.set_cons_succ, List.set_cons_zero]
      refine sc_rd rfl (fun _ _ _ h => h.read (by decide)) (fun u1 L1 hL1 hJ1 => ?_) ?_
      · rw [hJ1.look (by decide : 13 ∈ [13, 19]) hL1]
        simp [opOK, go_sem, k1]
        try exact rfl
      simp only [Act.put, List.setIfInBounds_toArray, List.set_cons_succ, List.set_cons_zero]
      iterate 5
        refine sc_rd rfl (fun _ _ _ h => h.read (by decide)) (fun u1 L1 hL1 hJ1 => ?_) ?_
        · simp [opOK, go_sem, hw1, hpn]
          try exact rfl
        simp only [Act.put, List.setIfInBounds_toArray, List.set_cons_succ, List.set_cons_zero]
      refine sc_rd rfl (fun _ _ _ h => h.read (by decide)) (fun u1 L1 hL1 hJ1 => ?_) ?_
      · rw [hJ1.look (by decide : 19 ∈ [13, 19]) hL1]
        simp [opOK, go_sem, k0]
        try exact rfl
      simp only [Act.put, List.setIfInBounds_toArray, List.set_cons_succ, List.set_cons_zero]
      iterate 1
        refine sc_rd rfl (fun _ _ _ h => h.read (by decide)) (fun u1 L1 hL1 hJ1 => ?_) ?_
        · simp [opOK, go_sem, hpn]
          try exact rfl
        simp only [Act.put, List.setIfInBounds_toArray, List.set_cons_succ, List.set_cons_zero]
      refine sc_is rfl (fun u1 L1 hL1 hJ1 hd => ?_) ?_
      · have hq1 : L1 13 = true := hd ⟨13, .phase⟩ (by simp) rfl
        have hp1 : L1 19 = true := hd ⟨19, .phase⟩ (by simp) rfl
        rw [hJ1.before hL1]
        simp [opOK, go_sem, k0, f1]
        exact JCell.store (by simp [hq1, hp1])
      simp only [Act.put]
      iterate 1
        refine sc_rd rfl (fun _ _ _ h => h.read (by decide)) (fun u1 L1 hL1 hJ1 => ?_) ?_
        · simp [opOK, go_sem, hqn]
          try exact rfl
        simp only [Act.put, List.setIfInBounds_toArray, List.set_cons_succ, List.set_cons_zero]
      refine sc_end fun w7 hJ7 => ?_
      have h7 := hJ7.done (by decide)
      simp only [List.drop_succ_cons, List.drop_zero]
      obtain ⟨ho7, hg7⟩ := (ownsN_below HO.out (bDrew wo 1)).stored p (.int .i64 x)
      have k7 : w7.cell? ⟨g, q, none⟩ = some (.int .i64 x) := by rw [h7, World.cell?_setCell_other _ _ _ _ (by intro e; cases e; exact hpq rfl)]; exact k1
      have hg7' : wo.grownBy w7 (some g) := by rw [h7]; exact grownBy_trans (grownBy_below _ (bDrew wo 1)) hg7
      have ho7' : w7.ownsRow base 3 1 (.slice (some ⟨g, 0, none⟩) n c) n ((ints ys).set p (.int .i64 x)) := by rw [h7]; exact ho7
      have f7 := ho7'.frozenAt q
      obtain ⟨ho8, hg8⟩ := ho7'.stored q (.int .i64 y)
      rw [HSW.out] at ho8
      have HO8 := Lib.hid ho8
      have HG8 := Lib.hid (grownBy_trans (grownBy_trans HG.out hg7') hg8)
      clear h7 ho7 hg7 hg7' ho7' ho8 hg8 hJ7 k0 k1 f1
      go_wp2_with fail
      go_roundw
      case rel => exact ⟨i + 1, _, by omega, by go_num, HST, HO8, HG8⟩
      case measure => simp [intOf]; omega
    · obtain rfl : i = m := by omega
      go_wp2
      go_returns
      exact ⟨rfl, ys, HO.out, HG.out, HS.out⟩
set_option maxRecDepth 100000 in
set_option maxHeartbeats 4000000 in
theorem rotate_any (fv : Value) (g c n base : Nat) (xs : List Int) (a m b : Nat) (w : World) (ho : w.ownsRow base 3 1 (.slice (some ⟨g, 0, none⟩) n c) n (ints xs)) (hn : n ≤ 1000) (h1 : a < m) (h2 : m < b) (hbn : b ≤ n) :
    Calls Try.prog 83 #[.slice (some ⟨g, 0, none⟩) n c, .int .i64 a, .int .i64 m, .int .i64 b, fv] w fun e w' =>
      e = .returned (.tuple #[]) ∧ ∃ ys, w'.ownsRow base 3 1 (.slice (some ⟨g, 0, none⟩) n c) n (ints ys) ∧ w.grownBy w' (some g) ∧ RotOk xs a m b ys := by
  have hxl := owns_len ho
  simp only [ints_length] at hxl
  have HO := Lib.hid ho
  have HXL := Lib.hid hxl
  have hw1 : IntKind.i64.wrap ((m : Int) - (a : Int)) = ((m - a : Nat) : Int) := by rw [wrap_small _ (by omega) (by omega)]; omega
  have hw2 : IntKind.i64.wrap ((b : Int) - (m : Int)) = ((b - m : Nat) : Int) := by rw [wrap_small _ (by omega) (by omega)]; omega
  clear ho hxl
  go_enter Try.func83, Try.ntmps83
  go_wp2_with fail
  clear hw1 hw2
  go_loopw [10, 11] (fun iv jv wr => ∃ (i j : Nat) (ys : List Int), iv = .int .i64 i ∧ jv = .int .i64 j ∧ Hid (RotK xs a m b i j ys) ∧ Hid (wr.ownsRow base 3 1 (.slice (some ⟨g, 0, none⟩) n c) n (ints ys)) ∧ Hid (w.grownBy wr (some g))) (fun iv jv _ => (intOf iv).toNat + (intOf jv).toNat)
  case atStart => exact ⟨m - a, b - m, xs, rfl, rfl, Lib.hid (RotK.start h1 h2), HO, Lib.hid ⟨rfl, rfl, rfl, Nat.le_refl _, fun _ _ _ => rfl⟩⟩
  case round =>
    clear HO
    obtain ⟨i, j, ys, rfl, rfl, HS, HO, HG⟩ := hrel
    obtain ⟨wo, rfl⟩ : ∃ wo : World, wo = wr := ⟨_, rfl⟩
    have hr := HS.out.rng
    have hw1 : IntKind.i64.wrap ((m : Int) - (i : Int)) = ((m - i : Nat) : Int) := by rw [wrap_small _ (by omega) (by omega)]; omega
    rcases Nat.lt_trichotomy i j with hij | hij | hij
    · have t1 : (i != j) = true := by rw [bne_iff_ne]; omega
      have t1i : ((i : Int) != (j : Int)) = true := by rw [bne_iff_ne]; omega
      have t2 : decide (j < i) = false := decide_eq_false (by omega)
      have t2i : decide ((j : Int) < (i : Int)) = false := decide_eq_false (by omega)
      have HE2 : Hid ((m : Int) + (j : Int) - (i : Int) = ((m + j - i : Nat) : Int)) := Lib.hid (by omega)
      go_wp2_with fail
      rw [HE2.out]
      refine (swapRange_any fv g c n base ys (m - i) (m + j - i) i wo HO.out hn (by omega) (by omega)).mono ?_
      rintro e w1 ⟨rfl, zs, ho1, hg1, hs1⟩
      have HS1 := Lib.hid (HS.out.right (by have := HXL.out; omega) hij hs1)
      have HO1 := Lib.hid ho1
      have HG1 := Lib.hid (grownBy_trans HG.out hg1)
      have hlt : j - i < j := by omega
      clear ho1 hg1 hs1 t1 t1i t2 t2i hw1
      go_wp2_with fail
      go_roundw
      case rel => exact ⟨i, j - i, zs, rfl, by congr 1; omega, HS1, HO1, HG1⟩
      case measure => simp [intOf]; omega
    · subst hij
      have t1 : (i != i) = false := by simp
      go_wp2_with fail
      refine (swapRange_any fv g c n base ys (m - i) m i wo HO.out hn (by omega) (by omega)).mono ?_
      rintro e w1 ⟨rfl, zs, ho1, hg1, hs1⟩
      have hfin := HS.out.last (by have := HXL.out; omega) hs1
      have hG := grownBy_trans HG.out hg1
      clear hs1 hg1 t1
      go_wp2
      go_returns
      exact ⟨rfl, zs, ho1, hG, hfin⟩
    · have t1 : (i != j) = true := by rw [bne_iff_ne]; omega
      have t1i : ((i : Int) != (j : Int)) = true := by rw [bne_iff_ne]; omega
      have t2 : decide (j < i) = true := decide_eq_true hij
      have t2i : decide ((j : Int) < (i : Int)) = true := decide_eq_true (by omega)
      go_wp2_with fail
      refine (swapRange_any fv g c n base ys (m - i) m j wo HO.out hn (by omega) (by omega)).mono ?_
      rintro e w1 ⟨rfl, zs, ho1, hg1, hs1⟩
      have HS1 := Lib.hid (HS.out.left (by have := HXL.out; omega) hij hs1)
      have HO1 := Lib.hid ho1
      have HG1 := Lib.hid (grownBy_trans HG.out hg1)
      clear ho1 hg1 hs1 t1 t1i t2 t2i hw1
      go_wp2_with fail
      go_roundw
      case rel => exact ⟨i - j, j, zs, by congr 1; omega, rfl, HS1, HO1, HG1⟩
      case measure => simp [intOf]; omega
end Go.Proofs.Ytagfcodpgochjaa

/- A region that draws its order, walked in the text's order (Seq), all of it. -/
namespace Go.Oche
open Go Go.RowKit
theorem wp_region_seqW {P : Program} {id : Nat} {l : List Oper} {a : Act} {w : World} {Q : Exit → Act → World → Prop} (ks : List Kn) (hlk : ks.length = l.length) (hmix : P.follows .mixedOrders = true) (hB : freeB l.toArray l.length a.tmps.size = true) (hR : readsB l.toArray l.length = true)
    (h : SeqAll P l.toArray w ks (fun a H => ∀ w', Below w.heap.size w w' → (∀ j, j < l.length → H j w') → wpList P l.toArray Q [] a w') ks l a (fun _ _ => True) 0) : (Code.region id l.toArray true).wp P Q a w :=
  wp_region_seq l.length ks hlk hmix hB hR (by rw [List.take_length, List.drop_length]; exact h)
end Go.Oche
