/- The texts SeqV, JTwo, JBox2, KJ, KG, in build order. -/
import Derived.Test.YtnhggfnnolfcdaaZat

/- A region whose order is drawn, walked in the text's order, where what holds may speak of the values together. -/
namespace Go.Oche
open Go Go.RowKit
def jShape (J : (Nat → Bool) → (Nat → Value) → World → Prop) (ss : List (Value → Prop)) : (Nat → Bool) → (Nat → Value) → World → Prop :=
  fun L vs w => J L vs w ∧ ∀ j s, ss[j]? = some s → L j = true → s (vs j)
def SeqVCd (P : Program) (ops : Array Oper) (J : (Nat → Bool) → (Nat → Value) → World → Prop) (s : Value → Prop) (o : Oper) (a : Act) (vals : List Value) : Prop :=
  ∀ w L vs, (∀ j u, vals[j]? = some u → vs j = u) → L vals.length = false → J L vs w → (∀ e ∈ o.after.toList, Region.binds .any e = true → L e.on = true) →
    if guardOn ops o a then opOK P o a w (fun v w' => s v ∧ J (setB L vals.length) (updV vs vals.length v) w') else s undef ∧ J (setB L vals.length) (updV vs vals.length undef) w
def SeqVAll (P : Program) (ops : Array Oper) (J : (Nat → Bool) → (Nat → Value) → World → Prop) (K : Act → List Value → Prop) : List (Value → Prop) → List Oper → Act → List Value → Prop
  | _, [], a, vals => K a vals
  | [], _ :: _, _, _ => False
  | s :: ss, o :: l, a, vals => (∃ v, s v) ∧ SeqVCd P ops J s o a vals ∧ ∀ v, s v → SeqVAll P ops J K ss l (a.put o.dst v) (vals ++ [v])
section
variable {P : Program} {ops : Array Oper} {J : (Nat → Bool) → (Nat → Value) → World → Prop} {K : Act → List Value → Prop}
theorem seqV_has : ∀ {ss : List (Value → Prop)} {l : List Oper} {a : Act} {vals : List Value}, SeqVAll P ops J K ss l a vals → (∀ m s, m < 0 → ss[m]? = some s → ∃ s', ss[m]? = some s') → ∀ j, j < l.length → ∃ s v, ss[j]? = some s ∧ s v
  | [], _ :: _, _, _, h, _, _, _ => h.elim
  | _, [], _, _, _, _, j, hj => by simp at hj
  | s :: ss, o :: l, a, vals, h, _, 0, _ => let ⟨v, hv⟩ := h.1; ⟨s, v, rfl, hv⟩
  | s :: ss, o :: l, a, vals, h, _, j + 1, hj => by
    obtain ⟨v, hv⟩ := h.1
    obtain ⟨s', v', e, h'⟩ := seqV_has (h.2.2 v hv) (fun m s hm _ => by omega) j (by simp at hj; omega)
    exact ⟨s', v', by simpa using e, h'⟩
theorem seqV_at : ∀ {ss : List (Value → Prop)} {l : List Oper} {a : Act} {vals : List Value} (vs : Nat → Value), SeqVAll P ops J K ss l a vals → ∀ j, j < l.length → (∀ m s, m < j → ss[m]? = some s → s (vs (vals.length + m))) →
    ∃ s o, ss[j]? = some s ∧ l[j]? = some o ∧ (∃ v, s v) ∧ SeqVCd P ops J s o (putAll vs (l.take j) vals.length a) (vals ++ (List.range j).map fun m => vs (vals.length + m))
  | [], _ :: _, _, _, _, h, _, _, _ => h.elim
  | _, [], _, _, _, _, j, hj, _ => by simp at hj
  | s :: ss, o :: l, a, vals, vs, h, 0, _, _ => ⟨s, o, rfl, rfl, h.1, by simpa [putAll] using h.2.1⟩
  | s :: ss, o :: l, a, vals, vs, h, j + 1, hj, hs => by
    have h0 : s (vs vals.length) := by simpa using hs 0 s (by omega) rfl
    obtain ⟨s', o', e1, e2, e3, e4⟩ := seqV_at vs (h.2.2 _ h0) j (by simp at hj; omega) (fun m s hm hk => by
      have := hs (m + 1) s (by omega) (by simpa using hk)
      rw [List.length_append, List.length_cons, List.length_nil]
      rwa [show vals.length + (m + 1) = vals.length + (0 + 1) + m by omega] at this)
    refine ⟨s', o', by simpa using e1, by simpa using e2, e3, ?_⟩
    have ev : vals ++ [vs vals.length] ++ (List.range j).map (fun m => vs ((vals ++ [vs vals.length]).length + m)) = vals ++ (List.range (j + 1)).map fun m => vs (vals.length + m) := by
      rw [List.append_assoc, List.range_succ_eq_map, List.map_cons, List.map_map]
      simp only [List.length_append, List.length_cons, List.length_nil, List.singleton_append, Nat.add_zero]
      congr 2
      refine List.map_congr_left fun m _ => ?_
      simp only [Function.comp_apply]
      congr 1; omega
    rw [ev] at e4
    rw [List.length_append, List.length_cons, List.length_nil, Nat.zero_add] at e4
    exact e4
theorem seqV_end : ∀ {ss : List (Value → Prop)} {l : List Oper} {a : Act} {vals : List Value} (vs : Nat → Value), SeqVAll P ops J K ss l a vals → (∀ m s, m < l.length → ss[m]? = some s → s (vs (vals.length + m))) →
    K (putAll vs l vals.length a) (vals ++ (List.range l.length).map fun m => vs (vals.length + m))
  | [], [], _, _, _, h, _ => by simpa [putAll, SeqVAll] using h
  | _ :: _, [], _, _, _, h, _ => by simpa [putAll, SeqVAll] using h
  | [], _ :: _, _, _, _, h, _ => h.elim
  | s :: ss, o :: l, a, vals, vs, h, hs => by
    have h0 : s (vs vals.length) := by simpa using hs 0 s (by simp) rfl
    have := seqV_end vs (h.2.2 _ h0) (fun m s hm hk => by
      have := hs (m + 1) s (by simp; omega) (by simpa using hk)
      rw [List.length_append, List.length_cons, List.length_nil]
      rwa [show vals.length + (m + 1) = vals.length + (0 + 1) + m by omega] at this)
    have ev : vals ++ [vs vals.length] ++ (List.range l.length).map (fun m => vs ((vals ++ [vs vals.length]).length + m)) = vals ++ (List.range (l.length + 1)).map fun m => vs (vals.length + m) := by
      rw [List.append_assoc, List.range_succ_eq_map, List.map_cons, List.map_map]
      simp only [List.length_append, List.length_cons, List.length_nil, List.singleton_append, Nat.add_zero]
      congr 2
      refine List.map_congr_left fun m _ => ?_
      simp only [Function.comp_apply]
      congr 1; omega
    rw [ev] at this
    rw [List.length_append, List.length_cons, List.length_nil, Nat.zero_add] at this
    rw [List.length_cons]
    exact this
theorem seqV_free {n : Nat} {a₀ : Act} {ss : List (Value → Prop)} (hB : freeB ops n a₀.tmps.size = true) (hR : readsB ops n = true) (_hlk : ss.length = n) (hc : ∀ L vs vs' w, (∀ j, L j = true → vs j = vs' j) → J L vs w → J L vs' w)
    (h : SeqVAll P ops J K ss (ops.toList.take n) a₀ []) :
    VAll P ops (jShape J ss) a₀ (ops.toList.take n) 0 := by
  simp only [freeB, Bool.and_eq_true, Bool.or_eq_true, beq_iff_eq, decide_eq_true_eq] at hB
  obtain ⟨⟨⟨⟨⟨hn, hback⟩, hdist⟩, hin⟩, -⟩, -⟩ := hB
  have hlen : (ops.toList.take n).length = n := by simp; omega
  have key : ∀ i o, (ops.toList.take n)[i]? = some o → VVC P ops (jShape J ss) a₀ i o := by
    intro i o ho
    have hi : i < n := by have := (List.getElem?_eq_some_iff.1 ho).1; omega
    have hoi : ops[i]? = some o := by rw [List.getElem?_take, if_pos hi] at ho; simpa using ho
    intro a w L vs₀ hL0 hb hp ht
    classical
    obtain ⟨vs, hvL, hvs⟩ : ∃ vs : Nat → Value, (∀ j, L j = true → vs₀ j = vs j) ∧ ∀ j s, j < n → ss[j]? = some s → s (vs j) := by
      refine ⟨fun j => if L j = true then vs₀ j else if hj2 : ∃ v, ∃ s, ss[j]? = some s ∧ s v then Classical.choose hj2 else undef, fun j hj => by simp [hj], fun j s hj hs => ?_⟩
      by_cases hL : L j = true
      · simp only [hL, if_true]; exact hb.2 j s hs hL
      · simp only [hL]
        obtain ⟨s', v', hs', hv'⟩ := seqV_has h (fun m s _ hs => ⟨_, hs⟩) j (by omega)
        have hj2 : ∃ v, ∃ s, ss[j]? = some s ∧ s v := ⟨v', s', hs', hv'⟩
        rw [if_neg (by decide), dif_pos hj2]
        obtain ⟨k2, hk2, hs2⟩ := Classical.choose_spec hj2
        rw [hs] at hk2
        cases hk2
        exact hs2
    obtain ⟨s, o', e1, e2, _, hop⟩ := seqV_at vs h i (by omega) (fun m s hm hs => by simpa using hvs m s (by omega) hs)
    rw [ho] at e2
    cases e2
    have hlt : ∀ e ∈ o.after.toList, Region.binds .any e = true → e.on < i := fun e he hbe => by
      have h1 := List.all_eq_true.1 hback (o, i) (List.mem_iff_getElem?.2 ⟨i, by simp only [List.getElem?_zipIdx, Array.getElem?_toList, hoi, Option.map_some, Nat.zero_add]⟩)
      have h2 := List.all_eq_true.1 h1 e (by simpa using he)
      simpa [hbe] using h2
    have hdep : ∀ e ∈ o.after.toList, Region.binds .any e = true → L e.on = true ∧ ∀ oj d, ops[e.on]? = some oj → oj.dst = some d → a.tmps[d]? = some (vs e.on) := fun e he hbe => by
      obtain ⟨oj, h1, h2, h3⟩ := hp e he hbe
      refine ⟨h2, fun oj' d hoj hd => ?_⟩
      rw [h1] at hoj
      cases hoj
      rw [← hvL _ h2]
      exact h3 d hd
    unfold SeqVCd at hop
    simp only [List.length_nil, Nat.zero_add, List.nil_append, List.length_map, List.length_range] at hop
    have hop := hop w L vs (fun j u hj => by
      rw [List.getElem?_map, Option.map_eq_some_iff] at hj
      obtain ⟨q, hq, rfl⟩ := hj
      have := List.getElem?_eq_some_iff.1 hq
      obtain ⟨hq1, hq2⟩ := this
      simp at hq2
      rw [hq2]) hL0 (hc L vs₀ vs w hvL hb.1) (fun e he hbe => (hdep e he hbe).1)
    have hread : ((match o.op with | .select _ _ => false | _ => true) = true) ∧ ∀ t ∈ o.looksAt ops, (∃ e ∈ o.after.toList, Region.binds .any e = true ∧ (ops[e.on]?).bind (·.dst) = some t) ∨
        (ops.toList.all fun oj => oj.dst != some t || oj.after.toList.any fun e => Region.binds .any e && e.on == i) = true := by
      have h1 := List.all_eq_true.1 hR (o, i) (List.mem_iff_getElem?.2 ⟨i, by rw [List.getElem?_zipIdx, ho]; simp⟩)
      simp only [Bool.and_eq_true] at h1
      refine ⟨h1.1, fun t ht => ?_⟩
      have h2 := List.all_eq_true.1 h1.2 t ht
      simp only [Bool.or_eq_true] at h2
      rcases h2 with h2 | h2
      · left
        obtain ⟨e, he, h3⟩ := List.any_eq_true.1 h2
        simp only [Bool.and_eq_true, beq_iff_eq] at h3
        exact ⟨e, he, h3.1, h3.2⟩
      · exact .inr h2
    have hsel : ∀ cs b, o.op ≠ .select cs b := fun cs b hc => by have := hread.1; rw [hc] at this; cases this
    have hsz : ∀ d oj j, ops[j]? = some oj → j < n → oj.dst = some d → d < a₀.tmps.size := fun d oj j hj hjn hd => by
      have hmem : oj ∈ ops.toList.take n := List.mem_of_getElem? (i := j) (by rw [List.getElem?_take, if_pos hjn]; simpa using hj)
      have := List.all_eq_true.1 hin oj hmem
      rw [hd] at this
      simpa using this
    have hdval : ∀ e ∈ o.after.toList, Region.binds .any e = true → ∀ oj d, ops[e.on]? = some oj → oj.dst = some d → (putAll vs ((ops.toList.take n).take i) 0 a₀).tmps[d]? = some (vs e.on) := by
      intro e he hbe oj t hoj hdj
      have hei := hlt e he hbe
      have hd2 : distB ((ops.toList.take n).take i) = true := by
        have : ∀ (l : List Oper) (m : Nat), distB l = true → distB (l.take m) = true := by
          intro l
          induction l with
          | nil => intro m _; simp [distB]
          | cons x l ih =>
            intro m hx
            cases m with
            | zero => rfl
            | succ m =>
              simp only [distB, Bool.and_eq_true, List.take_succ_cons] at hx ⊢
              refine ⟨?_, ih m hx.2⟩
              cases hxd : x.dst with
              | none => rfl
              | some d =>
                have h1 := hx.1
                rw [hxd] at h1
                exact List.all_eq_true.2 fun y hy => List.all_eq_true.1 h1 y (List.mem_of_mem_take hy)
        exact this _ _ hdist
      have := putAll_some vs t ((ops.toList.take n).take i) 0 a₀ e.on oj hd2 (by rw [List.getElem?_take, if_pos hei, List.getElem?_take, if_pos (by omega)]; simpa using hoj) hdj (hsz t oj e.on hoj (by omega) hdj)
      rw [this, Nat.zero_add]
    have heq : ∀ t ∈ o.looksAt ops, a.tmps[t]? = (putAll vs ((ops.toList.take n).take i) 0 a₀).tmps[t]? := by
      intro t hmem
      rcases hread.2 t hmem with ⟨e, he, hbe, hd⟩ | hall
      · obtain ⟨oj, hoj, hdj⟩ := Option.bind_eq_some_iff.1 hd
        rw [(hdep e he hbe).2 oj t hoj hdj, hdval e he hbe oj t hoj hdj]
      · rw [ht t hall, putAll_none]
        intro oj hoj hd
        obtain ⟨j, hj⟩ := List.getElem?_of_mem hoj
        rw [List.getElem?_take] at hj
        split at hj
        · rename_i hji
          rw [List.getElem?_take, if_pos (by omega)] at hj
          have hj' : ops[j]? = some oj := by simpa using hj
          have h1 := List.all_eq_true.1 hall oj (by simpa using Array.mem_of_getElem? hj')
          simp only [Bool.or_eq_true, List.any_eq_true, Bool.and_eq_true, beq_iff_eq, bne_iff_ne, ne_eq] at h1
          rcases h1 with h1 | ⟨e, he, hbe, hei⟩
          · exact h1 hd
          · have h2 := List.all_eq_true.1 hback (oj, j) (List.mem_iff_getElem?.2 ⟨j, by simp only [List.getElem?_zipIdx, Array.getElem?_toList, hj', Option.map_some, Nat.zero_add]⟩)
            have h3 := List.all_eq_true.1 h2 e (by simpa using he)
            simp only [hbe, Bool.not_true, Bool.false_or, decide_eq_true_eq] at h3
            omega
        · cases hj
    have hev : execOp a.eval o = execOp (putAll vs ((ops.toList.take n).take i) 0 a₀).eval o := execOp_congr o hsel fun x hx => by
      cases x with
      | tmp t =>
        have := heq t (List.mem_append_left _ (List.mem_filterMap.2 ⟨.tmp t, by simpa using hx, rfl⟩))
        simp only [Act.eval, Array.getD_eq_getD_getElem?, this]
      | const v => rfl
      | global g => rfl
      | func f => rfl
    have hgd : Region.wanted o (yielded ops a.tmps) = guardOn ops o (putAll vs ((ops.toList.take n).take i) 0 a₀) := by
      unfold guardOn Region.wanted
      cases hg : o.guard with
      | none => rfl
      | some jb =>
        obtain ⟨j, b⟩ := jb
        have : yielded ops a.tmps j = yielded ops (putAll vs ((ops.toList.take n).take i) 0 a₀).tmps j := by
          unfold yielded
          cases hd : (ops[j]?).bind (·.dst) with
          | none => rfl
          | some t =>
            simp only [Option.bind_some]
            rw [heq t (List.mem_append_right _ (by rw [hg]; simp [hd]))]
        simp only [this]
    rw [hgd]
    have hok : ∀ R, opOK P o (putAll vs ((ops.toList.take n).take i) 0 a₀) w R → opOK P o a w R := fun R hR => by
      unfold opOK at *
      rw [hev]; exact hR
    have hback2 : ∀ v w', s v → J (setB L i) (updV vs i v) w' → jShape J ss (setB L i) (updV vs₀ i v) w' := fun v w' h1 h2 => by
      refine ⟨hc _ _ _ _ (fun j hj => ?_) h2, fun j s' hs' hj => ?_⟩
      · unfold updV
        split
        · rfl
        · rename_i hji
          have : L j = true := by unfold setB at hj; rwa [if_neg hji] at hj
          exact (hvL j this).symm
      · unfold updV
        split
        · rename_i hji
          subst hji
          rw [e1] at hs'; cases hs'; exact h1
        · rename_i hji
          have : L j = true := by unfold setB at hj; rwa [if_neg hji] at hj
          exact hb.2 j s' hs' this
    split at hop
    · rename_i hg
      rw [if_pos hg]
      exact hok _ (opOK_mono hop fun v w' ⟨h1, h2⟩ => hback2 v w' h1 h2)
    · rename_i hg
      rw [if_neg hg]
      exact hback2 _ _ hop.1 hop.2
  have all : ∀ (l : List Oper) (i : Nat), (∀ j o, l[j]? = some o → VVC P ops (jShape J ss) a₀ (i + j) o) → VAll P ops (jShape J ss) a₀ l i := by
    intro l
    induction l with
    | nil => intro i _; trivial
    | cons o l ih =>
      intro i hl
      refine ⟨by simpa using hl 0 o rfl, ih (i + 1) fun j o' hj => ?_⟩
      have := hl (j + 1) o' (by simpa using hj)
      rwa [show i + (j + 1) = i + 1 + j by omega] at this
  exact all _ 0 fun j o ho => by rw [Nat.zero_add]; exact key j o ho
end
def seqVK (J : (Nat → Bool) → (Nat → Value) → World → Prop) (K : Act → World → Prop) (n : Nat) : Act → List Value → Prop := fun a vals => ∀ vs w', (∀ j u, vals[j]? = some u → vs j = u) → J (fun j => decide (j < n)) vs w' → K a w'
section
variable {P : Program} {id : Nat} {l : List Oper} {a : Act} {w : World} {Q : Exit → Act → World → Prop}
theorem wp_region_seqV (n : Nat) (ss : List (Value → Prop)) (J : (Nat → Bool) → (Nat → Value) → World → Prop) (hlk : ss.length = n) (hmix : P.follows .mixedOrders = true) (hB : freeB l.toArray n a.tmps.size = true) (hR : readsB l.toArray n = true)
    (hc : ∀ L vs vs' w, (∀ j, L j = true → vs j = vs' j) → J L vs w → J L vs' w) (h0 : ∀ vs, J (fun _ => false) vs w.drew)
    (h : SeqVAll P l.toArray J (seqVK J (fun a w' => wpList P l.toArray Q (l.drop n) a w') n) ss (l.take n) a []) : (Code.region id l.toArray true).wp P Q a w := by
  have hn : n ≤ l.length := by simp only [freeB, Bool.and_eq_true, decide_eq_true_eq] at hB; simpa using hB.1.1.1.1.1
  have hlen : (l.take n).length = n := by simp; omega
  refine wp_region_v n (jShape J ss) hmix hB (fun vs => ⟨h0 vs, fun j s _ hj => by cases hj⟩) (seqV_free (ops := l.toArray) hB hR hlk hc (by simpa using h)) fun vs w' hJ => ?_
  have := seqV_end vs h (fun m s hm hs => by
    simp only [List.length_nil, Nat.zero_add]
    exact hJ.2 m s hs (decide_eq_true (by omega)))
  simp only [List.length_nil, Nat.zero_add, List.nil_append] at this
  refine this vs w' (fun j u hj => ?_) hJ.1
  rw [List.getElem?_map, Option.map_eq_some_iff] at hj
  obtain ⟨q, hq, rfl⟩ := hj
  obtain ⟨hq1, hq2⟩ := List.getElem?_eq_some_iff.1 hq
  simp at hq2
  rw [hq2]
end
section
variable {P : Program} {ops : Array Oper} {J : (Nat → Bool) → (Nat → Value) → World → Prop} {K : Act → List Value → Prop} {ss : List (Value → Prop)} {o : Oper} {l : List Oper} {a : Act} {vals : List Value}
theorem sv_rd {c : Value} (hg : o.guard = none) (hJ : ∀ w L vs, J L vs w → J (setB L vals.length) (updV vs vals.length c) w)
    (h : ∀ w L vs, (∀ j u, vals[j]? = some u → vs j = u) → L vals.length = false → J L vs w → opOK P o a w (fun v w' => v = c ∧ w' = w))
    (hr : SeqVAll P ops J K ss l (a.put o.dst c) (vals ++ [c])) : SeqVAll P ops J K ((fun v => v = c) :: ss) (o :: l) a vals := by
  refine ⟨⟨c, rfl⟩, fun w L vs hvs hL hj _ => ?_, fun v hv => by subst hv; exact hr⟩
  rw [if_pos (by simp [guardOn, Region.wanted, hg])]
  exact opOK_mono (h w L vs hvs hL hj) fun v w' ⟨h1, h2⟩ => by subst h1 h2; exact ⟨rfl, hJ _ L vs hj⟩
theorem sv_new {s : Value → Prop} (hs : ∃ v, s v) (hg : o.guard = none)
    (h : ∀ w L vs, (∀ j u, vals[j]? = some u → vs j = u) → L vals.length = false → J L vs w → (∀ e ∈ o.after.toList, Region.binds .any e = true → L e.on = true) → opOK P o a w (fun v w' => s v ∧ J (setB L vals.length) (updV vs vals.length v) w'))
    (hr : ∀ v, s v → SeqVAll P ops J K ss l (a.put o.dst v) (vals ++ [v])) : SeqVAll P ops J K (s :: ss) (o :: l) a vals := by
  refine ⟨hs, fun w L vs hvs hL hj hd => ?_, hr⟩
  rw [if_pos (by simp [guardOn, Region.wanted, hg])]
  exact h w L vs hvs hL hj hd
theorem sv_end (h : K a vals) : SeqVAll P ops J K ss [] a vals := by cases ss <;> exact h
end
end Go.Oche

/- A region that draws its order, with an append to each of two rows of one's own. -/
namespace Go.Oche
open Go Go.RowKit
structure JTwoA (w0 : World) (v1 v2 : Value) (i1 i2 : Nat) (L : Nat → Bool) (W : World) : Prop where
  os : W.os = w0.os
  tape : W.tape = w0.tape
  output : W.output = w0.output
  size : w0.heap.size ≤ W.heap.size
  block : ∀ k, k < w0.heap.size → (L i1 = false ∨ v1.ownBlock ≠ some k) → (L i2 = false ∨ v2.ownBlock ≠ some k) → W.heap[k]? = w0.heap[k]?
section
variable {w0 W W' : World} {v1 v2 : Value} {i1 i2 : Nat} {L : Nat → Bool}
theorem JTwoA.start : JTwoA w0 v1 v2 i1 i2 (fun _ => false) w0.drew := ⟨rfl, rfl, rfl, Nat.le_refl _, fun _ _ _ _ => rfl⟩
theorem setB_or {i j : Nat} (h : setB L i j = false) : L j = false := by
  unfold setB at h
  split at h
  · cases h
  · exact h
theorem JTwoA.read (h : JTwoA w0 v1 v2 i1 i2 L W) {i : Nat} : JTwoA w0 v1 v2 i1 i2 (setB L i) W :=
  ⟨h.os, h.tape, h.output, h.size, fun k hk h1 h2 => h.block k hk (h1.imp setB_or id) (h2.imp setB_or id)⟩
theorem JTwoA.grow (h : JTwoA w0 v1 v2 i1 i2 L W) {i : Nat} (hb : Below W.heap.size W W') : JTwoA w0 v1 v2 i1 i2 (setB L i) W' :=
  ⟨hb.os.trans h.os, hb.tape.trans h.tape, hb.output.trans h.output, Nat.le_trans h.size hb.size, fun k hk h1 h2 => (hb.block k (Nat.lt_of_lt_of_le hk h.size)).trans (h.block k hk (h1.imp setB_or id) (h2.imp setB_or id))⟩
theorem JTwoA.app1 (h : JTwoA w0 v1 v2 i1 i2 L W) (hg : W.grownBy W' v1.ownBlock) : JTwoA w0 v1 v2 i1 i2 (setB L i1) W' :=
  ⟨hg.os.trans h.os, hg.tape.trans h.tape, hg.output.trans h.output, Nat.le_trans h.size hg.size, fun k hk h1 h2 => by
    rcases h1 with h1 | h1
    · rw [setB_eq] at h1; cases h1
    · exact (hg.block k (Nat.lt_of_lt_of_le hk h.size) (Ne.symm h1)).trans (h.block k hk (.inr h1) (h2.imp setB_or id))⟩
theorem JTwoA.app2 (h : JTwoA w0 v1 v2 i1 i2 L W) (hg : W.grownBy W' v2.ownBlock) : JTwoA w0 v1 v2 i1 i2 (setB L i2) W' :=
  ⟨hg.os.trans h.os, hg.tape.trans h.tape, hg.output.trans h.output, Nat.le_trans h.size hg.size, fun k hk h1 h2 => by
    rcases h2 with h2 | h2
    · rw [setB_eq] at h2; cases h2
    · exact (hg.block k (Nat.lt_of_lt_of_le hk h.size) (Ne.symm h2)).trans (h.block k hk (h1.imp setB_or id) (.inr h2))⟩
theorem JTwoA.heap (h : JTwoA w0 v1 v2 i1 i2 L W) {b : Nat} {o : Obj} (hb : w0.heap[b]? = some o) (h1 : v1.ownBlock ≠ some b) (h2 : v2.ownBlock ≠ some b) : W.heap[b]? = some o :=
  (h.block b (Array.getElem?_eq_some_iff.1 hb).1 (.inr h1) (.inr h2)).trans hb
end
structure JTwoV (w0 : World) (v1 v2 : Value) (l1 i1 l2 i2 : Nat) (base : Nat) (e1 e2 : TypeId) (n1 n2 : Nat) (xs1 xs2 : List Value) (u1 u2 : Value) (L : Nat → Bool) (vs : Nat → Value) (W : World) : Prop where
  b : JTwoA w0 v1 v2 i1 i2 L W
  lit1 : L l1 = true → ∃ q, vs l1 = .slice (some ⟨q, 0, none⟩) 1 1 ∧ w0.heap.size ≤ q ∧ W.cell? ⟨q, 0, none⟩ = some u1
  lit2 : L l2 = true → ∃ q, vs l2 = .slice (some ⟨q, 0, none⟩) 1 1 ∧ w0.heap.size ≤ q ∧ W.cell? ⟨q, 0, none⟩ = some u2
  row1 : L i1 = true → W.ownsRow base e1 1 (vs i1) (n1 + 1) (xs1 ++ [u1]) ∧ ((vs i1).ownBlock = v1.ownBlock ∨ ∃ g, (vs i1).ownBlock = some g ∧ w0.heap.size ≤ g)
  row2 : L i2 = true → W.ownsRow base e2 1 (vs i2) (n2 + 1) (xs2 ++ [u2]) ∧ ((vs i2).ownBlock = v2.ownBlock ∨ ∃ g, (vs i2).ownBlock = some g ∧ w0.heap.size ≤ g)
  ne : L i1 = true → L i2 = true → (vs i1).ownBlock ≠ (vs i2).ownBlock
  ord : L i2 = true → L i1 = true
section
variable {w0 W W' : World} {v1 v2 : Value} {l1 i1 l2 i2 base : Nat} {e1 e2 : TypeId} {n1 n2 : Nat} {xs1 xs2 : List Value} {u1 u2 : Value} {L : Nat → Bool} {vs vs' : Nat → Value}
theorem JTwoV.congr (hc : ∀ j, L j = true → vs j = vs' j) (h : JTwoV w0 v1 v2 l1 i1 l2 i2 base e1 e2 n1 n2 xs1 xs2 u1 u2 L vs W) : JTwoV w0 v1 v2 l1 i1 l2 i2 base e1 e2 n1 n2 xs1 xs2 u1 u2 L vs' W :=
  ⟨h.b, fun hl => hc _ hl ▸ h.lit1 hl, fun hl => hc _ hl ▸ h.lit2 hl, fun hl => hc _ hl ▸ h.row1 hl, fun hl => hc _ hl ▸ h.row2 hl, fun ha hb => hc _ ha ▸ hc _ hb ▸ h.ne ha hb, h.ord⟩
theorem JTwoV.start : JTwoV w0 v1 v2 l1 i1 l2 i2 base e1 e2 n1 n2 xs1 xs2 u1 u2 (fun _ => false) vs w0.drew :=
  ⟨.start, fun h => (by cases h), fun h => (by cases h), fun h => (by cases h), fun h => (by cases h), fun h => (by cases h), fun h => (by cases h)⟩
theorem updV_ne {i j : Nat} {v : Value} (h : j ≠ i) : updV vs i v j = vs j := by unfold updV; rw [if_neg h]
theorem updV_eq {i : Nat} {v : Value} : updV vs i v i = v := by unfold updV; rw [if_pos rfl]
theorem JTwoV.grow (h : JTwoV w0 v1 v2 l1 i1 l2 i2 base e1 e2 n1 n2 xs1 xs2 u1 u2 L vs W) (hb : Below W.heap.size W W') {i : Nat} {v : Value} (h1 : l1 ≠ i) (h2 : i1 ≠ i) (h3 : l2 ≠ i) (h4 : i2 ≠ i) :
    JTwoV w0 v1 v2 l1 i1 l2 i2 base e1 e2 n1 n2 xs1 xs2 u1 u2 (setB L i) (updV vs i v) W' := by
  refine ⟨h.b.grow hb, ?_, ?_, ?_, ?_, ?_, ?_⟩
  · rw [setB_ne h1, updV_ne h1]; exact fun hl => let ⟨q, a, b, c⟩ := h.lit1 hl; ⟨q, a, b, bAt hb c⟩
  · rw [setB_ne h3, updV_ne h3]; exact fun hl => let ⟨q, a, b, c⟩ := h.lit2 hl; ⟨q, a, b, bAt hb c⟩
  · rw [setB_ne h2, updV_ne h2]; exact fun hl => let ⟨a, b⟩ := h.row1 hl; ⟨ownsN_below a hb, b⟩
  · rw [setB_ne h4, updV_ne h4]; exact fun hl => let ⟨a, b⟩ := h.row2 hl; ⟨ownsN_below a hb, b⟩
  · rw [setB_ne h2, setB_ne h4, updV_ne h2, updV_ne h4]; exact h.ne
  · rw [setB_ne h2, setB_ne h4]; exact h.ord
theorem JTwoV.read (h : JTwoV w0 v1 v2 l1 i1 l2 i2 base e1 e2 n1 n2 xs1 xs2 u1 u2 L vs W) {i : Nat} {v : Value} (h1 : l1 ≠ i) (h2 : i1 ≠ i) (h3 : l2 ≠ i) (h4 : i2 ≠ i) :
    JTwoV w0 v1 v2 l1 i1 l2 i2 base e1 e2 n1 n2 xs1 xs2 u1 u2 (setB L i) (updV vs i v) W := h.grow (Below.refl _ _) h1 h2 h3 h4
theorem litKeep {g : Option Nat} {Z : Nat} {v u : Value} (hg : W.grownBy W' g) (hlt : ∀ q, g = some q → q < Z) (h : ∃ q, v = .slice (some ⟨q, 0, none⟩) 1 1 ∧ Z ≤ q ∧ W.cell? ⟨q, 0, none⟩ = some u) : ∃ q, v = .slice (some ⟨q, 0, none⟩) 1 1 ∧ Z ≤ q ∧ W'.cell? ⟨q, 0, none⟩ = some u := by
  obtain ⟨q, a, b, c⟩ := h
  exact ⟨q, a, b, (World.cell?_of_block (w := W) (hg.block q (World.block_lt_of_cell? W _ c) (fun e => by have := hlt q e.symm; omega))).trans c⟩
theorem JTwoV.app1 (h : JTwoV w0 v1 v2 l1 i1 l2 i2 base e1 e2 n1 n2 xs1 xs2 u1 u2 L vs W) (hL : L i1 = false) (hg : W.grownBy W' v1.ownBlock) (hv1 : ∀ q, v1.ownBlock = some q → q < w0.heap.size) {v : Value} (ho : W'.ownsRow base e1 1 v (n1 + 1) (xs1 ++ [u1]))
    (hat : v.ownBlock = v1.ownBlock ∨ ∃ g, v.ownBlock = some g ∧ w0.heap.size ≤ g) (h1 : l1 ≠ i1) (h3 : l2 ≠ i1) (h4 : i2 ≠ i1) : JTwoV w0 v1 v2 l1 i1 l2 i2 base e1 e2 n1 n2 xs1 xs2 u1 u2 (setB L i1) (updV vs i1 v) W' := by
  have h2L : L i2 = false := by
    cases hq : L i2 with
    | false => rfl
    | true => rw [h.ord hq] at hL; cases hL
  refine ⟨h.b.app1 hg, ?_, ?_, ?_, ?_, ?_, ?_⟩
  · rw [setB_ne h1, updV_ne h1]; exact fun hl => litKeep hg hv1 (h.lit1 hl)
  · rw [setB_ne h3, updV_ne h3]; exact fun hl => litKeep hg hv1 (h.lit2 hl)
  · rw [updV_eq]; exact fun _ => ⟨ho, hat⟩
  · rw [setB_ne h4, h2L]; exact fun hl => by cases hl
  · rw [setB_ne h4, h2L]; exact fun _ hl => by cases hl
  · rw [setB_eq]; exact fun _ => rfl
theorem JTwoV.app2 (h : JTwoV w0 v1 v2 l1 i1 l2 i2 base e1 e2 n1 n2 xs1 xs2 u1 u2 L vs W) (hL1 : L i1 = true) (hg : W.grownBy W' v2.ownBlock) (hv2 : ∀ q, v2.ownBlock = some q → q < w0.heap.size) (hne : v1.ownBlock = none ∨ v1.ownBlock ≠ v2.ownBlock)
    {v : Value} {g : Nat} (ho : W'.ownsRow base e2 1 v (n2 + 1) (xs2 ++ [u2])) (hv : v.ownBlock = some g) (hat : v2.ownBlock = some g ∨ g = W.heap.size) (h1 : l1 ≠ i2) (h2 : i1 ≠ i2) (h3 : l2 ≠ i2) : JTwoV w0 v1 v2 l1 i1 l2 i2 base e1 e2 n1 n2 xs1 xs2 u1 u2 (setB L i2) (updV vs i2 v) W' := by
  obtain ⟨hr1, hr2⟩ := h.row1 hL1
  have key : ∀ q, (vs i1).ownBlock = some q → v2.ownBlock ≠ some q := fun q hq e => by
    rcases hr2 with hr2 | ⟨q', hr2, hr3⟩
    · rw [hr2] at hq
      rcases hne with hn | hn
      · rw [hn] at hq; cases hq
      · exact hn (hq.trans e.symm)
    · rw [hq] at hr2; cases hr2; have := hv2 q e; omega
  refine ⟨h.b.app2 hg, ?_, ?_, ?_, ?_, ?_, ?_⟩
  · rw [setB_ne h1, updV_ne h1]; exact fun hl => litKeep hg hv2 (h.lit1 hl)
  · rw [setB_ne h3, updV_ne h3]; exact fun hl => litKeep hg hv2 (h.lit2 hl)
  · rw [setB_ne h2, updV_ne h2]; exact fun _ => ⟨ownsN_kept hr1 fun q hq => hg.block q (hr1.lt q hq).2 (Ne.symm (key q hq)), hr2⟩
  · rw [updV_eq]; exact fun _ => ⟨ho, hat.elim (fun e => .inl (hv.trans e.symm)) (fun e => .inr ⟨g, hv, by rw [e]; exact h.b.size⟩)⟩
  · rw [updV_eq, updV_ne h2]
    intro _ _ e
    rw [hv] at e
    rcases hat with hat | hat
    · exact key g e hat
    · have := (hr1.lt g e).2; omega
  · rw [setB_ne h2]; exact fun _ => hL1
end
end Go.Oche

/- A region that draws its order, with two new blocks and a store into each, among operations that only read. -/
namespace Go.Oche
open Go Go.RowKit
structure JBox2 (w0 : World) (ia ib sa sb : Nat) (t1 t2 : TypeId) (za A zb B : Array Value) (L : Nat → Bool) (vs : Nat → Value) (W : World) : Prop where
  below : Below w0.heap.size w0 W
  a : L ia = true → ∃ p, vs ia = .pointer (some ⟨p, 0, none⟩) ∧ w0.heap.size ≤ p ∧ W.heap[p]? = some (.cells (if L sa = true then A else za) t1 (0, 0))
  b : L ib = true → ∃ p, vs ib = .pointer (some ⟨p, 0, none⟩) ∧ w0.heap.size ≤ p ∧ W.heap[p]? = some (.cells (if L sb = true then B else zb) t2 (0, 0))
  ne : L ia = true → L ib = true → vs ia ≠ vs ib
  na : L ia = false → L sa = false
  nb : L ib = false → L sb = false
section
variable {w0 W W' : World} {ia ib sa sb : Nat} {t1 t2 : TypeId} {za A zb B : Array Value} {L : Nat → Bool} {vs vs' : Nat → Value}
theorem JBox2.congr (hc : ∀ j, L j = true → vs j = vs' j) (h : JBox2 w0 ia ib sa sb t1 t2 za A zb B L vs W) : JBox2 w0 ia ib sa sb t1 t2 za A zb B L vs' W :=
  ⟨h.below, fun hl => hc _ hl ▸ h.a hl, fun hl => hc _ hl ▸ h.b hl, fun h1 h2 => by rw [← hc _ h1, ← hc _ h2]; exact h.ne h1 h2, h.na, h.nb⟩
theorem JBox2.start : JBox2 w0 ia ib sa sb t1 t2 za A zb B (fun _ => false) vs w0.drew :=
  ⟨⟨rfl, rfl, rfl, Nat.le_refl _, fun _ _ => rfl⟩, fun h => (by cases h), fun h => (by cases h), fun h => (by cases h), fun _ => rfl, fun _ => rfl⟩
theorem JBox2.read (h : JBox2 w0 ia ib sa sb t1 t2 za A zb B L vs W) {i : Nat} {v : Value} (h1 : ia ≠ i) (h2 : ib ≠ i) (h3 : sa ≠ i) (h4 : sb ≠ i) : JBox2 w0 ia ib sa sb t1 t2 za A zb B (setB L i) (updV vs i v) W := by
  refine ⟨h.below, ?_, ?_, ?_, ?_, ?_⟩ <;> simp only [setB_ne h1, setB_ne h2, setB_ne h3, setB_ne h4, updV_ne h1, updV_ne h2]
  · exact h.a
  · exact h.b
  · exact h.ne
  · exact h.na
  · exact h.nb
theorem JBox2.mkA (h : JBox2 w0 ia ib sa sb t1 t2 za A zb B L vs W) (hL : L ia = false) (h2 : ib ≠ ia) (h3 : sa ≠ ia) (h4 : sb ≠ ia) : JBox2 w0 ia ib sa sb t1 t2 za A zb B (setB L ia) (updV vs ia (.pointer (some ⟨W.heap.size, 0, none⟩))) (W.alloc (.cells za t1)) := by
  have hb : Below W.heap.size W (W.alloc (.cells za t1)) := aB _ _
  refine ⟨h.below.trans (hb.mono h.below.size), ?_, ?_, ?_, ?_, ?_⟩
  · intro _
    rw [setB_ne h3, h.na hL, updV_eq]
    exact ⟨_, rfl, h.below.size, World.alloc_heap_new _ _⟩
  · rw [setB_ne h2, setB_ne h4, updV_ne h2]
    intro hl
    obtain ⟨p, e1, e2, e3⟩ := h.b hl
    exact ⟨p, e1, e2, (hb.block p (Array.getElem?_eq_some_iff.1 e3).1).trans e3⟩
  · rw [setB_ne h2, updV_ne h2, updV_eq]
    intro _ hl e
    obtain ⟨p, e1, e2, e3⟩ := h.b hl
    rw [e1] at e
    simp only [Value.pointer.injEq, Option.some.injEq, Addr.mk.injEq] at e
    have := (Array.getElem?_eq_some_iff.1 e3).1
    omega
  · rw [setB_eq]; intro h; cases h
  · rw [setB_ne h2, setB_ne h4]; exact h.nb
theorem JBox2.mkB (h : JBox2 w0 ia ib sa sb t1 t2 za A zb B L vs W) (hL : L ib = false) (h2 : ia ≠ ib) (h3 : sa ≠ ib) (h4 : sb ≠ ib) : JBox2 w0 ia ib sa sb t1 t2 za A zb B (setB L ib) (updV vs ib (.pointer (some ⟨W.heap.size, 0, none⟩))) (W.alloc (.cells zb t2)) := by
  have hb : Below W.heap.size W (W.alloc (.cells zb t2)) := aB _ _
  refine ⟨h.below.trans (hb.mono h.below.size), ?_, ?_, ?_, ?_, ?_⟩
  · rw [setB_ne h2, setB_ne h3, updV_ne h2]
    intro hl
    obtain ⟨p, e1, e2, e3⟩ := h.a hl
    exact ⟨p, e1, e2, (hb.block p (Array.getElem?_eq_some_iff.1 e3).1).trans e3⟩
  · intro _
    rw [setB_ne h4, h.nb hL, updV_eq]
    exact ⟨_, rfl, h.below.size, World.alloc_heap_new _ _⟩
  · rw [setB_ne h2, updV_ne h2, updV_eq]
    intro hl _ e
    obtain ⟨p, e1, e2, e3⟩ := h.a hl
    rw [e1] at e
    simp only [Value.pointer.injEq, Option.some.injEq, Addr.mk.injEq] at e
    have := (Array.getElem?_eq_some_iff.1 e3).1
    omega
  · rw [setB_ne h2, setB_ne h3]; exact h.na
  · rw [setB_eq]; intro h; cases h
theorem JBox2.stA (h : JBox2 w0 ia ib sa sb t1 t2 za A zb B L vs W) (hL : L ia = true) {p : Nat} (hp : vs ia = .pointer (some ⟨p, 0, none⟩)) {v : Value} (h1 : ia ≠ sa) (h2 : ib ≠ sa) (h4 : sb ≠ sa) : JBox2 w0 ia ib sa sb t1 t2 za A zb B (setB L sa) (updV vs sa v) (W.setRow p A) := by
  obtain ⟨p', e1, e2, e3⟩ := h.a hL
  have hpp : p' = p := by rw [hp] at e1; simp at e1; exact e1.symm
  subst hpp
  refine ⟨below_setRow h.below e2 _, ?_, ?_, ?_, ?_, ?_⟩
  · rw [setB_ne h1, setB_eq, updV_ne h1]
    exact fun _ => ⟨p', hp, e2, setRow_heap _ _ _ _ _ _ e3⟩
  · rw [setB_ne h2, setB_ne h4, updV_ne h2]
    intro hl
    obtain ⟨q, f1, f2, f3⟩ := h.b hl
    refine ⟨q, f1, f2, (setRow_other _ _ _ _ fun e => ?_).trans f3⟩
    subst e
    exact h.ne hL hl (by rw [hp, f1])
  · rw [setB_ne h1, setB_ne h2, updV_ne h1, updV_ne h2]; exact h.ne
  · rw [setB_ne h1]; intro hf; rw [hL] at hf; cases hf
  · rw [setB_ne h2, setB_ne h4]; exact h.nb
theorem JBox2.stB (h : JBox2 w0 ia ib sa sb t1 t2 za A zb B L vs W) (hL : L ib = true) {p : Nat} (hp : vs ib = .pointer (some ⟨p, 0, none⟩)) {v : Value} (h1 : ia ≠ sb) (h2 : ib ≠ sb) (h3 : sa ≠ sb) : JBox2 w0 ia ib sa sb t1 t2 za A zb B (setB L sb) (updV vs sb v) (W.setRow p B) := by
  obtain ⟨p', e1, e2, e3⟩ := h.b hL
  have hpp : p' = p := by rw [hp] at e1; simp at e1; exact e1.symm
  subst hpp
  refine ⟨below_setRow h.below e2 _, ?_, ?_, ?_, ?_, ?_⟩
  · rw [setB_ne h1, setB_ne h3, updV_ne h1]
    intro hl
    obtain ⟨q, f1, f2, f3⟩ := h.a hl
    refine ⟨q, f1, f2, (setRow_other _ _ _ _ fun e => ?_).trans f3⟩
    subst e
    exact h.ne hl hL (by rw [hp, f1])
  · rw [setB_ne h2, setB_eq, updV_ne h2]
    exact fun _ => ⟨p', hp, e2, setRow_heap _ _ _ _ _ _ e3⟩
  · rw [setB_ne h1, setB_ne h2, updV_ne h1, updV_ne h2]; exact h.ne
  · rw [setB_ne h1, setB_ne h3]; exact h.na
  · rw [setB_ne h2]; intro hf; rw [hL] at hf; cases hf
end
end Go.Oche

/- Chapter 4, the reference: whether a player is better. -/
namespace Go.Proofs.Ytnhggfnnolfcdaa
open Go.RowKit Go.Oche Go.Proofs
theorem plrRow_oneK (p : Plr) : (plrRow p).toArray.all (·.oneCell') = true := by
  rw [Array.all_eq_true']
  intro x hx
  have hx' : x ∈ plrRow p := by simpa using hx
  unfold plrRow at hx'
  rcases List.mem_cons.1 hx' with rfl | hx'
  · rfl
  rcases List.mem_append.1 hx' with hx' | hx'
  · obtain ⟨z, _, rfl⟩ := List.mem_map.1 hx'; rfl
  · rw [List.mem_singleton] at hx'; subst hx'; rfl
theorem plrRow_sizeK {p : Plr} (h : p.mks.length = 7) : (plrRow p).toArray.size = 9 := by rw [List.size_toArray, plrRow_len h]
set_option maxRecDepth 100000 in
set_option maxHeartbeats 4000000 in
theorem refBetter_any {S : Nat → Prop} (r : Rul) (g : Gam) (na : Option Addr) (nl nc : Nat) (pa : Option Addr) (n pc : Nat) (wa : Option Addr) (wl wc : Nat) (w : World) (hG : GamS S w r g na nl nc pa n pc wa wl wc) (hmk : ∀ p ∈ g.pls, ∀ m ∈ p.mks, 0 ≤ m ∧ m ≤ 3) (a b : Nat) (ha : a < n) (hb : b < n) :
    Calls Try.prog 45 #[.agg #[.int .i64 r.kind, .int .i64 r.players, .int .i64 r.last, .bool r.bull, .bool r.jump, .int .i64 r.rounds, .bool r.cut, .slice na nl nc, .int .i64 r.lives, .bool r.own, .int .i64 g.round, .int .i64 g.player, .int .i64 g.darts, .slice pa n pc, .slice wa wl wc, .bool (hitB g 0), .bool (hitB g 1), .bool (hitB g 2), .bool (hitB g 3), .bool (hitB g 4)], .int .i64 a, .int .i64 b] w fun e w' => e = .returned (.bool (betterR r (plr g a) (plr g b))) ∧ Below w.heap.size w w' := by
  have ha' : a < g.pls.length := by rw [hG.ln]; exact ha
  have hb' : b < g.pls.length := by rw [hG.ln]; exact hb
  obtain ⟨N, hN⟩ : ∃ N, w.heap.size = N := ⟨_, rfl⟩
  obtain ⟨w0, hw0⟩ : ∃ w0, w.alloc (.cells #[.int .i64 r.kind, .int .i64 r.players, .int .i64 r.last, .bool r.bull, .bool r.jump, .int .i64 r.rounds, .bool r.cut, .slice na nl nc, .int .i64 r.lives, .bool r.own, .int .i64 g.round, .int .i64 g.player, .int .i64 g.darts, .slice pa n pc, .slice wa wl wc, .bool (hitB g 0), .bool (hitB g 1), .bool (hitB g 2), .bool (hitB g 3), .bool (hitB g 4)] 41) = w0 := ⟨_, rfl⟩
  have hb0 : Below w.heap.size w w0 := by rw [← hw0]; exact aB _ _
  have k0 : w0.heap[N]? = some (.cells #[.int .i64 r.kind, .int .i64 r.players, .int .i64 r.last, .bool r.bull, .bool r.jump, .int .i64 r.rounds, .bool r.cut, .slice na nl nc, .int .i64 r.lives, .bool r.own, .int .i64 g.round, .int .i64 g.player, .int .i64 g.darts, .slice pa n pc, .slice wa wl wc, .bool (hitB g 0), .bool (hitB g 1), .bool (hitB g 2), .bool (hitB g 3), .bool (hitB g 4)] 41 (0, 0)) := by rw [← hw0, ← hN]; exact World.alloc_heap_new _ _
  have r13 : w0.cell? ⟨N, 13, none⟩ = some (.slice pa n pc) := by rw [cell_of_heap k0]; rfl
  obtain ⟨ab, ao, hpa, hca⟩ := slN_cell9 (hG.pls.below hb0) ha'
  obtain ⟨ab2, ao2, hpa2, hcb⟩ := slN_cell9 (hG.pls.below hb0) hb'
  rw [hpa] at hpa2
  simp only [Option.some.injEq, Addr.mk.injEq, and_true] at hpa2
  obtain ⟨rfl, rfl⟩ := hpa2
  subst hpa
  rw [plr_at ha'] at hca
  rw [plr_at hb'] at hcb
  have h7a : (plr g a).mks.length = 7 := by have := hG.sev _ (List.getElem_mem ha'); rw [plr_at ha'] at this; exact this
  have h7b : (plr g b).mks.length = 7 := by have := hG.sev _ (List.getElem_mem hb'); rw [plr_at hb'] at this; exact this
  have hma := hmk _ (plr_mem ha')
  have hmb := hmk _ (plr_mem hb')
  obtain ⟨X, hX⟩ : ∃ X, plr g a = X := ⟨_, rfl⟩
  obtain ⟨Y, hY⟩ : ∃ Y, plr g b = Y := ⟨_, rfl⟩
  rw [hX] at hca h7a hma ⊢
  rw [hY] at hcb h7b hmb ⊢
  have hsx := refSum_any X h7a hma
  have hsy := refSum_any Y h7b hmb
  obtain ⟨P, hP⟩ : ∃ P, X.pts = P := ⟨_, rfl⟩
  obtain ⟨Q, hQ⟩ : ∃ P, Y.pts = P := ⟨_, rfl⟩
  obtain ⟨SX, hSX⟩ : ∃ P, sumM X = P := ⟨_, rfl⟩
  obtain ⟨SY, hSY⟩ : ∃ P, sumM Y = P := ⟨_, rfl⟩
  rw [hSX] at hsx
  rw [hSY] at hsy
  obtain ⟨res, hres⟩ : ∃ x, betterR r X Y = x := ⟨_, rfl⟩
  rw [hres]
  have HRES : Hid (res = if P ≠ Q then decide (Q < P) != (decide (r.kind = 2) && r.cut) else decide (SY < SX)) := Lib.hid (by rw [← hres, ← hP, ← hQ, ← hSX, ← hSY]; rfl)
  have hai : (a : Int) < (n : Int) := by omega
  have hbi : (b : Int) < (n : Int) := by omega
  obtain ⟨cu, hcu⟩ : ∃ x, r.cut = x := ⟨_, rfl⟩
  obtain ⟨kk, hkk⟩ : ∃ x, (r.kind == 2) = x := ⟨_, rfl⟩
  have HKC : Hid ((decide (r.kind = 2) && r.cut) = (kk && cu)) := Lib.hid (by rw [← hkk, hcu]; rfl)
  have hr0 : w0.cell? ⟨N, 0, none⟩ = some (.int .i64 r.kind) := by rw [cell_of_heap k0]; rfl
  have hr6 : w0.cell? ⟨N, 6, none⟩ = some (.bool cu) := by rw [cell_of_heap k0, ← hcu]; rfl
  have H7 := Lib.hid (And.intro h7a h7b)
  have HCA := Lib.hid hca
  have HCB := Lib.hid hcb
  have HSX := Lib.hid hsx
  have HSY := Lib.hid hsy
  have HPQ := Lib.hid (And.intro hP hQ)
  have HB0 := Lib.hid hb0
  have HN := Lib.hid hN
  have HW0 := Lib.hid hw0
  have hs0 : N < w0.heap.size := (Array.getElem?_eq_some_iff.1 k0).1
  clear hca hcb h7a h7b hma hmb hsx hsy hX hY hP hQ hSX hSY hres hb0 hw0 k0 hG hmk ha' hb' hcu hN
  go_enter Try.func45, Try.ntmps45
  go_upto_region 1 with fail
  rw [HW0.out, HN.out]
  refine wp_region_seqV 16 ((fun v => v = .pointer (some ⟨N, 10, none⟩)) :: (fun v => v = .pointer (some ⟨N, 13, none⟩)) :: (fun v => v = .slice (some ⟨ab, ao, none⟩) n pc) :: (fun v => v = .int .i64 a) :: (fun v => v = .pointer (some ⟨ab, ao + a * 9, none⟩)) :: (fun v => v = plrV X) :: (fun v => v = .pointer (some ⟨N, 10, none⟩)) :: (fun v => v = .pointer (some ⟨N, 13, none⟩)) :: (fun v => v = .slice (some ⟨ab, ao, none⟩) n pc) :: (fun v => v = .int .i64 b) :: (fun v => v = .pointer (some ⟨ab, ao + b * 9, none⟩)) :: (fun v => v = plrV Y) :: (fun v => ∃ q, v = .pointer (some ⟨q, 0, none⟩)) :: (fun v => ∃ q, v = .pointer (some ⟨q, 0, none⟩)) :: (fun _ => True) :: (fun _ => True) :: []) (JBox2 w0 12 13 14 15 62 62 #[.int .i64 0, .int .i64 0, .int .i64 0, .int .i64 0, .int .i64 0, .int .i64 0, .int .i64 0, .int .i64 0, .bool false] (plrRow X).toArray #[.int .i64 0, .int .i64 0, .int .i64 0, .int .i64 0, .int .i64 0, .int .i64 0, .int .i64 0, .int .i64 0, .bool false] (plrRow Y).toArray) rfl mix (by kernel_rfl) (by kernel_rfl) (fun _ _ _ _ hc h => h.congr hc) (fun _ => .start) ?_
  simp only [List.take_succ_cons, List.take_zero]
  iterate 5
    refine sv_rd rfl (fun _ _ _ h => h.read (by simp) (by simp) (by simp) (by simp)) (fun u1 L1 vs1 hvs1 hL1 hJ1 => ?_) ?_
    · have y1 := bAt hJ1.below r13
      simp [opOK, go_sem, y1, hai]
    simp only [Act.put, List.setIfInBounds_toArray, List.set_cons_succ, List.set_cons_zero, List.nil_append, List.cons_append]
  refine sv_rd rfl (fun _ _ _ h => h.read (by simp) (by simp) (by simp) (by simp)) (fun u1 L1 vs1 hvs1 hL1 hJ1 => ?_) ?_
  · exact opOK_load_plr9 (.tmp 13) rfl ab (ao + a * 9) X H7.out.1 (by simp [Act.eval]) (fun j y hy => bAt hJ1.below (HCA.out j y hy)) ⟨rfl, rfl⟩
  simp only [Act.put, List.setIfInBounds_toArray, List.set_cons_succ, List.set_cons_zero, List.nil_append, List.cons_append]
  iterate 5
    refine sv_rd rfl (fun _ _ _ h => h.read (by simp) (by simp) (by simp) (by simp)) (fun u1 L1 vs1 hvs1 hL1 hJ1 => ?_) ?_
    · have y1 := bAt hJ1.below r13
      simp [opOK, go_sem, y1, hbi]
    simp only [Act.put, List.setIfInBounds_toArray, List.set_cons_succ, List.set_cons_zero, List.nil_append, List.cons_append]
  refine sv_rd rfl (fun _ _ _ h => h.read (by simp) (by simp) (by simp) (by simp)) (fun u1 L1 vs1 hvs1 hL1 hJ1 => ?_) ?_
  · exact opOK_load_plr9 (.tmp 19) rfl ab (ao + b * 9) Y H7.out.2 (by simp [Act.eval]) (fun j y hy => bAt hJ1.below (HCB.out j y hy)) ⟨rfl, rfl⟩
  simp only [Act.put, List.setIfInBounds_toArray, List.set_cons_succ, List.set_cons_zero, List.nil_append, List.cons_append]
  refine sv_new ⟨_, 0, rfl⟩ rfl (fun u1 L1 vs1 hvs1 hL1 hJ1 hd => ?_) ?_
  · exact opOK_val (v := .pointer (some ⟨u1.heap.size, 0, none⟩)) (w' := u1.alloc (.cells #[.int .i64 0, .int .i64 0, .int .i64 0, .int .i64 0, .int .i64 0, .int .i64 0, .int .i64 0, .int .i64 0, .bool false] 62)) (by kernel_rfl) ⟨⟨_, rfl⟩, hJ1.mkA hL1 (by decide) (by decide) (by decide)⟩
  rintro _ ⟨xa, rfl⟩
  simp only [Act.put, List.setIfInBounds_toArray, List.set_cons_succ, List.set_cons_zero, List.nil_append, List.cons_append]
  refine sv_new ⟨_, 0, rfl⟩ rfl (fun u1 L1 vs1 hvs1 hL1 hJ1 hd => ?_) ?_
  · exact opOK_val (v := .pointer (some ⟨u1.heap.size, 0, none⟩)) (w' := u1.alloc (.cells #[.int .i64 0, .int .i64 0, .int .i64 0, .int .i64 0, .int .i64 0, .int .i64 0, .int .i64 0, .int .i64 0, .bool false] 62)) (by kernel_rfl) ⟨⟨_, rfl⟩, hJ1.mkB hL1 (by decide) (by decide) (by decide)⟩
  rintro _ ⟨xb, rfl⟩
  simp only [Act.put, List.setIfInBounds_toArray, List.set_cons_succ, List.set_cons_zero, List.nil_append, List.cons_append]
  refine sv_new ⟨undef, trivial⟩ rfl (fun u1 L1 vs1 hvs1 hL1 hJ1 hd => ?_) ?_
  · have hl := hd ⟨12, .data⟩ (by simp) rfl
    obtain ⟨pq, e1, e2, e3⟩ := hJ1.a hl
    rw [hvs1 12 _ rfl] at e1
    cases e1
    exact opOK_store_row 62 (.tmp 7) (.tmp 14) rfl xa (plrRow X).toArray (by simp [Act.eval]) (by simp [Act.eval, plrV]) 62 _ e3 (by rw [plrRow_sizeK H7.out.1]; exact size_plr) (by rw [plrRow_sizeK H7.out.1]; split <;> first | exact plrRow_sizeK H7.out.1 | rfl) (plrRow_oneK X) ⟨trivial, hJ1.stA hl (hvs1 12 _ rfl) (by decide) (by decide) (by decide)⟩
  rintro _ -
  simp only [Act.put, List.nil_append, List.cons_append]
  refine sv_new ⟨undef, trivial⟩ rfl (fun u1 L1 vs1 hvs1 hL1 hJ1 hd => ?_) ?_
  · have hl := hd ⟨13, .data⟩ (by simp) rfl
    obtain ⟨pq, e1, e2, e3⟩ := hJ1.b hl
    rw [hvs1 13 _ rfl] at e1
    cases e1
    exact opOK_store_row 62 (.tmp 8) (.tmp 20) rfl xb (plrRow Y).toArray (by simp [Act.eval]) (by simp [Act.eval, plrV]) 62 _ e3 (by rw [plrRow_sizeK H7.out.2]; exact size_plr) (by rw [plrRow_sizeK H7.out.2]; split <;> first | exact plrRow_sizeK H7.out.2 | rfl) (plrRow_oneK Y) ⟨trivial, hJ1.stB hl (hvs1 13 _ rfl) (by decide) (by decide) (by decide)⟩
  rintro _ -
  simp only [Act.put, List.nil_append, List.cons_append]
  refine sv_end fun vs8 w8 hvs8 hJ8 => ?_
  simp only [List.drop_succ_cons, List.drop_zero]
  obtain ⟨xa', ea, la, kxa⟩ := hJ8.a (by decide)
  obtain ⟨xb', eb, lb, kxb⟩ := hJ8.b (by decide)
  rw [hvs8 12 _ rfl] at ea
  rw [hvs8 13 _ rfl] at eb
  cases ea
  cases eb
  rw [if_pos (by decide)] at kxa kxb
  have KX : Hid (∀ j v, (plrRow X)[j]? = some v → w8.cell? ⟨xa, j, none⟩ = some v) := Lib.hid (fun j v hv => by rw [cell_of_heap kxa, List.getElem?_toArray]; exact hv)
  have KY : Hid (∀ j v, (plrRow Y)[j]? = some v → w8.cell? ⟨xb, j, none⟩ = some v) := Lib.hid (fun j v hv => by rw [cell_of_heap kxb, List.getElem?_toArray]; exact hv)
  have HB8 := Lib.hid (HB0.out.trans (hJ8.below.mono HB0.out.size))
  have x0 : w8.cell? ⟨xa, 0, none⟩ = some (.int .i64 P) := KX.out 0 _ (by rw [← HPQ.out.1]; rfl)
  have y0 : w8.cell? ⟨xb, 0, none⟩ = some (.int .i64 Q) := KY.out 0 _ (by rw [← HPQ.out.2]; rfl)
  have r0 := bAt hJ8.below hr0
  have r6 := bAt hJ8.below hr6
  clear hJ8 hvs8 la lb kxa kxb hr0 hr6 r13 hs0
  by_cases hpq : P = Q
  · have z1 : (P != Q) = false := by rw [hpq]; simp
    obtain ⟨bz, hbz⟩ : ∃ b, decide (SY < SX) = b := ⟨_, rfl⟩
    have HR2 : Hid (res = bz) := Lib.hid (by rw [HRES.out, if_neg (by simpa using hpq), hbz])
    clear hpq
    go_upto_region 4 with fail
    refine wp_region_seq 6 [.is (plrV X), .is (.int .i64 SX), .is (plrV Y), .is (.int .i64 SY), .is (.bool bz), .is (.bool bz)] rfl mix (by kernel_rfl) (by kernel_rfl) ?seqm
    case seqm =>
      simp only [List.take_succ_cons, List.take_zero]
      refine seq_on (by rfl) (fun w3 hb3 hH => ?_) ?_
      · exact opOK_load_plr9 (.tmp 7) rfl xa 0 X H7.out.1 (by simp [Act.eval]) (fun j v hv => bAt hb3 (by rw [Nat.zero_add]; exact KX.out j v hv)) ⟨rfl, Below.refl _ _⟩
      simp only [Act.put, List.setIfInBounds_toArray, List.set_cons_succ, List.set_cons_zero]
      refine seq_on (by rfl) (fun w3 hb3 hH => ?_) ?_
      · refine opOK_call (f := 62) (args := #[plrV X]) (by simp [go_sem]) ?_
        exact (HSX.out w3).mono fun e W' ⟨he, hb⟩ => ⟨_, he, rfl, hb⟩
      simp only [Act.put, List.setIfInBounds_toArray, List.set_cons_succ, List.set_cons_zero]
      refine seq_on (by rfl) (fun w3 hb3 hH => ?_) ?_
      · exact opOK_load_plr9 (.tmp 8) rfl xb 0 Y H7.out.2 (by simp [Act.eval]) (fun j v hv => bAt hb3 (by rw [Nat.zero_add]; exact KY.out j v hv)) ⟨rfl, Below.refl _ _⟩
      simp only [Act.put, List.setIfInBounds_toArray, List.set_cons_succ, List.set_cons_zero]
      refine seq_on (by rfl) (fun w3 hb3 hH => ?_) ?_
      · refine opOK_call (f := 62) (args := #[plrV Y]) (by simp [go_sem]) ?_
        exact (HSY.out w3).mono fun e W' ⟨he, hb⟩ => ⟨_, he, rfl, hb⟩
      simp only [Act.put, List.setIfInBounds_toArray, List.set_cons_succ, List.set_cons_zero]
      iterate 2
        refine seq_on (by rfl) (fun w3 hb3 _ => ?_) ?_
        · simp [opOK, go_sem, hbz, Below.refl]
          try exact rfl
        simp only [Act.put, List.setIfInBounds_toArray, List.set_cons_succ, List.set_cons_zero]
      refine seq_end fun w9 hb9 _ => ?_
      simp only [List.drop_succ_cons, List.drop_zero]
      have HB9 := Lib.hid (bThen HB8.out hb9)
      clear hb9
      go_wp2
      go_ret
      exact ⟨ret_bool HR2.out.symm, HB9.out⟩
  · have z1 : (P != Q) = true := by simpa using hpq
    obtain ⟨bz, hbz⟩ : ∃ b, decide (Q < P) = b := ⟨_, rfl⟩
    have HR2 : Hid (res = (bz != (kk && cu))) := Lib.hid (by rw [HRES.out, if_pos hpq, hbz, HKC.out])
    clear hpq
    cases kk
    all_goals
      cases cu
      all_goals
        cases bz
        all_goals
          go_wp2
          go_ret
          exact ⟨ret_bool (by rw [HR2.out]; rfl), HB8.out⟩
end Go.Proofs.Ytnhggfnnolfcdaa

/- Chapter 4, the reference: whether a player of a game in a block is out, whether it is over. -/
namespace Go.Proofs.Ytnhggfnnolfcdaa
open Go.RowKit Go.Oche Go.Proofs
theorem GamAt.gamS {w : World} {t pb cap : Nat} {r : Rul} {g : Gam} {wv nv : Value} (h : GamAt w t pb r g cap wv nv) :
    ∃ na nc wa wc, nv = .slice na r.nums.length nc ∧ wv = .slice wa g.win.length wc ∧ GamS (fun _ => True) w r g na r.nums.length nc (some ⟨pb, 0, none⟩) g.pls.length cap wa g.win.length wc := by
  have h1 := h.num.mono (S' := fun _ => True) fun _ _ => trivial
  have h2 := h.win.mono (S' := fun _ => True) fun _ _ => trivial
  obtain ⟨na, nc, e1, -, -⟩ := h1.form
  obtain ⟨wa, wc, e2, -, -⟩ := h2.form
  rw [ints_length] at e1 e2
  subst e1 e2
  exact ⟨na, nc, wa, wc, rfl, rfl, (h.pls.slN rfl h.cap).mono fun _ _ => trivial, h.pls.1, h2, h1, rfl, rfl, rfl⟩
theorem refOut_g (t pb cap : Nat) (r : Rul) (g : Gam) (wv nv : Value) (w : World) (h : GamAt w t pb r g cap wv nv) (p : Nat) (hp : p < g.pls.length) (b : Bool) (hb : Hid (isOutG r g p = b)) :
    Calls Try.prog 54 #[.agg (gamA r g nv (.slice (some ⟨pb, 0, none⟩) g.pls.length cap) wv), .int .i64 p] w fun e w' => e = .returned (.bool b) ∧ Below w.heap.size w w' := by
  obtain ⟨na, nc, wa, wc, rfl, rfl, hG⟩ := h.gamS
  rw [← hb.out]
  exact refOut_any r g na _ nc _ _ cap wa _ wc w hG p hp
theorem refOver_g (t pb cap : Nat) (r : Rul) (g : Gam) (wv nv : Value) (w : World) (h : GamAt w t pb r g cap wv nv) :
    Calls Try.prog 23 #[.agg (gamA r g nv (.slice (some ⟨pb, 0, none⟩) g.pls.length cap) wv)] w fun e w' => e = .returned (.bool (!g.win.isEmpty)) ∧ Below w.heap.size w w' := by
  obtain ⟨na, nc, wa, wc, rfl, rfl, hG⟩ := h.gamS
  exact refOver_any r g na _ nc _ _ cap wa _ wc rfl w
end Go.Proofs.Ytnhggfnnolfcdaa
