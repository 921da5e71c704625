/- The texts SeqV, JTwo, QW, in build order. -/
import Derived.Test.YtagfcodpgochjaaZat

/- A region whose order is drawn, walked in the text's order, where what holds may speak of the values together. -/
namespace Go.Oche
open Go Go.RowKit
/-- .. and each value listed has its form. -/
def jShape (J : (Nat → Bool) → (Nat → Value) → World → Prop) (ss : List (Value → Prop)) : (Nat → Bool) → (Nat → Value) → World → Prop :=
  fun L vs w => J L vs w ∧ ∀ j s, ss[j]? = some s → L j = true → s (vs j)
def SeqVCd (P : Program) (ops : Array Oper) (J : (Nat → Bool) → (Nat → Value) → World → Prop) (s : Value → Prop) (o : Oper) (a : Act) (vals : List Value) : Prop :=
  ∀ w L vs, (∀ j u, vals[j]? = some u → vs j = u) → L vals.length = false → J L vs w → (∀ e ∈ o.after.toList, Region.binds .any e = true → L e.on = true) →
    if guardOn ops o a then opOK P o a w (fun v w' => s v ∧ J (setB L vals.length) (updV vs vals.length v) w') else s undef ∧ J (setB L vals.length) (updV vs vals.length undef) w
def SeqVAll (P : Program) (ops : Array Oper) (J : (Nat → Bool) → (Nat → Value) → World → Prop) (K : Act → List Value → Prop) : List (Value → Prop) → List Oper → Act → List Value → Prop
  | _, [], a, vals => K a vals
  | [], _ :: _, _, _ => False
  | s :: ss, o :: l, a, vals => (∃ v, s v) ∧ SeqVCd P ops J s o a vals ∧ ∀ v, s v → SeqVAll P ops J K ss l (a.put o.dst v) (vals ++ [v])
section
variable {P : Program} {ops : Array Oper} {J : (Nat → Bool) → (Nat → Value) → World → Prop} {K : Act → List Value → Prop}
theorem seqV_has : ∀ {ss : List (Value → Prop)} {l : List Oper} {a : Act} {vals : List Value}, SeqVAll P ops J K ss l a vals → (∀ m s, m < 0 → ss[m]? = some s → ∃ s', ss[m]? = some s') → ∀ j, j < l.length → ∃ s v, ss[j]? = some s ∧ s v
  | [], _ :: _, _, _, h, _, _, _ => h.elim
  | _, [], _, _, _, _, j, hj => by simp at hj
  | s :: ss, o :: l, a, vals, h, _, 0, _ => let ⟨v, hv⟩ := h.1; ⟨s, v, rfl, hv⟩
  | s :: ss, o :: l, a, vals, h, _, j + 1, hj => by
    obtain ⟨v, hv⟩ := h.1
    obtain ⟨s', v', e, h'⟩ := seqV_has (h.2.2 v hv) (fun m s hm _ => by omega) j (by simp at hj; omega)
    exact ⟨s', v', by simpa using e, h'⟩
theorem seqV_at : ∀ {ss : List (Value → Prop)} {l : List Oper} {a : Act} {vals : List Value} (vs : Nat → Value), SeqVAll P ops J K ss l a vals → ∀ j, j < l.length → (∀ m s, m < j → ss[m]? = some s → s (vs (vals.length + m))) →
    ∃ s o, ss[j]? = some s ∧ l[j]? = some o ∧ (∃ v, s v) ∧ SeqVCd P ops J s o (putAll vs (l.take j) vals.length a) (vals ++ (List.range j).map fun m => vs (vals.length + m))
  | [], _ :: _, _, _, _, h, _, _, _ => h.elim
  | _, [], _, _, _, _, j, hj, _ => by simp at hj
  | s :: ss, o :: l, a, vals, vs, h, 0, _, _ => ⟨s, o, rfl, rfl, h.1, by simpa [putAll] using h.2.1⟩
  | s :: ss, o :: l, a, vals, vs, h, j + 1, hj, hs => by
    have h0 : s (vs vals.length) := by simpa using hs 0 s (by omega) rfl
    obtain ⟨s', o', e1, e2, e3, e4⟩ := seqV_at vs (h.2.2 _ h0) j (by simp at hj; omega) (fun m s hm hk => by
      have := hs (m + 1) s (by omega) (by simpa using hk)
      rw [List.length_append, List.length_cons, List.length_nil]
      rwa [show vals.length + (m + 1) = vals.length + (0 + 1) + m by omega] at this)
    refine ⟨s', o', by simpa using e1, by simpa using e2, e3, ?_⟩
    have ev : vals ++ [vs vals.length] ++ (List.range j).map (fun m => vs ((vals ++ [vs vals.length]).length + m)) = vals ++ (List.range (j + 1)).map fun m => vs (vals.length + m) := by
      rw [List.append_assoc, List.range_succ_eq_map, List.map_cons, List.map_map]
      simp only [List.length_append, List.length_cons, List.length_nil, List.singleton_append, Nat.add_zero]
      congr 2
      refine List.map_congr_left fun m _ => ?_
      simp only [Function.comp_apply]
      congr 1; omega
    rw [ev] at e4
    rw [List.length_append, List.length_cons, List.length_nil, Nat.zero_add] at e4
    exact e4
theorem seqV_end : ∀ {ss : List (Value → Prop)} {l : List Oper} {a : Act} {vals : List Value} (vs : Nat → Value), SeqVAll P ops J K ss l a vals → (∀ m s, m < l.length → ss[m]? = some s → s (vs (vals.length + m))) →
    K (putAll vs l vals.length a) (vals ++ (List.range l.length).map fun m => vs (vals.length + m))
  | [], [], _, _, _, h, _ => by simpa [putAll, SeqVAll] using h
  | _ :: _, [], _, _, _, h, _ => by simpa [putAll, SeqVAll] using h
  | [], _ :: _, _, _, _, h, _ => h.elim
  | s :: ss, o :: l, a, vals, vs, h, hs => by
    have h0 : s (vs vals.length) := by simpa using hs 0 s (by simp) rfl
    have := seqV_end vs (h.2.2 _ h0) (fun m s hm hk => by
      have := hs (m + 1) s (by simp; omega) (by simpa using hk)
      rw [List.length_append, List.length_cons, List.length_nil]
      rwa [show vals.length + (m + 1) = vals.length + (0 + 1) + m by omega] at this)
    have ev : vals ++ [vs vals.length] ++ (List.range l.length).map (fun m => vs ((vals ++ [vs vals.length]).length + m)) = vals ++ (List.range (l.length + 1)).map fun m => vs (vals.length + m) := by
      rw [List.append_assoc, List.range_succ_eq_map, List.map_cons, List.map_map]
      simp only [List.length_append, List.length_cons, List.length_nil, List.singleton_append, Nat.add_zero]
      congr 2
      refine List.map_congr_left fun m _ => ?_
      simp only [Function.comp_apply]
      congr 1; omega
    rw [ev] at this
    rw [List.length_append, List.length_cons, List.length_nil, Nat.zero_add] at this
    rw [List.length_cons]
    exact this
theorem seqV_free {n : Nat} {a₀ : Act} {ss : List (Value → Prop)} (hB : freeB ops n a₀.tmps.size = true) (hR : readsB ops n = true) (_hlk : ss.length = n) (hc : ∀ L vs vs' w, (∀ j, L j = true → vs j = vs' j) → J L vs w → J L vs' w)
    (h : SeqVAll P ops J K ss (ops.toList.take n) a₀ []) :
    VAll P ops (jShape J ss) a₀ (ops.toList.take n) 0 := by
  simp only [freeB, Bool.and_eq_true, Bool.or_eq_true, beq_iff_eq, decide_eq_true_eq] at hB
  obtain ⟨⟨⟨⟨⟨hn, hback⟩, hdist⟩, hin⟩, -⟩, -⟩ := hB
  have hlen : (ops.toList.take n).length = n := by simp; omega
  have key : ∀ i o, (ops.toList.take n)[i]? = some o → VVC P ops (jShape J ss) a₀ i o := by
    intro i o ho
    have hi : i < n := by have := (List.getElem?_eq_some_iff.1 ho).1; omega
    have hoi : ops[i]? = some o := by rw [List.getElem?_take, if_pos hi] at ho; simpa using ho
    intro a w L vs₀ hL0 hb hp ht
    classical
    obtain ⟨vs, hvL, hvs⟩ : ∃ vs : Nat → Value, (∀ j, L j = true → vs₀ j = vs j) ∧ ∀ j s, j < n → ss[j]? = some s → s (vs j) := by
      refine ⟨fun j => if L j = true then vs₀ j else if hj2 : ∃ v, ∃ s, ss[j]? = some s ∧ s v then Classical.choose hj2 else undef, fun j hj => by simp [hj], fun j s hj hs => ?_⟩
      by_cases hL : L j = true
      · simp only [hL, if_true]; exact hb.2 j s hs hL
      · simp only [hL]
        obtain ⟨s', v', hs', hv'⟩ := seqV_has h (fun m s _ hs => ⟨_, hs⟩) j (by omega)
        have hj2 : ∃ v, ∃ s, ss[j]? = some s ∧ s v := ⟨v', s', hs', hv'⟩
        rw [if_neg (by decide), dif_pos hj2]
        obtain ⟨k2, hk2, hs2⟩ := Classical.choose_spec hj2
        rw [hs] at hk2
        cases hk2
        exact hs2
    obtain ⟨s, o', e1, e2, _, hop⟩ := seqV_at vs h i (by omega) (fun m s hm hs => by simpa using hvs m s (by omega) hs)
    rw [ho] at e2
    cases e2
    have hlt : ∀ e ∈ o.after.toList, Region.binds .any e = true → e.on < i := fun e he hbe => by
      have h1 := List.all_eq_true.1 hback (o, i) (List.mem_iff_getElem?.2 ⟨i, by simp only [List.getElem?_zipIdx, Array.getElem?_toList, hoi, Option.map_some, Nat.zero_add]⟩)
      have h2 := List.all_eq_true.1 h1 e (by simpa using he)
      simpa [hbe] using h2
    have hdep : ∀ e ∈ o.after.toList, Region.binds .any e = true → L e.on = true ∧ ∀ oj d, ops[e.on]? = some oj → oj.dst = some d → a.tmps[d]? = some (vs e.on) := fun e he hbe => by
      obtain ⟨oj, h1, h2, h3⟩ := hp e he hbe
      refine ⟨h2, fun oj' d hoj hd => ?_⟩
      rw [h1] at hoj
      cases hoj
      rw [← hvL _ h2]
      exact h3 d hd
    unfold SeqVCd at hop
    simp only [List.length_nil, Nat.zero_add, List.nil_append, List.length_map, List.length_range] at hop
    have hop := hop w L vs (fun j u hj => by
      rw [List.getElem?_map, Option.map_eq_some_iff] at hj
      obtain ⟨q, hq, rfl⟩ := hj
      have := List.getElem?_eq_some_iff.1 hq
      obtain ⟨hq1, hq2⟩ := this
      simp at hq2
      rw [hq2]) hL0 (hc L vs₀ vs w hvL hb.1) (fun e he hbe => (hdep e he hbe).1)
    have hread : ((match o.op with | .select _ _ => false | _ => true) = true) ∧ ∀ t ∈ o.looksAt ops, (∃ e ∈ o.after.toList, Region.binds .any e = true ∧ (ops[e.on]?).bind (·.dst) = some t) ∨
        (ops.toList.all fun oj => oj.dst != some t || oj.after.toList.any fun e => Region.binds .any e && e.on == i) = true := by
      have h1 := List.all_eq_true.1 hR (o, i) (List.mem_iff_getElem?.2 ⟨i, by rw [List.getElem?_zipIdx, ho]; simp⟩)
      simp only [Bool.and_eq_true] at h1
      refine ⟨h1.1, fun t ht => ?_⟩
      have h2 := List.all_eq_true.1 h1.2 t ht
      simp only [Bool.or_eq_true] at h2
      rcases h2 with h2 | h2
      · left
        obtain ⟨e, he, h3⟩ := List.any_eq_true.1 h2
        simp only [Bool.and_eq_true, beq_iff_eq] at h3
        exact ⟨e, he, h3.1, h3.2⟩
      · exact .inr h2
    have hsel : ∀ cs b, o.op ≠ .select cs b := fun cs b hc => by have := hread.1; rw [hc] at this; cases this
    have hsz : ∀ d oj j, ops[j]? = some oj → j < n → oj.dst = some d → d < a₀.tmps.size := fun d oj j hj hjn hd => by
      have hmem : oj ∈ ops.toList.take n := List.mem_of_getElem? (i := j) (by rw [List.getElem?_take, if_pos hjn]; simpa using hj)
      have := List.all_eq_true.1 hin oj hmem
      rw [hd] at this
      simpa using this
    have hdval : ∀ e ∈ o.after.toList, Region.binds .any e = true → ∀ oj d, ops[e.on]? = some oj → oj.dst = some d → (putAll vs ((ops.toList.take n).take i) 0 a₀).tmps[d]? = some (vs e.on) := by
      intro e he hbe oj t hoj hdj
      have hei := hlt e he hbe
      have hd2 : distB ((ops.toList.take n).take i) = true := by
        have : ∀ (l : List Oper) (m : Nat), distB l = true → distB (l.take m) = true := by
          intro l
          induction l with
          | nil => intro m _; simp [distB]
          | cons x l ih =>
            intro m hx
            cases m with
            | zero => rfl
            | succ m =>
              simp only [distB, Bool.and_eq_true, List.take_succ_cons] at hx ⊢
              refine ⟨?_, ih m hx.2⟩
              cases hxd : x.dst with
              | none => rfl
              | some d =>
                have h1 := hx.1
                rw [hxd] at h1
                exact List.all_eq_true.2 fun y hy => List.all_eq_true.1 h1 y (List.mem_of_mem_take hy)
        exact this _ _ hdist
      have := putAll_some vs t ((ops.toList.take n).take i) 0 a₀ e.on oj hd2 (by rw [List.getElem?_take, if_pos hei, List.getElem?_take, if_pos (by omega)]; simpa using hoj) hdj (hsz t oj e.on hoj (by omega) hdj)
      rw [this, Nat.zero_add]
    have heq : ∀ t ∈ o.looksAt ops, a.tmps[t]? = (putAll vs ((ops.toList.take n).take i) 0 a₀).tmps[t]? := by
      intro t hmem
      rcases hread.2 t hmem with ⟨e, he, hbe, hd⟩ | hall
      · obtain ⟨oj, hoj, hdj⟩ := Option.bind_eq_some_iff.1 hd
        rw [(hdep e he hbe).2 oj t hoj hdj, hdval e he hbe oj t hoj hdj]
      · rw [ht t hall, putAll_none]
        intro oj hoj hd
        obtain ⟨j, hj⟩ := List.getElem?_of_mem hoj
        rw [List.getElem?_take] at hj
        split at hj
        · rename_i hji
          rw [List.getElem?_take, if_pos (by omega)] at hj
          have hj' : ops[j]? = some oj := by simpa using hj
          have h1 := List.all_eq_true.1 hall oj (by simpa using Array.mem_of_getElem? hj')
          simp only [Bool.or_eq_true, List.any_eq_true, Bool.and_eq_true, beq_iff_eq, bne_iff_ne, ne_eq] at h1
          rcases h1 with h1 | ⟨e, he, hbe, hei⟩
          · exact h1 hd
          · have h2 := List.all_eq_true.1 hback (oj, j) (List.mem_iff_getElem?.2 ⟨j, by simp only [List.getElem?_zipIdx, Array.getElem?_toList, hj', Option.map_some, Nat.zero_add]⟩)
            have h3 := List.all_eq_true.1 h2 e (by simpa using he)
            simp only [hbe, Bool.not_true, Bool.false_or, decide_eq_true_eq] at h3
            omega
        · cases hj
    have hev : execOp a.eval o = execOp (putAll vs ((ops.toList.take n).take i) 0 a₀).eval o := execOp_congr o hsel fun x hx => by
      cases x with
      | tmp t =>
        have := heq t (List.mem_append_left _ (List.mem_filterMap.2 ⟨.tmp t, by simpa using hx, rfl⟩))
        simp only [Act.eval, Array.getD_eq_getD_getElem?, this]
      | const v => rfl
      | global g => rfl
      | func f => rfl
    have hgd : Region.wanted o (yielded ops a.tmps) = guardOn ops o (putAll vs ((ops.toList.take n).take i) 0 a₀) := by
      unfold guardOn Region.wanted
      cases hg : o.guard with
      | none => rfl
      | some jb =>
        obtain ⟨j, b⟩ := jb
        have : yielded ops a.tmps j = yielded ops (putAll vs ((ops.toList.take n).take i) 0 a₀).tmps j := by
          unfold yielded
          cases hd : (ops[j]?).bind (·.dst) with
          | none => rfl
          | some t =>
            simp only [Option.bind_some]
            rw [heq t (List.mem_append_right _ (by rw [hg]; simp [hd]))]
        simp only [this]
    rw [hgd]
    have hok : ∀ R, opOK P o (putAll vs ((ops.toList.take n).take i) 0 a₀) w R → opOK P o a w R := fun R hR => by
      unfold opOK at *
      rw [hev]; exact hR
    have hback2 : ∀ v w', s v → J (setB L i) (updV vs i v) w' → jShape J ss (setB L i) (updV vs₀ i v) w' := fun v w' h1 h2 => by
      refine ⟨hc _ _ _ _ (fun j hj => ?_) h2, fun j s' hs' hj => ?_⟩
      · unfold updV
        split
        · rfl
        · rename_i hji
          have : L j = true := by unfold setB at hj; rwa [if_neg hji] at hj
          exact (hvL j this).symm
      · unfold updV
        split
        · rename_i hji
          subst hji
          rw [e1] at hs'; cases hs'; exact h1
        · rename_i hji
          have : L j = true := by unfold setB at hj; rwa [if_neg hji] at hj
          exact hb.2 j s' hs' this
    split at hop
    · rename_i hg
      rw [if_pos hg]
      exact hok _ (opOK_mono hop fun v w' ⟨h1, h2⟩ => hback2 v w' h1 h2)
    · rename_i hg
      rw [if_neg hg]
      exact hback2 _ _ hop.1 hop.2
  have all : ∀ (l : List Oper) (i : Nat), (∀ j o, l[j]? = some o → VVC P ops (jShape J ss) a₀ (i + j) o) → VAll P ops (jShape J ss) a₀ l i := by
    intro l
    induction l with
    | nil => intro i _; trivial
    | cons o l ih =>
      intro i hl
      refine ⟨by simpa using hl 0 o rfl, ih (i + 1) fun j o' hj => ?_⟩
      have := hl (j + 1) o' (by simpa using hj)
      rwa [show i + (j + 1) = i + 1 + j by omega] at this
  exact all _ 0 fun j o ho => by rw [Nat.zero_add]; exact key j o ho
end
/-- What is asked behind the operations of the text's order. -/
def seqVK (J : (Nat → Bool) → (Nat → Value) → World → Prop) (K : Act → World → Prop) (n : Nat) : Act → List Value → Prop := fun a vals => ∀ vs w', (∀ j u, vals[j]? = some u → vs j = u) → J (fun j => decide (j < n)) vs w' → K a w'
section
variable {P : Program} {id : Nat} {l : List Oper} {a : Act} {w : World} {Q : Exit → Act → World → Prop}
theorem wp_region_seqV (n : Nat) (ss : List (Value → Prop)) (J : (Nat → Bool) → (Nat → Value) → World → Prop) (hlk : ss.length = n) (hmix : P.follows .mixedOrders = true) (hB : freeB l.toArray n a.tmps.size = true) (hR : readsB l.toArray n = true)
    (hc : ∀ L vs vs' w, (∀ j, L j = true → vs j = vs' j) → J L vs w → J L vs' w) (h0 : ∀ vs, J (fun _ => false) vs w.drew)
    (h : SeqVAll P l.toArray J (seqVK J (fun a w' => wpList P l.toArray Q (l.drop n) a w') n) ss (l.take n) a []) : (Code.region id l.toArray true).wp P Q a w := by
  have hn : n ≤ l.length := by simp only [freeB, Bool.and_eq_true, decide_eq_true_eq] at hB; simpa using hB.1.1.1.1.1
  have hlen : (l.take n).length = n := by simp; omega
  refine wp_region_v n (jShape J ss) hmix hB (fun vs => ⟨h0 vs, fun j s _ hj => by cases hj⟩) (seqV_free (ops := l.toArray) hB hR hlk hc (by simpa using h)) fun vs w' hJ => ?_
  have := seqV_end vs h (fun m s hm hs => by
    simp only [List.length_nil, Nat.zero_add]
    exact hJ.2 m s hs (decide_eq_true (by omega)))
  simp only [List.length_nil, Nat.zero_add, List.nil_append] at this
  refine this vs w' (fun j u hj => ?_) hJ.1
  rw [List.getElem?_map, Option.map_eq_some_iff] at hj
  obtain ⟨q, hq, rfl⟩ := hj
  obtain ⟨hq1, hq2⟩ := List.getElem?_eq_some_iff.1 hq
  simp at hq2
  rw [hq2]
end
section
variable {P : Program} {ops : Array Oper} {J : (Nat → Bool) → (Nat → Value) → World → Prop} {K : Act → List Value → Prop} {ss : List (Value → Prop)} {o : Oper} {l : List Oper} {a : Act} {vals : List Value}
/-- The next operation's value is known ahead; it only reads. -/
theorem sv_rd {c : Value} (hg : o.guard = none) (hJ : ∀ w L vs, J L vs w → J (setB L vals.length) (updV vs vals.length c) w)
    (h : ∀ w L vs, (∀ j u, vals[j]? = some u → vs j = u) → L vals.length = false → J L vs w → opOK P o a w (fun v w' => v = c ∧ w' = w))
    (hr : SeqVAll P ops J K ss l (a.put o.dst c) (vals ++ [c])) : SeqVAll P ops J K ((fun v => v = c) :: ss) (o :: l) a vals := by
  refine ⟨⟨c, rfl⟩, fun w L vs hvs hL hj _ => ?_, fun v hv => by subst hv; exact hr⟩
  rw [if_pos (by simp [guardOn, Region.wanted, hg])]
  exact opOK_mono (h w L vs hvs hL hj) fun v w' ⟨h1, h2⟩ => by subst h1 h2; exact ⟨rfl, hJ _ L vs hj⟩
/-- Its value is new. -/
theorem sv_new {s : Value → Prop} (hs : ∃ v, s v) (hg : o.guard = none)
    (h : ∀ w L vs, (∀ j u, vals[j]? = some u → vs j = u) → L vals.length = false → J L vs w → (∀ e ∈ o.after.toList, Region.binds .any e = true → L e.on = true) → opOK P o a w (fun v w' => s v ∧ J (setB L vals.length) (updV vs vals.length v) w'))
    (hr : ∀ v, s v → SeqVAll P ops J K ss l (a.put o.dst v) (vals ++ [v])) : SeqVAll P ops J K (s :: ss) (o :: l) a vals := by
  refine ⟨hs, fun w L vs hvs hL hj hd => ?_, hr⟩
  rw [if_pos (by simp [guardOn, Region.wanted, hg])]
  exact h w L vs hvs hL hj hd
theorem sv_end (h : K a vals) : SeqVAll P ops J K ss [] a vals := by cases ss <;> exact h
end
end Go.Oche

/- A region that draws its order, with an append to each of two rows of one's own. -/
namespace Go.Oche
open Go Go.RowKit
/-- Operations i1 and i2 append to v1 and v2. -/
structure JTwoA (w0 : World) (v1 v2 : Value) (i1 i2 : Nat) (L : Nat → Bool) (W : World) : Prop where
  os : W.os = w0.os
  tape : W.tape = w0.tape
  output : W.output = w0.output
  size : w0.heap.size ≤ W.heap.size
  block : ∀ k, k < w0.heap.size → (L i1 = false ∨ v1.ownBlock ≠ some k) → (L i2 = false ∨ v2.ownBlock ≠ some k) → W.heap[k]? = w0.heap[k]?
section
variable {w0 W W' : World} {v1 v2 : Value} {i1 i2 : Nat} {L : Nat → Bool}
theorem JTwoA.start : JTwoA w0 v1 v2 i1 i2 (fun _ => false) w0.drew := ⟨rfl, rfl, rfl, Nat.le_refl _, fun _ _ _ _ => rfl⟩
theorem setB_or {i j : Nat} (h : setB L i j = false) : L j = false := by
  unfold setB at h
  split at h
  · cases h
  · exact h
theorem JTwoA.read (h : JTwoA w0 v1 v2 i1 i2 L W) {i : Nat} : JTwoA w0 v1 v2 i1 i2 (setB L i) W :=
  ⟨h.os, h.tape, h.output, h.size, fun k hk h1 h2 => h.block k hk (h1.imp setB_or id) (h2.imp setB_or id)⟩
theorem JTwoA.grow (h : JTwoA w0 v1 v2 i1 i2 L W) {i : Nat} (hb : Below W.heap.size W W') : JTwoA w0 v1 v2 i1 i2 (setB L i) W' :=
  ⟨hb.os.trans h.os, hb.tape.trans h.tape, hb.output.trans h.output, Nat.le_trans h.size hb.size, fun k hk h1 h2 => (hb.block k (Nat.lt_of_lt_of_le hk h.size)).trans (h.block k hk (h1.imp setB_or id) (h2.imp setB_or id))⟩
theorem JTwoA.app1 (h : JTwoA w0 v1 v2 i1 i2 L W) (hg : W.grownBy W' v1.ownBlock) : JTwoA w0 v1 v2 i1 i2 (setB L i1) W' :=
  ⟨hg.os.trans h.os, hg.tape.trans h.tape, hg.output.trans h.output, Nat.le_trans h.size hg.size, fun k hk h1 h2 => by
    rcases h1 with h1 | h1
    · rw [setB_eq] at h1; cases h1
    · exact (hg.block k (Nat.lt_of_lt_of_le hk h.size) (Ne.symm h1)).trans (h.block k hk (.inr h1) (h2.imp setB_or id))⟩
theorem JTwoA.app2 (h : JTwoA w0 v1 v2 i1 i2 L W) (hg : W.grownBy W' v2.ownBlock) : JTwoA w0 v1 v2 i1 i2 (setB L i2) W' :=
  ⟨hg.os.trans h.os, hg.tape.trans h.tape, hg.output.trans h.output, Nat.le_trans h.size hg.size, fun k hk h1 h2 => by
    rcases h2 with h2 | h2
    · rw [setB_eq] at h2; cases h2
    · exact (hg.block k (Nat.lt_of_lt_of_le hk h.size) (Ne.symm h2)).trans (h.block k hk (h1.imp setB_or id) (.inr h2))⟩
theorem JTwoA.heap (h : JTwoA w0 v1 v2 i1 i2 L W) {b : Nat} {o : Obj} (hb : w0.heap[b]? = some o) (h1 : v1.ownBlock ≠ some b) (h2 : v2.ownBlock ≠ some b) : W.heap[b]? = some o :=
  (h.block b (Array.getElem?_eq_some_iff.1 hb).1 (.inr h1) (.inr h2)).trans hb
theorem JTwoA.own1 (h : JTwoA w0 v1 v2 i1 i2 L W) {base n k : Nat} {e : TypeId} {xs : List Value} (ho : w0.ownsRow base e k v1 n xs) (hL : L i1 = false) (hne : v1.ownBlock = none ∨ v1.ownBlock ≠ v2.ownBlock) : W.ownsRow base e k v1 n xs :=
  ownsN_kept ho fun g hg => h.block g (ho.lt g hg).2 (.inl hL) (.inr fun e => by
    rcases hne with hn | hn
    · rw [hg] at hn; cases hn
    · exact hn (hg.trans e.symm))
theorem JTwoA.own2 (h : JTwoA w0 v1 v2 i1 i2 L W) {base n k : Nat} {e : TypeId} {xs : List Value} (ho : w0.ownsRow base e k v2 n xs) (hL : L i2 = false) (hne : v1.ownBlock = none ∨ v1.ownBlock ≠ v2.ownBlock) : W.ownsRow base e k v2 n xs :=
  ownsN_kept ho fun g hg => h.block g (ho.lt g hg).2 (.inr fun e => by
    rcases hne with hn | hn
    · rw [hn] at e; cases e
    · exact hn (e.trans hg.symm)) (.inl hL)
end
/-- Operations l1 and l2 make literals of one element, i1 and i2 append them to v1 and v2. -/
structure JTwoV (w0 : World) (v1 v2 : Value) (l1 i1 l2 i2 : Nat) (base : Nat) (e1 e2 : TypeId) (n1 n2 : Nat) (xs1 xs2 : List Value) (u1 u2 : Value) (L : Nat → Bool) (vs : Nat → Value) (W : World) : Prop where
  b : JTwoA w0 v1 v2 i1 i2 L W
  lit1 : L l1 = true → ∃ q, vs l1 = .slice (some ⟨q, 0, none⟩) 1 1 ∧ w0.heap.size ≤ q ∧ W.cell? ⟨q, 0, none⟩ = some u1
  lit2 : L l2 = true → ∃ q, vs l2 = .slice (some ⟨q, 0, none⟩) 1 1 ∧ w0.heap.size ≤ q ∧ W.cell? ⟨q, 0, none⟩ = some u2
  row1 : L i1 = true → W.ownsRow base e1 1 (vs i1) (n1 + 1) (xs1 ++ [u1]) ∧ ((vs i1).ownBlock = v1.ownBlock ∨ ∃ g, (vs i1).ownBlock = some g ∧ w0.heap.size ≤ g)
  row2 : L i2 = true → W.ownsRow base e2 1 (vs i2) (n2 + 1) (xs2 ++ [u2]) ∧ ((vs i2).ownBlock = v2.ownBlock ∨ ∃ g, (vs i2).ownBlock = some g ∧ w0.heap.size ≤ g)
  ne : L i1 = true → L i2 = true → (vs i1).ownBlock ≠ (vs i2).ownBlock
  ord : L i2 = true → L i1 = true
section
variable {w0 W W' : World} {v1 v2 : Value} {l1 i1 l2 i2 base : Nat} {e1 e2 : TypeId} {n1 n2 : Nat} {xs1 xs2 : List Value} {u1 u2 : Value} {L : Nat → Bool} {vs vs' : Nat → Value}
theorem JTwoV.congr (hc : ∀ j, L j = true → vs j = vs' j) (h : JTwoV w0 v1 v2 l1 i1 l2 i2 base e1 e2 n1 n2 xs1 xs2 u1 u2 L vs W) : JTwoV w0 v1 v2 l1 i1 l2 i2 base e1 e2 n1 n2 xs1 xs2 u1 u2 L vs' W :=
  ⟨h.b, fun hl => hc _ hl ▸ h.lit1 hl, fun hl => hc _ hl ▸ h.lit2 hl, fun hl => hc _ hl ▸ h.row1 hl, fun hl => hc _ hl ▸ h.row2 hl, fun ha hb => hc _ ha ▸ hc _ hb ▸ h.ne ha hb, h.ord⟩
theorem JTwoV.start : JTwoV w0 v1 v2 l1 i1 l2 i2 base e1 e2 n1 n2 xs1 xs2 u1 u2 (fun _ => false) vs w0.drew :=
  ⟨.start, fun h => (by cases h), fun h => (by cases h), fun h => (by cases h), fun h => (by cases h), fun h => (by cases h), fun h => (by cases h)⟩
theorem updV_ne {i j : Nat} {v : Value} (h : j ≠ i) : updV vs i v j = vs j := by unfold updV; rw [if_neg h]
theorem updV_eq {i : Nat} {v : Value} : updV vs i v i = v := by unfold updV; rw [if_pos rfl]
theorem JTwoV.grow (h : JTwoV w0 v1 v2 l1 i1 l2 i2 base e1 e2 n1 n2 xs1 xs2 u1 u2 L vs W) (hb : Below W.heap.size W W') {i : Nat} {v : Value} (h1 : l1 ≠ i) (h2 : i1 ≠ i) (h3 : l2 ≠ i) (h4 : i2 ≠ i) :
    JTwoV w0 v1 v2 l1 i1 l2 i2 base e1 e2 n1 n2 xs1 xs2 u1 u2 (setB L i) (updV vs i v) W' := by
  refine ⟨h.b.grow hb, ?_, ?_, ?_, ?_, ?_, ?_⟩
  · rw [setB_ne h1, updV_ne h1]; exact fun hl => let ⟨q, a, b, c⟩ := h.lit1 hl; ⟨q, a, b, bAt hb c⟩
  · rw [setB_ne h3, updV_ne h3]; exact fun hl => let ⟨q, a, b, c⟩ := h.lit2 hl; ⟨q, a, b, bAt hb c⟩
  · rw [setB_ne h2, updV_ne h2]; exact fun hl => let ⟨a, b⟩ := h.row1 hl; ⟨ownsN_below a hb, b⟩
  · rw [setB_ne h4, updV_ne h4]; exact fun hl => let ⟨a, b⟩ := h.row2 hl; ⟨ownsN_below a hb, b⟩
  · rw [setB_ne h2, setB_ne h4, updV_ne h2, updV_ne h4]; exact h.ne
  · rw [setB_ne h2, setB_ne h4]; exact h.ord
theorem JTwoV.read (h : JTwoV w0 v1 v2 l1 i1 l2 i2 base e1 e2 n1 n2 xs1 xs2 u1 u2 L vs W) {i : Nat} {v : Value} (h1 : l1 ≠ i) (h2 : i1 ≠ i) (h3 : l2 ≠ i) (h4 : i2 ≠ i) :
    JTwoV w0 v1 v2 l1 i1 l2 i2 base e1 e2 n1 n2 xs1 xs2 u1 u2 (setB L i) (updV vs i v) W := h.grow (Below.refl _ _) h1 h2 h3 h4
theorem JTwoV.swapLit (h : JTwoV w0 v1 v2 l1 i1 l2 i2 base e1 e2 n1 n2 xs1 xs2 u1 u2 L vs W) (hb : Below W.heap.size W W') {q : Nat} (hq : w0.heap.size ≤ q) (hc : W'.cell? ⟨q, 0, none⟩ = some u1) (h2 : i1 ≠ l1) (h3 : l2 ≠ l1) (h4 : i2 ≠ l1) :
    JTwoV w0 v1 v2 l1 i1 l2 i2 base e1 e2 n1 n2 xs1 xs2 u1 u2 (setB L l1) (updV vs l1 (.slice (some ⟨q, 0, none⟩) 1 1)) W' := by
  refine ⟨h.b.grow hb, ?_, ?_, ?_, ?_, ?_, ?_⟩
  · rw [updV_eq]; exact fun _ => ⟨q, rfl, hq, hc⟩
  · rw [setB_ne h3, updV_ne h3]; exact fun hl => let ⟨q, a, b, c⟩ := h.lit2 hl; ⟨q, a, b, bAt hb c⟩
  · rw [setB_ne h2, updV_ne h2]; exact fun hl => let ⟨a, b⟩ := h.row1 hl; ⟨ownsN_below a hb, b⟩
  · rw [setB_ne h4, updV_ne h4]; exact fun hl => let ⟨a, b⟩ := h.row2 hl; ⟨ownsN_below a hb, b⟩
  · rw [setB_ne h2, setB_ne h4, updV_ne h2, updV_ne h4]; exact h.ne
  · rw [setB_ne h2, setB_ne h4]; exact h.ord
theorem JTwoV.mkLit2 (h : JTwoV w0 v1 v2 l1 i1 l2 i2 base e1 e2 n1 n2 xs1 xs2 u1 u2 L vs W) (hb : Below W.heap.size W W') {q : Nat} (hq : w0.heap.size ≤ q) (hc : W'.cell? ⟨q, 0, none⟩ = some u2) (h1 : l1 ≠ l2) (h2 : i1 ≠ l2) (h4 : i2 ≠ l2) :
    JTwoV w0 v1 v2 l1 i1 l2 i2 base e1 e2 n1 n2 xs1 xs2 u1 u2 (setB L l2) (updV vs l2 (.slice (some ⟨q, 0, none⟩) 1 1)) W' := by
  refine ⟨h.b.grow hb, ?_, ?_, ?_, ?_, ?_, ?_⟩
  · rw [setB_ne h1, updV_ne h1]; exact fun hl => let ⟨q, a, b, c⟩ := h.lit1 hl; ⟨q, a, b, bAt hb c⟩
  · rw [updV_eq]; exact fun _ => ⟨q, rfl, hq, hc⟩
  · rw [setB_ne h2, updV_ne h2]; exact fun hl => let ⟨a, b⟩ := h.row1 hl; ⟨ownsN_below a hb, b⟩
  · rw [setB_ne h4, updV_ne h4]; exact fun hl => let ⟨a, b⟩ := h.row2 hl; ⟨ownsN_below a hb, b⟩
  · rw [setB_ne h2, setB_ne h4, updV_ne h2, updV_ne h4]; exact h.ne
  · rw [setB_ne h2, setB_ne h4]; exact h.ord
theorem litKeep {g : Option Nat} {Z : Nat} {v u : Value} (hg : W.grownBy W' g) (hlt : ∀ q, g = some q → q < Z) (h : ∃ q, v = .slice (some ⟨q, 0, none⟩) 1 1 ∧ Z ≤ q ∧ W.cell? ⟨q, 0, none⟩ = some u) : ∃ q, v = .slice (some ⟨q, 0, none⟩) 1 1 ∧ Z ≤ q ∧ W'.cell? ⟨q, 0, none⟩ = some u := by
  obtain ⟨q, a, b, c⟩ := h
  exact ⟨q, a, b, (World.cell?_of_block (w := W) (hg.block q (World.block_lt_of_cell? W _ c) (fun e => by have := hlt q e.symm; omega))).trans c⟩
/-- The first append. -/
theorem JTwoV.app1 (h : JTwoV w0 v1 v2 l1 i1 l2 i2 base e1 e2 n1 n2 xs1 xs2 u1 u2 L vs W) (hL : L i1 = false) (hg : W.grownBy W' v1.ownBlock) (hv1 : ∀ q, v1.ownBlock = some q → q < w0.heap.size) {v : Value} (ho : W'.ownsRow base e1 1 v (n1 + 1) (xs1 ++ [u1]))
    (hat : v.ownBlock = v1.ownBlock ∨ ∃ g, v.ownBlock = some g ∧ w0.heap.size ≤ g) (h1 : l1 ≠ i1) (h3 : l2 ≠ i1) (h4 : i2 ≠ i1) : JTwoV w0 v1 v2 l1 i1 l2 i2 base e1 e2 n1 n2 xs1 xs2 u1 u2 (setB L i1) (updV vs i1 v) W' := by
  have h2L : L i2 = false := by
    cases hq : L i2 with
    | false => rfl
    | true => rw [h.ord hq] at hL; cases hL
  refine ⟨h.b.app1 hg, ?_, ?_, ?_, ?_, ?_, ?_⟩
  · rw [setB_ne h1, updV_ne h1]; exact fun hl => litKeep hg hv1 (h.lit1 hl)
  · rw [setB_ne h3, updV_ne h3]; exact fun hl => litKeep hg hv1 (h.lit2 hl)
  · rw [updV_eq]; exact fun _ => ⟨ho, hat⟩
  · rw [setB_ne h4, h2L]; exact fun hl => by cases hl
  · rw [setB_ne h4, h2L]; exact fun _ hl => by cases hl
  · rw [setB_eq]; exact fun _ => rfl
/-- The second one. -/
theorem JTwoV.app2 (h : JTwoV w0 v1 v2 l1 i1 l2 i2 base e1 e2 n1 n2 xs1 xs2 u1 u2 L vs W) (hL1 : L i1 = true) (hg : W.grownBy W' v2.ownBlock) (hv2 : ∀ q, v2.ownBlock = some q → q < w0.heap.size) (hne : v1.ownBlock = none ∨ v1.ownBlock ≠ v2.ownBlock)
    {v : Value} {g : Nat} (ho : W'.ownsRow base e2 1 v (n2 + 1) (xs2 ++ [u2])) (hv : v.ownBlock = some g) (hat : v2.ownBlock = some g ∨ g = W.heap.size) (h1 : l1 ≠ i2) (h2 : i1 ≠ i2) (h3 : l2 ≠ i2) : JTwoV w0 v1 v2 l1 i1 l2 i2 base e1 e2 n1 n2 xs1 xs2 u1 u2 (setB L i2) (updV vs i2 v) W' := by
  obtain ⟨hr1, hr2⟩ := h.row1 hL1
  have key : ∀ q, (vs i1).ownBlock = some q → v2.ownBlock ≠ some q := fun q hq e => by
    rcases hr2 with hr2 | ⟨q', hr2, hr3⟩
    · rw [hr2] at hq
      rcases hne with hn | hn
      · rw [hn] at hq; cases hq
      · exact hn (hq.trans e.symm)
    · rw [hq] at hr2; cases hr2; have := hv2 q e; omega
  refine ⟨h.b.app2 hg, ?_, ?_, ?_, ?_, ?_, ?_⟩
  · rw [setB_ne h1, updV_ne h1]; exact fun hl => litKeep hg hv2 (h.lit1 hl)
  · rw [setB_ne h3, updV_ne h3]; exact fun hl => litKeep hg hv2 (h.lit2 hl)
  · rw [setB_ne h2, updV_ne h2]; exact fun _ => ⟨ownsN_kept hr1 fun q hq => hg.block q (hr1.lt q hq).2 (Ne.symm (key q hq)), hr2⟩
  · rw [updV_eq]; exact fun _ => ⟨ho, hat.elim (fun e => .inl (hv.trans e.symm)) (fun e => .inr ⟨g, hv, by rw [e]; exact h.b.size⟩)⟩
  · rw [updV_eq, updV_ne h2]
    intro _ _ e
    rw [hv] at e
    rcases hat with hat | hat
    · exact key g e hat
    · have := (hr1.lt g e).2; omega
  · rw [setB_ne h2]; exact fun _ => hL1
end
end Go.Oche

/- Chapter 12, PurseWhole: the parts of an amount, in plain Lean. -/
namespace Go.Proofs.Ytagfcodpgochjaa
open Go.RowKit Go.Oche Go.Proofs

theorem upTo_nodup (n : Nat) : (upTo n).Nodup := by
  unfold upTo
  exact List.pairwise_map.2 (List.Pairwise.imp (fun h => by simp; omega) List.pairwise_lt_range)
theorem sorted_ex (r : Int → Int) (n : Nat) : ∃ ys, AllOk r (upTo n) ys := by
  have hp := List.pairwise_mergeSort (le := fun a b : Int => decide (r b < r a) || (decide (r a = r b) && decide (a ≤ b))) (by intro a b c; simp; omega) (by intro a b; simp; omega) (upTo n)
  have hm := List.mergeSort_perm (upTo n) (fun a b : Int => decide (r b < r a) || (decide (r a = r b) && decide (a ≤ b)))
  generalize (upTo n).mergeSort _ = ys at *
  have hn : ys.Nodup := hm.nodup_iff.2 (upTo_nodup n)
  refine ⟨ys, ⟨hm.length_eq, fun p q hpq hq => ?_, hm⟩⟩
  have hq' : q < ys.length := by rw [hm.length_eq]; exact hq
  rw [at0_eq hq', at0_eq (by omega)]
  have h1 := List.pairwise_iff_getElem.1 hp p q (by omega) hq' hpq
  have h2 := List.pairwise_iff_getElem.1 hn p q (by omega) hq' hpq
  simp only [Bool.or_eq_true, Bool.and_eq_true, decide_eq_true_eq] at h1
  unfold befo
  omega
theorem partsK_sum {amount : Int} {ws ys : List Int} (h : AllOk (restOf amount ws.sum ws) (upTo ws.length) ys) : ∀ k, k ≤ ws.length → (partsK amount ws.sum ws ys k).sum = (bases amount ws.sum ws ws.length).sum + (k : Int)
  | 0, _ => by rw [partsK_zero]; simp
  | k + 1, hk => by
    have ih := partsK_sum h k (by omega)
    have hr := h.rng (k := k) (by omega)
    rw [← partsK_succ h (y := (at0 ys k).toNat) (by omega) (by omega), sum_set _ _ (by simp; omega), ih, ← at0]
    omega
theorem shareL_sum {amount : Int} {ws : List Int} (hs : 0 < ws.sum) (hl : 0 < ws.length) : (shareL amount ws).sum = amount := by
  obtain ⟨ys, hy⟩ := sorted_ex (restOf amount ws.sum ws) ws.length
  have hb := leftOf_bd (amount := amount) hs hl
  obtain ⟨k, hk⟩ : ∃ k : Nat, (k : Int) = leftOf amount ws := ⟨(leftOf amount ws).toNat, by omega⟩
  rw [← partsK_end hy hk, partsK_sum hy k (by omega), hk]
  unfold leftOf
  omega
/-- A remainder of nobody's who has no remainder: a penny goes only where there is one. -/
theorem rest_pos {amount : Int} {ws : List Int} (hs : 0 < ws.sum) {i : Nat} (hr : (rankR (restOf amount ws.sum ws) ws.length i : Int) < leftOf amount ws) : 0 < restOf amount ws.sum ws i := by
  obtain ⟨r, hrr⟩ : ∃ r, restOf amount ws.sum ws = r := ⟨_, rfl⟩
  have hnn : ∀ j, 0 ≤ r j := fun j => by rw [← hrr]; exact Int.emod_nonneg _ (by omega)
  have hlt : ∀ j, r j < ws.sum := fun j => by rw [← hrr]; exact Int.emod_lt_of_pos _ hs
  have h1 := bases_sum amount ws.sum ws ws.length (Nat.le_refl _)
  rw [List.take_length] at h1
  have h3 : leftOf amount ws * ws.sum = ((List.range ws.length).map fun (i : Nat) => restOf amount ws.sum ws i).sum := by unfold leftOf; rw [Int.sub_mul]; omega
  rw [hrr] at h3 hr ⊢
  rcases Int.lt_or_le 0 (r i) with h | h
  · exact h
  exfalso
  have h0 : r i = 0 := by have := hnn i; omega
  -- The sum of the remainders is at most their number times the greatest.
  have hsum : ∀ l : List Int, (l.map r).sum ≤ (l.countP (befoB r · i) : Int) * (ws.sum - 1) := fun l => by
    induction l with
    | nil => simp
    | cons a l ih =>
      rw [List.map_cons, List.sum_cons, List.countP_cons]
      by_cases ha : 0 < r a
      · have : befoB r a i = true := (befoB_iff r a i).2 (.inl (by omega))
        rw [if_pos this, Int.natCast_add, Int.add_mul]
        have := hlt a
        omega
      · have := hnn a
        split
        · rw [Int.natCast_add, Int.add_mul]; omega
        · rw [Nat.add_zero]; omega
  have h4 := hsum (upTo ws.length)
  have e : (upTo ws.length).map r = (List.range ws.length).map fun (i : Nat) => r i := by unfold upTo; rw [List.map_map]; rfl
  rw [e, ← h3] at h4
  have h5 : ((upTo ws.length).countP (befoB r · i) : Int) * (ws.sum - 1) ≤ (leftOf amount ws - 1) * (ws.sum - 1) := Int.mul_le_mul_of_nonneg_right (by unfold rankR at hr; omega) (by omega)
  have h6 : (leftOf amount ws - 1) * (ws.sum - 1) = leftOf amount ws * ws.sum - leftOf amount ws - ws.sum + 1 := by
    rw [Int.sub_mul, Int.mul_sub]; omega
  omega
theorem rank_mono {r : Int → Int} {n : Nat} {i k : Int} (h : r k < r i) : rankR r n i ≤ rankR r n k := by
  unfold rankR
  refine List.countP_mono_left fun j _ hj => ?_
  rw [befoB_iff] at hj ⊢
  unfold befo at hj ⊢
  omega
@[simp] theorem shareL_length (amount : Int) (ws : List Int) : (shareL amount ws).length = ws.length := by simp [shareL]
theorem shareL_at {amount : Int} {ws : List Int} {i : Nat} (hi : i < ws.length) : (shareL amount ws).getD i 0 = baseOf amount ws.sum ws i + if (rankR (restOf amount ws.sum ws) ws.length i : Int) < leftOf amount ws then 1 else 0 := by
  rw [List.getD_eq_getElem?_getD, List.getElem?_eq_getElem (by simpa using hi)]; simp [shareL]
theorem base_rest (amount sum : Int) (ws : List Int) (i : Nat) : baseOf amount sum ws i * sum + restOf amount sum ws i = amount * ws.getD i 0 := by
  unfold baseOf restOf; rw [Int.toNat_natCast]; exact Int.ediv_mul_add_emod _ _
/-- Nobody has a penny more or less than the exact part. -/
theorem shareL_off {amount : Int} {ws : List Int} (hs : 0 < ws.sum) {i : Nat} (hi : i < ws.length) : -ws.sum < (shareL amount ws).getD i 0 * ws.sum - amount * ws.getD i 0 ∧ (shareL amount ws).getD i 0 * ws.sum - amount * ws.getD i 0 < ws.sum := by
  have h1 := base_rest amount ws.sum ws i
  have h2 : 0 ≤ restOf amount ws.sum ws i := Int.emod_nonneg _ (by omega)
  have h3 : restOf amount ws.sum ws i < ws.sum := Int.emod_lt_of_pos _ hs
  rw [shareL_at hi, Int.add_mul]
  split
  · rename_i h
    have := rest_pos hs h
    omega
  · omega
/-- A greater weight never has less. -/
theorem shareL_mono {amount : Int} {ws : List Int} (ha : 0 ≤ amount) (hs : 0 < ws.sum) {i k : Nat} (hi : i < ws.length) (hk : k < ws.length) (h : ws.getD k 0 < ws.getD i 0) : (shareL amount ws).getD k 0 ≤ (shareL amount ws).getD i 0 := by
  have hle : amount * ws.getD k 0 ≤ amount * ws.getD i 0 := Int.mul_le_mul_of_nonneg_left (by omega) ha
  have hb : baseOf amount ws.sum ws k ≤ baseOf amount ws.sum ws i := Int.ediv_le_ediv hs hle
  rw [shareL_at hi, shareL_at hk]
  by_cases hbk : (rankR (restOf amount ws.sum ws) ws.length k : Int) < leftOf amount ws
  · rw [if_pos hbk]
    rcases Int.lt_or_le (baseOf amount ws.sum ws k) (baseOf amount ws.sum ws i) with hlt | hge
    · split <;> omega
    · have he : baseOf amount ws.sum ws k = baseOf amount ws.sum ws i := by omega
      have h1 := base_rest amount ws.sum ws i
      have h2 := base_rest amount ws.sum ws k
      rw [← he] at h1
      have hp := rest_pos hs hbk
      have hpos : 0 < amount := by
        rcases Int.lt_or_le 0 amount with h | h
        · exact h
        · obtain rfl : amount = 0 := by omega
          simp [restOf] at hp
      have hlt : amount * ws.getD k 0 < amount * ws.getD i 0 := Int.mul_lt_mul_of_pos_left h hpos
      have := rank_mono (r := restOf amount ws.sum ws) (n := ws.length) (i := i) (k := k) (by omega)
      rw [if_pos (by omega)]
      omega
  · rw [if_neg hbk]
    split <;> omega
end Go.Proofs.Ytagfcodpgochjaa
