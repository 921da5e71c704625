/- The texts SeqV, Agg, NG, SeqG, HI, in build order. -/
import Derived.Test.YtnbmgkmcaoafnaaGreatDoorZal
import Derived.Laws.Rows
import Derived.Deep.WholeRow

/- A region whose order is drawn, walked in the text's order, where what holds may speak of the values together. -/
namespace Go.Oche
open Go Go.RowKit
def jShape (J : (Nat → Bool) → (Nat → Value) → World → Prop) (ss : List (Value → Prop)) : (Nat → Bool) → (Nat → Value) → World → Prop :=
 fun L vs w => J L vs w ∧ ∀ j s,ss[j]? = some s → L j = true → s (vs j)
def SeqVCd (P : Program) (ops : Array Oper) (J : (Nat → Bool) → (Nat → Value) → World → Prop) (s : Value → Prop) (o : Oper) (a : Act) (vals : List Value) : Prop :=
 ∀ w L vs,(∀ j u,vals[j]? = some u → vs j = u) → L vals.length = false → J L vs w → (∀ e ∈ o.after.toList,Region.binds .any e = true → L e.on = true) →
  if guardOn ops o a then opOK P o a w (fun v w' => s v ∧ J (setB L vals.length) (updV vs vals.length v) w') else s undef ∧ J (setB L vals.length) (updV vs vals.length undef) w
def SeqVAll (P : Program) (ops : Array Oper) (J : (Nat → Bool) → (Nat → Value) → World → Prop) (K : Act → List Value → Prop) : List (Value → Prop) → List Oper → Act → List Value → Prop
 | _,[],a,vals => K a vals
 | [],_ :: _,_,_ => False
 | s :: ss,o :: l,a,vals => (∃ v,s v) ∧ SeqVCd P ops J s o a vals ∧ ∀ v,s v → SeqVAll P ops J K ss l (a.put o.dst v) (vals ++ [v])
section
variable {P : Program} {ops : Array Oper} {J : (Nat → Bool) → (Nat → Value) → World → Prop} {K : Act → List Value → Prop}
theorem seqV_has : ∀ {ss : List (Value → Prop)} {l : List Oper} {a : Act} {vals : List Value},SeqVAll P ops J K ss l a vals → (∀ m s,m < 0 → ss[m]? = some s → ∃ s',ss[m]? = some s') → ∀ j,j < l.length → ∃ s v,ss[j]? = some s ∧ s v
 | [],_ :: _,_,_,h,_,_,_ => h.elim
 | _,[],_,_,_,_,j,hj => by simp at hj
 | s :: ss,o :: l,a,vals,h,_,0,_ => let ⟨v,hv⟩ := h.1; ⟨s,v,rfl,hv⟩
 | s :: ss,o :: l,a,vals,h,_,j + 1,hj => by
  obtain ⟨v,hv⟩ := h.1;obtain ⟨s',v',e,h'⟩ := seqV_has (h.2.2 v hv) (fun m s hm _ => by omega) j (by simp at hj; omega)
  exact ⟨s',v',by simpa using e,h'⟩
theorem seqV_at : ∀ {ss : List (Value → Prop)} {l : List Oper} {a : Act} {vals : List Value} (vs : Nat → Value),SeqVAll P ops J K ss l a vals → ∀ j,j < l.length → (∀ m s,m < j → ss[m]? = some s → s (vs (vals.length + m))) →
  ∃ s o,ss[j]? = some s ∧ l[j]? = some o ∧ (∃ v,s v) ∧ SeqVCd P ops J s o (putAll vs (l.take j) vals.length a) (vals ++ (List.range j).map fun m => vs (vals.length + m))
 | [],_ :: _,_,_,_,h,_,_,_ => h.elim
 | _,[],_,_,_,_,j,hj,_ => by simp at hj
 | s :: ss,o :: l,a,vals,vs,h,0,_,_ => ⟨s,o,rfl,rfl,h.1,by simpa [putAll] using h.2.1⟩
 | s :: ss,o :: l,a,vals,vs,h,j + 1,hj,hs => by
  have h0 : s (vs vals.length):=by simpa using hs 0 s (by omega) rfl
  obtain ⟨s',o',e1,e2,e3,e4⟩ := seqV_at vs (h.2.2 _ h0) j (by simp at hj; omega) (fun m s hm hk => by
   have:=hs (m + 1) s (by omega) (by simpa using hk)
   rw [List.length_append,List.length_cons,List.length_nil]
   rwa [show vals.length + (m + 1) = vals.length + (0 + 1) + m by omega] at this)
  refine ⟨s',o',by simpa using e1,by simpa using e2,e3, ?_⟩
  have ev : vals ++ [vs vals.length] ++ (List.range j).map (fun m => vs ((vals ++ [vs vals.length]).length + m)) = vals ++ (List.range (j + 1)).map fun m => vs (vals.length + m):=by
   rw [List.append_assoc,List.range_succ_eq_map,List.map_cons,List.map_map];simp only [List.length_append,List.length_cons,List.length_nil,List.singleton_append,Nat.add_zero]
   congr 2
   refine List.map_congr_left fun m _ => ?_
   simp only [Function.comp_apply]
   congr 1; omega
  rw [ev] at e4;rw [List.length_append,List.length_cons,List.length_nil,Nat.zero_add] at e4;exact e4
theorem seqV_end : ∀ {ss : List (Value → Prop)} {l : List Oper} {a : Act} {vals : List Value} (vs : Nat → Value),SeqVAll P ops J K ss l a vals → (∀ m s,m < l.length → ss[m]? = some s → s (vs (vals.length + m))) →
  K (putAll vs l vals.length a) (vals ++ (List.range l.length).map fun m => vs (vals.length + m))
 | [],[],_,_,_,h,_ => by simpa [putAll,SeqVAll] using h
 | _ :: _,[],_,_,_,h,_ => by simpa [putAll,SeqVAll] using h
 | [],_ :: _,_,_,_,h,_ => h.elim
 | s :: ss,o :: l,a,vals,vs,h,hs => by
  have h0 : s (vs vals.length):=by simpa using hs 0 s (by simp) rfl
  have:=seqV_end vs (h.2.2 _ h0) (fun m s hm hk => by
   have:=hs (m + 1) s (by simp; omega) (by simpa using hk)
   rw [List.length_append,List.length_cons,List.length_nil]
   rwa [show vals.length + (m + 1) = vals.length + (0 + 1) + m by omega] at this)
  have ev : vals ++ [vs vals.length] ++ (List.range l.length).map (fun m => vs ((vals ++ [vs vals.length]).length + m)) = vals ++ (List.range (l.length + 1)).map fun m => vs (vals.length + m):=by
   rw [List.append_assoc,List.range_succ_eq_map,List.map_cons,List.map_map];simp only [List.length_append,List.length_cons,List.length_nil,List.singleton_append,Nat.add_zero]
   congr 2
   refine List.map_congr_left fun m _ => ?_
   simp only [Function.comp_apply]
   congr 1; omega
  rw [ev] at this;rw [List.length_append,List.length_cons,List.length_nil,Nat.zero_add] at this;rw [List.length_cons];exact this
theorem seqV_free {n : Nat} {a₀ : Act} {ss : List (Value → Prop)} (hB : freeB ops n a₀.tmps.size = true) (hR : readsB ops n = true) (_hlk : ss.length = n) (hc : ∀ L vs vs' w,(∀ j,L j = true → vs j = vs' j) → J L vs w → J L vs' w)
  (h : SeqVAll P ops J K ss (ops.toList.take n) a₀ []) :
  VAll P ops (jShape J ss) a₀ (ops.toList.take n) 0:=by
 simp only [freeB,Bool.and_eq_true,Bool.or_eq_true,beq_iff_eq,decide_eq_true_eq] at hB;obtain ⟨⟨⟨⟨⟨hn,hback⟩,hdist⟩,hin⟩, -⟩, -⟩ := hB;have hlen : (ops.toList.take n).length = n:=by simp; omega
 have key : ∀ i o,(ops.toList.take n)[i]? = some o → VVC P ops (jShape J ss) a₀ i o:=by
  intro i o ho
  have hi : i < n:=by have:=(List.getElem?_eq_some_iff.1 ho).1; omega
  have hoi : ops[i]? = some o:=by rw [List.getElem?_take,if_pos hi] at ho; simpa using ho
  intro a w L vs₀ hL0 hb hp ht
  classical
  obtain ⟨vs,hvL,hvs⟩ : ∃ vs : Nat → Value,(∀ j,L j = true → vs₀ j = vs j) ∧ ∀ j s,j < n → ss[j]? = some s → s (vs j):=by
   refine ⟨fun j => if L j = true then vs₀ j else if hj2 : ∃ v, ∃ s,ss[j]? = some s ∧ s v then Classical.choose hj2 else undef,fun j hj => by simp [hj],fun j s hj hs => ?_⟩
   by_cases hL : L j = true
   ·simp only [hL,if_true]; exact hb.2 j s hs hL
   ·simp only [hL]
    obtain ⟨s',v',hs',hv'⟩ := seqV_has h (fun m s _ hs => ⟨_,hs⟩) j (by omega)
    have hj2 : ∃ v, ∃ s,ss[j]? = some s ∧ s v:=⟨v',s',hs',hv'⟩;rw [if_neg (by decide),dif_pos hj2]
    obtain ⟨k2,hk2,hs2⟩ := Classical.choose_spec hj2;rw [hs] at hk2;cases hk2;exact hs2
  obtain ⟨s,o',e1,e2,_,hop⟩ := seqV_at vs h i (by omega) (fun m s hm hs => by simpa using hvs m s (by omega) hs)
  rw [ho] at e2;cases e2;have hlt : ∀ e ∈ o.after.toList,Region.binds .any e = true → e.on < i:=fun e he hbe => by
   have h1:=List.all_eq_true.1 hback (o,i) (List.mem_iff_getElem?.2 ⟨i,by simp only [List.getElem?_zipIdx,Array.getElem?_toList,hoi,Option.map_some,Nat.zero_add]⟩)
   have h2:=List.all_eq_true.1 h1 e (by simpa using he)
   simpa [hbe] using h2
  have hdep : ∀ e ∈ o.after.toList,Region.binds .any e = true → L e.on = true ∧ ∀ oj d,ops[e.on]? = some oj → oj.dst = some d → a.tmps[d]? = some (vs e.on):=fun e he hbe => by
   obtain ⟨oj,h1,h2,h3⟩ := hp e he hbe;refine ⟨h2,fun oj' d hoj hd => ?_⟩
   rw [h1] at hoj;cases hoj;rw [← hvL _ h2];exact h3 d hd
  unfold SeqVCd at hop;simp only [List.length_nil,Nat.zero_add,List.nil_append,List.length_map,List.length_range] at hop;have hop:=hop w L vs (fun j u hj => by
   rw [List.getElem?_map,Option.map_eq_some_iff] at hj
   obtain ⟨q,hq,rfl⟩ := hj;have:=List.getElem?_eq_some_iff.1 hq
   obtain ⟨hq1,hq2⟩ := this;simp at hq2;rw [hq2]) hL0 (hc L vs₀ vs w hvL hb.1) (fun e he hbe => (hdep e he hbe).1)
  have hread : ((match o.op with | .select _ _ => false | _ => true) = true) ∧ ∀ t ∈ o.looksAt ops,(∃ e ∈ o.after.toList,Region.binds .any e = true ∧ (ops[e.on]?).bind (·.dst) = some t) ∨
    (ops.toList.all fun oj => oj.dst != some t || oj.after.toList.any fun e => Region.binds .any e && e.on == i) = true:=by
   have h1:=List.all_eq_true.1 hR (o,i) (List.mem_iff_getElem?.2 ⟨i,by rw [List.getElem?_zipIdx,ho]; simp⟩)
   simp only [Bool.and_eq_true] at h1;refine ⟨h1.1,fun t ht => ?_⟩
   have h2:=List.all_eq_true.1 h1.2 t ht;simp only [Bool.or_eq_true] at h2;rcases h2 with h2 | h2
   ·left
    obtain ⟨e,he,h3⟩ := List.any_eq_true.1 h2;simp only [Bool.and_eq_true,beq_iff_eq] at h3;exact ⟨e,he,h3.1,h3.2⟩
   ·exact .inr h2
  have hsel : ∀ cs b,o.op ≠ .select cs b:=fun cs b hc => by have:=hread.1; rw [hc] at this; cases this
  have hsz : ∀ d oj j,ops[j]? = some oj → j < n → oj.dst = some d → d < a₀.tmps.size:=fun d oj j hj hjn hd => by
   have hmem : oj ∈ ops.toList.take n:=List.mem_of_getElem? (i:=j) (by rw [List.getElem?_take,if_pos hjn]; simpa using hj)
   have:=List.all_eq_true.1 hin oj hmem;rw [hd] at this
   simpa using this
  have hdval : ∀ e ∈ o.after.toList,Region.binds .any e = true → ∀ oj d,ops[e.on]? = some oj → oj.dst = some d → (putAll vs ((ops.toList.take n).take i) 0 a₀).tmps[d]? = some (vs e.on):=by
   intro e he hbe oj t hoj hdj
   have hei:=hlt e he hbe;have hd2 : distB ((ops.toList.take n).take i) = true:=by
    have : ∀ (l : List Oper) (m : Nat),distB l = true → distB (l.take m) = true:=by
     intro l
     induction l with
     | nil => intro m _; simp [distB]
     | cons x l ih =>
      intro m hx
      cases m with
      | zero => rfl
      | succ m =>
       simp only [distB,Bool.and_eq_true,List.take_succ_cons] at hx ⊢;refine ⟨?_,ih m hx.2⟩
       cases hxd : x.dst with
       | none => rfl
       | some d =>
        have h1:=hx.1;rw [hxd] at h1;exact List.all_eq_true.2 fun y hy => List.all_eq_true.1 h1 y (List.mem_of_mem_take hy)
    exact this _ _ hdist
   have:=putAll_some vs t ((ops.toList.take n).take i) 0 a₀ e.on oj hd2 (by rw [List.getElem?_take,if_pos hei,List.getElem?_take,if_pos (by omega)]; simpa using hoj) hdj (hsz t oj e.on hoj (by omega) hdj)
   rw [this,Nat.zero_add]
  have heq : ∀ t ∈ o.looksAt ops,a.tmps[t]? = (putAll vs ((ops.toList.take n).take i) 0 a₀).tmps[t]? := by
   intro t hmem
   rcases hread.2 t hmem with ⟨e,he,hbe,hd⟩ | hall
   ·obtain ⟨oj,hoj,hdj⟩ := Option.bind_eq_some_iff.1 hd
    rw [(hdep e he hbe).2 oj t hoj hdj,hdval e he hbe oj t hoj hdj]
   ·rw [ht t hall,putAll_none]
    intro oj hoj hd
    obtain ⟨j,hj⟩ := List.getElem?_of_mem hoj
    rw [List.getElem?_take] at hj
    split at hj
    ·rename_i hji
     rw [List.getElem?_take,if_pos (by omega)] at hj
     have hj' : ops[j]? = some oj:=by simpa using hj
     have h1:=List.all_eq_true.1 hall oj (by simpa using Array.mem_of_getElem? hj')
     simp only [Bool.or_eq_true,List.any_eq_true,Bool.and_eq_true,beq_iff_eq,bne_iff_ne,ne_eq] at h1;rcases h1 with h1 | ⟨e,he,hbe,hei⟩
     ·exact h1 hd
     ·have h2:=List.all_eq_true.1 hback (oj,j) (List.mem_iff_getElem?.2 ⟨j,by simp only [List.getElem?_zipIdx,Array.getElem?_toList,hj',Option.map_some,Nat.zero_add]⟩)
      have h3:=List.all_eq_true.1 h2 e (by simpa using he)
      simp only [hbe,Bool.not_true,Bool.false_or,decide_eq_true_eq] at h3;omega
    ·cases hj
  have hev : execOp a.eval o = execOp (putAll vs ((ops.toList.take n).take i) 0 a₀).eval o:=execOp_congr o hsel fun x hx => by
   cases x with
   | tmp t =>
    have:=heq t (List.mem_append_left _ (List.mem_filterMap.2 ⟨.tmp t,by simpa using hx,rfl⟩))
    simp only [Act.eval,Array.getD_eq_getD_getElem?,this]
   | const v => rfl
   | global g => rfl
   | func f => rfl
  have hgd : Region.wanted o (yielded ops a.tmps) = guardOn ops o (putAll vs ((ops.toList.take n).take i) 0 a₀):=by
   unfold guardOn Region.wanted;cases hg : o.guard with
   | none => rfl
   | some jb =>
    obtain ⟨j,b⟩ := jb;have : yielded ops a.tmps j = yielded ops (putAll vs ((ops.toList.take n).take i) 0 a₀).tmps j:=by
     unfold yielded;cases hd : (ops[j]?).bind (·.dst) with
     | none => rfl
     | some t =>
      simp only [Option.bind_some];rw [heq t (List.mem_append_right _ (by rw [hg]; simp [hd]))]
    simp only [this]
  rw [hgd];have hok : ∀ R,opOK P o (putAll vs ((ops.toList.take n).take i) 0 a₀) w R → opOK P o a w R:=fun R hR => by
   unfold opOK at *;rw [hev]; exact hR
  have hback2 : ∀ v w',s v → J (setB L i) (updV vs i v) w' → jShape J ss (setB L i) (updV vs₀ i v) w':=fun v w' h1 h2 => by
   refine ⟨hc _ _ _ _ (fun j hj => ?_) h2,fun j s' hs' hj => ?_⟩
   ·unfold updV
    split
    ·rfl
    ·rename_i hji
     have : L j = true:=by unfold setB at hj; rwa [if_neg hji] at hj
     exact (hvL j this).symm
   ·unfold updV
    split
    ·rename_i hji
     subst hji;rw [e1] at hs'; cases hs'; exact h1
    ·rename_i hji
     have : L j = true:=by unfold setB at hj; rwa [if_neg hji] at hj
     exact hb.2 j s' hs' this
  split at hop
  ·rename_i hg
   rw [if_pos hg];exact hok _ (opOK_mono hop fun v w' ⟨h1,h2⟩ => hback2 v w' h1 h2)
  ·rename_i hg
   rw [if_neg hg];exact hback2 _ _ hop.1 hop.2
 have all : ∀ (l : List Oper) (i : Nat),(∀ j o,l[j]? = some o → VVC P ops (jShape J ss) a₀ (i + j) o) → VAll P ops (jShape J ss) a₀ l i:=by
  intro l
  induction l with
  | nil => intro i _; trivial
  | cons o l ih =>
   intro i hl
   refine ⟨by simpa using hl 0 o rfl,ih (i + 1) fun j o' hj => ?_⟩
   have:=hl (j + 1) o' (by simpa using hj)
   rwa [show i + (j + 1) = i + 1 + j by omega] at this
 exact all _ 0 fun j o ho => by rw [Nat.zero_add]; exact key j o ho
end
def seqVK (J : (Nat → Bool) → (Nat → Value) → World → Prop) (K : Act → World → Prop) (n : Nat) : Act → List Value → Prop:=fun a vals => ∀ vs w',(∀ j u,vals[j]? = some u → vs j = u) → J (fun j => decide (j < n)) vs w' → K a w'
section
variable {P : Program} {id : Nat} {l : List Oper} {a : Act} {w : World} {Q : Exit → Act → World → Prop}
theorem wp_region_seqV (n : Nat) (ss : List (Value → Prop)) (J : (Nat → Bool) → (Nat → Value) → World → Prop) (hlk : ss.length = n) (hmix : P.follows .mixedOrders = true) (hB : freeB l.toArray n a.tmps.size = true) (hR : readsB l.toArray n = true)
  (hc : ∀ L vs vs' w,(∀ j,L j = true → vs j = vs' j) → J L vs w → J L vs' w) (h0 : ∀ vs,J (fun _ => false) vs w.drew)
  (h : SeqVAll P l.toArray J (seqVK J (fun a w' => wpList P l.toArray Q (l.drop n) a w') n) ss (l.take n) a []) : (Code.region id l.toArray true).wp P Q a w:=by
 have hn : n ≤ l.length:=by simp only [freeB,Bool.and_eq_true,decide_eq_true_eq] at hB; simpa using hB.1.1.1.1.1
 have hlen : (l.take n).length = n:=by simp; omega
 refine wp_region_v n (jShape J ss) hmix hB (fun vs => ⟨h0 vs,fun j s _ hj => by cases hj⟩) (seqV_free (ops:=l.toArray) hB hR hlk hc (by simpa using h)) fun vs w' hJ => ?_
 have:=seqV_end vs h (fun m s hm hs => by
  simp only [List.length_nil,Nat.zero_add];exact hJ.2 m s hs (decide_eq_true (by omega)))
 simp only [List.length_nil,Nat.zero_add,List.nil_append] at this;refine this vs w' (fun j u hj => ?_) hJ.1
 rw [List.getElem?_map,Option.map_eq_some_iff] at hj
 obtain ⟨q,hq,rfl⟩ := hj;obtain ⟨hq1,hq2⟩ := List.getElem?_eq_some_iff.1 hq
 simp at hq2
 rw [hq2]
end
section
variable {P : Program} {ops : Array Oper} {J : (Nat → Bool) → (Nat → Value) → World → Prop} {K : Act → List Value → Prop} {ss : List (Value → Prop)} {o : Oper} {l : List Oper} {a : Act} {vals : List Value}
theorem sv_rd {c : Value} (hg : o.guard = none) (hJ : ∀ w L vs,J L vs w → J (setB L vals.length) (updV vs vals.length c) w)
  (h : ∀ w L vs,(∀ j u,vals[j]? = some u → vs j = u) → L vals.length = false → J L vs w → opOK P o a w (fun v w' => v = c ∧ w' = w))
  (hr : SeqVAll P ops J K ss l (a.put o.dst c) (vals ++ [c])) : SeqVAll P ops J K ((fun v => v = c) :: ss) (o :: l) a vals:=by
 refine ⟨⟨c,rfl⟩,fun w L vs hvs hL hj _ => ?_,fun v hv => by subst hv; exact hr⟩
 rw [if_pos (by simp [guardOn,Region.wanted,hg])]
 exact opOK_mono (h w L vs hvs hL hj) fun v w' ⟨h1,h2⟩ => by subst h1 h2; exact ⟨rfl,hJ _ L vs hj⟩
theorem sv_new {s : Value → Prop} (hs : ∃ v,s v) (hg : o.guard = none)
  (h : ∀ w L vs,(∀ j u,vals[j]? = some u → vs j = u) → L vals.length = false → J L vs w → (∀ e ∈ o.after.toList,Region.binds .any e = true → L e.on = true) → opOK P o a w (fun v w' => s v ∧ J (setB L vals.length) (updV vs vals.length v) w'))
  (hr : ∀ v,s v → SeqVAll P ops J K ss l (a.put o.dst v) (vals ++ [v])) : SeqVAll P ops J K (s :: ss) (o :: l) a vals:=by
 refine ⟨hs,fun w L vs hvs hL hj hd => ?_,hr⟩
 rw [if_pos (by simp [guardOn,Region.wanted,hg])]
 exact h w L vs hvs hL hj hd
theorem sv_end (h : K a vals) : SeqVAll P ops J K ss [] a vals:=by cases ss <;> exact h
end
open Go Go.RowKit
section
variable {P : Program}
theorem opOK_load_row {o : Oper} {a : Act} {w : World} {R : Value → World → Prop} (ty : TypeId) (x : Operand) (ho : o.op = .load ty x)
  (g : Nat) (cells : Array Value) (hx : a.eval x = .pointer (some ⟨g,0,none⟩)) (t : TypeId) (fr : Nat × Nat) (hg : w.heap[g]? = some (.cells cells t fr)) (d : TypeDesc) (hu : P.underlying ty = some d)
  (hd : (match d with | .struct _ | .array _ _ => true | _ => false) = true) (hi : (P.info? ty).map (·.size) = some cells.size) (h : R (.agg cells) w) : opOK P o a w R:=by
 unfold opOK execOp;simp only [ho,hx,Instr.loadAt,Instr.sureAddr,Sem.run_bind,Sem.run_pure,Result.andThen_ok,run_loadVar_row w g t ty cells fr d hg hu hd hi];exact h
end
end Go.Oche

/- Chapter 5: the drawn region in which newGame makes its maps and the leg's block. -/
namespace Go.Proofs.YtnbmgkmcaoafnaaGreatDoor
open Go Go.RowKit Go.Oche Go.Proofs

theorem updV_eq {vs : Nat → Value} {i : Nat} {v : Value} : updV vs i v i = v:=by simp [updV]
theorem updV_ne {vs : Nat → Value} {i j : Nat} {v : Value} (h : j ≠ i) : updV vs i v j = vs j:=by simp [updV,h]
structure JN (w0 : World) (l : Lg) (bv : Value) (L : Nat → Bool) (vs : Nat → Value) (W : World) : Prop where
 below : Below w0.heap.size w0 W
 d3 : L 3 = true → L 1 = true
 d4 : L 4 = true → L 1 = true ∧ vs 4 = vs 1
 m1 : L 1 = true → ∃ b,vs 1 = .map (some b) ∧ w0.heap.size ≤ b ∧ MapAt htV W b (if L 3 = true then [(miss5,.int .i64 1)] else [])
 m5 : L 5 = true → ∃ k,vs 5 = .map (some k) ∧ w0.heap.size ≤ k ∧ MapAt atV W k []
 ne : L 1 = true → L 5 = true → vs 1 ≠ vs 5
 d6 : L 6 = true → L 4 = true ∧ L 5 = true ∧ ∃ b k,vs 1 = .map (some b) ∧ vs 5 = .map (some k) ∧ vs 6 = .agg (gameCells l bv b k)
 b7 : L 7 = true → L 6 = true ∧ ∃ g b k,vs 7 = .pointer (some ⟨g,0,none⟩) ∧ vs 1 = .map (some b) ∧ vs 5 = .map (some k) ∧ w0.heap.size ≤ g ∧ W.heap[g]? = some (.cells (gameCells l bv b k) 141 (0,0))
section
variable {w0 : World} {l : Lg} {bv : Value} {L : Nat → Bool} {vs : Nat → Value} {W W' : World}
theorem JN.congr {vs' : Nat → Value} (hc : ∀ j,L j = true → vs j = vs' j) (h : JN w0 l bv L vs W) : JN w0 l bv L vs' W:=by
 refine ⟨h.below,h.d3,fun e => ?_,fun e => ?_,fun e => ?_,fun e1 e2 => ?_,fun e => ?_,fun e => ?_⟩
 ·have h1:=h.d4 e; exact ⟨h1.1,by rw [← hc _ e,← hc _ h1.1]; exact h1.2⟩
 ·rw [← hc _ e]; exact h.m1 e
 ·rw [← hc _ e]; exact h.m5 e
 ·rw [← hc _ e1,← hc _ e2]; exact h.ne e1 e2
 ·have h46:=h.d6 e
  exact ⟨h46.1,h46.2.1,by rw [← hc _ e,← hc _ h46.2.1,← hc _ (h.d4 h46.1).1]; exact h46.2.2⟩
 ·obtain ⟨h6,g,b,k,h1,h2,h3,h4⟩ := h.b7 e
  have h46:=h.d6 h6;exact ⟨h6,g,b,k,by rw [← hc _ e]; exact h1,by rw [← hc _ (h.d4 h46.1).1]; exact h2,by rw [← hc _ h46.2.1]; exact h3,h4⟩
theorem JN.start (vs : Nat → Value) : JN w0 l bv (fun _ => false) vs w0.drew :=
 ⟨⟨rfl,rfl,rfl,Nat.le_refl _,fun _ _ => rfl⟩,fun h => (by cases h),fun h => (by cases h),fun h => (by cases h),fun h => (by cases h),fun h => (by cases h),fun h => (by cases h),fun h => (by cases h)⟩
theorem JN.grow (h : JN w0 l bv L vs W) (hb : Below W.heap.size W W') : JN w0 l bv L vs W':=by
 refine ⟨h.below.trans (hb.mono h.below.size),h.d3,h.d4,fun e => ?_,fun e => ?_,h.ne,h.d6,fun e => ?_⟩
 ·obtain ⟨b,e1,h1,h2⟩ := h.m1 e; exact ⟨b,e1,h1,h2.below hb⟩
 ·obtain ⟨b,e1,h1,h2⟩ := h.m5 e; exact ⟨b,e1,h1,h2.below hb⟩
 ·obtain ⟨h6,g,b,k,h1,h2,h3,h4,h5⟩ := h.b7 e
  exact ⟨h6,g,b,k,h1,h2,h3,h4,(hb.block g (Array.getElem?_eq_some_iff.1 h5).1).trans h5⟩
theorem JN.read (h : JN w0 l bv L vs W) {i : Nat} {v : Value} (h1 : 1 ≠ i) (h3 : 3 ≠ i) (h4 : 4 ≠ i) (h5 : 5 ≠ i) (h6 : 6 ≠ i) (h7 : 7 ≠ i) : JN w0 l bv (setB L i) (updV vs i v) W:=by
 have e1:=setB_ne (L:=L) h1;have e3:=setB_ne (L:=L) h3;have e4:=setB_ne (L:=L) h4;have e5:=setB_ne (L:=L) h5;have e6:=setB_ne (L:=L) h6;have e7:=setB_ne (L:=L) h7;refine ⟨h.below, ?_, ?_, ?_, ?_, ?_, ?_, ?_⟩
 ·rw [e3,e1]; exact h.d3
 ·rw [e4,e1,updV_ne h4,updV_ne h1]; exact h.d4
 ·rw [e1,e3,updV_ne h1]; exact h.m1
 ·rw [e5,updV_ne h5]; exact h.m5
 ·rw [e1,e5,updV_ne h1,updV_ne h5]; exact h.ne
 ·rw [e6,e4,e5,updV_ne h1,updV_ne h5,updV_ne h6]; exact h.d6
 ·rw [e7,e6,updV_ne h7,updV_ne h1,updV_ne h5]; exact h.b7
theorem JN.made1 (h : JN w0 l bv L vs W) (hL : L 1 = false) : JN w0 l bv (setB L 1) (updV vs 1 (.map (some W.heap.size))) (W.alloc (.map #[] 0)):=by
 have n3 : L 3 = false:=by cases e : L 3 with | false => rfl | true => rw [h.d3 e] at hL; cases hL
 have n4 : L 4 = false:=by cases e : L 4 with | false => rfl | true => rw [(h.d4 e).1] at hL; cases hL
 have n6 : L 6 = false:=by cases e : L 6 with | false => rfl | true => rw [(h.d6 e).1] at n4; cases n4
 have n7 : L 7 = false:=by cases e : L 7 with | false => rfl | true => rw [(h.b7 e).1] at n6; cases n6
 have hg:=h.grow (aB W (.map #[] 0));refine ⟨hg.below,fun e => ?_,fun e => ?_,fun _ => ?_,fun e => ?_,fun _ e2 => ?_,fun e => ?_,fun e => ?_⟩
 ·rw [setB_ne (by decide),n3] at e; cases e
 ·rw [setB_ne (by decide),n4] at e; cases e
 ·rw [updV_eq,setB_ne (by decide),n3]
  exact ⟨_,rfl,h.below.size,MapAt.made htV W⟩
 ·rw [setB_ne (by decide)] at e
  rw [updV_ne (by decide)]; exact hg.m5 e
 ·rw [setB_ne (by decide)] at e2
  obtain ⟨k,hk1,_,hk3⟩ := h.m5 e2;rw [updV_eq,updV_ne (by decide),hk1]
  have:=hk3.lt;intro q; cases q; omega
 ·rw [setB_ne (by decide),n6] at e; cases e
 ·rw [setB_ne (by decide),n7] at e; cases e
theorem JN.made5 (h : JN w0 l bv L vs W) (hL : L 5 = false) : JN w0 l bv (setB L 5) (updV vs 5 (.map (some W.heap.size))) (W.alloc (.map #[] 0)):=by
 have n6 : L 6 = false:=by cases e : L 6 with | false => rfl | true => rw [(h.d6 e).2.1] at hL; cases hL
 have n7 : L 7 = false:=by cases e : L 7 with | false => rfl | true => rw [(h.b7 e).1] at n6; cases n6
 have hg:=h.grow (aB W (.map #[] 0));refine ⟨hg.below, ?_, ?_, ?_,fun _ => ?_,fun e1 _ => ?_,fun e => ?_,fun e => ?_⟩
 ·rw [setB_ne (by decide),setB_ne (by decide)]; exact h.d3
 ·rw [setB_ne (by decide),setB_ne (by decide),updV_ne (by decide),updV_ne (by decide)]; exact h.d4
 ·rw [setB_ne (by decide),setB_ne (by decide),updV_ne (by decide)]; exact hg.m1
 ·rw [updV_eq]
  exact ⟨_,rfl,h.below.size,MapAt.made atV W⟩
 ·rw [setB_ne (by decide)] at e1
  obtain ⟨k,hk1,_,hk3⟩ := h.m1 e1;rw [updV_eq,updV_ne (by decide),hk1]
  have:=hk3.lt;intro q; cases q; omega
 ·rw [setB_ne (by decide),n6] at e; cases e
 ·rw [setB_ne (by decide),n7] at e; cases e
set_option maxRecDepth 100000 in
theorem JN.insert (h : JN w0 l bv L vs W) (hL : L 1 = true) (h3 : L 3 = false) : ∃ b W',vs 1 = .map (some b) ∧ (Instr.mapUpdate 138 (.map (some b)) (htV miss5) (.int .i64 1)).run Tryz.prog W = .ok () W' ∧ ∀ v,JN w0 l bv (setB L 3) (updV vs 3 v) W':=by
 obtain ⟨b,e1,h1,h2⟩ := h.m1 hL;rw [h3,if_neg (by decide)] at h2
 obtain ⟨W',hr,hm,hg⟩ := h2.update ht_key (T:=138) (E:=3) (by rfl) miss5 (.int .i64 1)
 refine ⟨b,W',e1,hr,fun v => ⟨h.below.trans (below_grownBy hg h.below.size fun k hk => by cases hk; exact h1),fun _ => by rw [setB_ne (by decide)]; exact hL, ?_,fun _ => ?_,fun e => ?_, ?_, ?_,fun e => ?_⟩⟩
 ·rw [setB_ne (by decide),setB_ne (by decide),updV_ne (by decide),updV_ne (by decide)]; exact h.d4
 ·rw [updV_ne (by decide),setB_eq,if_pos rfl]
  exact ⟨b,e1,h1,hm⟩
 ·rw [setB_ne (by decide)] at e
  rw [updV_ne (by decide)]
  obtain ⟨k,e2,k1,k2⟩ := h.m5 e;refine ⟨k,e2,k1,k2.keep (hg.block k k2.lt fun q => ?_)⟩
  have:=h.ne hL e;rw [e1,e2] at this;cases q; exact this rfl
 ·rw [setB_ne (by decide),setB_ne (by decide),updV_ne (by decide),updV_ne (by decide)]; exact h.ne
 ·rw [setB_ne (by decide),setB_ne (by decide),setB_ne (by decide),updV_ne (by decide),updV_ne (by decide),updV_ne (by decide)]; exact h.d6
 ·rw [setB_ne (by decide)] at e
  rw [setB_ne (by decide),updV_ne (by decide),updV_ne (by decide),updV_ne (by decide)]
  obtain ⟨h6,g,b',k,a1,a2,a3,a4,a5⟩ := h.b7 e;refine ⟨h6,g,b',k,a1,a2,a3,a4,(hg.block g (Array.getElem?_eq_some_iff.1 a5).1 fun q => ?_).trans a5⟩
  cases q;obtain ⟨es,c,hh,_⟩ := h2;rw [hh] at a5; cases a5
theorem JN.again (h : JN w0 l bv L vs W) (hL : L 1 = true) : JN w0 l bv (setB L 4) (updV vs 4 (vs 1)) W:=by
 refine ⟨h.below, ?_,fun _ => ?_, ?_, ?_, ?_,fun e => ?_, ?_⟩
 ·rw [setB_ne (by decide),setB_ne (by decide)]; exact h.d3
 ·rw [setB_ne (by decide),updV_eq,updV_ne (by decide)]; exact ⟨hL,rfl⟩
 ·rw [setB_ne (by decide),setB_ne (by decide),updV_ne (by decide)]; exact h.m1
 ·rw [setB_ne (by decide),updV_ne (by decide)]; exact h.m5
 ·rw [setB_ne (by decide),setB_ne (by decide),updV_ne (by decide),updV_ne (by decide)]; exact h.ne
 ·rw [setB_ne (by decide)] at e
  rw [setB_eq,setB_ne (by decide),updV_ne (by decide),updV_ne (by decide),updV_ne (by decide)]; exact ⟨rfl,(h.d6 e).2⟩
 ·rw [setB_ne (by decide),setB_ne (by decide),updV_ne (by decide),updV_ne (by decide),updV_ne (by decide)]; exact h.b7
theorem JN.leg (h : JN w0 l bv L vs W) (h4 : L 4 = true) (h5 : L 5 = true) {b k : Nat} (hb : vs 4 = .map (some b)) (hk : vs 5 = .map (some k)) : JN w0 l bv (setB L 6) (updV vs 6 (.agg (gameCells l bv b k))) W:=by
 refine ⟨h.below, ?_, ?_, ?_, ?_, ?_,fun _ => ?_,fun e => ?_⟩
 ·rw [setB_ne (by decide),setB_ne (by decide)]; exact h.d3
 ·rw [setB_ne (by decide),setB_ne (by decide),updV_ne (by decide),updV_ne (by decide)]; exact h.d4
 ·rw [setB_ne (by decide),setB_ne (by decide),updV_ne (by decide)]; exact h.m1
 ·rw [setB_ne (by decide),updV_ne (by decide)]; exact h.m5
 ·rw [setB_ne (by decide),setB_ne (by decide),updV_ne (by decide),updV_ne (by decide)]; exact h.ne
 ·rw [setB_ne (by decide),setB_ne (by decide),updV_ne (by decide),updV_ne (by decide),updV_eq]; exact ⟨h4,h5,b,k,by rw [← (h.d4 h4).2]; exact hb,hk,rfl⟩
 ·rw [setB_ne (by decide)] at e
  rw [setB_eq,updV_ne (by decide),updV_ne (by decide),updV_ne (by decide)]
  exact ⟨rfl,(h.b7 e).2⟩
theorem JN.box (h : JN w0 l bv L vs W) (h6 : L 6 = true) {b k : Nat} (h1 : vs 1 = .map (some b)) (h5 : vs 5 = .map (some k)) : JN w0 l bv (setB L 7) (updV vs 7 (.pointer (some ⟨W.heap.size,0,none⟩))) (W.alloc (.cells (gameCells l bv b k) 141)):=by
 have hg:=h.grow (aB W (.cells (gameCells l bv b k) 141));refine ⟨hg.below, ?_, ?_, ?_, ?_, ?_, ?_,fun _ => ?_⟩
 ·rw [setB_ne (by decide),setB_ne (by decide)]; exact h.d3
 ·rw [setB_ne (by decide),setB_ne (by decide),updV_ne (by decide),updV_ne (by decide)]; exact h.d4
 ·rw [setB_ne (by decide),setB_ne (by decide),updV_ne (by decide)]; exact hg.m1
 ·rw [setB_ne (by decide),updV_ne (by decide)]; exact hg.m5
 ·rw [setB_ne (by decide),setB_ne (by decide),updV_ne (by decide),updV_ne (by decide)]; exact h.ne
 ·rw [setB_ne (by decide),setB_ne (by decide),setB_ne (by decide),updV_ne (by decide),updV_ne (by decide),updV_ne (by decide)]; exact h.d6
 ·rw [setB_ne (by decide),updV_eq,updV_ne (by decide),updV_ne (by decide)]
  exact ⟨h6,_,b,k,rfl,h1,h5,h.below.size,World.alloc_heap_new _ _⟩
end
structure JM {κ : Type} [DecidableEq κ] (enc : κ → Value) (w : World) (M : Nat) (L : List (κ × Value)) (k : κ) (z : Value) (e s : Nat) (S : Nat → Bool) (vs : Nat → Value) (W : World) : Prop where
 je : JE enc w M L k z e s S W
 ve : S e = true → ∃ (u : Value) (st : Nat),vs e = .tuple #[u,.int .i64 (st : Nat)] ∧ EntAt enc W M (entL L k z) k st
 v_s : S s = true → S e = true ∧ ∃ st : Nat,vs s = .int .i64 (st : Nat) ∧ EntAt enc W M (entL L k z) k st
section
variable {κ : Type} [DecidableEq κ] {enc : κ → Value} {w W W' : World} {M : Nat} {L : List (κ × Value)} {k : κ} {z : Value} {e s : Nat} {S : Nat → Bool} {vs : Nat → Value}
theorem JM.start (h : MapAt enc w M L) (vs : Nat → Value) : JM enc w M L k z e s (fun _ => false) vs w.drew:=⟨JE.start h,fun h => (by cases h),fun h => (by cases h)⟩
theorem JM.congr {vs' : Nat → Value} (hc : ∀ j,S j = true → vs j = vs' j) (h : JM enc w M L k z e s S vs W) : JM enc w M L k z e s S vs' W :=
 ⟨h.je,fun hS => by rw [← hc _ hS]; exact h.ve hS,fun hS => by rw [← hc _ hS]; exact h.v_s hS⟩
theorem JM.read (h : JM enc w M L k z e s S vs W) {i : Nat} {v : Value} (h1 : e ≠ i) (h2 : s ≠ i) : JM enc w M L k z e s (setB S i) (updV vs i v) W:=by
 refine ⟨h.je.read (fun q => h1 q.symm) (fun q => (h2 q.symm).elim), ?_, ?_⟩
 ·rw [setB_ne h1,updV_ne h1]; exact h.ve
 ·rw [setB_ne h2,setB_ne h1,updV_ne h2]; exact h.v_s
theorem JM.ent (h : JM enc w M L k z e s S vs W) (hS : S e = false) (hne : s ≠ e) {st : Nat} {u : Value} (hg : W.grownBy W' (some M)) (h2 : EntAt enc W' M (entL L k z) k st) : JM enc w M L k z e s (setB S e) (updV vs e (.tuple #[u,.int .i64 (st : Nat)])) W':=by
 refine ⟨h.je.made hg h2,fun _ => ⟨u,st,updV_eq,h2⟩,fun h' => ?_⟩
 rw [setB_ne hne,(h.je.off hS).2] at h'; cases h'
theorem JM.ext (h : JM enc w M L k z e s S vs W) (hS : S e = true) (hne : s ≠ e) {st : Nat} (h2 : EntAt enc W M (entL L k z) k st) : JM enc w M L k z e s (setB S s) (updV vs s (.int .i64 (st : Nat))) W:=by
 refine ⟨h.je.read (fun q => hne q) (fun _ => hS), ?_,fun _ => ⟨?_,st,updV_eq,h2⟩⟩
 ·rw [setB_ne hne.symm,updV_ne hne.symm]; exact h.ve
 ·rw [setB_ne hne.symm]; exact hS
theorem JM.cell (h : JM enc w M L k z e s S vs W) {b o : Nat} {v : Value} (hv : w.cell? ⟨b,o,none⟩ = some v) (hb : b ≠ M) : W.cell? ⟨b,o,none⟩ = some v :=
 (World.cell?_of_block (w:=w) (h.je.grown.block b (World.block_lt_of_cell? w _ hv) fun e => hb (Option.some.inj e))).trans hv
end
end Go.Proofs.YtnbmgkmcaoafnaaGreatDoor

/- A region that draws its order, in the text's order, where what holds speaks of the values: operations with guards. -/
namespace Go.Oche
open Go Go.RowKit
section
variable {P : Program} {ops : Array Oper} {J : (Nat → Bool) → (Nat → Value) → World → Prop} {K : Act → List Value → Prop} {ss : List (Value → Prop)} {o : Oper} {l : List Oper} {a : Act} {vals : List Value}
end
end Go.Oche

/- Chapter 5: newGame. -/
namespace Go.Proofs.YtnbmgkmcaoafnaaGreatDoor
open Go.RowKit Go.Oche Go.Proofs

structure Valid (l : Lg) : Prop where
 beds : l.beds.length ≤ 82
 some_ : l.beds ≠ []
 rise : l.beds.Pairwise (· < ·)
 bed : ∀ b ∈ l.beds,isBed5 b = true
 start : 2 ≤ l.start ∧ l.start ≤ 1001
 gin : 0 ≤ l.gin ∧ l.gin ≤ 2
 gout : 0 ≤ l.gout ∧ l.gout ≤ 2
 players : 1 ≤ l.players ∧ l.players ≤ 4
 turns : 0 ≤ l.turns ∧ l.turns ≤ 60
 won : ¬ (l.won = true ∧ l.turns = 0)
theorem valid_of {l : Lg} (h : checkL l = 0) : Valid l:=by
 unfold checkL at h;split at h
 ·cases h
 split at h
 ·cases h
 split at h
 ·cases h
 rename_i h1 h2 h3
 simp only [not_or,not_exists,not_and] at h2 h3;have hc:=h2.1;unfold okCount isIn at hc;simp at hc;have hp:=h3.1;have ht:=h3.2.1;unfold isIn at hp ht;simp at hp ht;refine ⟨by omega,h2.2.1,by have:=h2.2.2.1; simpa using this,fun b hb => by have:=h2.2.2.2 b hb; simpa using this,by omega,by omega,by omega,by omega,by omega,fun hw => h3.2.2 hw.1 hw.2⟩
theorem bed_score {b : Int} (h : isBed5 b = true) : 1 ≤ b.tdiv 100 * b.tmod 100 ∧ b.tdiv 100 * b.tmod 100 ≤ 80 ∧ 1 ≤ b.tdiv 100 ∧ b.tdiv 100 ≤ 4 ∧ 1 ≤ b.tmod 100 ∧ b.tmod 100 ≤ 25:=by
 have key : (1 ≤ b.tdiv 100 ∧ b.tdiv 100 ≤ 4 ∧ 1 ≤ b.tmod 100 ∧ b.tmod 100 ≤ 20) ∨ b = 125 ∨ b = 225:=by
  unfold isBed5 isIn at h;simp at h;omega
 rcases key with ⟨h1,h2,h3,h4⟩ | rfl | rfl
 ·generalize b.tdiv 100 = f at *
  generalize b.tmod 100 = n at *
  have hf : f = 1 ∨ f = 2 ∨ f = 3 ∨ f = 4:=by omega
  rcases hf with rfl | rfl | rfl | rfl <;> omega
 ·decide
 ·decide
theorem Valid.ok {l : Lg} (h : Valid l) : LegOk l:=⟨h.beds,fun x hx => by
 unfold hits5 at hx;rcases List.mem_cons.1 hx with rfl | hx
 ·simp [miss5]
 ·obtain ⟨b,hb,rfl⟩ := List.mem_map.1 hx
  have:=bed_score (h.bed b hb);simp only [hitB5]; omega⟩
set_option maxRecDepth 100000 in
set_option maxHeartbeats 4000000 in
theorem newGame_any {S : Nat → Prop} (l : Lg) (bv : Value) (w : World) (hv : Valid l) (hs : Sl S w bv (ints l.beds)) (hbd : BedsIn l) :
  Calls Tryz.prog 24 #[legV l bv] w fun e w' => ∃ gb hb kb,e = .returned (.pointer (some ⟨gb,0,none⟩)) ∧ Below w.heap.size w w' ∧ GameAt l (fun q => q = gb ∨ q = hb ∨ q = kb) w' gb hb kb ∧ w.heap.size ≤ gb ∧ w.heap.size ≤ hb ∧ w.heap.size ≤ kb:=by
 obtain ⟨a,cap,rfl,h2,h3⟩ := hs.form;simp only [ints_length] at *;unfold maxLen at h3;unfold legV legA;obtain ⟨w1,hw1⟩ : ∃ x,w.alloc (.cells #[.int .i64 l.start,.int .i64 l.gin,.int .i64 l.gout,.slice a l.beds.length cap,.int .i64 l.players,.int .i64 l.turns,.bool l.won] 53) = x:=⟨_,rfl⟩;have hbw : Below w.heap.size w w1:=by rw [← hw1]; exact aB _ _
 have K : Hid (w1.heap[w.heap.size]? = some (.cells #[.int .i64 l.start,.int .i64 l.gin,.int .i64 l.gout,.slice a l.beds.length cap,.int .i64 l.players,.int .i64 l.turns,.bool l.won] 53 (0,0))):=Lib.hid (by rw [← hw1]; exact World.alloc_heap_new _ _)
 have HS1:=Lib.hid (hs.below hbw);have HBD:=Lib.hid hbd;have HV:=Lib.hid hv;have HW:=Lib.hid hw1;have HB1:=Lib.hid hbw;clear hw1 hbw hs hbd hv
 go_enter Tryz.func24,Tryz.ntmps24
 go_upto_region 1 with fail
 rw [HW.out];refine wp_region_seqV 8 ((fun v => v = .agg #[.int .i64 l.start,.int .i64 l.gin,.int .i64 l.gout,.slice a l.beds.length cap,.int .i64 l.players,.int .i64 l.turns,.bool l.won]) :: (fun v => ∃ b : Nat,v = .map (some b)) :: (fun v => v = .agg #[.int .i64 0,.bool false,.bool false]) :: (fun v => v = undef) :: (fun v => ∃ b : Nat,v = .map (some b)) :: (fun v => ∃ b : Nat,v = .map (some b)) :: (fun v => ∃ b k : Nat,v = .agg (gameCells l (.slice a l.beds.length cap) b k)) :: (fun v => ∃ g : Nat,v = .pointer (some ⟨g,0,none⟩)) :: []) (JN w1 l (.slice a l.beds.length cap)) rfl mix (by kernel_rfl) (by kernel_rfl) (fun _ _ _ _ hc h => h.congr hc) (fun vs => JN.start vs) ?_
 simp only [List.take_succ_cons,List.take_zero];refine sv_rd rfl (fun w L vs h => h.read (by simp) (by simp) (by simp) (by simp) (by simp) (by simp)) (fun W L vs hvs hL hj => ?_) ?_
 ·have hk:=(hj.below.block _ (Array.getElem?_eq_some_iff.1 K.out).1).trans K.out
  exact opOK_load_row 53 (.tmp 1) rfl w.heap.size #[.int .i64 l.start,.int .i64 l.gin,.int .i64 l.gout,.slice a l.beds.length cap,.int .i64 l.players,.int .i64 l.turns,.bool l.won] (by simp [Act.eval]) 53 (0,0) hk _ Tryz.underlying53 rfl (by kernel_rfl) ⟨rfl,rfl⟩
 simp only [Act.put,List.setIfInBounds_toArray,List.set_cons_succ,List.set_cons_zero];refine sv_new ⟨_,0,rfl⟩ rfl (fun W L vs hvs hL hj hd => ?_) ?_
 ·exact opOK_val (v:=.map (some W.heap.size)) (w':=W.alloc (.map #[] 0)) (by simp [go_sem,execOp,run_makeMap]) ⟨⟨_,rfl⟩,hj.made1 hL⟩
 rintro v1 ⟨b1,rfl⟩;simp only [Act.put,List.setIfInBounds_toArray,List.set_cons_succ,List.set_cons_zero];refine sv_rd rfl (fun w L vs h => h.read (by simp) (by simp) (by simp) (by simp) (by simp) (by simp)) (fun W L vs hvs hL hj => ?_) ?_
 ·simp [opOK,go_sem]
 simp only [Act.put,List.setIfInBounds_toArray,List.set_cons_succ,List.set_cons_zero];refine sv_new ⟨_,rfl⟩ rfl (fun W L vs hvs hL hj hd => ?_) ?_
 ·have hL1:=hd ⟨1,.data⟩ (by simp) rfl
  obtain ⟨b,W',e1,hr,hJ⟩ := hj.insert hL1 hL;have e2:=hvs 1 (.map (some b1)) rfl;rw [e2] at e1;cases e1;unfold htV miss5 at hr;exact opOK_skip (w':=W') (by simp [go_sem,execOp,hr]) ⟨rfl,hJ _⟩
 rintro v3 rfl;simp only [Act.put];refine sv_new ⟨_,0,rfl⟩ rfl (fun W L vs hvs hL hj hd => ?_) ?_
 ·have hL1:=hd ⟨1,.data⟩ (by simp) rfl
  have e2:=hvs 1 (.map (some b1)) rfl;have:=hj.again hL1;rw [e2] at this;exact opOK_val (v:=.map (some b1)) (w':=W) (by simp [go_sem,execOp]) ⟨⟨_,rfl⟩,this⟩
 rintro v4 ⟨b4,rfl⟩;simp only [Act.put,List.setIfInBounds_toArray,List.set_cons_succ,List.set_cons_zero];refine sv_new ⟨_,0,rfl⟩ rfl (fun W L vs hvs hL hj hd => ?_) ?_
 ·exact opOK_val (v:=.map (some W.heap.size)) (w':=W.alloc (.map #[] 0)) (by simp [go_sem,execOp,run_makeMap]) ⟨⟨_,rfl⟩,hj.made5 hL⟩
 rintro v5 ⟨b5,rfl⟩;simp only [Act.put,List.setIfInBounds_toArray,List.set_cons_succ,List.set_cons_zero];refine sv_new ⟨_,0,0,rfl⟩ rfl (fun W L vs hvs hL hj hd => ?_) ?_
 ·have hL4:=hd ⟨4,.data⟩ (by simp) rfl
  have hL5:=hd ⟨5,.data⟩ (by simp) rfl
  exact opOK_val (v:=.agg (gameCells l (.slice a l.beds.length cap) b4 b5)) (w':=W) (by simp [go_sem,execOp,gameCells]) ⟨⟨_,_,rfl⟩,hj.leg hL4 hL5 (hvs 4 _ rfl) (hvs 5 _ rfl)⟩
 rintro v6 ⟨b6,k6,rfl⟩;simp only [Act.put,List.setIfInBounds_toArray,List.set_cons_succ,List.set_cons_zero];refine sv_new ⟨_,0,rfl⟩ rfl (fun W L vs hvs hL hj hd => ?_) ?_
 ·have hL6:=hd ⟨6,.data⟩ (by simp) rfl
  obtain ⟨_,_,b,k,e1,e5,e6⟩ := hj.d6 hL6;have e7:=hvs 6 _ rfl;rw [e6] at e7;have e8 : gameCells l (.slice a l.beds.length cap) b k = gameCells l (.slice a l.beds.length cap) b6 k6:=by cases e7; rfl
  have:=hj.box hL6 e1 e5;rw [e8] at this;exact opOK_val (v:=.pointer (some ⟨W.heap.size,0,none⟩)) (w':=W.alloc (.cells (gameCells l (.slice a l.beds.length cap) b6 k6) 141)) (by simp [go_sem,execOp,gameCells]) ⟨⟨_,rfl⟩,this⟩
 rintro v7 ⟨gb,rfl⟩;simp only [Act.put,List.setIfInBounds_toArray,List.set_cons_succ,List.set_cons_zero];refine sv_end fun vs w3 hvs hj => ?_
 simp only [List.drop_succ_cons,List.drop_zero];obtain ⟨_,g,hb,kb,e7,e1,e5,hg,hbox⟩ := hj.b7 (by decide)
 rw [hvs 7 _ rfl] at e7;cases e7;rw [hvs 1 _ rfl] at e1;cases e1;rw [hvs 5 _ rfl] at e5;cases e5;obtain ⟨b,e1,hb1,hm1⟩ := hj.m1 (by decide)
 rw [hvs 1 _ rfl] at e1;cases e1;rw [if_pos (by decide)] at hm1
 obtain ⟨k,e5,hk5,hm5⟩ := hj.m5 (by decide)
 rw [hvs 5 _ rfl] at e5;cases e5;have hne:=hj.ne (by decide) (by decide)
 rw [hvs 1 _ rfl,hvs 5 _ rfl] at hne;have hbk : b1 ≠ b5:=fun e => hne (by rw [e])
 have HB3:=Lib.hid (bThen HB1.out (hj.below.mono (Nat.le_refl _)));have hlw : w.heap.size < w1.heap.size:=(Array.getElem?_eq_some_iff.1 K.out).1
 have K3:=Lib.hid ((hj.below.block _ hlw).trans K.out);have HS3:=Lib.hid (HS1.out.below hj.below);have HBOX:=Lib.hid hbox;have hgb1 : gb ≠ b1:=fun e => by
  obtain ⟨es,c,hh,_⟩ := hm1;rw [e,hh] at hbox; cases hbox
 have hgb5 : gb ≠ b5:=fun e => by
  obtain ⟨es,c,hh,_⟩ := hm5;rw [e,hh] at hbox; cases hbox
 have HM1 : Hid (HoldsM htV w3 b1 fun h => if h ∈ miss5 :: (l.beds.take 0).map (hitB5 l) then some (.int .i64 ((miss5 :: (l.beds.take 0).map (hitB5 l)).count h : Nat)) else none):=Lib.hid ⟨_,hm1,by simp,fun h => by
  by_cases e : miss5 = h
  ·subst e; simp [lookM]
  ·have e' : ¬ h = miss5:=fun q => e q.symm
   simp [lookM,e,e']⟩
 have HMi0:=Lib.hid hm1;have HM5:=Lib.hid hm5;have c3 : w3.cell? ⟨w.heap.size,3,none⟩ = some (.slice a l.beds.length cap):=by rw [cell_of_heap K3.out]; rfl
 clear hj hvs hbox hm1 hm5 hne HS1 K HB1;go_wp2;clear c3;go_loopw [18] (fun iv wr => ∃ i : Nat,i ≤ l.beds.length ∧ iv = .int .i64 i ∧ Hid (HoldsM htV wr b1 fun h => if h ∈ miss5 :: (l.beds.take i).map (hitB5 l) then some (.int .i64 ((miss5 :: (l.beds.take i).map (hitB5 l)).count h : Nat)) else none) ∧ Hid (MapAt atV wr b5 []) ∧ Hid (Chg (fun q => q = b1) w3 wr)) (fun iv _ => l.beds.length - (intOf iv).toNat)
 case atStart => exact ⟨0,by omega,by go_num,HM1,HM5,Lib.hid Chg.refl⟩
 case round =>
  obtain ⟨i,hi,rfl,HMi,HKi,HCi⟩ := hrel;obtain ⟨wo,rfl⟩ : ∃ wo : World,wo = wr:=⟨_,rfl⟩;have hwlt3 : w.heap.size < w3.heap.size:=(Array.getElem?_eq_some_iff.1 K3.out).1
  by_cases hlt : i < l.beds.length
  ·obtain ⟨bb,off,hal,_,hc⟩ := HS3.out.cell hlt
   cases hal;obtain ⟨x,hx⟩ : ∃ x,l.beds[i] = x:=⟨_,rfl⟩;rw [hx] at hc;have hcb : off + i < off + i + 1:=by omega
   have hcl:=World.block_lt_of_cell? w3 _ hc;have HX:=Lib.hid hx;have hbed:=HV.out.bed x (by rw [← hx]; exact List.getElem_mem hlt)
   have hin:=HBD.out x (by rw [← hx]; exact List.getElem_mem hlt)
   have hbs:=bed_score hbed;obtain ⟨f,hf⟩ : ∃ f,x.tdiv 100 = f:=⟨_,rfl⟩;obtain ⟨n,hn⟩ : ∃ n,x.tmod 100 = n:=⟨_,rfl⟩;obtain ⟨o1,ho1⟩ : ∃ b,opens5 x l.gin = b:=⟨_,rfl⟩;obtain ⟨o2,ho2⟩ : ∃ b,opens5 x l.gout = b:=⟨_,rfl⟩;rw [hf,hn] at hbs;obtain ⟨sc,hsc⟩ : ∃ s,f * n = s:=⟨_,rfl⟩;rw [hsc] at hbs;have hkey : hitB5 l x = ⟨sc,o1,o2⟩ := by unfold hitB5; rw [hf,hn,hsc,ho1,ho2]
   have hwm : IntKind.i64.wrap (f * n) = sc:=by rw [hsc]; exact wrap_small _ (by omega) (by omega)
   obtain ⟨Lm,hLm,hLn,hLk0⟩ := HMi.out;have hLk : ∀ k,lookM Lm k = if k ∈ miss5 :: (l.beds.take i).map (hitB5 l) then some (.int .i64 ((miss5 :: (l.beds.take i).map (hitB5 l)).count k : Nat)) else none:=hLk0
   clear hLk0;obtain ⟨c,hcv⟩ : ∃ c,(miss5 :: (l.beds.take i).map (hitB5 l)).count ⟨sc,o1,o2⟩ = c:=⟨_,rfl⟩;have hcb2 : c ≤ 83:=by
    rw [← hcv];have:=HV.out.beds;exact Nat.le_trans List.count_le_length (by simp; omega)
   have hwc : IntKind.i64.wrap ((c : Int) + 1) = (c : Int) + 1:=wrap_small _ (by omega) (by omega)
   have hlk0 : (lookM Lm (⟨sc,o1,o2⟩ : Ht)).getD (.int .i64 0) = .int .i64 (c : Int):=by
    rw [hLk];split
    ·rw [hcv]; rfl
    ·rename_i hnm
     have : c = 0:=by rw [← hcv]; exact List.count_eq_zero.2 hnm
     rw [this]; rfl
   have hcx : wo.cell? ⟨bb,off + i,none⟩ = some (.int .i64 x):=by
    refine (World.cell?_of_block (w:=w3) (HCi.out.block bb hcl (fun e => ?_))).trans hc
    obtain ⟨es,cl,hh,_⟩ := HMi0.out;rw [e] at hc;unfold World.cell? at hc;rw [hh] at hc;cases hc
   have h7 : wo.cell? ⟨gb,7,none⟩ = some (.map (some b1)):=by
    rw [cell_of_heap ((HCi.out.block gb (Array.getElem?_eq_some_iff.1 HBOX.out).1 hgb1).trans HBOX.out)]; rfl
   have hlb : w.heap.size ≠ b1:=by omega
   have kk:=(HCi.out.block w.heap.size hwlt3 hlb).trans K3.out;have k1 : wo.cell? ⟨w.heap.size,1,none⟩ = some (.int .i64 l.gin):=by rw [cell_of_heap kk]; rfl
   have k2 : wo.cell? ⟨w.heap.size,2,none⟩ = some (.int .i64 l.gout):=by rw [cell_of_heap kk]; rfl
   have HF:=Lib.hid hf;have HN:=Lib.hid hn;have HO1:=Lib.hid ho1;have HO2:=Lib.hid ho2;have HIN:=Lib.hid hin;have HKEY:=Lib.hid hkey;have HCV:=Lib.hid hcv;have HLN:=Lib.hid hLn;have HLK:=Lib.hid hLk;have HLK0:=Lib.hid hlk0;have HLM:=Lib.hid hLm;clear hx hf hn ho1 ho2 hin hbed hkey hcv hLm hLn hLk hlk0 hc kk hbs;go_wp2_with fail;refine (split_any x HIN.out _).mono ?_
   rintro e w' ⟨rfl,rfl⟩;rw [HF.out,HN.out];go_upto_region 6 with fail;clear hcx;refine wp_region_seqV 22 ((fun v => v = .pointer (some ⟨gb,0,none⟩)) :: (fun v => v = .pointer (some ⟨gb,0,none⟩)) :: (fun v => v = .pointer (some ⟨gb,7,none⟩)) :: (fun v => v = .map (some b1)) :: (fun v => v = .int .i64 f) :: (fun v => v = .int .i64 n) :: (fun v => v = .int .i64 sc) :: (fun v => v = .int .i64 x) :: (fun v => v = .pointer (some ⟨w.heap.size,0,none⟩)) :: (fun v => v = .pointer (some ⟨w.heap.size,1,none⟩)) :: (fun v => v = .int .i64 l.gin) :: (fun v => v = .bool o1) :: (fun v => v = .int .i64 x) :: (fun v => v = .pointer (some ⟨w.heap.size,0,none⟩)) :: (fun v => v = .pointer (some ⟨w.heap.size,2,none⟩)) :: (fun v => v = .int .i64 l.gout) :: (fun v => v = .bool o2) :: (fun v => v = .agg #[.int .i64 sc,.bool o1,.bool o2]) :: (fun v => v = .int .i64 (c : Int)) :: (fun v => v = .int .i64 ((c : Int) + 1)) :: (fun v => ∃ (u : Value) (st : Nat),v = .tuple #[u,.int .i64 (st : Nat)]) :: (fun v => ∃ st : Nat,v = .int .i64 (st : Nat)) :: []) (JM htV wo b1 Lm (⟨sc,o1,o2⟩ : Ht) (.int .i64 0) 20 21) rfl mix (by kernel_rfl) (by kernel_rfl) (fun _ _ _ _ hc h => h.congr hc) (fun vs => JM.start HLM.out vs) ?_
   simp only [List.take_succ_cons,List.take_zero]
   iterate 11
    refine sv_rd rfl (fun w L vs h => h.read (by simp) (by simp)) (fun W L vs hvs hL hj => ?_) ?_
    ·have g7:=hj.cell h7 hgb1
     have y1:=hj.cell k1 hlb;have y2:=hj.cell k2 hlb;simp [opOK,go_sem,g7,y1,hwm]
     try exact rfl
    simp only [Act.put,List.setIfInBounds_toArray,List.set_cons_succ,List.set_cons_zero]
   refine sv_rd rfl (fun w L vs h => h.read (by simp) (by simp)) (fun W L vs hvs hL hj => ?_) ?_
   ·refine opOK_call (f:=50) (args:=#[.int .i64 x,.int .i64 l.gin]) (by simp [go_sem]) ?_
    exact (opens_any x l.gin HIN.out W).mono fun e W' ⟨he,hb⟩ => ⟨_,he,by rw [HO1.out],hb.symm⟩
   simp only [Act.put,List.setIfInBounds_toArray,List.set_cons_succ,List.set_cons_zero]
   iterate 4
    refine sv_rd rfl (fun w L vs h => h.read (by simp) (by simp)) (fun W L vs hvs hL hj => ?_) ?_
    ·have g7:=hj.cell h7 hgb1
     have y1:=hj.cell k1 hlb;have y2:=hj.cell k2 hlb;simp [opOK,go_sem,y2]
     try exact rfl
    simp only [Act.put,List.setIfInBounds_toArray,List.set_cons_succ,List.set_cons_zero]
   refine sv_rd rfl (fun w L vs h => h.read (by simp) (by simp)) (fun W L vs hvs hL hj => ?_) ?_
   ·refine opOK_call (f:=50) (args:=#[.int .i64 x,.int .i64 l.gout]) (by simp [go_sem]) ?_
    exact (opens_any x l.gout HIN.out W).mono fun e W' ⟨he,hb⟩ => ⟨_,he,by rw [HO2.out],hb.symm⟩
   simp only [Act.put,List.setIfInBounds_toArray,List.set_cons_succ,List.set_cons_zero];refine sv_rd rfl (fun w L vs h => h.read (by simp) (by simp)) (fun W L vs hvs hL hj => ?_) ?_
   ·have g7:=hj.cell h7 hgb1
    have y1:=hj.cell k1 hlb;have y2:=hj.cell k2 hlb;simp [opOK,go_sem]
    try exact rfl
   simp only [Act.put,List.setIfInBounds_toArray,List.set_cons_succ,List.set_cons_zero];refine sv_rd rfl (fun w L vs h => h.read (by simp) (by simp)) (fun W L vs hvs hL hj => ?_) ?_
   ·obtain ⟨L',hL',hlk'⟩ := hj.je.look
    have:=MapAt.lookup ht_key (T:=138) (E:=3) (by rfl) (zero_i W) hL' (⟨sc,o1,o2⟩ : Ht) false
    rw [hlk',HLK0.out] at this;unfold htV at this;refine opOK_val (v:=.int .i64 c) (w':=W) (by simp [go_sem,execOp,this]) ⟨rfl,rfl⟩
   simp only [Act.put,List.setIfInBounds_toArray,List.set_cons_succ,List.set_cons_zero];refine sv_rd rfl (fun w L vs h => h.read (by simp) (by simp)) (fun W L vs hvs hL hj => ?_) ?_
   ·have g7:=hj.cell h7 hgb1
    have y1:=hj.cell k1 hlb;have y2:=hj.cell k2 hlb;simp [opOK,go_sem,hwc]
    try exact rfl
   simp only [Act.put,List.setIfInBounds_toArray,List.set_cons_succ,List.set_cons_zero];refine sv_new ⟨_,.int .i64 0,0,rfl⟩ rfl (fun W L vs hvs hL hj hd => ?_) ?_
   ·simp only [List.length_append,List.length_cons,List.length_nil,Nat.zero_add,Nat.reduceAdd] at hL ⊢
    obtain ⟨W',st,hrun,hE,hg⟩ := MapAt.entry ht_key (T:=138) (E:=3) (by rfl) (zero_i W) (hj.je.off hL).1 (⟨sc,o1,o2⟩ : Ht)
    rw [HLK0.out] at hrun;unfold htV at hrun;exact opOK_val (v:=.tuple #[.int .i64 (c : Int),.int .i64 (st : Nat)]) (w':=W') (by simp [go_sem,execOp,hrun]) ⟨⟨_,_,rfl⟩,hj.ent hL (by simp) hg hE⟩
   rintro v20 ⟨u20,st20,rfl⟩;simp only [Act.put,List.setIfInBounds_toArray,List.set_cons_succ,List.set_cons_zero];refine sv_new ⟨_,0,rfl⟩ rfl (fun W L vs hvs hL hj hd => ?_) ?_
   ·simp only [List.length_append,List.length_cons,List.length_nil,Nat.zero_add,Nat.reduceAdd] at hL ⊢
    have hL20:=hd ⟨20,.data⟩ (by simp) rfl
    obtain ⟨u,st,e1,hE⟩ := hj.ve hL20;have e2:=hvs 20 (.tuple #[u20,.int .i64 (st20 : Nat)]) (by simp)
    rw [e2] at e1;have e3 : u20 = u ∧ (st20 : Int) = (st : Int):=by cases e1; exact ⟨rfl,rfl⟩
    have e4 : st20 = st:=by omega
    rw [← e4] at hE;exact opOK_val (v:=.int .i64 (st20 : Nat)) (w':=W) (by simp [go_sem,execOp]) ⟨⟨_,rfl⟩,hj.ext hL20 (by simp) hE⟩
   rintro v21 ⟨st,rfl⟩;simp only [Act.put,List.setIfInBounds_toArray,List.set_cons_succ,List.set_cons_zero];refine sv_end fun vs w8 hvs hj => ?_
   simp only [List.drop_succ_cons,List.drop_zero];obtain ⟨_,st',e1,hE⟩ := hj.v_s (by decide)
   rw [hvs 21 (.int .i64 (st : Nat)) (by simp)] at e1
   have e2 : (st : Int) = (st' : Int):=by cases e1; rfl
   have e3 : st = st':=by omega
   rw [← e3] at hE;obtain ⟨W9,hst,hM9,hg9⟩ := hE.store (P:=Tryz.prog) (T:=138) (.int .i64 ((c : Int) + 1));rw [upd_entL] at hM9;refine wpList_opOK (R:=fun _ w => w = W9) rfl (opOK_skip (w':=W9) (by simp [go_sem,execOp,hst]) rfl) fun v w9 hw => ?_
   subst hw;have hgT:=grownBy_trans hj.je.grown hg9;have HC9:=Lib.hid (HCi.out.thenG hgT fun x hx _ => (Option.some.inj hx).symm)
   have HK9:=Lib.hid (HKi.out.keep (hgT.block b5 HKi.out.lt fun e => hbk (Option.some.inj e).symm))
   have HM9 : Hid (HoldsM htV w9 b1 fun h => if h ∈ miss5 :: (l.beds.take (i + 1)).map (hitB5 l) then some (.int .i64 ((miss5 :: (l.beds.take (i + 1)).map (hitB5 l)).count h : Nat)) else none):=Lib.hid ⟨_,hM9,upd_nodup HLN.out _ _,fun h => by
    rw [lookM_upd,HLK.out,List.take_succ_eq_append_getElem hlt,HX.out,List.map_append,List.map_singleton,HKEY.out,← List.cons_append]
    dsimp only
    by_cases e : (⟨sc,o1,o2⟩ : Ht) = h
    ·subst e
     rw [if_pos rfl,if_pos (by simp),List.count_append,HCV.out]
     simp
    ·have e' : ¬ h = ⟨sc,o1,o2⟩ := fun q => e q.symm
     rw [if_neg e,List.count_append];simp [e,e']⟩
   clear hst hE hj hgT hg9 hM9 h7 k1 k2 hvs;go_wp2;go_roundw
   case rel => exact ⟨i + 1,by omega,by go_num,HM9,HK9,HC9⟩
   case measure => simp [intOf]; omega
  ·obtain rfl : i = l.beds.length:=by omega
   have HG : Hid (GameAt l (fun q => q = gb ∨ q = b1 ∨ q = b5) wo gb b1 b5):=Lib.hid ⟨⟨_,(HCi.out.block gb (Array.getElem?_eq_some_iff.1 HBOX.out).1 hgb1).trans HBOX.out⟩,HMi.out.congr fun h => by rw [List.take_length]; rfl,⟨[],HKi.out,List.nodup_nil,fun p hp => by cases hp⟩,.inl rfl,.inr (.inl rfl),.inr (.inr rfl),hbk,hgb5⟩
   have HBF : Hid (Below w.heap.size w wo):=Lib.hid (((Chg.below (O:=fun q => q = b1) HB3.out).trans HCi.out).toBelow (fun q hq h => by omega))
   go_wp2;go_returns;exact ⟨gb,b1,b5,rfl,HBF.out,HG.out,by omega,by omega,by omega⟩
end Go.Proofs.YtnbmgkmcaoafnaaGreatDoor
