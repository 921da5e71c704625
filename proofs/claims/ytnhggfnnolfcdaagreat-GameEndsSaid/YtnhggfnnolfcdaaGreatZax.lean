/- The texts SeqJ, JArr, in build order. -/
import Derived.Test.YtnhggfnnolfcdaaGreatZaw

/- A region whose order is drawn, walked in the text's order, where operations may write: J says what the world is when some have been done. -/
namespace Go.Oche
open Go Go.RowKit

def SeqJVC (P : Program) (ops : Array Oper) (J : (Nat → Bool) → World → Prop) (ks₀ : List Kn) (i : Nat) (k : Kn) (o : Oper) (a : Act) (H : Nat → World → Prop) : Prop :=
 (∃ v,k.s v) ∧
 (∀ w L,L i = false → J L w → (∀ e ∈ o.after.toList,Region.binds .any e = true → L e.on = true ∧ H e.on w) →
  if guardOn ops o a then opOK P o a w (fun v w' => J (setB L i) w' ∧ pres ops ks₀ i o a w w' ∧ k.s v ∧ k.p v w') else J (setB L i) w ∧ k.s undef ∧ k.p undef w)

def SeqJAll (P : Program) (ops : Array Oper) (J : (Nat → Bool) → World → Prop) (ks₀ : List Kn) (K : Act → (Nat → World → Prop) → Prop) : List Kn → List Oper → Act → (Nat → World → Prop) → Nat → Prop
 | _,[],a,H,_ => K a H
 | [],_ :: _,_,_,_ => False
 | k :: ks,o :: l,a,H,i => SeqJVC P ops J ks₀ i k o a H ∧ ∀ v,k.s v → SeqJAll P ops J ks₀ K ks l (a.put o.dst v) (addH H i (k.p v)) (i + 1)

section
variable {P : Program} {ops : Array Oper} {J : (Nat → Bool) → World → Prop} {ks₀ : List Kn} {K : Act → (Nat → World → Prop) → Prop}

theorem seqJ_ks : ∀ {ks : List Kn} {l : List Oper} {a : Act} {H : Nat → World → Prop} {i : Nat} (vs : Nat → Value),SeqJAll P ops J ks₀ K ks l a H i → ∀ j,j < l.length → (∀ m k,m < j → ks[m]? = some k → k.s (vs (i + m))) →
  ∃ k o H',ks[j]? = some k ∧ l[j]? = some o ∧ SeqJVC P ops J ks₀ (i + j) k o (putAll vs (l.take j) i a) H' ∧ (∀ q w,i ≤ q → q < i + j → (∀ k,ks[q - i]? = some k → k.p (vs q) w) → H' q w) ∧ (∀ q w,q < i → H q w → H' q w)
 | [],_ :: _,_,_,_,_,h,_,_,_ => h.elim
 | _,[],_,_,_,_,_,j,hj,_ => by simp at hj
 | k :: ks,o :: l,a,H,i,vs,h,0,_,_ => ⟨k,o,H,rfl,rfl,by simpa [putAll] using h.1,fun q w h1 h2 => by omega,fun q w _ h => h⟩
 | k :: ks,o :: l,a,H,i,vs,h,j + 1,hj,hs => by
  have h0 : k.s (vs i):=by simpa using hs 0 k (by omega) rfl
  obtain ⟨k',o',H',e1,e2,e3,e4,e5⟩ := seqJ_ks vs (h.2 _ h0) j (by simp at hj; omega) (fun m k hm hk => by
   have:=hs (m + 1) k (by omega) (by simpa using hk)
   rwa [show i + (m + 1) = i + 1 + m by omega] at this)
  refine ⟨k',o',H',by simpa using e1,by simpa using e2,by rw [show i + (j + 1) = i + 1 + j by omega]; simpa [putAll] using e3,fun q w h1 h2 hq => ?_,fun q w h1 hq => ?_⟩
  ·by_cases hqi : q = i
   ·subst hqi
    exact e5 q w (by omega) (by unfold addH; rw [if_pos rfl]; exact hq k (by simp))
   ·refine e4 q w (by omega) (by omega) fun k hk => hq k ?_
    rw [show q - i = (q - (i + 1)) + 1 by omega]; simpa using hk
  ·exact e5 q w (by omega) (by unfold addH; rw [if_neg (by omega)]; exact hq)

theorem seqJ_has : ∀ {ks : List Kn} {l : List Oper} {a : Act} {H : Nat → World → Prop} {i : Nat},SeqJAll P ops J ks₀ K ks l a H i → ∀ j,j < l.length → ∃ k v,ks[j]? = some k ∧ k.s v
 | [],_ :: _,_,_,_,h,_,_ => h.elim
 | _,[],_,_,_,_,j,hj => by simp at hj
 | k :: ks,o :: l,a,H,i,h,0,_ => let ⟨⟨v,hv⟩,_⟩ := h.1; ⟨k,v,rfl,hv⟩
 | k :: ks,o :: l,a,H,i,h,j + 1,hj => by
  obtain ⟨⟨v,hv⟩,_⟩ := h.1
  obtain ⟨k',v',e⟩ := seqJ_has (h.2 v hv) j (by simp at hj; omega)
  exact ⟨k',v',by simpa using e⟩

theorem seqJ_end {w : World} : ∀ {kk ks : List Kn} {l : List Oper} {a : Act} {H : Nat → World → Prop} {i : Nat},SeqJAll P ops J ks₀ K ks l a H i → (∀ j,ks[j]? = kk[i + j]?) → (∀ j,j < i → H j w) →
  EndAll (knΦ kk) w (fun a => ∃ H,(∀ j,j < i + l.length → H j w) ∧ K a H) l i a
 | _,_,[],a,H,i,h,_,hH => ⟨H,by simpa using hH,by cases ‹List Kn› <;> exact h⟩
 | _,[],_ :: _,_,_,_,h,_,_ => h.elim
 | kk,k :: ks,o :: l,a,H,i,h,hk,hH => fun v hv => by
  have h0:=hv k (by rw [← Nat.add_zero i,← hk 0]; rfl)
  have:=seqJ_end (kk:=kk) (w:=w) (h.2 v h0.1) (fun j => by rw [show i + 1 + j = i + (j + 1) by omega,← hk (j + 1)]; simp) (fun j hj => by
   unfold addH
   by_cases hji : j = i
   ·rw [if_pos hji]; exact h0.2
   ·rw [if_neg hji]; exact hH j (by omega))
  rw [List.length_cons,show i + (l.length + 1) = i + 1 + l.length by omega]
  exact this

theorem seqJ_free {n : Nat} {a₀ : Act} {ks : List Kn} (hB : freeB ops n a₀.tmps.size = true) (hR : readsB ops n = true) (_hlk : ks.length = n) (h : SeqJAll P ops J ks K ks (ops.toList.take n) a₀ (fun _ _ => True) 0) :
  GenAll P ops (knΦ ks) J a₀ (ops.toList.take n) 0:=by
 simp only [freeB,Bool.and_eq_true,Bool.or_eq_true,beq_iff_eq,decide_eq_true_eq] at hB
 obtain ⟨⟨⟨⟨⟨hn,hback⟩,hdist⟩,hin⟩, -⟩, -⟩ := hB
 have hlen : (ops.toList.take n).length = n:=by simp; omega
 have key : ∀ i o,(ops.toList.take n)[i]? = some o → GenVC P ops (knΦ ks) J a₀ i o:=by
  intro i o ho
  have hi : i < n:=by have:=(List.getElem?_eq_some_iff.1 ho).1; omega
  have hoi : ops[i]? = some o:=by rw [List.getElem?_take,if_pos hi] at ho; simpa using ho
  intro a w L hL0 hb hp ht
  classical
  obtain ⟨vs,hvs⟩ : ∃ vs : Nat → Value, ∀ j,j < n → ((∃ v,knΦ ks j v w ∧ ∀ oj d,ops[j]? = some oj → oj.dst = some d → a.tmps[d]? = some v) → knΦ ks j (vs j) w ∧ ∀ oj d,ops[j]? = some oj → oj.dst = some d → a.tmps[d]? = some (vs j)) ∧ ∀ k,ks[j]? = some k → k.s (vs j):=by
   refine ⟨fun j => if hj : ∃ v,knΦ ks j v w ∧ ∀ oj d,ops[j]? = some oj → oj.dst = some d → a.tmps[d]? = some v then Classical.choose hj else if hj2 : ∃ v, ∃ k,ks[j]? = some k ∧ k.s v then Classical.choose hj2 else undef,fun j hj => ?_⟩
   by_cases hj1 : ∃ v,knΦ ks j v w ∧ ∀ oj d,ops[j]? = some oj → oj.dst = some d → a.tmps[d]? = some v
   ·simp only [dif_pos hj1]
    have hc:=Classical.choose_spec hj1
    exact ⟨fun _ => hc,fun k hk => (hc.1 k hk).1⟩
   ·simp only [dif_neg hj1]
    refine ⟨fun hx => (hj1 hx).elim,fun k hk => ?_⟩
    obtain ⟨k',v',hk',hv'⟩ := seqJ_has h j (by omega)
    have hj2 : ∃ v, ∃ k,ks[j]? = some k ∧ k.s v:=⟨v',k',hk',hv'⟩
    rw [dif_pos hj2]
    obtain ⟨k2,hk2,hs2⟩ := Classical.choose_spec hj2
    rw [hk] at hk2
    cases hk2
    exact hs2
  obtain ⟨k,o',H',e1,e2,⟨_,hop⟩,e4, -⟩ := seqJ_ks vs h i (by omega) (fun m k hm hk => by rw [Nat.zero_add]; exact (hvs m (by omega)).2 k hk)
  rw [ho] at e2
  cases e2
  have hlt : ∀ e ∈ o.after.toList,Region.binds .any e = true → e.on < i:=fun e he hbe => by
   have h1:=List.all_eq_true.1 hback (o,i) (List.mem_iff_getElem?.2 ⟨i,by simp only [List.getElem?_zipIdx,Array.getElem?_toList,hoi,Option.map_some,Nat.zero_add]⟩)
   have h2:=List.all_eq_true.1 h1 e (by simpa using he)
   simpa [hbe] using h2
  have hdep : ∀ e ∈ o.after.toList,Region.binds .any e = true → knΦ ks e.on (vs e.on) w ∧ ∀ oj d,ops[e.on]? = some oj → oj.dst = some d → a.tmps[d]? = some (vs e.on):=fun e he hbe => by
   obtain ⟨oj,v,h1,_,h2,h3⟩ := hp e he hbe
   refine (hvs e.on (by have:=hlt e he hbe; omega)).1 ⟨v,h2,fun oj' d hoj hd => ?_⟩
   rw [h1] at hoj
   cases hoj
   exact h3 d hd
  rw [Nat.zero_add] at hop
  have hop:=hop w L hL0 hb (fun e he hbe => ⟨(let ⟨_,_,_,h2,_⟩ := hp e he hbe; h2),e4 e.on w (Nat.zero_le _) (by have:=hlt e he hbe; omega) fun k hk => ((hdep e he hbe).1 k (by simpa using hk)).2⟩)
  have hread : ((match o.op with | .select _ _ => false | _ => true) = true) ∧ ∀ t ∈ o.looksAt ops,(∃ e ∈ o.after.toList,Region.binds .any e = true ∧ (ops[e.on]?).bind (·.dst) = some t) ∨
    (ops.toList.all fun oj => oj.dst != some t || oj.after.toList.any fun e => Region.binds .any e && e.on == i) = true:=by
   have h1:=List.all_eq_true.1 hR (o,i) (List.mem_iff_getElem?.2 ⟨i,by rw [List.getElem?_zipIdx,ho]; simp⟩)
   simp only [Bool.and_eq_true] at h1
   refine ⟨h1.1,fun t ht => ?_⟩
   have h2:=List.all_eq_true.1 h1.2 t ht
   simp only [Bool.or_eq_true] at h2
   rcases h2 with h2 | h2
   ·left
    obtain ⟨e,he,h3⟩ := List.any_eq_true.1 h2
    simp only [Bool.and_eq_true,beq_iff_eq] at h3
    exact ⟨e,he,h3.1,h3.2⟩
   ·exact .inr h2
  have hsel : ∀ cs b,o.op ≠ .select cs b:=fun cs b hc => by have:=hread.1; rw [hc] at this; cases this
  have hsz : ∀ d oj j,ops[j]? = some oj → j < n → oj.dst = some d → d < a₀.tmps.size:=fun d oj j hj hjn hd => by
   have hmem : oj ∈ ops.toList.take n:=List.mem_of_getElem? (i:=j) (by rw [List.getElem?_take,if_pos hjn]; simpa using hj)
   have:=List.all_eq_true.1 hin oj hmem
   rw [hd] at this
   simpa using this
  have hdval : ∀ e ∈ o.after.toList,Region.binds .any e = true → ∀ oj d,ops[e.on]? = some oj → oj.dst = some d → (putAll vs ((ops.toList.take n).take i) 0 a₀).tmps[d]? = some (vs e.on):=by
   intro e he hbe oj t hoj hdj
   have hei:=hlt e he hbe
   have hd2 : distB ((ops.toList.take n).take i) = true:=by
    have : ∀ (l : List Oper) (m : Nat),distB l = true → distB (l.take m) = true:=by
     intro l
     induction l with
     | nil => intro m _; simp [distB]
     | cons x l ih =>
      intro m hx
      cases m with
      | zero => rfl
      | succ m =>
       simp only [distB,Bool.and_eq_true,List.take_succ_cons] at hx ⊢
       refine ⟨?_,ih m hx.2⟩
       cases hxd : x.dst with
       | none => rfl
       | some d =>
        have h1:=hx.1
        rw [hxd] at h1
        exact List.all_eq_true.2 fun y hy => List.all_eq_true.1 h1 y (List.mem_of_mem_take hy)
    exact this _ _ hdist
   have:=putAll_some vs t ((ops.toList.take n).take i) 0 a₀ e.on oj hd2 (by rw [List.getElem?_take,if_pos hei,List.getElem?_take,if_pos (by omega)]; simpa using hoj) hdj (hsz t oj e.on hoj (by omega) hdj)
   rw [this,Nat.zero_add]
  have heq : ∀ t ∈ o.looksAt ops,a.tmps[t]? = (putAll vs ((ops.toList.take n).take i) 0 a₀).tmps[t]? := by
   intro t hmem
   rcases hread.2 t hmem with ⟨e,he,hbe,hd⟩ | hall
   ·obtain ⟨oj,hoj,hdj⟩ := Option.bind_eq_some_iff.1 hd
    rw [(hdep e he hbe).2 oj t hoj hdj,hdval e he hbe oj t hoj hdj]
   ·rw [ht t hall,putAll_none]
    intro oj hoj hd
    obtain ⟨j,hj⟩ := List.getElem?_of_mem hoj
    rw [List.getElem?_take] at hj
    split at hj
    ·rename_i hji
     rw [List.getElem?_take,if_pos (by omega)] at hj
     have hj' : ops[j]? = some oj:=by simpa using hj
     have h1:=List.all_eq_true.1 hall oj (by simpa using Array.mem_of_getElem? hj')
     simp only [Bool.or_eq_true,List.any_eq_true,Bool.and_eq_true,beq_iff_eq,bne_iff_ne,ne_eq] at h1
     rcases h1 with h1 | ⟨e,he,hbe,hei⟩
     ·exact h1 hd
     ·have h2:=List.all_eq_true.1 hback (oj,j) (List.mem_iff_getElem?.2 ⟨j,by simp only [List.getElem?_zipIdx,Array.getElem?_toList,hj',Option.map_some,Nat.zero_add]⟩)
      have h3:=List.all_eq_true.1 h2 e (by simpa using he)
      simp only [hbe,Bool.not_true,Bool.false_or,decide_eq_true_eq] at h3
      omega
    ·cases hj
  have hev : execOp a.eval o = execOp (putAll vs ((ops.toList.take n).take i) 0 a₀).eval o:=execOp_congr o hsel fun x hx => by
   cases x with
   | tmp t =>
    have:=heq t (List.mem_append_left _ (List.mem_filterMap.2 ⟨.tmp t,by simpa using hx,rfl⟩))
    simp only [Act.eval,Array.getD_eq_getD_getElem?,this]
   | const v => rfl
   | global g => rfl
   | func f => rfl
  have hgd : Region.wanted o (yielded ops a.tmps) = guardOn ops o (putAll vs ((ops.toList.take n).take i) 0 a₀):=by
   unfold guardOn Region.wanted
   cases hg : o.guard with
   | none => rfl
   | some jb =>
    obtain ⟨j,b⟩ := jb
    have : yielded ops a.tmps j = yielded ops (putAll vs ((ops.toList.take n).take i) 0 a₀).tmps j:=by
     unfold yielded
     cases hd : (ops[j]?).bind (·.dst) with
     | none => rfl
     | some t =>
      simp only [Option.bind_some]
      rw [heq t (List.mem_append_right _ (by rw [hg]; simp [hd]))]
    simp only [this]
  rw [hgd]
  have hok : ∀ R,opOK P o (putAll vs ((ops.toList.take n).take i) 0 a₀) w R → opOK P o a w R:=fun R hR => by
   unfold opOK at *
   rw [hev]; exact hR
  split at hop
  ·rename_i hg
   rw [if_pos hg]
   refine hok _ (opOK_mono hop fun v w' ⟨h1,hpr,h2,h3⟩ => ⟨h1,fun j hj _ u hu hut kj hkj => ?_,fun k' hk' => ?_⟩)
   ·have:=hu kj hkj
    refine ⟨this.1,hpr j kj hkj (by omega) u this.1 (fun ⟨e,he,hbe,hej⟩ oj d hoj hd => ?_) this.2⟩
    subst hej
    have h1:=(hdep e he hbe).2 oj d hoj hd
    rw [hut oj d hoj hd] at h1
    rw [hdval e he hbe oj d hoj hd,h1]
   ·rw [e1] at hk'
    cases hk'
    exact ⟨h2,h3⟩
  ·rename_i hg
   rw [if_neg hg]
   refine ⟨hop.1,fun k' hk' => ?_⟩
   rw [e1] at hk'
   cases hk'
   exact hop.2
 have all : ∀ (l : List Oper) (i : Nat),(∀ j o,l[j]? = some o → GenVC P ops (knΦ ks) J a₀ (i + j) o) → GenAll P ops (knΦ ks) J a₀ l i:=by
  intro l
  induction l with
  | nil => intro i _; trivial
  | cons o l ih =>
   intro i hl
   refine ⟨by simpa using hl 0 o rfl,ih (i + 1) fun j o' hj => ?_⟩
   have:=hl (j + 1) o' (by simpa using hj)
   rwa [show i + (j + 1) = i + 1 + j by omega] at this
 exact all _ 0 fun j o ho => by rw [Nat.zero_add]; exact key j o ho
end


def seqJK (J : (Nat → Bool) → World → Prop) (K : Act → World → Prop) (n : Nat) : Act → (Nat → World → Prop) → Prop:=fun a H => ∀ w',J (fun j => decide (j < n)) w' → (∀ j,j < n → H j w') → K a w'

section
variable {P : Program} {id : Nat} {l : List Oper} {a : Act} {w : World} {Q : Exit → Act → World → Prop} {ks : List Kn}
theorem seqJ_parts (n : Nat) (J : (Nat → Bool) → World → Prop) (hlk : ks.length = n) (hB : freeB l.toArray n a.tmps.size = true) (hR : readsB l.toArray n = true) {K : Act → World → Prop} (h : SeqJAll P l.toArray J ks (seqJK J K n) ks (l.take n) a (fun _ _ => True) 0) :
  GenAll P l.toArray (knΦ ks) J a (l.take n) 0 ∧ ∀ w',J (fun j => decide (j < n)) w' → EndAll (knΦ ks) w' (fun a => K a w') (l.take n) 0 a:=by
 have hn : n ≤ l.length:=by simp only [freeB,Bool.and_eq_true,decide_eq_true_eq] at hB; simpa using hB.1.1.1.1.1
 have hlen : (l.take n).length = n:=by simp; omega
 refine ⟨seqJ_free (ops:=l.toArray) hB hR hlk h,fun w' hb => ?_⟩
 have:=seqJ_end (w:=w') (kk:=ks) h (fun j => by simp) (fun j hj => by omega)
 rw [hlen] at this
 have mono : ∀ (l : List Oper) (i : Nat) (a : Act) (X Y : Act → Prop),(∀ a,X a → Y a) → EndAll (knΦ ks) w' X l i a → EndAll (knΦ ks) w' Y l i a:=by
  intro l
  induction l with
  | nil => intro i a X Y hXY hx; exact hXY _ hx
  | cons o l ih => intro i a X Y hXY hx v hv; exact ih _ _ _ _ hXY (hx v hv)
 exact mono _ _ _ _ _ (fun a ⟨H,hH,hK⟩ => hK w' hb (by simpa using hH)) this

theorem wp_region_seqJ (n : Nat) (ks : List Kn) (J : (Nat → Bool) → World → Prop) (hlk : ks.length = n) (hmix : P.follows .mixedOrders = true) (hB : freeB l.toArray n a.tmps.size = true) (hR : readsB l.toArray n = true) (h0 : J (fun _ => false) w.drew)
  (h : SeqJAll P l.toArray J ks (seqJK J (fun a w' => wpList P l.toArray Q (l.drop n) a w') n) ks (l.take n) a (fun _ _ => True) 0) : (Code.region id l.toArray true).wp P Q a w :=
 have ⟨h1,h2⟩ := seqJ_parts n J hlk hB hR h
 wp_region_gen n (knΦ ks) J hmix hB h0 h1 h2

end
/-! Where all values are known ahead. -/
def SeqCAll (P : Program) (ops : Array Oper) (J : (Nat → Bool) → World → Prop) (K : Act → Prop) : List Value → List Oper → Act → Nat → Prop
 | _,[],a,_ => K a
 | [],_ :: _,_,_ => False
 | c :: cs,o :: l,a,i => (∀ w L,L i = false → J L w → (∀ e ∈ o.after.toList,Region.binds .any e = true → L e.on = true) →
   if guardOn ops o a then opOK P o a w (fun v w' => v = c ∧ J (setB L i) w') else J (setB L i) w ∧ c = undef) ∧ SeqCAll P ops J K cs l (a.put o.dst c) (i + 1)
section
variable {P : Program} {ops : Array Oper} {J : (Nat → Bool) → World → Prop} {o : Oper} {l : List Oper} {a : Act} {i : Nat}
theorem pres_con {cs : List Value} {w w' : World} : pres ops (cs.map Kn.is) i o a w w':=fun j k hk _ v _ _ _ => by
 obtain ⟨c,_,rfl⟩ := List.mem_map.1 (List.mem_of_getElem? hk)
 trivial
theorem seqC_J {cs₀ : List Value} {K : Act → World → Prop} {n : Nat} : ∀ {cs : List Value} {l : List Oper} {a : Act} {i : Nat} (H : Nat → World → Prop),SeqCAll P ops J (fun a => ∀ w',J (fun j => decide (j < n)) w' → K a w') cs l a i →
  SeqJAll P ops J (cs₀.map Kn.is) (seqJK J K n) (cs.map Kn.is) l a H i
 | [],[],_,_,_,h => fun w' hJ _ => h w' hJ
 | _ :: _,[],_,_,_,h => fun w' hJ _ => h w' hJ
 | [],_ :: _,_,_,_,h => h.elim
 | c :: cs,o :: l,a,i,H,h => by
  refine ⟨⟨⟨c,rfl⟩,fun w L hL hJ hd => ?_⟩,fun v hv => by cases hv; exact seqC_J _ h.2⟩
  have:=h.1 w L hL hJ fun e he hb => (hd e he hb).1
  split at this
  ·rename_i hg
   rw [if_pos hg]
   exact opOK_mono this fun v w' ⟨h1,h2⟩ => ⟨h2,pres_con,h1,trivial⟩
  ·rename_i hg
   rw [if_neg hg]
   exact ⟨this.1,this.2.symm,trivial⟩
theorem wp_region_seqC {id : Nat} {w : World} {Q : Exit → Act → World → Prop} (n : Nat) (cs : List Value) (J : (Nat → Bool) → World → Prop) (hlk : cs.length = n) (hmix : P.follows .mixedOrders = true) (hB : freeB l.toArray n a.tmps.size = true) (hR : readsB l.toArray n = true) (h0 : J (fun _ => false) w.drew)
  (h : SeqCAll P l.toArray J (fun a => ∀ w',J (fun j => decide (j < n)) w' → wpList P l.toArray Q (l.drop n) a w') cs (l.take n) a 0) : (Code.region id l.toArray true).wp P Q a w :=
 wp_region_seqJ n (cs.map Kn.is) J (by simpa using hlk) hmix hB hR h0 (seqC_J _ h)
variable {K : Act → Prop} {c : Value} {cs : List Value}
theorem sc_is (hg : o.guard = none) (h : ∀ w L,L i = false → J L w → (∀ e ∈ o.after.toList,Region.binds .any e = true → L e.on = true) → opOK P o a w (fun v w' => v = c ∧ J (setB L i) w'))
  (hr : SeqCAll P ops J K cs l (a.put o.dst c) (i + 1)) : SeqCAll P ops J K (c :: cs) (o :: l) a i:=by
 refine ⟨fun w L hL hJ hd => ?_,hr⟩
 rw [if_pos (by simp [guardOn,Region.wanted,hg])]
 exact h w L hL hJ hd
theorem sc_rd (hg : o.guard = none) (hJ : ∀ w L,L i = false → J L w → J (setB L i) w) (h : ∀ w L,L i = false → J L w → opOK P o a w (fun v w' => v = c ∧ w' = w))
  (hr : SeqCAll P ops J K cs l (a.put o.dst c) (i + 1)) : SeqCAll P ops J K (c :: cs) (o :: l) a i :=
 sc_is hg (fun w L hL hj _ => opOK_mono (h w L hL hj) fun _ _ ⟨h1,h2⟩ => ⟨h1,by rw [h2]; exact hJ w L hL hj⟩) hr
theorem sc_end (h : K a) : SeqCAll P ops J K cs [] a i:=by cases cs <;> exact h
end
structure JCell (w0 : World) (st : Nat) (rd : List Nat) (p : Addr) (v : Value) (L : Nat → Bool) (W : World) : Prop where
 eq : W = if L st = true then w0.setCell p v else w0
 rds : L st = true → ∀ i ∈ rd,L i = true
section
variable {w0 W : World} {st : Nat} {rd : List Nat} {p : Addr} {v : Value} {L : Nat → Bool}
theorem JCell.start : JCell w0 st rd p v (fun _ => false) w0:=⟨rfl,fun h => (by cases h)⟩
theorem JCell.cell (h : JCell w0 st rd p v L W) {b o : Nat} {x : Value} (hv : w0.cell? ⟨b,o,none⟩ = some x) (hb : b ≠ p.block) : W.cell? ⟨b,o,none⟩ = some x:=by
 rw [h.eq]
 split
 ·rw [World.cell?_of_block (w:=w0) (Below.heap_setCell _ _ _ _ hb)]; exact hv
 ·exact hv
theorem JCell.look (h : JCell w0 st rd p v L W) {i : Nat} (hi : i ∈ rd) (hL : L i = false) : W = w0:=by
 rw [h.eq]
 split
 ·rename_i hs
  rw [h.rds hs i hi] at hL; cases hL
 ·rfl
theorem JCell.read (h : JCell w0 st rd p v L W) {i : Nat} (hi : st ≠ i) : JCell w0 st rd p v (setB L i) W:=by
 refine ⟨by rw [setB_ne hi]; exact h.eq,fun h' j hj => ?_⟩
 rw [setB_ne hi] at h'
 unfold setB
 split
 ·rfl
 ·exact h.rds h' j hj
theorem JCell.before (h : JCell w0 st rd p v L W) (hL : L st = false) : W = w0:=by rw [h.eq,hL]; rfl
theorem JCell.store (h : ∀ i ∈ rd,L i = true) : JCell w0 st rd p v (setB L st) (w0.setCell p v):=by
 refine ⟨by rw [setB_eq,if_pos rfl],fun _ j hj => ?_⟩
 unfold setB
 split
 ·rfl
 ·exact h j hj
theorem JCell.done (h : JCell w0 st rd p v L W) (hL : L st = true) : W = w0.setCell p v:=by rw [h.eq,hL]; rfl
end
end Go.Oche

/- A region that draws its order, in which some cells of one block are written, while others read: what the block holds follows from which stores were done. -/
namespace Go.Oche
open Go Go.RowKit
structure JArr (w0 : World) (bk : Nat) (t : TypeId) (A : (Nat → Bool) → Array Value) (L : Nat → Bool) (W : World) : Prop where
 os : W.os = w0.os
 tape : W.tape = w0.tape
 output : W.output = w0.output
 size : W.heap.size = w0.heap.size
 same : ∀ k,k ≠ bk → W.heap[k]? = w0.heap[k]?
 at_ : W.heap[bk]? = some (.cells (A L) t (0,0))
section
variable {w0 W : World} {bk : Nat} {t : TypeId} {A : (Nat → Bool) → Array Value} {L : Nat → Bool}
theorem JArr.start (h : w0.heap[bk]? = some (.cells (A fun _ => false) t (0,0))) : JArr w0 bk t A (fun _ => false) w0:=⟨rfl,rfl,rfl,rfl,fun _ _ => rfl,h⟩
theorem JArr.read (h : JArr w0 bk t A L W) {i : Nat} (hA : A (setB L i) = A L) : JArr w0 bk t A (setB L i) W:=⟨h.os,h.tape,h.output,h.size,h.same,by rw [hA]; exact h.at_⟩
theorem JArr.cell (h : JArr w0 bk t A L W) {b o : Nat} {x : Value} (hv : w0.cell? ⟨b,o,none⟩ = some x) (hb : b ≠ bk) : W.cell? ⟨b,o,none⟩ = some x :=
 (World.cell?_of_block (w:=w0) (h.same b hb)).trans hv
theorem JArr.own (h : JArr w0 bk t A L W) {o : Nat} {x : Value} (hx : (A L)[o]? = some x) : W.cell? ⟨bk,o,none⟩ = some x:=by rw [cell_of_heap h.at_]; exact hx
theorem JArr.free (h : JArr w0 bk t A L W) (o : Nat) : W.frozen? ⟨bk,o,none⟩ = false:=frozen_of_heap h.at_
theorem JArr.store (h : JArr w0 bk t A L W) {i o : Nat} {v : Value} (hA : (A L).setIfInBounds o v = A (setB L i)) : JArr w0 bk t A (setB L i) (W.setCell ⟨bk,o,none⟩ v) :=
 ⟨h.os,h.tape,h.output,by simp [h.size],fun k hk => (Below.heap_setCell _ _ _ _ hk).trans (h.same k hk),by rw [heap_setCell_at h.at_,hA]⟩
theorem JArr.storeRow (h : JArr w0 bk t A L W) {i : Nat} {c : Array Value} (hA : c = A (setB L i)) : JArr w0 bk t A (setB L i) (W.setRow bk c) :=
 ⟨h.os,h.tape,h.output,by rw [setRow_size]; exact h.size,fun k hk => (setRow_other _ _ _ _ hk).trans (h.same k hk),by rw [← hA]; exact setRow_heap _ _ _ _ _ _ h.at_⟩
theorem JArr.below (h : JArr w0 bk t A L W) {B : Nat} {w : World} (hb : Below B w w0) (hk : B ≤ bk) : Below B w W :=
 ⟨h.os.trans hb.os,h.tape.trans hb.tape,h.output.trans hb.output,by rw [h.size]; exact hb.size,fun k hl => (h.same k (by omega)).trans (hb.block k hl)⟩
theorem JArr.keep (h : JArr w0 bk t A L W) {k : Nat} {x : Obj} (hx : w0.heap[k]? = some x) (hk : k ≠ bk) : W.heap[k]? = some x:=(h.same k hk).trans hx
end
section
variable {P : Program} {ops : Array Oper} {J : (Nat → Bool) → World → Prop} {o : Oper} {l : List Oper} {a : Act} {i : Nat} {K : Act → Prop} {c : Value} {cs : List Value}
theorem sc_on (hg : guardOn ops o a = true) (hJ : ∀ w L,L i = false → J L w → J (setB L i) w) (h : ∀ w L,L i = false → J L w → opOK P o a w (fun v w' => v = c ∧ w' = w))
  (hr : SeqCAll P ops J K cs l (a.put o.dst c) (i + 1)) : SeqCAll P ops J K (c :: cs) (o :: l) a i:=by
 refine ⟨fun w L hL hj hd => ?_,hr⟩
 rw [if_pos hg]
 exact opOK_mono (h w L hL hj) fun _ _ ⟨h1,h2⟩ => ⟨h1,by rw [h2]; exact hJ w L hL hj⟩
end
end Go.Oche
