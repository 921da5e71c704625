/- The texts Seq, Range, Sl, Blk, in build order. -/
import Derived.Test.YtnhggfnnolfcdaaGreatZaa
import Derived.RangeFuncNested
import Derived.RangeFuncCalls
import Derived.RangeFuncLeaves
import Derived.Below
import Derived.WalkKit
import Derived.Lib.Hide
import Derived.Outline

/- A region whose order is drawn, walked in the text's order: each operation at any world that has grown since. -/
namespace Go.Oche
open Go Go.RowKit

structure Kn where
 s : Value → Prop
 p : Value → World → Prop
 m : ∀ v w w',Below w.heap.size w w' → p v w → p v w'
def Kn.is (c : Value) : Kn:=⟨fun v => v = c,fun _ _ => True,fun _ _ _ _ h => h⟩
def pres (ops : Array Oper) (ks : List Kn) (i : Nat) (o : Oper) (a : Act) (w w' : World) : Prop := ∀ j k,ks[j]? = some k → j ≠ i → ∀ v,k.s v →
 ((∃ e ∈ o.after.toList,Region.binds .any e = true ∧ e.on = j) → ∀ oj d,ops[j]? = some oj → oj.dst = some d → a.tmps[d]? = some v) → k.p v w → k.p v w'
theorem pres_below {ops : Array Oper} {ks : List Kn} {i : Nat} {o : Oper} {a : Act} {w w' : World} (h : Below w.heap.size w w') : pres ops ks i o a w w':=fun _ k _ _ v _ _ hp => k.m v w w' h hp
def knΦ (ks : List Kn) (i : Nat) (v : Value) (w : World) : Prop := ∀ k,ks[i]? = some k → k.s v ∧ k.p v w
def guardOn (ops : Array Oper) (o : Oper) (a : Act) : Bool:=Region.wanted o (yielded ops a.tmps)
def addH (H : Nat → World → Prop) (i : Nat) (p : World → Prop) : Nat → World → Prop:=fun j w => if j = i then p w else H j w

def SeqVC (P : Program) (ops : Array Oper) (w₀ : World) (ks₀ : List Kn) (i : Nat) (k : Kn) (o : Oper) (a : Act) (H : Nat → World → Prop) : Prop :=
 (∃ v,k.s v) ∧
 (∀ w,Below w₀.heap.size w₀ w → (∀ e ∈ o.after.toList,Region.binds .any e = true → H e.on w) →
  if guardOn ops o a then opOK P o a w (fun v w' => Below w₀.heap.size w w' ∧ pres ops ks₀ i o a w w' ∧ k.s v ∧ k.p v w') else k.s undef ∧ k.p undef w)

def SeqAll (P : Program) (ops : Array Oper) (w₀ : World) (ks₀ : List Kn) (K : Act → (Nat → World → Prop) → Prop) : List Kn → List Oper → Act → (Nat → World → Prop) → Nat → Prop
 | _,[],a,H,_ => K a H
 | [],_ :: _,_,_,_ => False
 | k :: ks,o :: l,a,H,i => SeqVC P ops w₀ ks₀ i k o a H ∧ ∀ v,k.s v → SeqAll P ops w₀ ks₀ K ks l (a.put o.dst v) (addH H i (k.p v)) (i + 1)

def readsB (ops : Array Oper) (n : Nat) : Bool :=
 (ops.toList.take n).zipIdx.all fun (o,i) => (match o.op with | .select _ _ => false | _ => true) &&
  (o.looksAt ops).all fun t => (o.after.toList.any fun e => Region.binds .any e && ((ops[e.on]?).bind (·.dst) == some t)) ||
   (ops.toList.all fun oj => oj.dst != some t || oj.after.toList.any fun e => Region.binds .any e && e.on == i)

section
variable {P : Program} {ops : Array Oper} {w₀ : World} {ks₀ : List Kn} {K : Act → (Nat → World → Prop) → Prop}

theorem seqAll_ks : ∀ {ks : List Kn} {l : List Oper} {a : Act} {H : Nat → World → Prop} {i : Nat} (vs : Nat → Value),SeqAll P ops w₀ ks₀ K ks l a H i → ∀ j,j < l.length → (∀ m k,m < j → ks[m]? = some k → k.s (vs (i + m))) →
  ∃ k o H',ks[j]? = some k ∧ l[j]? = some o ∧ SeqVC P ops w₀ ks₀ (i + j) k o (putAll vs (l.take j) i a) H' ∧ (∀ q w,i ≤ q → q < i + j → (∀ k,ks[q - i]? = some k → k.p (vs q) w) → H' q w) ∧ (∀ q w,q < i → H q w → H' q w)
 | [],_ :: _,_,_,_,_,h,_,_,_ => h.elim
 | _,[],_,_,_,_,_,j,hj,_ => by simp at hj
 | k :: ks,o :: l,a,H,i,vs,h,0,_,_ => ⟨k,o,H,rfl,rfl,by simpa [putAll] using h.1,fun q w h1 h2 => by omega,fun q w _ h => h⟩
 | k :: ks,o :: l,a,H,i,vs,h,j + 1,hj,hs => by
  have h0 : k.s (vs i):=by simpa using hs 0 k (by omega) rfl
  obtain ⟨k',o',H',e1,e2,e3,e4,e5⟩ := seqAll_ks vs (h.2 _ h0) j (by simp at hj; omega) (fun m k hm hk => by
   have:=hs (m + 1) k (by omega) (by simpa using hk)
   rwa [show i + (m + 1) = i + 1 + m by omega] at this)
  refine ⟨k',o',H',by simpa using e1,by simpa using e2,by rw [show i + (j + 1) = i + 1 + j by omega]; simpa [putAll] using e3,fun q w h1 h2 hq => ?_,fun q w h1 hq => ?_⟩
  ·by_cases hqi : q = i
   ·subst hqi
    exact e5 q w (by omega) (by unfold addH; rw [if_pos rfl]; exact hq k (by simp))
   ·refine e4 q w (by omega) (by omega) fun k hk => hq k ?_
    rw [show q - i = (q - (i + 1)) + 1 by omega]; simpa using hk
  ·exact e5 q w (by omega) (by unfold addH; rw [if_neg (by omega)]; exact hq)

theorem seqAll_has : ∀ {ks : List Kn} {l : List Oper} {a : Act} {H : Nat → World → Prop} {i : Nat},SeqAll P ops w₀ ks₀ K ks l a H i → ∀ j,j < l.length → ∃ k v,ks[j]? = some k ∧ k.s v
 | [],_ :: _,_,_,_,h,_,_ => h.elim
 | _,[],_,_,_,_,j,hj => by simp at hj
 | k :: ks,o :: l,a,H,i,h,0,_ => let ⟨⟨v,hv⟩,_⟩ := h.1; ⟨k,v,rfl,hv⟩
 | k :: ks,o :: l,a,H,i,h,j + 1,hj => by
  obtain ⟨⟨v,hv⟩,_⟩ := h.1
  obtain ⟨k',v',e⟩ := seqAll_has (h.2 v hv) j (by simp at hj; omega)
  exact ⟨k',v',by simpa using e⟩

theorem seqAll_end {w : World} : ∀ {kk ks : List Kn} {l : List Oper} {a : Act} {H : Nat → World → Prop} {i : Nat},SeqAll P ops w₀ ks₀ K ks l a H i → (∀ j,ks[j]? = kk[i + j]?) → (∀ j,j < i → H j w) →
  EndAll (knΦ kk) w (fun a => ∃ H,(∀ j,j < i + l.length → H j w) ∧ K a H) l i a
 | _,_,[],a,H,i,h,_,hH => ⟨H,by simpa using hH,by cases ‹List Kn› <;> exact h⟩
 | _,[],_ :: _,_,_,_,h,_,_ => h.elim
 | kk,k :: ks,o :: l,a,H,i,h,hk,hH => fun v hv => by
  have h0:=hv k (by rw [← Nat.add_zero i,← hk 0]; rfl)
  have:=seqAll_end (kk:=kk) (w:=w) (h.2 v h0.1) (fun j => by rw [show i + 1 + j = i + (j + 1) by omega,← hk (j + 1)]; simp) (fun j hj => by
   unfold addH
   by_cases hji : j = i
   ·rw [if_pos hji]; exact h0.2
   ·rw [if_neg hji]; exact hH j (by omega))
  rw [List.length_cons,show i + (l.length + 1) = i + 1 + l.length by omega]
  exact this

theorem seqAll_free {n : Nat} {a₀ : Act} {ks : List Kn} (hB : freeB ops n a₀.tmps.size = true) (hR : readsB ops n = true) (_hlk : ks.length = n) (h : SeqAll P ops w₀ ks K ks (ops.toList.take n) a₀ (fun _ _ => True) 0) :
  GenAll P ops (knΦ ks) (fun _ w => Below w₀.heap.size w₀ w) a₀ (ops.toList.take n) 0:=by
 simp only [freeB,Bool.and_eq_true,Bool.or_eq_true,beq_iff_eq,decide_eq_true_eq] at hB
 obtain ⟨⟨⟨⟨⟨hn,hback⟩,hdist⟩,hin⟩, -⟩, -⟩ := hB
 have hlen : (ops.toList.take n).length = n:=by simp; omega
 have key : ∀ i o,(ops.toList.take n)[i]? = some o → GenVC P ops (knΦ ks) (fun _ w => Below w₀.heap.size w₀ w) a₀ i o:=by
  intro i o ho
  have hi : i < n:=by have:=(List.getElem?_eq_some_iff.1 ho).1; omega
  have hoi : ops[i]? = some o:=by rw [List.getElem?_take,if_pos hi] at ho; simpa using ho
  intro a w L _ hb hp ht
  classical
  obtain ⟨vs,hvs⟩ : ∃ vs : Nat → Value, ∀ j,j < n → ((∃ v,knΦ ks j v w ∧ ∀ oj d,ops[j]? = some oj → oj.dst = some d → a.tmps[d]? = some v) → knΦ ks j (vs j) w ∧ ∀ oj d,ops[j]? = some oj → oj.dst = some d → a.tmps[d]? = some (vs j)) ∧ ∀ k,ks[j]? = some k → k.s (vs j):=by
   refine ⟨fun j => if hj : ∃ v,knΦ ks j v w ∧ ∀ oj d,ops[j]? = some oj → oj.dst = some d → a.tmps[d]? = some v then Classical.choose hj else if hj2 : ∃ v, ∃ k,ks[j]? = some k ∧ k.s v then Classical.choose hj2 else undef,fun j hj => ?_⟩
   by_cases hj1 : ∃ v,knΦ ks j v w ∧ ∀ oj d,ops[j]? = some oj → oj.dst = some d → a.tmps[d]? = some v
   ·simp only [dif_pos hj1]
    have hc:=Classical.choose_spec hj1
    exact ⟨fun _ => hc,fun k hk => (hc.1 k hk).1⟩
   ·simp only [dif_neg hj1]
    refine ⟨fun hx => (hj1 hx).elim,fun k hk => ?_⟩
    obtain ⟨k',v',hk',hv'⟩ := seqAll_has h j (by omega)
    have hj2 : ∃ v, ∃ k,ks[j]? = some k ∧ k.s v:=⟨v',k',hk',hv'⟩
    rw [dif_pos hj2]
    obtain ⟨k2,hk2,hs2⟩ := Classical.choose_spec hj2
    rw [hk] at hk2
    cases hk2
    exact hs2
  obtain ⟨k,o',H',e1,e2,⟨_,hop⟩,e4, -⟩ := seqAll_ks vs h i (by omega) (fun m k hm hk => by rw [Nat.zero_add]; exact (hvs m (by omega)).2 k hk)
  rw [ho] at e2
  cases e2
  have hlt : ∀ e ∈ o.after.toList,Region.binds .any e = true → e.on < i:=fun e he hbe => by
   have h1:=List.all_eq_true.1 hback (o,i) (List.mem_iff_getElem?.2 ⟨i,by simp only [List.getElem?_zipIdx,Array.getElem?_toList,hoi,Option.map_some,Nat.zero_add]⟩)
   have h2:=List.all_eq_true.1 h1 e (by simpa using he)
   simpa [hbe] using h2
  have hdep : ∀ e ∈ o.after.toList,Region.binds .any e = true → knΦ ks e.on (vs e.on) w ∧ ∀ oj d,ops[e.on]? = some oj → oj.dst = some d → a.tmps[d]? = some (vs e.on):=fun e he hbe => by
   obtain ⟨oj,v,h1,_,h2,h3⟩ := hp e he hbe
   refine (hvs e.on (by have:=hlt e he hbe; omega)).1 ⟨v,h2,fun oj' d hoj hd => ?_⟩
   rw [h1] at hoj
   cases hoj
   exact h3 d hd
  have hop:=hop w hb (fun e he hbe => e4 e.on w (Nat.zero_le _) (by have:=hlt e he hbe; omega) fun k hk => ((hdep e he hbe).1 k (by simpa using hk)).2)
  have hread : ((match o.op with | .select _ _ => false | _ => true) = true) ∧ ∀ t ∈ o.looksAt ops,(∃ e ∈ o.after.toList,Region.binds .any e = true ∧ (ops[e.on]?).bind (·.dst) = some t) ∨
    (ops.toList.all fun oj => oj.dst != some t || oj.after.toList.any fun e => Region.binds .any e && e.on == i) = true:=by
   have h1:=List.all_eq_true.1 hR (o,i) (List.mem_iff_getElem?.2 ⟨i,by rw [List.getElem?_zipIdx,ho]; simp⟩)
   simp only [Bool.and_eq_true] at h1
   refine ⟨h1.1,fun t ht => ?_⟩
   have h2:=List.all_eq_true.1 h1.2 t ht
   simp only [Bool.or_eq_true] at h2
   rcases h2 with h2 | h2
   ·left
    obtain ⟨e,he,h3⟩ := List.any_eq_true.1 h2
    simp only [Bool.and_eq_true,beq_iff_eq] at h3
    exact ⟨e,he,h3.1,h3.2⟩
   ·exact .inr h2
  have hsel : ∀ cs b,o.op ≠ .select cs b:=fun cs b hc => by have:=hread.1; rw [hc] at this; cases this
  have hsz : ∀ d oj j,ops[j]? = some oj → j < n → oj.dst = some d → d < a₀.tmps.size:=fun d oj j hj hjn hd => by
   have hmem : oj ∈ ops.toList.take n:=List.mem_of_getElem? (i:=j) (by rw [List.getElem?_take,if_pos hjn]; simpa using hj)
   have:=List.all_eq_true.1 hin oj hmem
   rw [hd] at this
   simpa using this
  have hdval : ∀ e ∈ o.after.toList,Region.binds .any e = true → ∀ oj d,ops[e.on]? = some oj → oj.dst = some d → (putAll vs ((ops.toList.take n).take i) 0 a₀).tmps[d]? = some (vs e.on):=by
   intro e he hbe oj t hoj hdj
   have hei:=hlt e he hbe
   have hd2 : distB ((ops.toList.take n).take i) = true:=by
    have : ∀ (l : List Oper) (m : Nat),distB l = true → distB (l.take m) = true:=by
     intro l
     induction l with
     | nil => intro m _; simp [distB]
     | cons x l ih =>
      intro m hx
      cases m with
      | zero => rfl
      | succ m =>
       simp only [distB,Bool.and_eq_true,List.take_succ_cons] at hx ⊢
       refine ⟨?_,ih m hx.2⟩
       cases hxd : x.dst with
       | none => rfl
       | some d =>
        have h1:=hx.1
        rw [hxd] at h1
        exact List.all_eq_true.2 fun y hy => List.all_eq_true.1 h1 y (List.mem_of_mem_take hy)
    exact this _ _ hdist
   have:=putAll_some vs t ((ops.toList.take n).take i) 0 a₀ e.on oj hd2 (by rw [List.getElem?_take,if_pos hei,List.getElem?_take,if_pos (by omega)]; simpa using hoj) hdj (hsz t oj e.on hoj (by omega) hdj)
   rw [this,Nat.zero_add]
  have heq : ∀ t ∈ o.looksAt ops,a.tmps[t]? = (putAll vs ((ops.toList.take n).take i) 0 a₀).tmps[t]? := by
   intro t hmem
   rcases hread.2 t hmem with ⟨e,he,hbe,hd⟩ | hall
   ·obtain ⟨oj,hoj,hdj⟩ := Option.bind_eq_some_iff.1 hd
    rw [(hdep e he hbe).2 oj t hoj hdj,hdval e he hbe oj t hoj hdj]
   ·rw [ht t hall,putAll_none]
    intro oj hoj hd
    obtain ⟨j,hj⟩ := List.getElem?_of_mem hoj
    rw [List.getElem?_take] at hj
    split at hj
    ·rename_i hji
     rw [List.getElem?_take,if_pos (by omega)] at hj
     have hj' : ops[j]? = some oj:=by simpa using hj
     have h1:=List.all_eq_true.1 hall oj (by simpa using Array.mem_of_getElem? hj')
     simp only [Bool.or_eq_true,List.any_eq_true,Bool.and_eq_true,beq_iff_eq,bne_iff_ne,ne_eq] at h1
     rcases h1 with h1 | ⟨e,he,hbe,hei⟩
     ·exact h1 hd
     ·have h2:=List.all_eq_true.1 hback (oj,j) (List.mem_iff_getElem?.2 ⟨j,by simp only [List.getElem?_zipIdx,Array.getElem?_toList,hj',Option.map_some,Nat.zero_add]⟩)
      have h3:=List.all_eq_true.1 h2 e (by simpa using he)
      simp only [hbe,Bool.not_true,Bool.false_or,decide_eq_true_eq] at h3
      omega
    ·cases hj
  have hev : execOp a.eval o = execOp (putAll vs ((ops.toList.take n).take i) 0 a₀).eval o:=execOp_congr o hsel fun x hx => by
   cases x with
   | tmp t =>
    have:=heq t (List.mem_append_left _ (List.mem_filterMap.2 ⟨.tmp t,by simpa using hx,rfl⟩))
    simp only [Act.eval,Array.getD_eq_getD_getElem?,this]
   | const v => rfl
   | global g => rfl
   | func f => rfl
  have hgd : Region.wanted o (yielded ops a.tmps) = guardOn ops o (putAll vs ((ops.toList.take n).take i) 0 a₀):=by
   unfold guardOn Region.wanted
   cases hg : o.guard with
   | none => rfl
   | some jb =>
    obtain ⟨j,b⟩ := jb
    have : yielded ops a.tmps j = yielded ops (putAll vs ((ops.toList.take n).take i) 0 a₀).tmps j:=by
     unfold yielded
     cases hd : (ops[j]?).bind (·.dst) with
     | none => rfl
     | some t =>
      simp only [Option.bind_some]
      rw [heq t (List.mem_append_right _ (by rw [hg]; simp [hd]))]
    simp only [this]
  rw [hgd]
  have hok : ∀ R,opOK P o (putAll vs ((ops.toList.take n).take i) 0 a₀) w R → opOK P o a w R:=fun R hR => by
   unfold opOK at *
   rw [hev]; exact hR
  split at hop
  ·rename_i hg
   rw [if_pos hg]
   refine hok _ (opOK_mono hop fun v w' ⟨h1,hpr,h2,h3⟩ => ⟨hb.trans h1,fun j hj _ u hu hut kj hkj => ?_,fun k' hk' => ?_⟩)
   ·have:=hu kj hkj
    refine ⟨this.1,hpr j kj hkj (by omega) u this.1 (fun ⟨e,he,hbe,hej⟩ oj d hoj hd => ?_) this.2⟩
    subst hej
    have h1:=(hdep e he hbe).2 oj d hoj hd
    rw [hut oj d hoj hd] at h1
    rw [hdval e he hbe oj d hoj hd,h1]
   ·rw [e1] at hk'
    cases hk'
    exact ⟨h2,h3⟩
  ·rename_i hg
   rw [if_neg hg]
   refine ⟨hb,fun k' hk' => ?_⟩
   rw [e1] at hk'
   cases hk'
   exact hop
 have all : ∀ (l : List Oper) (i : Nat),(∀ j o,l[j]? = some o → GenVC P ops (knΦ ks) (fun _ w => Below w₀.heap.size w₀ w) a₀ (i + j) o) → GenAll P ops (knΦ ks) (fun _ w => Below w₀.heap.size w₀ w) a₀ l i:=by
  intro l
  induction l with
  | nil => intro i _; trivial
  | cons o l ih =>
   intro i hl
   refine ⟨by simpa using hl 0 o rfl,ih (i + 1) fun j o' hj => ?_⟩
   have:=hl (j + 1) o' (by simpa using hj)
   rwa [show i + (j + 1) = i + 1 + j by omega] at this
 exact all _ 0 fun j o ho => by rw [Nat.zero_add]; exact key j o ho
end

def seqK (w : World) (K : Act → World → Prop) (n : Nat) : Act → (Nat → World → Prop) → Prop:=fun a H => ∀ w',Below w.heap.size w w' → (∀ j,j < n → H j w') → K a w'

section
variable {P : Program} {id : Nat} {l : List Oper} {a : Act} {w : World} {Q : Exit → Act → World → Prop} {ks : List Kn}
theorem genAll_drew {ops : Array Oper} {Φ : Nat → Value → World → Prop} {a₀ : Act} : ∀ {l : List Oper} {i : Nat},GenAll P ops Φ (fun _ w' => Below w.heap.size w w') a₀ l i → GenAll P ops Φ (fun _ w' => Below w.drew.heap.size w.drew w') a₀ l i
 | [],_,_ => trivial
 | _ :: _,_,h => ⟨fun a w1 L hL hb hp ht => by
   have:=h.1 a w1 L hL ⟨hb.os,hb.tape,hb.output,hb.size,hb.block⟩ hp ht
   split at this
   ·rename_i hw
    rw [if_pos hw]
    exact opOK_mono this fun v w' ⟨h1,h2⟩ => ⟨⟨h1.os,h1.tape,h1.output,h1.size,h1.block⟩,h2⟩
   ·rename_i hw
    rw [if_neg hw]
    exact ⟨hb,this.2⟩,genAll_drew h.2⟩
theorem seq_parts (n : Nat) (hlk : ks.length = n) (hB : freeB l.toArray n a.tmps.size = true) (hR : readsB l.toArray n = true) {K : Act → World → Prop} (h : SeqAll P l.toArray w ks (seqK w K n) ks (l.take n) a (fun _ _ => True) 0) :
  GenAll P l.toArray (knΦ ks) (fun _ w' => Below w.drew.heap.size w.drew w') a (l.take n) 0 ∧ ∀ w',Below w.heap.size w w' → EndAll (knΦ ks) w' (fun a => K a w') (l.take n) 0 a:=by
 have hn : n ≤ l.length:=by simp only [freeB,Bool.and_eq_true,decide_eq_true_eq] at hB; simpa using hB.1.1.1.1.1
 have hlen : (l.take n).length = n:=by simp; omega
 refine ⟨genAll_drew (seqAll_free (ops:=l.toArray) hB hR hlk h),fun w' hb => ?_⟩
 have:=seqAll_end (w:=w') (kk:=ks) h (fun j => by simp) (fun j hj => by omega)
 rw [hlen] at this
 have mono : ∀ (l : List Oper) (i : Nat) (a : Act) (X Y : Act → Prop),(∀ a,X a → Y a) → EndAll (knΦ ks) w' X l i a → EndAll (knΦ ks) w' Y l i a:=by
  intro l
  induction l with
  | nil => intro i a X Y hXY hx; exact hXY _ hx
  | cons o l ih => intro i a X Y hXY hx v hv; exact ih _ _ _ _ hXY (hx v hv)
 exact mono _ _ _ _ _ (fun a ⟨H,hH,hK⟩ => hK w' hb (by simpa using hH)) this

theorem wp_region_seq (n : Nat) (ks : List Kn) (hlk : ks.length = n) (hmix : P.follows .mixedOrders = true) (hB : freeB l.toArray n a.tmps.size = true) (hR : readsB l.toArray n = true)
  (h : SeqAll P l.toArray w ks (seqK w (fun a w' => wpList P l.toArray Q (l.drop n) a w') n) ks (l.take n) a (fun _ _ => True) 0) : (Code.region id l.toArray true).wp P Q a w :=
 have ⟨h1,h2⟩ := seq_parts n hlk hB hR h
 wp_region_gen n (knΦ ks) (fun _ w' => Below w.drew.heap.size w.drew w') hmix hB (Below.refl _ _) h1 fun w' hb => h2 w' ⟨hb.os,hb.tape,hb.output,hb.size,hb.block⟩

theorem wpIn_region_seq {F : Fence} (n : Nat) (ks : List Kn) (hlk : ks.length = n) (hmix : P.follows .mixedOrders = true) (hF : Open F) (hnd : noDefer l.toArray = true) (hB : freeB l.toArray n a.tmps.size = true) (hR : readsB l.toArray n = true)
  (h : SeqAll P l.toArray w ks (seqK w (fun a w' => wpListIn F 0 P l.toArray Q (l.drop n) a w') n) ks (l.take n) a (fun _ _ => True) 0) : (Code.region id l.toArray true).wpIn F 0 P Q a w :=
 have ⟨h1,h2⟩ := seq_parts n hlk hB hR h
 wpIn_region_gen n (knΦ ks) (fun _ w' => Below w.drew.heap.size w.drew w') hmix hF hnd hB (Below.refl _ _) h1 fun w' hb => h2 w' ⟨hb.os,hb.tape,hb.output,hb.size,hb.block⟩
end

section
variable {P : Program} {ops : Array Oper} {w₀ : World} {ks₀ : List Kn} {K : Act → (Nat → World → Prop) → Prop} {ks : List Kn} {o : Oper} {l : List Oper} {a : Act} {H : Nat → World → Prop} {i : Nat}
theorem seq_is {c : Value} (hg : o.guard = none) (h : ∀ w,Below w₀.heap.size w₀ w → (∀ e ∈ o.after.toList,Region.binds .any e = true → H e.on w) → opOK P o a w (fun v w' => v = c ∧ Below w.heap.size w w'))
  (hr : SeqAll P ops w₀ ks₀ K ks l (a.put o.dst c) (addH H i (fun _ => True)) (i + 1)) : SeqAll P ops w₀ ks₀ K (.is c :: ks) (o :: l) a H i:=by
 refine ⟨⟨⟨c,rfl⟩,fun w hb hd => ?_⟩,fun v hv => by cases hv; exact hr⟩
 rw [if_pos (by simp [guardOn,Region.wanted,hg])]
 exact opOK_mono (h w hb hd) fun v w' ⟨h1,h2⟩ => ⟨h2.mono hb.size,pres_below h2,h1,trivial⟩
theorem seq_on {c : Value} (hg : guardOn ops o a = true) (h : ∀ w,Below w₀.heap.size w₀ w → (∀ e ∈ o.after.toList,Region.binds .any e = true → H e.on w) → opOK P o a w (fun v w' => v = c ∧ Below w.heap.size w w'))
  (hr : SeqAll P ops w₀ ks₀ K ks l (a.put o.dst c) (addH H i (fun _ => True)) (i + 1)) : SeqAll P ops w₀ ks₀ K (.is c :: ks) (o :: l) a H i:=by
 refine ⟨⟨⟨c,rfl⟩,fun w hb hd => ?_⟩,fun v hv => by cases hv; exact hr⟩
 rw [if_pos hg]
 exact opOK_mono (h w hb hd) fun v w' ⟨h1,h2⟩ => ⟨h2.mono hb.size,pres_below h2,h1,trivial⟩
theorem seq_off (hg : guardOn ops o a = false) (hr : SeqAll P ops w₀ ks₀ K ks l (a.put o.dst undef) (addH H i (fun _ => True)) (i + 1)) : SeqAll P ops w₀ ks₀ K (.is undef :: ks) (o :: l) a H i:=by
 refine ⟨⟨⟨undef,rfl⟩,fun w hb hd => ?_⟩,fun v hv => by cases hv; exact hr⟩
 rw [if_neg (by simp [hg])]
 exact ⟨rfl,trivial⟩
theorem seq_new {k : Kn} (hs : ∃ v,k.s v) (hg : guardOn ops o a = true)
  (h : ∀ w,Below w₀.heap.size w₀ w → (∀ e ∈ o.after.toList,Region.binds .any e = true → H e.on w) → opOK P o a w (fun v w' => Below w.heap.size w w' ∧ k.s v ∧ k.p v w'))
  (hr : ∀ v,k.s v → SeqAll P ops w₀ ks₀ K ks l (a.put o.dst v) (addH H i (k.p v)) (i + 1)) : SeqAll P ops w₀ ks₀ K (k :: ks) (o :: l) a H i:=by
 refine ⟨⟨hs,fun w hb hd => ?_⟩,hr⟩
 rw [if_pos hg]
 exact opOK_mono (h w hb hd) fun v w' ⟨h1,h2⟩ => ⟨h1.mono hb.size,pres_below h1,h2⟩
theorem seq_end (h : K a H) : SeqAll P ops w₀ ks₀ K ks [] a H i:=by cases ks <;> exact h
end
end Go.Oche

/- A range over a function, at the wide fence: the consumer owns a set of blocks; the iterator keeps off them, and the consumer keeps off the iterator's. -/
namespace Go.Oche
open Go Go.RowKit

structure Rel (O : Nat → Prop) (W : World) (O' : Nat → Prop) (W' : World) : Prop where
 os : W'.os = W.os
 tape : W'.tape = W.tape
 output : W'.output = W.output
 size : W.heap.size ≤ W'.heap.size
 block : ∀ k,k < W.heap.size → ¬ O k → W'.heap[k]? = W.heap[k]?
 own : ∀ k,O' k → O k ∨ W.heap.size ≤ k
 lt : ∀ k,O' k → k < W'.heap.size

theorem Rel.refl {O : Nat → Prop} {W : World} (h : ∀ k,O k → k < W.heap.size) : Rel O W O W:=⟨rfl,rfl,rfl,Nat.le_refl _,fun _ _ _ => rfl,fun _ h => .inl h,h⟩
theorem Rel.trans {O O' O'' : Nat → Prop} {W W' W'' : World} (h : Rel O W O' W') (k : Rel O' W' O'' W'') : Rel O W O'' W'' :=
 ⟨k.os.trans h.os,k.tape.trans h.tape,k.output.trans h.output,Nat.le_trans h.size k.size,
  fun i hi hn => (k.block i (Nat.lt_of_lt_of_le hi h.size) (fun ho => by rcases h.own i ho with h1 | h1; exact hn h1; omega)).trans (h.block i hi hn),
  fun i hi => by rcases k.own i hi with h1 | h1; exact h.own i h1; exact .inr (Nat.le_trans h.size h1),k.lt⟩
theorem Rel.of_below {O : Nat → Prop} {W W' : World} (h : Below W.heap.size W W') (hO : ∀ k,O k → k < W.heap.size) : Rel O W O W' :=
 ⟨h.os,h.tape,h.output,h.size,fun k hk _ => h.block k hk,fun _ h => .inl h,fun k hk => Nat.lt_of_lt_of_le (hO k hk) h.size⟩
theorem Rel.below {O O' : Nat → Prop} {W W' : World} {B : Nat} (h : Rel O W O' W') (hB : B ≤ W.heap.size) (hO : ∀ k,k < B → ¬ O k) : Below B W W' :=
 ⟨h.os,h.tape,h.output,h.size,fun k hk => h.block k (by omega) (hO k hk)⟩
theorem Rel.cell {O O' : Nat → Prop} {W W' : World} (h : Rel O W O' W') {p : Addr} {v : Value} (hv : W.cell? p = some v) (hO : ¬ O p.block) : W'.cell? p = some v :=
 (World.cell?_of_block (w:=W) (h.block p.block (World.block_lt_of_cell? W p hv) hO)).trans hv

def Row (t : TypeId) (W : World) (k : Nat) : Prop := ∃ c fz,W.heap[k]? = some (.cells c t fz)
theorem Row.loop {t : TypeId} {W : World} {k : Nat} {r : Loop} (h : Row t W k) (hl : W.heap[k]? = some (.loop r)) : False:=by
 obtain ⟨c,fz,h⟩ := h; rw [hl] at h; cases h
theorem Row.keep {t : TypeId} {W W' : World} {k : Nat} (h : Row t W k) (hk : W'.heap[k]? = W.heap[k]?) : Row t W' k:=by obtain ⟨c,fz,h⟩ := h; exact ⟨c,fz,hk.trans h⟩
def Stab {β : Type} (t : TypeId) (N : Nat) (J : List β → (Nat → Prop) → World → Prop) : Prop :=
 ∀ pre O W W',J pre O W → W'.os = W.os → W'.tape = W.tape → W'.output = W.output → W.heap.size ≤ W'.heap.size →
  (∀ k,k < W.heap.size → (O k ∨ k < N ∨ Row t W k) → W'.heap[k]? = W.heap[k]?) → J pre O W'

structure OnlyAt (l : Nat) (W W' : World) : Prop where
 os : W'.os = W.os
 tape : W'.tape = W.tape
 output : W'.output = W.output
 size : W'.heap.size = W.heap.size
 block : ∀ k,k ≠ l → W'.heap[k]? = W.heap[k]?
 cell : ∀ p,W'.cell? p = W.cell? p
 frozen : ∀ p,W'.frozen? p = W.frozen? p

theorem OnlyAt.putObj {l : Nat} {W : World} {r r' : Loop} (h : W.heap[l]? = some (.loop r)) : OnlyAt l W (W.putObj l (.loop r')):=by
 have hlt : l < W.heap.size:=(Array.getElem?_eq_some_iff.1 h).1
 have h2 : (W.putObj l (.loop r')).heap[l]? = some (.loop r'):=World.putObj_heap_same hlt
 refine ⟨rfl,rfl,rfl,by simp,fun k hk => World.putObj_heap_other hk,fun p => ?_,fun p => ?_⟩
 ·by_cases hp : p.block = l
  ·unfold World.cell?; rw [hp,h,h2]
  ·exact World.cell?_of_block (w:=W) (World.putObj_heap_other hp)
 ·by_cases hp : p.block = l
  ·unfold World.frozen?; rw [hp,h,h2]
  ·exact World.frozen?_of_block (w:=W) (World.putObj_heap_other hp)

theorem OnlyAt.cells {l : Nat} {W W' : World} (h : OnlyAt l W W') {k : Nat} {o : Obj} (hl : k ≠ l) (ho : W.heap[k]? = some o) : W'.heap[k]? = some o:=(h.block k hl).trans ho

def IterIn {β : Type} (t : TypeId) (P : Program) (gf : Nat) (fa lb : Array Value) (enc : β → Array Value → (Nat → Prop) → World → Prop) (L : List β) (Rs : Nat → Prop) (w : World) : Prop :=
 ∀ (l : Nat) (J Jx : List β → (Nat → Prop) → World → Prop) (O : Nat → Prop) (W : World),
  Below w.heap.size w W → (∀ k,O k → k < W.heap.size) → (∀ k,Rs k → k < w.heap.size ∧ ¬ O k) → Stab t W.heap.size J → Stab t W.heap.size Jx →
  (∀ pre b post args O₁ W₁,L = pre ++ b :: post → Rel O W O₁ W₁ → J pre O₁ W₁ → enc b args O₁ W₁ → YieldAt Fence.wide 0 P l args W₁ fun e W' =>
   ∃ O',Rel O₁ W₁ O' W' ∧ ((e = .returned (.bool true) ∧ J (pre ++ [b]) O' W') ∨ (e = .returned (.bool false) ∧ Jx (pre ++ [b]) O' W'))) →
  J [] O W →
  CallsIn Fence.wide 0 P gf (fa ++ #[.func (.yield l) #[] #[]] ++ lb) W fun e W' => (∃ v,e = .returned v) ∧
   ∃ O',Rel O W O' W' ∧ (J L O' W' ∨ ∃ pre,pre <+: L ∧ Jx pre O' W')

def rPost {β : Type} (I : List β → (Nat → Prop) → World → Prop) (Ix : Code → List β → (Nat → Prop) → World → Prop) (xs : List β) (O : Nat → Prop) (W : World) : Exit → Act → World → Prop
 | .normal,_,W' => ∃ O',Rel O W O' W' ∧ I xs O' W'
 | .ret,_,W' => ∃ O',Rel O W O' W' ∧ Ix .ret xs O' W'
 | .exit id,_,W' => ∃ O',Rel O W O' W' ∧ Ix (.exit id) xs O' W'
 | .goto t,_,W' => ∃ O',Rel O W O' W' ∧ Ix (.goto t) xs O' W'
 | .panic _,_,_ => False
 | .outgrown,_,_ => False

theorem endOne {P : Program} {l : Nat} {r : Loop} {W : World} (h : W.heap[l]? = some (.loop r)) (hb : r.state ≠ .busy) :
  ∃ W',(Instr.endLoop l).run P W = .ok r.pending W' ∧ OnlyAt l W W':=⟨_,run_endLoop h hb,OnlyAt.putObj h⟩

theorem wpIn_range {β : Type} {t : TypeId} {P : Program} {g : Operand} {ps : Array Tmp} {assign body : Code} {Q : Exit → Act → World → Prop} {a : Act} {w : World}
  {gf : Nat} {fa lb : Array Value} (hg : a.eval g = .func (.func gf) fa lb) (eg : ∀ args w,(callFunc gf args).run P w = .ok (.enter gf args) w)
  {enc : β → Array Value → (Nat → Prop) → World → Prop} {L : List β} {Rs : Nat → Prop} (hseq : IterIn t P gf fa lb enc L Rs w)
  (I : List β → (Nat → Prop) → World → Prop) (Ix : Code → List β → (Nat → Prop) → World → Prop) (hI : Stab t w.heap.size I) (hIx : ∀ c,Stab t w.heap.size (Ix c))
  (O : Nat → Prop) (hO : ∀ k,O k → k < w.heap.size) (hRs : ∀ k,Rs k → k < w.heap.size ∧ ¬ O k) (h0 : I [] O w)
  (hps : ∀ b args O W,enc b args O W → args.size = ps.size)
  (hround : ∀ (l : Nat) pre b post args O₁ W₁,L = pre ++ b :: post → w.heap.size < l → l < W₁.heap.size → ¬ O₁ l → ¬ O₁ (l - 1) → Rel O w O₁ W₁ → I pre O₁ W₁ → enc b args (fun k => O₁ k ∨ k = l ∨ k = l - 1) W₁ →
   assign.wpIn (Fence.wide.inRound l) 0 P (Exit.then (fun a₁ W₂ => Below W₁.heap.size W₁ W₂ ∧ ∀ W₃,OnlyAt l W₂ W₃ → I pre O₁ W₃ → body.wpIn (Fence.wide.inRound l) 0 P (rPost I Ix (pre ++ [b]) O₁ W₃) a₁ W₃) (fun _ _ _ => False))
    { tmps:=(ps.zip args).foldl (fun t (p,v) => t.setIfInBounds p v) a.tmps,defers:=[] } W₁)
  (hdone : ∀ (D : Nat) (O₁ : Nat → Prop) (W : World),w.heap.size ≤ D → ¬ O₁ D → Rel O w O₁ W → I L O₁ W → W.heap[D]? = some (.deferred (some [])) → Q .normal { a with defers:={ target:=.collected D,args:=#[] } :: a.defers } W)
  (hstop : ∀ (D : Nat) (c : Code) (pre : List β) (O₁ : Nat → Prop) (W : World),w.heap.size ≤ D → ¬ O₁ D → pre <+: L → Rel O w O₁ W → Ix c pre O₁ W → W.heap[D]? = some (.deferred (some [])) → c.wpIn Fence.wide 0 P Q { a with defers:={ target:=.collected D,args:=#[] } :: a.defers } W) :
  (Code.rangeFunc g ps assign body).wpIn Fence.wide 0 P Q a w:=by
 refine wpIn_rangeFunc ?_
 intro fn hfn
 obtain ⟨rec,hrec⟩ : ∃ rec : LoopState → Option Code → Loop,rec = fun st pe => { state:=st,pending:=pe,fn,tmps:=a.tmps,params:=ps,assign,body,defers:=w.heap.size }:=⟨_,rfl⟩
 obtain ⟨W1,hW1⟩ : ∃ W1,(w.alloc (.deferred (some []))).alloc (.loop (rec .ready none)) = W1:=⟨_,rfl⟩
 have hsz : W1.heap.size = w.heap.size + 2:=by rw [← hW1]; simp
 have hb1 : Below w.heap.size w W1:=by rw [← hW1]; exact ((Below.refl _ w).alloc (Nat.le_refl _) _).alloc (by simp) _
 have hL1 : W1.heap[w.heap.size + 1]? = some (.loop (rec .ready none)):=by
  rw [← hW1]; have:=World.alloc_heap_new (w.alloc (.deferred (some []))) (.loop (rec .ready none)); simpa using this
 have hK1 : W1.heap[w.heap.size]? = some (.deferred (some [])):=by
  rw [← hW1]; exact (Below.heap_alloc _ _ _ (by simp)).trans (World.alloc_heap_new w _)
 refine ⟨w.heap.size + 1,[{ target:=.collected w.heap.size,args:=#[] }],W1, { target:=.fn (.func gf) lb,args:=fa ++ #[.func (.yield (w.heap.size + 1)) #[] #[]] },W1,gf,
  fa ++ #[.func (.yield (w.heap.size + 1)) #[] #[]] ++ lb,W1, ?_, ?_,fun _ _ => trivial, ?_,fun h => by simp [Fence.wide] at h, ?_⟩
 ·rw [← hW1,hrec]; exact run_enterLoop_outer _ _ _ _ _
 ·simp only [resolve,hg]
  simp [go_sem]
 ·simp [invoke,go_sem,eg]
 ·obtain ⟨l,hl⟩ : ∃ l,l = w.heap.size + 1:=⟨_,rfl⟩
  have hlD : l - 1 = w.heap.size:=by omega
  have J0 : ∀ (st : LoopState) (pe : Option Code) (X : List β → (Nat → Prop) → World → Prop),Stab t w.heap.size X →
    Stab t W1.heap.size (fun pre O₂ W => ∃ Ou,(∀ k,O₂ k ↔ Ou k ∨ k = l ∨ k = w.heap.size) ∧ ¬ Ou l ∧ ¬ Ou w.heap.size ∧ Rel O w Ou W ∧ X pre Ou W ∧ W.heap[l]? = some (.loop (rec st pe)) ∧ W.heap[w.heap.size]? = some (.deferred (some []))):=by
   intro st pe X hX pre O₂ W W' ⟨Ou,hiff,hnl,hnD,hr,hx,hll,hDD⟩ e1 e2 e3 e4 e5
   have hlt : l < W.heap.size:=(Array.getElem?_eq_some_iff.1 hll).1
   refine ⟨Ou,hiff,hnl,hnD,⟨e1.trans hr.os,e2.trans hr.tape,e3.trans hr.output,Nat.le_trans hr.size e4,fun k hk hn => ?_,hr.own,fun k hk => Nat.lt_of_lt_of_le (hr.lt k hk) e4⟩, ?_, ?_, ?_⟩
   ·exact (e5 k (Nat.lt_of_lt_of_le hk hr.size) (.inr (.inl (by omega)))).trans (hr.block k hk hn)
   ·exact hX pre Ou W W' hx e1 e2 e3 e4 fun k hk h => e5 k hk (by rcases h with h | h | h; exact .inl ((hiff k).2 (.inl h)); exact .inr (.inl (by omega)); exact .inr (.inr h))
   ·exact (e5 l hlt (.inr (.inl (by omega)))).trans hll
   ·exact (e5 _ (by omega) (.inr (.inl (by omega)))).trans hDD
  have H:=hseq l
   (fun pre O₂ W => ∃ Ou,(∀ k,O₂ k ↔ Ou k ∨ k = l ∨ k = w.heap.size) ∧ ¬ Ou l ∧ ¬ Ou w.heap.size ∧ Rel O w Ou W ∧ I pre Ou W ∧ W.heap[l]? = some (.loop (rec .ready none)) ∧ W.heap[w.heap.size]? = some (.deferred (some [])))
   (fun pre O₂ W => ∃ c, ∃ Ou,(∀ k,O₂ k ↔ Ou k ∨ k = l ∨ k = w.heap.size) ∧ ¬ Ou l ∧ ¬ Ou w.heap.size ∧ Rel O w Ou W ∧ Ix c pre Ou W ∧ W.heap[l]? = some (.loop (rec .done (some c))) ∧ W.heap[w.heap.size]? = some (.deferred (some [])))
   (fun k => O k ∨ k = l ∨ k = w.heap.size) W1 hb1
   (fun k hk => by rcases hk with hk | hk | hk; (have:=hO k hk; omega); omega; omega)
   (fun k hk => ⟨(hRs k hk).1,fun h => by rcases h with h | h | h; exact (hRs k hk).2 h; (have:=(hRs k hk).1; omega); (have:=(hRs k hk).1; omega)⟩)
   (J0 .ready none I hI)
   (fun pre O₂ W W' ⟨c,hc⟩ e1 e2 e3 e4 e5 => ⟨c,J0 .done (some c) (Ix c) (hIx c) pre O₂ W W' hc e1 e2 e3 e4 e5⟩)
  rw [← hl]
  rw [← hl] at hL1
  refine (H ?_ ?_).mono ?_
  ·rintro pre b post args O₁ W hL _ ⟨Ou,hiff,hnl,hnD,hr,hi,hll,hDD⟩ henc
   have hlt : l < W.heap.size:=(Array.getElem?_eq_some_iff.1 hll).1
   have hlt2 : w.heap.size < W.heap.size:=(Array.getElem?_eq_some_iff.1 hDD).1
   have henc' : enc b args (fun k => Ou k ∨ k = l ∨ k = l - 1) W:=by
    have : O₁ = fun k => Ou k ∨ k = l ∨ k = l - 1:=by funext k; rw [hlD]; exact propext (hiff k)
    rw [← this]; exact henc
   have hy:=run_yield (P:=P) (args:=args) hll (by rw [hrec]; exact hps b args _ W henc')
   rw [hrec] at hy
   refine ⟨fn,_,assign,body,hy,roundIn_of_wpIn trivial (wpIn_mono (hround l pre b post args Ou W hL (by omega) hlt hnl (by rw [hlD]; exact hnD) hr hi henc') ?_)⟩
   clear hy
   rintro e a₁ W₂ hq
   cases e with
   | normal =>
    obtain ⟨hb2,hcont⟩ := hq
    have hl2 : W₂.heap[l]? = some (.loop (rec .ready none)):=(hb2.block l hlt).trans hll
    have hD2 : W₂.heap[w.heap.size]? = some (.deferred (some [])):=(hb2.block _ hlt2).trans hDD
    have hlt' : l < W₂.heap.size:=(Array.getElem?_eq_some_iff.1 hl2).1
    have hbr:=run_beginRound (P:=P) hl2 (by rw [hrec])
    obtain ⟨W₃,hW₃⟩ : ∃ W₃,W₂.putObj l (.loop { rec .ready none with state:=.busy }) = W₃ := ⟨_,rfl⟩
    have hon : OnlyAt l W₂ W₃ := by rw [← hW₃]; exact OnlyAt.putObj hl2
    have hl3 : W₃.heap[l]? = some (.loop { rec .ready none with state:=.busy }):=by rw [← hW₃]; exact World.putObj_heap_same hlt'
    have hi3 : I pre Ou W₃ := hI pre Ou W W₃ hi (hon.os.trans hb2.os) (hon.tape.trans hb2.tape) (hon.output.trans hb2.output) (by rw [hon.size]; exact hb2.size)
     fun k hk h => (hon.block k (fun e => by subst e; rcases h with h | h | h; exact hnl h; omega; exact h.loop hll)).trans (hb2.block k hk)
    have hD3 : W₃.heap[w.heap.size]? = some (.deferred (some [])):=(hon.block _ (by omega)).trans hD2
    have hsz3 : W.heap.size ≤ W₃.heap.size:=by rw [hon.size]; exact hb2.size
    have hlt3 : l < W₃.heap.size:=(Array.getElem?_eq_some_iff.1 hl3).1
    rw [hW₃] at hbr
    refine ⟨W₃,hbr,wpIn_mono (hcont W₃ hon hi3) ?_⟩
    have fin : ∀ (jump : Option Code) (X : List β → (Nat → Prop) → World → Prop),Stab t w.heap.size X → ∀ (Ou' : Nat → Prop) (W4 : World),Rel Ou W₃ Ou' W4 → X (pre ++ [b]) Ou' W4 →
      ∃ v W5,(Instr.endRound l jump).run P W4 = .ok v W5 ∧ v = .bool jump.isNone ∧ Rel O₁ W (fun k => Ou' k ∨ k = l ∨ k = w.heap.size) W5 ∧
       ¬ Ou' l ∧ ¬ Ou' w.heap.size ∧ Rel O w Ou' W5 ∧ X (pre ++ [b]) Ou' W5 ∧ W5.heap[l]? = some (.loop (rec (if jump.isNone then .ready else .done) jump)) ∧ W5.heap[w.heap.size]? = some (.deferred (some [])):=by
     intro jump X hX Ou' W4 hr4 hx
     have hl4 : W4.heap[l]? = some (.loop { rec .ready none with state:=.busy }):=(hr4.block l hlt3 hnl).trans hl3
     have hlt4 : l < W4.heap.size:=(Array.getElem?_eq_some_iff.1 hl4).1
     have hD4 : W4.heap[w.heap.size]? = some (.deferred (some [])):=(hr4.block _ (by omega) hnD).trans hD3
     have hend:=run_endRound (P:=P) jump hl4
     obtain ⟨W5,hW5⟩ : ∃ W5,W4.putObj l (.loop (rec (if jump.isNone then .ready else .done) jump)) = W5:=⟨_,rfl⟩
     have hon5 : OnlyAt l W4 W5:=by rw [← hW5]; exact OnlyAt.putObj hl4
     have hnl' : ¬ Ou' l:=fun h => by rcases hr4.own l h with h | h; exact hnl h; omega
     have hnD' : ¬ Ou' w.heap.size:=fun h => by rcases hr4.own _ h with h | h; exact hnD h; omega
     have hWW5 : ∀ k,k < W.heap.size → ¬ Ou k → k ≠ l → W5.heap[k]? = W.heap[k]? := fun k hk hn hne =>
      (hon5.block k hne).trans ((hr4.block k (by omega) hn).trans ((hon.block k hne).trans (hb2.block k hk)))
     have hs5 : W.heap.size ≤ W5.heap.size:=by rw [hon5.size]; have:=hr4.size; omega
     refine ⟨_,W5, ?_,rfl,⟨?_, ?_, ?_,hs5, ?_, ?_, ?_⟩,hnl',hnD',⟨?_, ?_, ?_,Nat.le_trans hr.size hs5, ?_, ?_, ?_⟩, ?_, ?_, ?_⟩
     ·rw [hend,← hW5,hrec]
     ·exact hon5.os.trans (hr4.os.trans (hon.os.trans hb2.os))
     ·exact hon5.tape.trans (hr4.tape.trans (hon.tape.trans hb2.tape))
     ·exact hon5.output.trans (hr4.output.trans (hon.output.trans hb2.output))
     ·intro k hk hn
      have hn' : ¬ Ou k ∧ k ≠ l:=⟨fun h => hn ((hiff k).2 (.inl h)),fun h => hn ((hiff k).2 (.inr (.inl h)))⟩
      exact hWW5 k hk hn'.1 hn'.2
     ·intro k hk
      rcases hk with hk | hk | hk
      ·rcases hr4.own k hk with h | h
       ·exact .inl ((hiff k).2 (.inl h))
       ·exact .inr (by omega)
      ·exact .inl ((hiff k).2 (.inr (.inl hk)))
      ·exact .inl ((hiff k).2 (.inr (.inr hk)))
     ·intro k hk
      rw [hon5.size]
      rcases hk with hk | hk | hk
      ·exact hr4.lt k hk
      ·omega
      ·have:=hr4.size; omega
     ·exact (hon5.os.trans (hr4.os.trans (hon.os.trans hb2.os))).trans hr.os
     ·exact (hon5.tape.trans (hr4.tape.trans (hon.tape.trans hb2.tape))).trans hr.tape
     ·exact (hon5.output.trans (hr4.output.trans (hon.output.trans hb2.output))).trans hr.output
     ·intro k hk hn
      have hkW : k < W.heap.size:=Nat.lt_of_lt_of_le hk hr.size
      exact (hWW5 k hkW (fun h => by rcases hr.own k h with h | h; exact hn h; omega) (by omega)).trans (hr.block k hk hn)
     ·intro k hk
      rcases hr4.own k hk with h | h
      ·exact hr.own k h
      ·exact .inr (by have:=hr.size; omega)
     ·intro k hk; rw [hon5.size]; exact hr4.lt k hk
     ·exact hX _ _ W4 W5 hx hon5.os hon5.tape hon5.output (by rw [hon5.size]; exact Nat.le_refl _) fun k _ h => hon5.block k (fun e => by subst e; rcases h with h | h | h; exact hnl' h; omega; exact h.loop hl4)
     ·rw [← hW5]; exact World.putObj_heap_same hlt4
     ·exact (hon5.block _ (by omega)).trans hD4
    rintro e a3 W4 hp
    cases e with
    | normal =>
     obtain ⟨Ou',hr4,hi4⟩ := hp
     obtain ⟨v,W5,hend,rfl,hrel,h1,h2,h3,h4,h5,h6⟩ := fin none I hI Ou' W4 hr4 hi4
     exact ⟨_,W5,hend,_,hrel,.inl ⟨rfl,Ou',fun _ => Iff.rfl,h1,h2,h3,h4,h5,h6⟩⟩
    | ret =>
     obtain ⟨Ou',hr4,hi4⟩ := hp
     obtain ⟨v,W5,hend,rfl,hrel,h1,h2,h3,h4,h5,h6⟩ := fin (some .ret) (Ix .ret) (hIx _) Ou' W4 hr4 hi4
     exact ⟨_,W5,hend,_,hrel,.inr ⟨rfl,.ret,Ou',fun _ => Iff.rfl,h1,h2,h3,h4,h5,h6⟩⟩
    | exit id =>
     obtain ⟨Ou',hr4,hi4⟩ := hp
     obtain ⟨v,W5,hend,rfl,hrel,h1,h2,h3,h4,h5,h6⟩ := fin (some (.exit id)) (Ix (.exit id)) (hIx _) Ou' W4 hr4 hi4
     exact ⟨_,W5,hend,_,hrel,.inr ⟨rfl,.exit id,Ou',fun _ => Iff.rfl,h1,h2,h3,h4,h5,h6⟩⟩
    | goto t =>
     obtain ⟨Ou',hr4,hi4⟩ := hp
     obtain ⟨v,W5,hend,rfl,hrel,h1,h2,h3,h4,h5,h6⟩ := fin (some (.goto t)) (Ix (.goto t)) (hIx _) Ou' W4 hr4 hi4
     exact ⟨_,W5,hend,_,hrel,.inr ⟨rfl,.goto t,Ou',fun _ => Iff.rfl,h1,h2,h3,h4,h5,h6⟩⟩
    | panic ch => exact hp.elim
    | outgrown => exact hp.elim
   | exit id => exact hq.elim
   | goto t => exact hq.elim
   | ret => exact hq.elim
   | panic ch => exact hq.elim
   | outgrown => exact hq.elim
  ·refine ⟨O,fun _ => Iff.rfl,fun h => by have:=hO l h; omega,fun h => by have:=hO _ h; omega,Rel.of_below hb1 hO, ?_,hL1,hK1⟩
   exact hI [] O w W1 h0 hb1.os hb1.tape hb1.output hb1.size fun k hk _ => hb1.block k hk
  ·rintro e W2 ⟨⟨v,rfl⟩,O₂,hrel,(⟨Ou,hiff,hnl,hnD,hr,hi,hll,hDD⟩ | ⟨pre,hpre,c,Ou,hiff,hnl,hnD,hr,hi,hll,hDD⟩)⟩
   all_goals
    obtain ⟨W3,hend,hon⟩ := endOne (P:=P) hll (by rw [hrec]; simp)
    have hr3 : Rel O w Ou W3:=⟨hon.os.trans hr.os,hon.tape.trans hr.tape,hon.output.trans hr.output,by rw [hon.size]; exact hr.size,
     fun k hk hn => (hon.block k (by omega)).trans (hr.block k hk hn),hr.own,fun k hk => by rw [hon.size]; exact hr.lt k hk⟩
    have hD3 : W3.heap[w.heap.size]? = some (.deferred (some [])):=(hon.block _ (by omega)).trans hDD
   ·have hi3:=hI L Ou W2 W3 hi hon.os hon.tape hon.output (by rw [hon.size]; exact Nat.le_refl _) fun k _ h => hon.block k (fun e => by subst e; rcases h with h | h | h; exact hnl h; omega; exact h.loop hll)
    refine ⟨none,W3, ?_,hdone _ Ou W3 (Nat.le_refl _) hnD hr3 hi3 hD3⟩
    rw [hend,hrec]
   ·have hi3:=hIx c pre Ou W2 W3 hi hon.os hon.tape hon.output (by rw [hon.size]; exact Nat.le_refl _) fun k _ h => hon.block k (fun e => by subst e; rcases h with h | h | h; exact hnl h; omega; exact h.loop hll)
    refine ⟨some c,W3, ?_,hstop _ c pre Ou W3 (Nat.le_refl _) hnD hpre hr3 hi3 hD3⟩
    rw [hend,hrec]

theorem Stab.ext {β : Type} {t : TypeId} {N : Nat} {J : List β → (Nat → Prop) → World → Prop} (h : Stab t N J) {pre : List β} {O : Nat → Prop} {W W' : World} (hj : J pre O W) (hb : Below W.heap.size W W') : J pre O W' :=
 h pre O W W' hj hb.os hb.tape hb.output hb.size fun k hk _ => hb.block k hk
theorem Rel.ext {O O' : Nat → Prop} {W W' W'' : World} (h : Rel O W O' W') (hb : Below W'.heap.size W' W'') : Rel O W O' W'':=h.trans (Rel.of_below hb h.lt)
theorem rAt {O O' : Nat → Prop} {W W' : World} (h : Rel O W O' W') {b o : Nat} {v : Value} (hv : W.cell? ⟨b,o,none⟩ = some v) (hO : ¬ O b) : W'.cell? ⟨b,o,none⟩ = some v:=h.cell hv hO
theorem bAt {W W' : World} (h : Below W.heap.size W W') {b o : Nat} {v : Value} (hv : W.cell? ⟨b,o,none⟩ = some v) : W'.cell? ⟨b,o,none⟩ = some v :=
 (h.cell (p:=⟨b,o,none⟩) (World.block_lt_of_cell? W _ hv)).trans hv

/-! The marks that ranges over functions leave among an activation's deferred calls. -/
def mk (D : Nat) : Deferred:={ target:=.collected D,args:=#[] }
structure Passed (Ds : List Nat) (W W' : World) : Prop where
 os : W'.os = W.os
 tape : W'.tape = W.tape
 output : W'.output = W.output
 size : W'.heap.size = W.heap.size
 block : ∀ k,k ∉ Ds → W'.heap[k]? = W.heap[k]?
 cell : ∀ p,W'.cell? p = W.cell? p
 frozen : ∀ p,W'.frozen? p = W.frozen? p
theorem Passed.refl (Ds : List Nat) (W : World) : Passed Ds W W:=⟨rfl,rfl,rfl,rfl,fun _ _ => rfl,fun _ => rfl,fun _ => rfl⟩
theorem Passed.below {Ds : List Nat} {W W' : World} (h : Passed Ds W W') {B : Nat} (hD : ∀ D ∈ Ds,B ≤ D) : Below B W W' :=
 ⟨h.os,h.tape,h.output,Nat.le_of_eq h.size.symm,fun k hk => h.block k fun hm => by have:=hD k hm; omega⟩
structure Marks (B : Nat) (W : World) (Ds : List Nat) : Prop where
 nodup : Ds.Nodup
 open_ : ∀ D ∈ Ds,W.heap[D]? = some (.deferred (some []))
 low : ∀ D ∈ Ds,B ≤ D
theorem Marks.nil (B : Nat) (W : World) : Marks B W []:=⟨List.nodup_nil,fun _ h => (by cases h),fun _ h => (by cases h)⟩
theorem Marks.cons {B D : Nat} {W : World} {Ds : List Nat} (h : Marks B W Ds) (hD : W.heap[D]? = some (.deferred (some []))) (hB : B ≤ D) (hn : D ∉ Ds) : Marks B W (D :: Ds) :=
 ⟨List.nodup_cons.2 ⟨hn,h.nodup⟩,fun d hd => by rcases List.mem_cons.1 hd with rfl | hd; exact hD; exact h.open_ d hd,fun d hd => by rcases List.mem_cons.1 hd with rfl | hd; exact hB; exact h.low d hd⟩
theorem Marks.lt {B : Nat} {W : World} {Ds : List Nat} (h : Marks B W Ds) : ∀ D ∈ Ds,D < W.heap.size:=fun D hD => (Array.getElem?_eq_some_iff.1 (h.open_ D hD)).1
theorem Marks.keep {B : Nat} {W W' : World} {Ds : List Nat} (h : Marks B W Ds) (hk : ∀ k,k < W.heap.size → k ∈ Ds → W'.heap[k]? = W.heap[k]?) : Marks B W' Ds :=
 ⟨h.nodup,fun D hD => (hk D (h.lt D hD) hD).trans (h.open_ D hD),h.low⟩
theorem Marks.below {B : Nat} {W W' : World} {Ds : List Nat} (h : Marks B W Ds) (hb : Below W.heap.size W W') : Marks B W' Ds:=h.keep fun k hk _ => hb.block k hk
theorem Marks.rel {B : Nat} {O O' : Nat → Prop} {W W' : World} {Ds : List Nat} (h : Marks B W Ds) (hr : Rel O W O' W') (hO : ∀ D ∈ Ds, ¬ O D) : Marks B W' Ds:=h.keep fun k hk hD => hr.block k hk (hO k hD)
theorem Marks.setCell {B : Nat} {W : World} {Ds : List Nat} (h : Marks B W Ds) (p : Addr) (v : Value) (hp : p.block ∉ Ds) : Marks B (W.setCell p v) Ds :=
 ⟨h.nodup,fun D hD => (Below.heap_setCell _ _ _ _ (fun e => hp (by rw [← e]; exact hD))).trans (h.open_ D hD),h.low⟩

theorem leave_marks {B : Nat} {P : Program} {fn : Func} {tmps : Array Value} {R : Ending → World → Prop} : ∀ (Ds : List Nat) (W : World),Marks B W Ds →
  (∀ W',Passed Ds W W' → ∃ v,(results fn tmps).run P W' = .ok v W' ∧ R (.returned v) W') → LeavesInM Fence.wide 0 P fn tmps R (Ds.map mk) .returning W
 | [],W,_,h => h W (Passed.refl _ _)
 | D :: Ds,W,hM,h => by
  have hD:=hM.open_ D (by simp)
  have hlt:=hM.lt D (by simp)
  have hnd:=List.nodup_cons.1 hM.nodup
  refine ⟨by simp,.inl ⟨D,_,rfl,run_takeDeferred hD, ?_⟩⟩
  have hpc : ∀ p,(W.putObj D (.deferred none)).cell? p = W.cell? p:=fun p => by
   by_cases hp : p.block = D
   ·unfold World.cell?; rw [hp,hD,World.putObj_heap_same hlt]
   ·exact World.cell?_of_block (w:=W) (World.putObj_heap_other hp)
  have hpf : ∀ p,(W.putObj D (.deferred none)).frozen? p = W.frozen? p:=fun p => by
   by_cases hp : p.block = D
   ·unfold World.frozen?; rw [hp,hD,World.putObj_heap_same hlt]
   ·exact World.frozen?_of_block (w:=W) (World.putObj_heap_other hp)
  refine leave_marks Ds _ ⟨hnd.2,fun d hd => (World.putObj_heap_other (fun e => hnd.1 (by rw [← e]; exact hd))).trans (hM.open_ d (by simp [hd])),fun d hd => hM.low d (by simp [hd])⟩ fun W' hp => h W' ?_
  exact ⟨hp.os,hp.tape,hp.output,by rw [hp.size]; simp,fun k hk => by
   have : k ≠ D ∧ k ∉ Ds:=by simpa using hk
   rw [hp.block k this.2,World.putObj_heap_other this.1],fun p => (hp.cell p).trans (hpc p),fun p => (hp.frozen p).trans (hpf p)⟩
theorem Rel.setCell {O O' : Nat → Prop} {W W' : World} (h : Rel O W O' W') {p : Addr} (hp : O' p.block) (v : Value) : Rel O W O' (W'.setCell p v) :=
 h.trans ⟨rfl,rfl,rfl,by simp,fun k _ hn => Below.heap_setCell _ _ _ _ (fun e => hn (by rw [e]; exact hp)),fun _ h => .inl h,fun k hk => by simpa using h.lt k hk⟩
theorem heap_setCell_at {W : World} {b o : Nat} {c : Array Value} {t : TypeId} {fz : Nat × Nat} (h : W.heap[b]? = some (.cells c t fz)) (v : Value) : (W.setCell ⟨b,o,none⟩ v).heap[b]? = some (.cells (c.setIfInBounds o v) t fz):=by
 simp [World.setCell,Array.getElem?_modify,h]
theorem cell_of_heap {W : World} {b o : Nat} {c : Array Value} {t : TypeId} {fz : Nat × Nat} (h : W.heap[b]? = some (.cells c t fz)) : W.cell? ⟨b,o,none⟩ = c[o]? := by simp [World.cell?,h]
theorem frozen_of_heap {W : World} {b o : Nat} {c : Array Value} {t : TypeId} (h : W.heap[b]? = some (.cells c t (0,0))) : W.frozen? ⟨b,o,none⟩ = false:=by simp [World.frozen?,h]
theorem aB (w : World) (o : Obj) : Below w.heap.size w (w.alloc o):=(Below.refl _ _).alloc (Nat.le_refl _) o
theorem cell_new (w : World) (x : Value) (t : TypeId) : (w.alloc (.cells #[x] t)).cell? ⟨w.heap.size,0,none⟩ = some x:=by
 unfold World.cell?; rw [World.alloc_heap_new]; rfl
end Go.Oche

/- A slice that reads as a list of one-cell values; S: where its cells lie. -/
namespace Go.Oche
open Go Go.RowKit

def Sl (S : Nat → Prop) (w : World) (v : Value) (xs : List Value) : Prop :=
 ∃ (a : Option Addr) (cap : Nat),v = .slice a xs.length cap ∧ xs.length ≤ cap ∧ cap ≤ maxLen ∧
  ∀ i x,xs[i]? = some x → ∃ b off,a = some ⟨b,off,none⟩ ∧ S b ∧ w.cell? ⟨b,off + i,none⟩ = some x

def ints (l : List Int) : List Value:=l.map (Value.int .i64)
def bools (l : List Bool) : List Value:=l.map Value.bool
@[simp] theorem ints_length (l : List Int) : (ints l).length = l.length:=by simp [ints]
@[simp] theorem bools_length (l : List Bool) : (bools l).length = l.length:=by simp [bools]
theorem intsAt {l : List Int} {i : Nat} (h : i < l.length) : (ints l)[i]? = some (.int .i64 l[i]):=by simp [ints,h]
@[simp] theorem ints_nil : ints [] = []:=rfl
theorem ints_append (a b : List Int) : ints (a ++ b) = ints a ++ ints b:=by simp [ints]

section
variable {S S' : Nat → Prop} {w w' : World} {v : Value} {xs : List Value}
theorem Sl.mono (h : Sl S w v xs) (hS : ∀ k,S k → S' k) : Sl S' w v xs:=by
 obtain ⟨a,cap,h1,h2,h3,h4⟩ := h
 exact ⟨a,cap,h1,h2,h3,fun i x hx => let ⟨b,off,e,s,c⟩ := h4 i x hx; ⟨b,off,e,hS b s,c⟩⟩
theorem Sl.below (h : Sl S w v xs) (hb : Below w.heap.size w w') : Sl S w' v xs:=by
 obtain ⟨a,cap,h1,h2,h3,h4⟩ := h
 exact ⟨a,cap,h1,h2,h3,fun i x hx => let ⟨b,off,e,s,c⟩ := h4 i x hx; ⟨b,off,e,s,(hb.cell (p:=⟨b,off + i,none⟩) (World.block_lt_of_cell? w _ c)).trans c⟩⟩
theorem Sl.cells (h : Sl S w v xs) (hc : ∀ b o,S b → (w.cell? ⟨b,o,none⟩).isSome → w'.cell? ⟨b,o,none⟩ = w.cell? ⟨b,o,none⟩) : Sl S w' v xs:=by
 obtain ⟨a,cap,h1,h2,h3,h4⟩ := h
 exact ⟨a,cap,h1,h2,h3,fun i x hx => let ⟨b,off,e,s,c⟩ := h4 i x hx; ⟨b,off,e,s,(hc b _ s (by rw [c]; rfl)).trans c⟩⟩
theorem Sl.rel {O O' : Nat → Prop} (h : Sl S w v xs) (hr : Rel O w O' w') (hS : ∀ k,S k → ¬ O k) : Sl S w' v xs :=
 h.cells fun b o s hs => by
  obtain ⟨x,hx⟩ := Option.isSome_iff_exists.1 hs
  rw [hx]; exact hr.cell hx (hS b s)
theorem Sl.lt (h : Sl S w v xs) : Sl (fun k => S k ∧ k < w.heap.size) w v xs:=by
 obtain ⟨a,cap,h1,h2,h3,h4⟩ := h
 exact ⟨a,cap,h1,h2,h3,fun i x hx => let ⟨b,off,e,s,c⟩ := h4 i x hx; ⟨b,off,e,⟨s,World.block_lt_of_cell? w _ c⟩,c⟩⟩
theorem Sl.nil (S : Nat → Prop) (w : World) : Sl S w (.slice none 0 0) []:=⟨none,0,rfl,Nat.le_refl _,Nat.zero_le _,fun i x hx => by simp at hx⟩
theorem Sl.of_owns {base : Nat} {e : TypeId} {n : Nat} (h : w.ownsRow base e 1 v n xs) : Sl (fun k => base ≤ k) w v xs:=by
 obtain ⟨hl,h | ⟨g,cap,cur,rfl,hb,hg,hn,hm,hs,ht⟩⟩ := h
 ·obtain ⟨rfl,rfl⟩ := h
  have : xs = []:=List.eq_nil_of_length_eq_zero (by simpa using hl)
  subst this
  exact Sl.nil _ _
 ·refine ⟨some ⟨g,0,none⟩,cap,by simp [hl],by omega,hm,fun i x hx => ⟨g,0,rfl,hb, ?_⟩⟩
  have hi : i < xs.length:=(List.getElem?_eq_some_iff.1 hx).1
  simp only [World.cell?,hg,Nat.zero_add]
  rw [← ht,List.getElem?_take] at hx
  split at hx
  ·simpa using hx
  ·cases hx
theorem Sl.new (S : Nat → Prop) (w : World) (hS : S w.heap.size) (t : TypeId) (l : List Value) (hl : l.length ≤ maxLen) : Sl S (w.alloc (.cells l.toArray t)) (.slice (some ⟨w.heap.size,0,none⟩) l.length l.length) l :=
 ⟨_,_,rfl,Nat.le_refl _,hl,fun i x hx => ⟨_,0,rfl,hS,by unfold World.cell?; rw [World.alloc_heap_new]; simpa using hx⟩⟩
theorem Sl.new1 (S : Nat → Prop) (w : World) (hS : S w.heap.size) (t : TypeId) (x : Value) : Sl S (w.alloc (.cells #[x] t)) (.slice (some ⟨w.heap.size,0,none⟩) 1 1) [x] :=
 Sl.new S w hS t [x] (by simp [maxLen])
theorem Sl.len (h : Sl S w v xs) : xs.length ≤ maxLen:=let ⟨_,_,_,h2,h3,_⟩ := h; Nat.le_trans h2 h3
end
theorem Sl.form {S : Nat → Prop} {w : World} {v : Value} {xs : List Value} (h : Sl S w v xs) : ∃ a cap,v = .slice a xs.length cap ∧ xs.length ≤ cap ∧ cap ≤ maxLen:=by
 obtain ⟨a,cap,h1,h2,h3,_⟩ := h
 exact ⟨a,cap,h1,h2,h3⟩
end Go.Oche

/- A block of integers of one's own. -/
namespace Go.Oche
open Go Go.RowKit

def IntBlk (W : World) (R : Nat) (t : TypeId) (n : Nat) (f : Nat → Int) : Prop :=
 ∃ A : Array Value,W.heap[R]? = some (.cells A t (0,0)) ∧ A.size = n ∧ ∀ j,j < n → A[j]? = some (.int .i64 (f j))
section
variable {W W' : World} {R : Nat} {t : TypeId} {n : Nat} {f g : Nat → Int}
theorem IntBlk.cell (h : IntBlk W R t n f) {j : Nat} (hj : j < n) : W.cell? ⟨R,j,none⟩ = some (.int .i64 (f j)):=by
 obtain ⟨A,h1,h2,h3⟩ := h
 rw [cell_of_heap h1]; exact h3 j hj
theorem IntBlk.frozen (h : IntBlk W R t n f) (j : Nat) : W.frozen? ⟨R,j,none⟩ = false:=by
 obtain ⟨A,h1,_⟩ := h; exact frozen_of_heap h1
theorem IntBlk.set (h : IntBlk W R t n f) (i : Nat) (v : Int) : IntBlk (W.setCell ⟨R,i,none⟩ (.int .i64 v)) R t n (fun j => if j = i then v else f j):=by
 obtain ⟨A,h1,h2,h3⟩ := h
 refine ⟨_,heap_setCell_at h1 _,by simp [h2],fun j hj => ?_⟩
 rw [Array.getElem?_setIfInBounds]
 by_cases e : i = j
 ·subst e; simp [h2,hj]
 ·have e' : ¬ j = i:=fun h => e h.symm
  simp only [if_neg e,if_neg e']; exact h3 j hj
theorem IntBlk.keep (h : IntBlk W R t n f) (hk : W'.heap[R]? = W.heap[R]?) : IntBlk W' R t n f:=by
 obtain ⟨A,h1,h2⟩ := h; exact ⟨A,hk.trans h1,h2⟩
theorem IntBlk.lt (h : IntBlk W R t n f) : R < W.heap.size:=by
 obtain ⟨A,h1,_⟩ := h; exact (Array.getElem?_eq_some_iff.1 h1).1
theorem IntBlk.below (h : IntBlk W R t n f) (hb : Below W.heap.size W W') : IntBlk W' R t n f:=h.keep (hb.block R h.lt)
theorem IntBlk.congr (h : IntBlk W R t n f) (e : ∀ j,j < n → f j = g j) : IntBlk W R t n g:=by
 obtain ⟨A,h1,h2,h3⟩ := h; exact ⟨A,h1,h2,fun j hj => by rw [h3 j hj,e j hj]⟩
theorem IntBlk.made (W : World) (t : TypeId) (n : Nat) : IntBlk (W.alloc (.cells (madeCells #[.int .i64 0] n) t)) W.heap.size t n (fun _ => 0) :=
 ⟨_,World.alloc_heap_new _ _,size_madeCells _ _,fun j hj => by
  rw [← Array.getElem?_toList,toList_madeCells_one]; simp [hj]⟩
theorem IntBlk.sl (h : IntBlk W R t n f) (hn : n ≤ maxLen) : Sl (fun k => k = R) W (.slice (some ⟨R,0,none⟩) n n) (ints ((List.range n).map f)):=by
 refine ⟨_,n,by simp,by simp,hn,fun i x hx => ⟨R,0,rfl,rfl, ?_⟩⟩
 have hi : i < n:=by have:=(List.getElem?_eq_some_iff.1 hx).1; simpa using this
 rw [intsAt (by simpa using hi)] at hx
 simp only [List.getElem_map,List.getElem_range,Option.some.injEq] at hx
 rw [← hx,Nat.zero_add]
 exact h.cell hi
end
end Go.Oche
