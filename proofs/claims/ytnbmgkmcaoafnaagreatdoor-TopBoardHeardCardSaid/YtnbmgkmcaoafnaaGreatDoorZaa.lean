/- The texts Free, O2Plain, O2A, in build order. -/
import Derived.StillTail
import Derived.Below
import Derived.Test.YtnbmgkmcaoafnaaGreatDoorProg
import Derived.WalkKit
import Derived.Outline

/- A region whose order is drawn: one condition an operation, whatever the order; then a tail in order. -/
namespace Go.Oche
open Go Go.RowKit

def opOK (P : Program) (o : Oper) (a : Act) (w : World) (R : Value → World → Prop) : Prop :=
 match (execOp a.eval o).run P w with
 | .ok (.value v) w' => R v w'
 | .ok .skip w' => R undef w'
 | .ok (.enter f args) w' => Calls P f args w' fun e w'' => ∃ v,e = .returned v ∧ R v w''
 | _ => False

theorem wp_of_opOK {P : Program} {o : Oper} {a : Act} {w : World} {R : Value → World → Prop} {K : Act → World → Prop} {Q : Exit → Act → World → Prop}
  (h : opOK P o a w R) (hK : ∀ v w',R v w' → K (a.put o.dst v) w') : o.wp P a w K Q:=by
 unfold opOK at h;unfold Oper.wp;generalize (execOp a.eval o).run P w = r at *;cases r with
 | ok n w' =>
  cases n <;> simp only at h <;> simp only [Oper.upon]
  case value u => exact hK _ _ h
  case skip => exact hK _ _ h
  case enter f args => exact h.mono fun e w'' ⟨v,he,hr⟩ => by subst he; exact hK _ _ hr
 | halt x w' => simp only at h

section
variable (P : Program) (ops : Array Oper) (Φ : Nat → Value → World → Prop) (J : (Nat → Bool) → World → Prop) (a₀ : Act)
def setB (L : Nat → Bool) (i : Nat) : Nat → Bool:=fun j => if j = i then true else L j

def GenVC (i : Nat) (o : Oper) : Prop :=
 ∀ (a : Act) (w : World) (L : Nat → Bool),L i = false → J L w →
  (∀ e ∈ o.after.toList,Region.binds .any e = true → ∃ oj v,ops[e.on]? = some oj ∧ L e.on = true ∧ Φ e.on v w ∧ ∀ d,oj.dst = some d → a.tmps[d]? = some v) →
  (∀ t : Nat,(ops.toList.all fun oj => oj.dst != some t || oj.after.toList.any fun e => Region.binds .any e && e.on == i) = true → a.tmps[t]? = a₀.tmps[t]?) →
  if Region.wanted o (yielded ops a.tmps) then opOK P o a w (fun v w' => J (setB L i) w' ∧ (∀ j,j ≠ i → L j = true → ∀ v, Φ j v w → (∀ oj d,ops[j]? = some oj → oj.dst = some d → a.tmps[d]? = some v) → Φ j v w') ∧ Φ i v w') else J (setB L i) w ∧ Φ i undef w

def GenAll : List Oper → Nat → Prop
 | [],_ => True
 | o :: l,i => GenVC P ops Φ J a₀ i o ∧ GenAll l (i + 1)

def EndAll (w : World) (K : Act → Prop) : List Oper → Nat → Act → Prop
 | [],_,a => K a
 | o :: l,i,a => ∀ v, Φ i v w → EndAll w K l (i + 1) (a.put o.dst v)
end

def backB (ops : Array Oper) : Bool:=ops.toList.zipIdx.all fun (o,i) => o.after.toList.all fun e => !Region.binds .any e || decide (e.on < i)
def distB : List Oper → Bool
 | [] => true
 | o :: l => (match o.dst with | some d => l.all fun o' => o'.dst != some d | none => true) && distB l
def inB (n : Nat) (l : List Oper) : Bool:=l.all fun o => match o.dst with | some d => decide (d < n) | none => true
def headArr (n N : Nat) : Array Bool:=(Array.replicate n true) ++ Array.replicate (N - n) false
def freeB (ops : Array Oper) (n m : Nat) : Bool :=
 decide (n ≤ ops.size) && backB ops && distB (ops.toList.take n) && inB m (ops.toList.take n) && (n == ops.size || (decide (n < ops.size) && Region.sinkB .any ops n && Region.chainB .any ops n)) &&
  Region.seqB .any ops (ops.size - n) n (headArr n ops.size)

theorem wpAny_more {P : Program} {md : Region.Mode} {ops : Array Oper} {Q : Exit → Act → World → Prop} : ∀ (f : Nat) (listed : Array Bool) (a : Act) (w : World),
  wpAny P md ops Q f listed a w → wpAny P md ops Q (f + 1) listed a w
 | 0,_,_,_,h => ⟨fun _ => h.2,fun i hi => by rw [h.1] at hi; cases hi⟩
 | f + 1,_,_,_,h => ⟨h.1,fun i hi => wpOp_mono (fun _ _ => wpAny_more f _ _ _) (h.2 i hi)⟩

def left (n : Nat) (listed : Array Bool) : Nat:=(List.range n).countP fun j => !listed.getD j false

theorem left_set {n i : Nat} {listed : Array Bool} (hi : i < n) (hin : i < listed.size) (hun : listed.getD i true = false) : left n (listed.setIfInBounds i true) + 1 ≤ left n listed:=by
 unfold left
 induction n with
 | zero => omega
 | succ n ih =>
  rw [List.range_succ,List.countP_append,List.countP_append];by_cases h : i = n
  ·subst h
   have hsame : (List.range i).countP (fun j => !(listed.setIfInBounds i true).getD j false) = (List.range i).countP (fun j => !listed.getD j false):=by
    refine List.countP_congr fun j hj => ?_
    have : i ≠ j:=by have:=List.mem_range.1 hj; omega
    rw [getD_set_ne false this]
   rw [hsame];have h1 : (listed.setIfInBounds i true).getD i false = true:=by simp [hin]
   have h2 : listed.getD i false = false:=getD_both hun;simp only [List.countP_singleton,h1,h2]; simp
  ·have h1 : (listed.setIfInBounds i true).getD n false = listed.getD n false:=getD_set_ne false h
   have:=ih (by omega)
   simp only [List.countP_singleton,h1];omega

theorem left_zero {n : Nat} {listed : Array Bool} (h : left n listed = 0) : ∀ j,j < n → listed.getD j false = true:=by
 intro j hj
 have:=List.countP_eq_zero.1 h j (List.mem_range.2 hj)
 simpa using this

theorem exists_unlisted {n : Nat} {listed : Array Bool} (h : left n listed ≠ 0) : ∃ j,j < n ∧ listed.getD j false = false ∧ ∀ k,k < j → listed.getD k false = true:=by
 have hex : ∃ j,j < n ∧ listed.getD j false = false:=by
  by_cases hne : ∃ j,j < n ∧ listed.getD j false = false
  ·exact hne
  ·exfalso
   apply h
   refine List.countP_eq_zero.2 fun j hj => ?_
   have hj':=List.mem_range.1 hj;cases hg : listed.getD j false with
   | true => simp
   | false => exact absurd ⟨j,hj',hg⟩ hne
 obtain ⟨j,hj,hg⟩ := hex
 induction j using Nat.strongRecOn with
 | _ j ih =>
  by_cases hk : ∃ k,k < j ∧ listed.getD k false = false
  ·obtain ⟨k,hk1,hk2⟩ := hk
   exact ih k hk1 (by omega) hk2
  ·refine ⟨j,hj,hg,fun k hkj => ?_⟩
   cases hgk : listed.getD k false with
   | true => rfl
   | false => exact absurd ⟨k,hkj,hgk⟩ hk

structure FreeInv (ops : Array Oper) (Φ : Nat → Value → World → Prop) (J : (Nat → Bool) → World → Prop) (a₀ : Act) (vs : Nat → Value) (listed : Array Bool) (a : Act) (w : World) : Prop where
 inv : J (fun j => listed.getD j false) w
 vals : ∀ j o,ops[j]? = some o → listed.getD j false = true → Φ j (vs j) w ∧ ∀ d,o.dst = some d → a.tmps[d]? = some (vs j)
 rest : ∀ t,(∀ j o,ops[j]? = some o → listed.getD j false = true → o.dst ≠ some t) → a.tmps[t]? = a₀.tmps[t]?
 size : a.tmps.size = a₀.tmps.size
 defers : a.defers = a₀.defers

theorem distB_ne : ∀ {l : List Oper} {i j : Nat} {oi oj : Oper} {d : Nat},distB l = true → l[i]? = some oi → l[j]? = some oj → i ≠ j → oi.dst = some d → oj.dst ≠ some d
 | [],i,_,_,_,_,_,hi,_,_,_ => by simp at hi
 | o :: l,0,0,_,_,_,_,_,_,hne,_ => absurd rfl hne
 | o :: l,0,j + 1,oi,oj,d,h,hi,hj,_,hd => by
  simp only [distB,Bool.and_eq_true] at h;simp only [List.getElem?_cons_zero,Option.some.injEq] at hi
  subst hi;have h1:=h.1;rw [hd] at h1;have:=List.all_eq_true.1 h1 oj (List.mem_of_getElem? (by simpa using hj))
  simpa using this
 | o :: l,i + 1,0,oi,oj,d,h,hi,hj,_,hd => by
  simp only [distB,Bool.and_eq_true] at h;simp only [List.getElem?_cons_zero,Option.some.injEq] at hj
  subst hj;intro he;have h1:=h.1;rw [he] at h1;have:=List.all_eq_true.1 h1 oi (List.mem_of_getElem? (by simpa using hi))
  simp [hd] at this
 | o :: l,i + 1,j + 1,oi,oj,d,h,hi,hj,hne,hd => by
  simp only [distB,Bool.and_eq_true] at h;exact distB_ne h.2 (by simpa using hi) (by simpa using hj) (by omega) hd

theorem genAll_at {P : Program} {ops : Array Oper} {Φ : Nat → Value → World → Prop} {J : (Nat → Bool) → World → Prop} {a₀ : Act} : ∀ {l : List Oper} {i j : Nat} {o : Oper},
  GenAll P ops Φ J a₀ l i → l[j]? = some o → GenVC P ops Φ J a₀ (i + j) o
 | [],_,_,_,_,h => by simp at h
 | o' :: l,i,0,o,h,hj => by simp at hj; subst hj; exact h.1
 | o' :: l,i,j + 1,o,h,hj => by
  have:=genAll_at h.2 (j:=j) (o:=o) (by simpa using hj)
  rwa [show i + 1 + j = i + (j + 1) by omega] at this

def putAll (vs : Nat → Value) : List Oper → Nat → Act → Act
 | [],_,a => a
 | o :: l,i,a => putAll vs l (i + 1) (a.put o.dst (vs i))

theorem endAll_at {Φ : Nat → Value → World → Prop} {w : World} {K : Act → Prop} {vs : Nat → Value} : ∀ (l : List Oper) (i : Nat) (a : Act),EndAll Φ w K l i a →
  (∀ j,j < l.length → Φ (i + j) (vs (i + j)) w) → K (putAll vs l i a)
 | [],_,_,h,_ => h
 | o :: l,i,a,h,hv => by
  refine endAll_at l (i + 1) _ (h _ (by simpa using hv 0 (by simp))) fun j hj => ?_
  have:=hv (j + 1) (by simp; omega)
  rwa [show i + (j + 1) = i + 1 + j by omega] at this

theorem put_size (a : Act) (d : Option Tmp) (v : Value) : (a.put d v).tmps.size = a.tmps.size:=by cases d <;> simp [Act.put]
theorem put_defers (a : Act) (d : Option Tmp) (v : Value) : (a.put d v).defers = a.defers:=by cases d <;> rfl
theorem put_at (a : Act) (d : Option Tmp) (v : Value) (t : Nat) : (a.put d v).tmps[t]? = if d = some t ∧ t < a.tmps.size then some v else a.tmps[t]? := by
 cases d with
 | none => simp [Act.put]
 | some d =>
  simp only [Act.put,Array.getElem?_setIfInBounds]
  by_cases h : d = t
  ·subst h
   by_cases h' : d < a.tmps.size
   ·simp [h']
   ·simp [h']
  ·simp [h]

theorem putAll_defers (vs : Nat → Value) : ∀ (l : List Oper) (i : Nat) (a : Act),(putAll vs l i a).defers = a.defers
 | [],_,_ => rfl
 | o :: l,i,a => by rw [putAll,putAll_defers vs l,put_defers]
theorem putAll_none (vs : Nat → Value) (t : Nat) : ∀ (l : List Oper) (i : Nat) (a : Act),(∀ o ∈ l,o.dst ≠ some t) → (putAll vs l i a).tmps[t]? = a.tmps[t]?
 | [],_,_,_ => rfl
 | o :: l,i,a,h => by
  rw [putAll,putAll_none vs t l _ _ (fun o' ho => h o' (by simp [ho])),put_at,if_neg]
  intro h'; exact h o (by simp) h'.1
theorem putAll_some (vs : Nat → Value) (t : Nat) : ∀ (l : List Oper) (i : Nat) (a : Act) (j : Nat) (o : Oper),distB l = true → l[j]? = some o → o.dst = some t → t < a.tmps.size →
  (putAll vs l i a).tmps[t]? = some (vs (i + j))
 | [],_,_,_,_,_,h,_,_ => by simp at h
 | o' :: l,i,a,0,o,hd,hj,ht,hs => by
  simp at hj; subst hj
  simp only [distB,Bool.and_eq_true] at hd;rw [putAll,putAll_none vs t l _ _ (fun o'' ho => by
   have h1:=hd.1;rw [ht] at h1;have:=List.all_eq_true.1 h1 o'' ho
   simpa using this),put_at,if_pos ⟨ht,hs⟩]; rfl
 | o' :: l,i,a,j + 1,o,hd,hj,ht,hs => by
  simp only [distB,Bool.and_eq_true] at hd;rw [putAll,putAll_some vs t l (i + 1) _ j o hd.2 (by simpa using hj) ht (by rw [put_size]; exact hs),show i + 1 + j = i + (j + 1) by omega]

theorem act_ext {a b : Act} (h : ∀ t : Nat,a.tmps[t]? = b.tmps[t]?) (hd : a.defers = b.defers) : a = b:=by
 cases a; cases b;simp only at h hd;subst hd
 congr 1
 exact Array.ext_getElem? h

section law
variable {P : Program} {ops : Array Oper} {Φ : Nat → Value → World → Prop} {J : (Nat → Bool) → World → Prop} {a₀ : Act} {Q : Exit → Act → World → Prop} {n : Nat}

theorem free_head (hB : freeB ops n a₀.tmps.size = true) (hv : GenAll P ops Φ J a₀ (ops.toList.take n) 0)
  (he : ∀ w,J (fun j => decide (j < n)) w → EndAll Φ w (fun a => wpList P ops Q (ops.toList.drop n) a w) (ops.toList.take n) 0 a₀) :
  ∀ (f : Nat) (vs : Nat → Value) (listed : Array Bool) (a : Act) (w : World),left n listed ≤ f → HeadInv .any ops n listed → FreeInv ops Φ J a₀ vs listed a w → wpAny P .any ops Q (f + (ops.size - n)) listed a w:=by
 simp only [freeB,Bool.and_eq_true,Bool.or_eq_true,beq_iff_eq,decide_eq_true_eq] at hB;obtain ⟨⟨⟨⟨⟨hn,hback⟩,hdist⟩,hin⟩,htail⟩,hseq⟩ := hB;have hin' : ∀ j o d,ops[j]? = some o → j < n → o.dst = some d → d < a₀.tmps.size:=fun j o d ho hj hd => by
  have hmem : o ∈ ops.toList.take n:=List.mem_of_getElem? (i:=j) (by rw [List.getElem?_take,if_pos hj]; simpa using ho)
  have:=List.all_eq_true.1 hin o hmem;rw [hd] at this
  simpa using this
 have hld : ∀ j o,ops[j]? = some o → j < n → (ops.toList.take n)[j]? = some o:=fun j o ho hj => by rw [List.getElem?_take,if_pos hj]; simpa using ho
 intro f
 induction f with
 | zero =>
  intro vs listed a w hl inv fi
  have hall:=left_zero (Nat.le_zero.1 hl);have harr : listed = headArr n ops.size:=by
   refine Array.ext (by simp [inv.size,headArr]; omega) fun j h1 h2 => ?_
   by_cases hj : j < n
   ·have:=hall j hj
    simp [h1] at this
    rw [this];simp only [headArr];rw [Array.getElem_append_left (by simpa using hj)]
    simp
   ·have:=inv.tail j (by omega) (by rw [inv.size] at h1; exact h1)
    simp [h1] at this
    rw [this];simp only [headArr];rw [Array.getElem_append_right (by simpa using hj)]
    simp
  have hnl : ∀ j o,ops[j]? = some o → listed.getD j false = true → j < n:=fun j o ho hl => by
   rcases Nat.lt_or_ge j n with h | h
   ·exact h
   ·have:=inv.tail j h (Array.getElem?_eq_some_iff.1 ho).1
    rw [getD_both this] at hl; cases hl
  have hK:=endAll_at (vs:=vs) _ _ _ (he w (by have h1:=fi.inv; rwa [show (fun j => listed.getD j false) = (fun j => decide (j < n)) from funext fun j => by
   by_cases hj : j < n
   ·rw [hall j hj]; simp [hj]
   ·have : listed.getD j false = false:=by
     rcases Nat.lt_or_ge j ops.size with h | h
     ·exact getD_both (inv.tail j (by omega) h)
     ·simp [Array.getElem?_eq_none (show listed.size ≤ j by rw [inv.size]; exact h)]
    rw [this]; simp [hj]] at h1)) (fun j hj => by
   have hj' : j < n:=by simp at hj; omega
   have hjs : j < ops.size:=by omega
   have:=(fi.vals j ops[j] (by simp [hjs]) (hall j hj')).1
   simpa using this)
  have ha : a = putAll vs (ops.toList.take n) 0 a₀ := by
   refine act_ext (fun t => ?_) (by rw [putAll_defers]; exact fi.defers)
   by_cases ht : ∃ j o,ops[j]? = some o ∧ j < n ∧ o.dst = some t
   ·obtain ⟨j,o,ho,hj,hd⟩ := ht
    rw [(fi.vals j o ho (hall j hj)).2 t hd,putAll_some vs t _ 0 a₀ j o hdist (hld j o ho hj) hd (hin' j o t ho hj hd)];simp
   ·rw [fi.rest t (fun j o ho hl hd => ht ⟨j,o,ho,hnl j o ho hl,hd⟩),putAll_none]
    intro o ho hd
    obtain ⟨j,hj⟩ := List.getElem?_of_mem ho
    rw [List.getElem?_take] at hj
    split at hj
    ·exact ht ⟨j,o,by simpa using hj,by assumption,hd⟩
    ·cases hj
  rw [← ha] at hK;rw [Nat.zero_add];have hlen : (ops.toList.drop n).length = ops.size - n:=by simp
  have:=wpAny_of_seq (P:=P) (md:=.any) (Q':=Q) (ops.toList.drop n) n listed a w (fun j => by simp [List.getElem?_drop]) (by rw [hlen,harr]; exact hseq) hK
  rwa [hlen] at this
 | succ f ih =>
  intro vs listed a w hl inv fi
  by_cases h0 : left n listed = 0
  ·have:=ih vs listed a w (by omega) inv fi
   rw [show f + 1 + (ops.size - n) = f + (ops.size - n) + 1 by omega]
   exact wpAny_more _ _ _ _ this
  ·obtain ⟨j₀,hj₀,hun₀,hbefore⟩ := exists_unlisted h0
   have hj₀s : j₀ < ops.size:=by omega
   rw [show f + 1 + (ops.size - n) = f + (ops.size - n) + 1 by omega]
   refine ⟨fun hr => ?_,fun i hi => ?_⟩
   ·exfalso
    have : j₀ ∈ Region.ready .any ops listed:=mem_ready.2 ⟨getD_in (by rw [inv.size]; omega) hun₀,ops[j₀],by simp [hj₀s],fun e he hb => by
     have h1:=List.all_eq_true.1 hback (ops[j₀],j₀) (List.mem_iff_getElem?.2 ⟨j₀,by simp [hj₀s]⟩)
     have h2:=List.all_eq_true.1 h1 e (by simpa using he)
     simp only [hb,Bool.not_true,Bool.false_or,decide_eq_true_eq] at h2;exact hbefore _ h2⟩
    rw [hr] at this; cases this
   ·have hin0 : i < n:=by
     rcases Nat.lt_or_ge i n with h | h
     ·exact h
     ·exfalso
      rcases htail with h1 | ⟨⟨h1,h2⟩,h3⟩
      ·obtain ⟨_,oi,hoi,_⟩ := mem_ready.1 hi
       have:=(Array.getElem?_eq_some_iff.1 hoi).1
       omega
      ·exact tail_waits h2 h3 h1 inv (n - j₀) j₀ rfl hj₀ (getD_in (by rw [inv.size]; omega) hun₀) i h hi
    obtain ⟨hiun,oi,hoi,hready⟩ := mem_ready.1 hi;have his : i < ops.size:=(Array.getElem?_eq_some_iff.1 hoi).1
    have hvc:=genAll_at hv (hld i oi hoi hin0);rw [Nat.zero_add] at hvc;have hvc:=hvc a w (fun j => listed.getD j false) (getD_both hiun) fi.inv (fun e he hb => by
      have hl':=hready e (by simpa using he) hb
      have hes : e.on < ops.size:=by
       have : e.on < listed.size:=by
        rcases Nat.lt_or_ge e.on listed.size with h | h
        ·exact h
        ·rw [show listed.getD e.on false = false from by simp [Array.getElem?_eq_none h]] at hl'; cases hl'
       rw [inv.size] at this; exact this
      have:=fi.vals e.on ops[e.on] (by simp [hes]) hl'
      exact ⟨ops[e.on],vs e.on,by simp [hes],hl',this.1,this.2⟩)
     (fun t ht => fi.rest t fun j o ho hlj => by
      have h1:=List.all_eq_true.1 ht o (by simpa using Array.mem_of_getElem? ho)
      simp only [Bool.or_eq_true,List.any_eq_true,Bool.and_eq_true,beq_iff_eq] at h1;rcases h1 with h1 | ⟨e,he,hb,hei⟩
      ·simpa using h1
      ·exfalso
       have h2:=inv.closed j o ho hlj e (by simpa using he) hb
       rw [hei,getD_both hiun] at h2;cases h2)
    have hset : (fun j => (listed.setIfInBounds i true).getD j false) = setB (fun j => listed.getD j false) i:=funext fun j => by
     unfold setB;by_cases hji : j = i
     ·subst hji; simp [inv.size,his]
     ·rw [if_neg hji,getD_set_ne false (Ne.symm hji)]
    have next : ∀ v w',J (setB (fun j => listed.getD j false) i) w' → (∀ j,j ≠ i → listed.getD j false = true → ∀ v, Φ j v w → (∀ oj d,ops[j]? = some oj → oj.dst = some d → a.tmps[d]? = some v) → Φ j v w') → Φ i v w' → wpAny P .any ops Q (f + (ops.size - n)) (listed.setIfInBounds i true) (a.put oi.dst v) w':=fun v w' hj' hb hφ => by
     refine ih (fun j => if j = i then v else vs j) _ _ _ (by have:=left_set hin0 (by rw [inv.size]; exact his) hiun; omega) (inv.set hi hin0) ⟨?_, ?_, ?_, ?_, ?_⟩
     ·rw [hset]; exact hj'
     ·intro j o ho hl'
      by_cases hji : j = i
      ·subst hji
       have : o = oi:=Option.some.inj (ho.symm.trans hoi);subst this;refine ⟨by simpa using hφ,fun d hd => ?_⟩
       rw [put_at,if_pos ⟨hd,by rw [fi.size]; exact hin' _ _ _ ho hin0 hd⟩]; simp
      ·rw [getD_set_ne false (Ne.symm hji)] at hl'
       have h1:=fi.vals j o ho hl';have hjn : j < n:=by
        rcases Nat.lt_or_ge j n with h | h
        ·exact h
        ·have:=inv.tail j h (Array.getElem?_eq_some_iff.1 ho).1
         rw [getD_both this] at hl'; cases hl'
       refine ⟨by simpa [hji] using hb j hji hl' _ h1.1 (fun oj d hoj hd => by rw [ho] at hoj; cases hoj; exact h1.2 d hd),fun d hd => ?_⟩
       rw [put_at,if_neg (fun h' => distB_ne hdist (hld j o ho hjn) (hld i oi hoi hin0) hji hd h'.1)]
       simpa [hji] using h1.2 d hd
     ·intro t ht
      have h1 : oi.dst ≠ some t:=ht i oi hoi (by simp [inv.size,his])
      rw [put_at,if_neg (fun h' => h1 h'.1)]
      refine fi.rest t fun j o ho hl' => ht j o ho ?_
      exact getD_set_true hl'
     ·rw [put_size]; exact fi.size
     ·rw [put_defers]; exact fi.defers
    unfold wpOp;simp only [hoi];split
    ·rename_i hwd
     rw [if_pos hwd] at hvc;exact .inl (wp_of_opOK hvc fun v w' ⟨hj',hb,hφ⟩ => next v w' hj' hb hφ)
    ·rename_i hwd
     rw [if_neg hwd] at hvc;exact next _ _ hvc.1 (fun _ _ _ _ h _ => h) hvc.2

theorem wp_region_gen {id : Nat} {l : List Oper} {a : Act} {w : World} (n : Nat) (Φ : Nat → Value → World → Prop) (J : (Nat → Bool) → World → Prop) (hmix : P.follows .mixedOrders = true) (hB : freeB l.toArray n a.tmps.size = true)
  (hJ : J (fun _ => false) w.drew) (hv : GenAll P l.toArray Φ J a (l.take n) 0)
  (he : ∀ w',J (fun j => decide (j < n)) w' → EndAll Φ w' (fun a => wpList P l.toArray Q (l.drop n) a w') (l.take n) 0 a) : (Code.region id l.toArray true).wp P Q a w:=by
 refine wp_region_any hmix ?_
 have:=free_head (Q:=Q) (a₀ := a) hB hv he n (fun _ => undef) (Array.replicate l.toArray.size false) a w.drew (by
   unfold left; exact Nat.le_trans List.countP_le_length (by simp))
  ⟨by simp,fun j oj _ hl => (by rw [getD_replicate_false] at hl; cases hl),fun t _ ht => getD_in (by simpa using ht) (getD_replicate_false _ _)⟩
  ⟨by rw [show (fun j => (Array.replicate l.toArray.size false).getD j false) = (fun _ => false) from funext fun j => getD_replicate_false _ _]; exact hJ,fun j o _ hl => (by rw [getD_replicate_false] at hl; cases hl),fun _ _ => rfl,rfl,rfl⟩
 have hn : n ≤ l.toArray.size:=by simp only [freeB,Bool.and_eq_true,decide_eq_true_eq] at hB; exact hB.1.1.1.1.1
 rw [show n + (l.toArray.size - n) = l.toArray.size by omega] at this
 exact this
end law

theorem gen_plain {P : Program} {ops : Array Oper} {Φ : Nat → Value → World → Prop} {J : (Nat → Bool) → World → Prop} {a₀ : Act} {i : Nat} {o : Oper} (hg : o.guard = none)
  (h : ∀ (a : Act) (w : World) (L : Nat → Bool),L i = false → J L w →
   (∀ e ∈ o.after.toList,Region.binds .any e = true → ∃ oj v,ops[e.on]? = some oj ∧ L e.on = true ∧ Φ e.on v w ∧ ∀ d,oj.dst = some d → a.tmps[d]? = some v) →
   (∀ t : Nat,(ops.toList.all fun oj => oj.dst != some t || oj.after.toList.any fun e => Region.binds .any e && e.on == i) = true → a.tmps[t]? = a₀.tmps[t]?) →
   opOK P o a w (fun v w' => J (setB L i) w' ∧ (∀ j,j ≠ i → L j = true → ∀ v, Φ j v w → (∀ oj d,ops[j]? = some oj → oj.dst = some d → a.tmps[d]? = some v) → Φ j v w') ∧ Φ i v w')) :
  GenVC P ops Φ J a₀ i o:=fun a w L h1 h2 hp ht => by
 rw [if_pos (by simp [Region.wanted,hg])]
 exact h a w L h1 h2 hp ht

/-! Where each operation but makes new blocks. -/
section
variable (P : Program) (ops : Array Oper) (Φ : Nat → Value → World → Prop) (a₀ : Act) (w₀ : World)
def FreeVC (i : Nat) (o : Oper) : Prop :=
 ∀ (a : Act) (w : World),Below w₀.heap.size w₀ w →
  (∀ e ∈ o.after.toList,Region.binds .any e = true → ∃ oj v,ops[e.on]? = some oj ∧ Φ e.on v w ∧ ∀ d,oj.dst = some d → a.tmps[d]? = some v) →
  (∀ t : Nat,(ops.toList.all fun oj => oj.dst != some t || oj.after.toList.any fun e => Region.binds .any e && e.on == i) = true → a.tmps[t]? = a₀.tmps[t]?) →
  if Region.wanted o (yielded ops a.tmps) then opOK P o a w (fun v w' => Below w.heap.size w w' ∧ Φ i v w') else Φ i undef w
def FreeAll : List Oper → Nat → Prop
 | [],_ => True
 | o :: l,i => FreeVC P ops Φ a₀ w₀ i o ∧ FreeAll l (i + 1)
theorem vc_plain {i : Nat} {o : Oper} (hg : o.guard = none)
  (h : ∀ (a : Act) (w : World),Below w₀.heap.size w₀ w →
   (∀ e ∈ o.after.toList,Region.binds .any e = true → ∃ oj v,ops[e.on]? = some oj ∧ Φ e.on v w ∧ ∀ d,oj.dst = some d → a.tmps[d]? = some v) →
   (∀ t : Nat,(ops.toList.all fun oj => oj.dst != some t || oj.after.toList.any fun e => Region.binds .any e && e.on == i) = true → a.tmps[t]? = a₀.tmps[t]?) → opOK P o a w (fun v w' => Below w.heap.size w w' ∧ Φ i v w')) :
  FreeVC P ops Φ a₀ w₀ i o:=fun a w hb hp ht => by
 rw [if_pos (by simp [Region.wanted,hg])]
 exact h a w hb hp ht
end
theorem opOK_call {P : Program} {o : Oper} {a : Act} {w : World} {R : Value → World → Prop} {f : FuncId} {args : Array Value} (hr : (execOp a.eval o).run P w = .ok (.enter f args) w)
  (h : Calls P f args w fun e w' => ∃ v,e = .returned v ∧ R v w') : opOK P o a w R:=by unfold opOK; rw [hr]; exact h
theorem opOK_val {P : Program} {o : Oper} {a : Act} {w w' : World} {R : Value → World → Prop} {v : Value} (hr : (execOp a.eval o).run P w = .ok (.value v) w') (h : R v w') : opOK P o a w R:=by unfold opOK; rw [hr]; exact h
theorem opOK_mono {P : Program} {o : Oper} {a : Act} {w : World} {R R' : Value → World → Prop} (h : opOK P o a w R) (hr : ∀ v w',R v w' → R' v w') : opOK P o a w R':=by
 unfold opOK at *;generalize (execOp a.eval o).run P w = r at *;cases r with
 | ok n w' =>
  cases n <;> simp only at h ⊢
  case value u => exact hr _ _ h
  case skip => exact hr _ _ h
  case enter f args => exact h.mono (fun _ _ ⟨v,he,hR⟩ => ⟨v,he,hr _ _ hR⟩)
 | halt x w' => simp only at h
theorem genVC_of {P : Program} {ops : Array Oper} {Φ : Nat → Value → World → Prop} {a₀ : Act} {w₀ : World} (hm : ∀ i v w w',Below w.heap.size w w' → Φ i v w → Φ i v w') {i : Nat} {o : Oper}
  (h : FreeVC P ops Φ a₀ w₀ i o) : GenVC P ops Φ (fun _ w => Below w₀.heap.size w₀ w) a₀ i o:=fun a w L _ hJ hp ht => by
 have:=h a w hJ (fun e he hb => let ⟨oj,v,h1,_,h2,h3⟩ := hp e he hb; ⟨oj,v,h1,h2,h3⟩) ht
 split
 ·rename_i hw
  rw [if_pos hw] at this;exact opOK_mono this fun v w' ⟨hb,hφ⟩ => ⟨hJ.trans (hb.mono hJ.size),fun j _ _ v h _ => hm j v w w' hb h,hφ⟩
 ·rename_i hw
  rw [if_neg hw] at this;exact ⟨hJ,this⟩
theorem genAll_of {P : Program} {ops : Array Oper} {Φ : Nat → Value → World → Prop} {a₀ : Act} {w₀ : World} (hm : ∀ i v w w',Below w.heap.size w w' → Φ i v w → Φ i v w') : ∀ {l : List Oper} {i : Nat},
  FreeAll P ops Φ a₀ w₀ l i → GenAll P ops Φ (fun _ w => Below w₀.heap.size w₀ w) a₀ l i
 | [],_,_ => trivial
 | _ :: _,_,h => ⟨genVC_of hm h.1,genAll_of hm h.2⟩
theorem wp_region_free {P : Program} {Q : Exit → Act → World → Prop} {id : Nat} {l : List Oper} {a : Act} {w : World} (n : Nat) (Φ : Nat → Value → World → Prop) (hmix : P.follows .mixedOrders = true) (hB : freeB l.toArray n a.tmps.size = true)
  (hm : ∀ i v w w',Below w.heap.size w w' → Φ i v w → Φ i v w')
  (hv : FreeAll P l.toArray Φ a w.drew (l.take n) 0)
  (he : ∀ w',Below w.heap.size w w' → EndAll Φ w' (fun a => wpList P l.toArray Q (l.drop n) a w') (l.take n) 0 a) : (Code.region id l.toArray true).wp P Q a w :=
 wp_region_gen n Φ (fun _ w' => Below w.drew.heap.size w.drew w') hmix hB (Below.refl _ _) (genAll_of hm hv) fun w' hb => he w' ⟨hb.os,hb.tape,hb.output,hb.size,hb.block⟩
end Go.Oche

/- Chapter 2 in plain Lean. -/
namespace Go.Oche.O2
def I64 (b : Int) : Prop := -9223372036854775808 ≤ b ∧ b ≤ 9223372036854775807
def fac (b : Int) : Int:=b.tdiv 100
def num (b : Int) : Int:=b.tmod 100
def worth (b : Int) : Int:=fac b * num b
def isIn (n lo hi : Int) : Bool:=decide (lo ≤ n) && decide (n ≤ hi)
def bedOk (b : Int) : Bool:=b == 125 || b == 225 || (isIn (fac b) 1 4 && isIn (num b) 1 20)
def gateOk (g : Int) : Bool:=isIn g 0 2
def opensG (g b : Int) : Bool:=if g = 1 then fac b == 2 else if g = 2 then decide (2 ≤ fac b) else true
def aftL (s b : Int) : Int:=s - worth b
def aftOk (g s b : Int) : Bool:=if s - worth b = 0 then opensG g b else if s - worth b = 1 then g == 0 else decide (1 < s - worth b)
def aftR (s b g : Int) : Int:=if aftOk g s b then s - worth b else -1
def good (l : List Int) (j : Nat) : Bool:=bedOk (l.getD j 0) && (j == 0 || decide (l.getD (j - 1) 0 < l.getD j 0))
def bedsOk (l : List Int) : Bool:=(List.range l.length).all (good l) && isIn l.length 1 82
theorem bedsOk_bad {l : List Int} {k : Nat} (hk : k < l.length) (h : good l k = false) : bedsOk l = false:=by
 have : (List.range l.length).all (good l) = false:=by
  rw [List.all_eq_false];exact ⟨k,List.mem_range.2 hk,by simp [h]⟩
 simp [bedsOk,this]
theorem bedsOk_all {l : List Int} (h : ∀ j,j < l.length → good l j = true) : bedsOk l = isIn l.length 1 82:=by
 have : (List.range l.length).all (good l) = true:=List.all_eq_true.2 fun j hj => h j (List.mem_range.1 hj)
 simp [bedsOk,this]
theorem bedOk_spec {b : Int} (h : bedOk b = true) : 101 ≤ b ∧ b ≤ 420 ∧ 1 ≤ fac b ∧ fac b ≤ 4 ∧ 1 ≤ num b ∧ num b ≤ 25 ∧ b = 100 * fac b + num b:=by
 simp only [bedOk,Bool.or_eq_true,beq_iff_eq,Bool.and_eq_true,isIn,decide_eq_true_eq] at h;have h1:=Int.mul_tdiv_add_tmod b 100;rcases h with (rfl | rfl) | ⟨⟨h2,h3⟩,h4,h5⟩
 ·decide
 ·decide
 ·unfold fac num at *; omega
theorem worth_bd {b : Int} (h : bedOk b = true) : 1 ≤ worth b ∧ worth b ≤ 100:=by
 obtain ⟨_,_,h1,h2,h3,h4,_⟩ := bedOk_spec h;unfold worth;constructor
 ·have:=Int.mul_le_mul h1 h3 (by omega) (by omega); omega
 ·have:=Int.mul_le_mul h2 h4 (by omega) (by omega); omega
theorem bedOk_i64 {b : Int} (h : bedOk b = true) : I64 b:=by obtain ⟨h1,h2,_⟩ := bedOk_spec h; constructor <;> omega
theorem bedsOk_spec {l : List Int} (h : bedsOk l = true) : (∀ b ∈ l,bedOk b = true) ∧ (∀ i j, ∀ h : i < j, ∀ hj : j < l.length,l[i]'(Nat.lt_trans h hj) < l[j]) ∧ 1 ≤ l.length ∧ l.length ≤ 82:=by
 simp only [bedsOk,Bool.and_eq_true,isIn,decide_eq_true_eq] at h;obtain ⟨h1,h2,h3⟩ := h;have hg : ∀ j,j < l.length → good l j = true:=fun j hj => List.all_eq_true.1 h1 j (List.mem_range.2 hj)
 refine ⟨fun b hb => ?_, ?_,by omega,by omega⟩
 ·obtain ⟨j,hj,rfl⟩ := List.mem_iff_getElem.1 hb
  have:=hg j hj;simp only [good,Bool.and_eq_true] at this
  simpa [List.getD_eq_getElem?_getD,hj] using this.1
 ·intro i j hij
  induction j with
  | zero => omega
  | succ j ih =>
   intro hj
   have:=hg (j + 1) hj;simp only [good,Bool.and_eq_true,Bool.or_eq_true,decide_eq_true_eq] at this;have h4 : l[j]'(by omega) < l[j + 1]:=by
    rcases this.2 with h | h
    ·simp at h
    ·have hj' : j < l.length:=by omega
     simpa [List.getD_eq_getElem?_getD,hj,hj'] using h
   by_cases hi : i = j
   ·subst hi; exact h4
   ·exact Int.lt_trans (ih (by omega) (by omega)) h4
def throwsL (g s : Int) (bs : List Int) : List (Int × Int):=if 0 < s then (bs.filter (aftOk g s)).map fun b => (b,s - worth b) else []
theorem throwsL_snoc_yes {g s : Int} {bs : List Int} {k : Nat} (hk : k < bs.length) (hs : 0 < s) (h : aftOk g s bs[k] = true) : throwsL g s (bs.take (k + 1)) = throwsL g s (bs.take k) ++ [(bs[k],s - worth bs[k])]:=by
 simp only [throwsL,if_pos hs];rw [List.take_succ_eq_append_getElem hk,List.filter_append,List.map_append];simp [h]
theorem throwsL_snoc_no {g s : Int} {bs : List Int} {k : Nat} (hk : k < bs.length) (h : aftOk g s bs[k] = false) : throwsL g s (bs.take (k + 1)) = throwsL g s (bs.take k):=by
 unfold throwsL;split
 ·rw [List.take_succ_eq_append_getElem hk,List.filter_append,List.map_append]
  simp [h]
 ·rfl
theorem throwsL_split {g s : Int} {bs : List Int} {k : Nat} (hk : k < bs.length) (hs : 0 < s) (h : aftOk g s bs[k] = true) : ∃ post,throwsL g s bs = throwsL g s (bs.take k) ++ (bs[k],s - worth bs[k]) :: post:=by
 refine ⟨throwsL g s (bs.drop (k + 1)), ?_⟩
 have e : bs = bs.take (k + 1) ++ bs.drop (k + 1):=(List.take_append_drop _ _).symm;have happ : ∀ a b : List Int,throwsL g s (a ++ b) = throwsL g s a ++ throwsL g s b:=fun a b => by simp [throwsL,if_pos hs]
 conv => lhs; rw [e,happ,throwsL_snoc_yes hk hs h]
 simp
theorem throwsL_mem {g s : Int} {bs : List Int} {x l : Int} (h : (x,l) ∈ throwsL g s bs) : x ∈ bs ∧ aftOk g s x = true ∧ l = s - worth x ∧ 0 < s:=by
 unfold throwsL at h;split at h
 ·simp only [List.mem_map,List.mem_filter,Prod.mk.injEq] at h
  obtain ⟨b,⟨h1,h2⟩,rfl,rfl⟩ := h;exact ⟨h1,h2,rfl,by assumption⟩
 ·cases h
theorem throwsL_prefix (g s : Int) (bs : List Int) (k : Nat) : throwsL g s (bs.take k) <+: throwsL g s bs:=by
 unfold throwsL;split
 ·exact List.IsPrefix.map _ (List.IsPrefix.filter _ (List.take_prefix k bs))
 ·exact List.prefix_rfl
theorem aftOk_bd {g s b : Int} (h : aftOk g s b = true) : 0 ≤ s - worth b:=by
 unfold aftOk at h;split at h
 ·omega
 ·split at h
  ·omega
  ·simp at h; omega

def psum (C : List Int) (l : List (Int × Int)) : Int:=(l.map fun t => C.getD t.2.toNat 0).sum
def rowSum (g : Int) (bs C : List Int) (s : Nat) : Int:=psum C (throwsL g s bs)
theorem psum_snoc (C : List Int) (l : List (Int × Int)) (t : Int × Int) : psum C (l ++ [t]) = psum C l + C.getD t.2.toNat 0:=by simp [psum]
theorem getD_bd {C : List Int} {M : Int} (h : ∀ c ∈ C,0 ≤ c ∧ c ≤ M) (hM : 0 ≤ M) (i : Nat) : 0 ≤ C.getD i 0 ∧ C.getD i 0 ≤ M:=by
 rw [List.getD_eq_getElem?_getD]
 cases hc : C[i]? with
 | none => simpa using hM
 | some c => simpa using h c (List.mem_of_getElem? hc)
theorem psum_bd {C : List Int} {M : Int} (h : ∀ c ∈ C,0 ≤ c ∧ c ≤ M) (hM : 0 ≤ M) : ∀ l : List (Int × Int),0 ≤ psum C l ∧ psum C l ≤ M * l.length
 | [] => by simp [psum]
 | t :: l => by
  have h1:=psum_bd h hM l;have h2:=getD_bd h hM t.2.toNat;have e : psum C (t :: l) = C.getD t.2.toNat 0 + psum C l:=by simp [psum]
  rw [e,List.length_cons,Int.natCast_add,Int.mul_add];simp only [Int.natCast_one,Int.mul_one];omega
theorem throwsL_length (g s : Int) (bs : List Int) : (throwsL g s bs).length ≤ bs.length:=by
 unfold throwsL;split
 ·simpa using List.length_filter_le _ bs
 ·simp

def cntRow (g : Int) (bs : List Int) (m : Nat) : Nat → List Int
 | 0 => 1 :: List.replicate m 0
 | k + 1 => (List.range (m + 1)).map (rowSum g bs (cntRow g bs m k))
theorem cntRow_length (g : Int) (bs : List Int) (m : Nat) : ∀ k,(cntRow g bs m k).length = m + 1
 | 0 => by simp [cntRow]
 | k + 1 => by simp [cntRow]
theorem cntRow_bd (g : Int) {bs : List Int} (hb : bs.length ≤ 82) (m : Nat) : ∀ k, ∀ c ∈ cntRow g bs m k,0 ≤ c ∧ c ≤ (82 : Int) ^ k
 | 0 => by intro c hc; simp [cntRow] at hc; rcases hc with rfl | ⟨_,rfl⟩ <;> simp
 | k + 1 => by
  intro c hc
  simp only [cntRow,List.mem_map,List.mem_range] at hc;obtain ⟨s,_,rfl⟩ := hc;have hp : (0 : Int) ≤ 82 ^ k:=Int.pow_nonneg (by decide)
  have h1:=psum_bd (cntRow_bd g hb m k) hp (throwsL g s bs);have h2:=throwsL_length g s bs;refine ⟨h1.1,Int.le_trans h1.2 ?_⟩
  rw [Int.pow_succ];exact Int.mul_le_mul_of_nonneg_left (by omega) hp
def cnts (g : Int) (bs : List Int) (d m : Nat) : List (List Int):=(List.range (d + 1)).map (cntRow g bs m)
@[simp] theorem cnts_length (g : Int) (bs : List Int) (d m : Nat) : (cnts g bs d m).length = d + 1:=by simp [cnts]
def colSum (Cs : List (List Int)) (s : Nat) (k : Nat) : Int:=(((Cs.drop 1).take k).map fun r => r.getD s 0).sum
theorem colSum_succ {Cs : List (List Int)} {s k : Nat} (h : k + 1 < Cs.length) : colSum Cs s (k + 1) = colSum Cs s k + (Cs[k + 1]).getD s 0:=by
 unfold colSum;rw [List.take_succ_eq_append_getElem (by simp; omega),List.map_append,List.sum_append]
 simp
theorem cntRow_zero (g : Int) (bs : List Int) (m j : Nat) : (cntRow g bs m 0).getD j 0 = if j = 0 then 1 else 0:=by
 cases j with
 | zero => simp [cntRow]
 | succ j =>
  rw [if_neg (by omega),cntRow,List.getD_eq_getElem?_getD,List.getElem?_cons_succ,List.getElem?_replicate]
  split <;> rfl
theorem cntRow_succ (g : Int) (bs : List Int) (m k j : Nat) (h : j < m + 1) : (cntRow g bs m (k + 1)).getD j 0 = rowSum g bs (cntRow g bs m k) j:=by
 rw [cntRow,List.getD_eq_getElem?_getD]
 simp [h]
def bogTo (Cs : List (List Int)) (d : Nat) (k : Nat) : List Int:=((List.range k).filter fun s => colSum Cs (s + 1) d == 0).map fun (s : Nat) => ((s : Int) + 1)
def forcedTo (g : Int) (bs : List Int) (d s k : Nat) : List Int:=((List.range k).filter fun i => colSum (cnts g (bs.eraseIdx i) d s) s d == 0).map fun i => bs.getD i 0
def psumIf (C : List Int) (gi : Int) (l : List (Int × Int)) : Int:=(l.map fun t => if opensG gi t.1 then C.getD t.2.toNat 0 else 0).sum
def closedAt (g : Int) (bs : List Int) (nv : List Bool) (s : Nat) : Bool := !nv.getD s false || (s != 0 && (throwsL g s bs).all fun t => nv.getD t.2.toNat false)
def closedB (g : Int) (bs : List Int) (nv : List Bool) : Bool:=(List.range nv.length).all (closedAt g bs nv)
end Go.Oche.O2

/- Chapter 2: the functions of a bed. -/
namespace Go.Proofs.YtnbmgkmcaoafnaaGreatDoor.O2
open Go.RowKit Go.Oche Go.Oche.O2 Go.Proofs
set_option maxRecDepth 100000 in
theorem mix : Tryz.prog.follows .mixedOrders = true:=by kernel_rfl

theorem ret_int {k : IntKind} {a b : Int} (h : a = b) : Ending.returned (.int k a) = .returned (.int k b):=by rw [h]
theorem ret_bool {a b : Bool} (h : a = b) : Ending.returned (.bool a) = .returned (.bool b):=by rw [h]

theorem fac_any (b : Int) (w : World) (h : I64 b) : Calls Tryz.prog 156 #[.agg #[.int .i64 b]] w fun e w' => e = .returned (.int .i64 (fac b)) ∧ Below w.heap.size w w':=by
 obtain ⟨h1,h2⟩ := h
 go_enter Tryz.func156,Tryz.ntmps156
 go_wp2
 go_ret
 exact ⟨rfl,(Below.refl _ _).alloc (Nat.le_refl _) _⟩
set_option maxRecDepth 100000 in
theorem num_any (b : Int) (w : World) : Calls Tryz.prog 157 #[.agg #[.int .i64 b]] w fun e w' => e = .returned (.int .i64 (num b)) ∧ Below w.heap.size w w':=by
 go_enter Tryz.func157,Tryz.ntmps157
 go_wp2
 go_ret
 exact ⟨rfl,(Below.refl _ _).alloc (Nat.le_refl _) _⟩

set_option maxRecDepth 100000 in
theorem worth_any (b : Int) (w : World) (h : I64 b) (hw : IntKind.i64.wrap (fac b * num b) = worth b) : Calls Tryz.prog 158 #[.agg #[.int .i64 b]] w fun e w' => e = .returned (.int .i64 (worth b)) ∧ Below w.heap.size w w':=by
 go_enter Tryz.func158,Tryz.ntmps158
 go_wp2;refine wp_region_free 6 (fun | 0 => fun v _ => v = .agg #[.int .i64 b] | 1 => fun v _ => v = .int .i64 (fac b) | 2 => fun v _ => v = .agg #[.int .i64 b] | 3 => fun v _ => v = .int .i64 (num b) | 4 => fun v _ => v = .int .i64 (worth b) | 5 => fun v _ => v = .int .i64 (worth b) | _ => fun _ _ => True) mix (by kernel_rfl) ?_ ?_ ?_
 ·intro i v w w' hb h
  match i,h with
  | 0,h => exact h
  | 1,h => exact h
  | 2,h => exact h
  | 3,h => exact h
  | 4,h => exact h
  | 5,h => exact h
  | _+6,h => trivial
 ·refine ⟨?_, ?_, ?_, ?_, ?_, ?_,trivial⟩
  all_goals
   refine vc_plain _ _ _ _ _ rfl fun a w1 hb hp ht => ?_
   simp [Region.binds] at hp
   have t1:=ht 1 rfl;have c:=hb.cell (p:=⟨w.heap.size,0,none⟩) (by simp)
   simp at t1 c
   simp [opOK,go_sem,hp,t1,c,Below.refl]
  ·exact (fac_any b w1 h).mono fun e w' h => ⟨h.1,h.2⟩
  ·exact (num_any b w1).mono fun e w' h => ⟨h.1,h.2⟩
  ·exact hw
 ·intro w' hb
  simp only [List.take_succ_cons,List.take_zero,List.drop_succ_cons,List.drop_zero,EndAll];rintro _ rfl _ rfl _ rfl _ rfl _ rfl _ rfl;go_wp2
  go_ret
  exact ⟨rfl,((Below.refl _ _).alloc (Nat.le_refl _) _).trans (hb.mono (by simp))⟩

set_option maxRecDepth 100000 in
theorem isGate_any (g : Int) (w : World) : Calls Tryz.prog 137 #[.int .i64 g] w fun e w' => e = .returned (.bool (gateOk g)) ∧ w = w':=by
 go_enter Tryz.func137,Tryz.ntmps137
 go_wp2
 all_goals (go_ret; refine ⟨ret_bool ?_,rfl⟩; simp [gateOk,isIn]; try omega)

set_option maxRecDepth 100000 in
theorem opens_any (b g : Int) (w : World) (h : I64 b) : Calls Tryz.prog 159 #[.agg #[.int .i64 b],.int .i64 g] w fun e w' => e = .returned (.bool (opensG g b)) ∧ Below w.heap.size w w':=by
 by_cases h1 : g = 1
 ·subst h1
  go_enter Tryz.func159,Tryz.ntmps159
  go_wp2_with (go_at_call 156; refine (fac_any _ _ h).mono ?_; rintro e w1 ⟨rfl,hb⟩)
  go_ret
  exact ⟨ret_bool (by simp [opensG]),((Below.refl _ _).alloc (Nat.le_refl _) _).trans (hb.mono (by simp))⟩
 ·by_cases h2 : g = 2
  ·subst h2
   go_enter Tryz.func159,Tryz.ntmps159
   go_wp2_with (go_at_call 156; refine (fac_any _ _ h).mono ?_; rintro e w1 ⟨rfl,hb⟩)
   go_ret
   exact ⟨ret_bool (by simp [opensG]),((Below.refl _ _).alloc (Nat.le_refl _) _).trans (hb.mono (by simp))⟩
  ·go_enter Tryz.func159,Tryz.ntmps159
   go_wp2
   go_ret
   exact ⟨ret_bool (by simp [opensG,h1,h2]),(Below.refl _ _).alloc (Nat.le_refl _) _⟩

end Go.Proofs.YtnbmgkmcaoafnaaGreatDoor.O2
