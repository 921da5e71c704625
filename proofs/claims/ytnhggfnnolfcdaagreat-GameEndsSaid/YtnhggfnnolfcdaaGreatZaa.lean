/- The texts Free, FreeIn, in build order. -/
import Derived.StillTail
import Derived.Below
import Derived.OrdersIn
import Derived.OwnWalkIn
import Derived.RangeFuncCalls

/- A region whose order is drawn: one condition an operation, whatever the order; then a tail in order. -/
namespace Go.Oche
open Go Go.RowKit

def opOK (P : Program) (o : Oper) (a : Act) (w : World) (R : Value → World → Prop) : Prop :=
 match (execOp a.eval o).run P w with
 | .ok (.value v) w' => R v w'
 | .ok .skip w' => R undef w'
 | .ok (.enter f args) w' => Calls P f args w' fun e w'' => ∃ v,e = .returned v ∧ R v w''
 | _ => False

theorem wp_of_opOK {P : Program} {o : Oper} {a : Act} {w : World} {R : Value → World → Prop} {K : Act → World → Prop} {Q : Exit → Act → World → Prop}
  (h : opOK P o a w R) (hK : ∀ v w',R v w' → K (a.put o.dst v) w') : o.wp P a w K Q:=by
 unfold opOK at h
 unfold Oper.wp
 generalize (execOp a.eval o).run P w = r at *
 cases r with
 | ok n w' =>
  cases n <;> simp only at h <;> simp only [Oper.upon]
  case value u => exact hK _ _ h
  case skip => exact hK _ _ h
  case enter f args => exact h.mono fun e w'' ⟨v,he,hr⟩ => by subst he; exact hK _ _ hr
 | halt x w' => simp only at h

section
variable (P : Program) (ops : Array Oper) (Φ : Nat → Value → World → Prop) (J : (Nat → Bool) → World → Prop) (a₀ : Act)
def setB (L : Nat → Bool) (i : Nat) : Nat → Bool:=fun j => if j = i then true else L j

def GenVC (i : Nat) (o : Oper) : Prop :=
 ∀ (a : Act) (w : World) (L : Nat → Bool),L i = false → J L w →
  (∀ e ∈ o.after.toList,Region.binds .any e = true → ∃ oj v,ops[e.on]? = some oj ∧ L e.on = true ∧ Φ e.on v w ∧ ∀ d,oj.dst = some d → a.tmps[d]? = some v) →
  (∀ t : Nat,(ops.toList.all fun oj => oj.dst != some t || oj.after.toList.any fun e => Region.binds .any e && e.on == i) = true → a.tmps[t]? = a₀.tmps[t]?) →
  if Region.wanted o (yielded ops a.tmps) then opOK P o a w (fun v w' => J (setB L i) w' ∧ (∀ j,j ≠ i → L j = true → ∀ v, Φ j v w → (∀ oj d,ops[j]? = some oj → oj.dst = some d → a.tmps[d]? = some v) → Φ j v w') ∧ Φ i v w') else J (setB L i) w ∧ Φ i undef w

def GenAll : List Oper → Nat → Prop
 | [],_ => True
 | o :: l,i => GenVC P ops Φ J a₀ i o ∧ GenAll l (i + 1)

def EndAll (w : World) (K : Act → Prop) : List Oper → Nat → Act → Prop
 | [],_,a => K a
 | o :: l,i,a => ∀ v, Φ i v w → EndAll w K l (i + 1) (a.put o.dst v)
end

def backB (ops : Array Oper) : Bool:=ops.toList.zipIdx.all fun (o,i) => o.after.toList.all fun e => !Region.binds .any e || decide (e.on < i)
def distB : List Oper → Bool
 | [] => true
 | o :: l => (match o.dst with | some d => l.all fun o' => o'.dst != some d | none => true) && distB l
def inB (n : Nat) (l : List Oper) : Bool:=l.all fun o => match o.dst with | some d => decide (d < n) | none => true
def headArr (n N : Nat) : Array Bool:=(Array.replicate n true) ++ Array.replicate (N - n) false
def freeB (ops : Array Oper) (n m : Nat) : Bool :=
 decide (n ≤ ops.size) && backB ops && distB (ops.toList.take n) && inB m (ops.toList.take n) && (n == ops.size || (decide (n < ops.size) && Region.sinkB .any ops n && Region.chainB .any ops n)) &&
  Region.seqB .any ops (ops.size - n) n (headArr n ops.size)

theorem wpAny_more {P : Program} {md : Region.Mode} {ops : Array Oper} {Q : Exit → Act → World → Prop} : ∀ (f : Nat) (listed : Array Bool) (a : Act) (w : World),
  wpAny P md ops Q f listed a w → wpAny P md ops Q (f + 1) listed a w
 | 0,_,_,_,h => ⟨fun _ => h.2,fun i hi => by rw [h.1] at hi; cases hi⟩
 | f + 1,_,_,_,h => ⟨h.1,fun i hi => wpOp_mono (fun _ _ => wpAny_more f _ _ _) (h.2 i hi)⟩

def left (n : Nat) (listed : Array Bool) : Nat:=(List.range n).countP fun j => !listed.getD j false

theorem left_set {n i : Nat} {listed : Array Bool} (hi : i < n) (hin : i < listed.size) (hun : listed.getD i true = false) : left n (listed.setIfInBounds i true) + 1 ≤ left n listed:=by
 unfold left
 induction n with
 | zero => omega
 | succ n ih =>
  rw [List.range_succ,List.countP_append,List.countP_append]
  by_cases h : i = n
  ·subst h
   have hsame : (List.range i).countP (fun j => !(listed.setIfInBounds i true).getD j false) = (List.range i).countP (fun j => !listed.getD j false):=by
    refine List.countP_congr fun j hj => ?_
    have : i ≠ j:=by have:=List.mem_range.1 hj; omega
    rw [getD_set_ne false this]
   rw [hsame]
   have h1 : (listed.setIfInBounds i true).getD i false = true:=by simp [hin]
   have h2 : listed.getD i false = false:=getD_both hun
   simp only [List.countP_singleton,h1,h2]; simp
  ·have h1 : (listed.setIfInBounds i true).getD n false = listed.getD n false:=getD_set_ne false h
   have:=ih (by omega)
   simp only [List.countP_singleton,h1]
   omega

theorem left_zero {n : Nat} {listed : Array Bool} (h : left n listed = 0) : ∀ j,j < n → listed.getD j false = true:=by
 intro j hj
 have:=List.countP_eq_zero.1 h j (List.mem_range.2 hj)
 simpa using this

theorem exists_unlisted {n : Nat} {listed : Array Bool} (h : left n listed ≠ 0) : ∃ j,j < n ∧ listed.getD j false = false ∧ ∀ k,k < j → listed.getD k false = true:=by
 have hex : ∃ j,j < n ∧ listed.getD j false = false:=by
  by_cases hne : ∃ j,j < n ∧ listed.getD j false = false
  ·exact hne
  ·exfalso
   apply h
   refine List.countP_eq_zero.2 fun j hj => ?_
   have hj':=List.mem_range.1 hj
   cases hg : listed.getD j false with
   | true => simp
   | false => exact absurd ⟨j,hj',hg⟩ hne
 obtain ⟨j,hj,hg⟩ := hex
 induction j using Nat.strongRecOn with
 | _ j ih =>
  by_cases hk : ∃ k,k < j ∧ listed.getD k false = false
  ·obtain ⟨k,hk1,hk2⟩ := hk
   exact ih k hk1 (by omega) hk2
  ·refine ⟨j,hj,hg,fun k hkj => ?_⟩
   cases hgk : listed.getD k false with
   | true => rfl
   | false => exact absurd ⟨k,hkj,hgk⟩ hk

structure FreeInv (ops : Array Oper) (Φ : Nat → Value → World → Prop) (J : (Nat → Bool) → World → Prop) (a₀ : Act) (vs : Nat → Value) (listed : Array Bool) (a : Act) (w : World) : Prop where
 inv : J (fun j => listed.getD j false) w
 vals : ∀ j o,ops[j]? = some o → listed.getD j false = true → Φ j (vs j) w ∧ ∀ d,o.dst = some d → a.tmps[d]? = some (vs j)
 rest : ∀ t,(∀ j o,ops[j]? = some o → listed.getD j false = true → o.dst ≠ some t) → a.tmps[t]? = a₀.tmps[t]?
 size : a.tmps.size = a₀.tmps.size
 defers : a.defers = a₀.defers

theorem distB_ne : ∀ {l : List Oper} {i j : Nat} {oi oj : Oper} {d : Nat},distB l = true → l[i]? = some oi → l[j]? = some oj → i ≠ j → oi.dst = some d → oj.dst ≠ some d
 | [],i,_,_,_,_,_,hi,_,_,_ => by simp at hi
 | o :: l,0,0,_,_,_,_,_,_,hne,_ => absurd rfl hne
 | o :: l,0,j + 1,oi,oj,d,h,hi,hj,_,hd => by
  simp only [distB,Bool.and_eq_true] at h
  simp only [List.getElem?_cons_zero,Option.some.injEq] at hi
  subst hi
  have h1:=h.1
  rw [hd] at h1
  have:=List.all_eq_true.1 h1 oj (List.mem_of_getElem? (by simpa using hj))
  simpa using this
 | o :: l,i + 1,0,oi,oj,d,h,hi,hj,_,hd => by
  simp only [distB,Bool.and_eq_true] at h
  simp only [List.getElem?_cons_zero,Option.some.injEq] at hj
  subst hj
  intro he
  have h1:=h.1
  rw [he] at h1
  have:=List.all_eq_true.1 h1 oi (List.mem_of_getElem? (by simpa using hi))
  simp [hd] at this
 | o :: l,i + 1,j + 1,oi,oj,d,h,hi,hj,hne,hd => by
  simp only [distB,Bool.and_eq_true] at h
  exact distB_ne h.2 (by simpa using hi) (by simpa using hj) (by omega) hd

theorem genAll_at {P : Program} {ops : Array Oper} {Φ : Nat → Value → World → Prop} {J : (Nat → Bool) → World → Prop} {a₀ : Act} : ∀ {l : List Oper} {i j : Nat} {o : Oper},
  GenAll P ops Φ J a₀ l i → l[j]? = some o → GenVC P ops Φ J a₀ (i + j) o
 | [],_,_,_,_,h => by simp at h
 | o' :: l,i,0,o,h,hj => by simp at hj; subst hj; exact h.1
 | o' :: l,i,j + 1,o,h,hj => by
  have:=genAll_at h.2 (j:=j) (o:=o) (by simpa using hj)
  rwa [show i + 1 + j = i + (j + 1) by omega] at this

def putAll (vs : Nat → Value) : List Oper → Nat → Act → Act
 | [],_,a => a
 | o :: l,i,a => putAll vs l (i + 1) (a.put o.dst (vs i))

theorem endAll_at {Φ : Nat → Value → World → Prop} {w : World} {K : Act → Prop} {vs : Nat → Value} : ∀ (l : List Oper) (i : Nat) (a : Act),EndAll Φ w K l i a →
  (∀ j,j < l.length → Φ (i + j) (vs (i + j)) w) → K (putAll vs l i a)
 | [],_,_,h,_ => h
 | o :: l,i,a,h,hv => by
  refine endAll_at l (i + 1) _ (h _ (by simpa using hv 0 (by simp))) fun j hj => ?_
  have:=hv (j + 1) (by simp; omega)
  rwa [show i + (j + 1) = i + 1 + j by omega] at this

theorem put_size (a : Act) (d : Option Tmp) (v : Value) : (a.put d v).tmps.size = a.tmps.size:=by cases d <;> simp [Act.put]
theorem put_defers (a : Act) (d : Option Tmp) (v : Value) : (a.put d v).defers = a.defers:=by cases d <;> rfl
theorem put_at (a : Act) (d : Option Tmp) (v : Value) (t : Nat) : (a.put d v).tmps[t]? = if d = some t ∧ t < a.tmps.size then some v else a.tmps[t]? := by
 cases d with
 | none => simp [Act.put]
 | some d =>
  simp only [Act.put,Array.getElem?_setIfInBounds]
  by_cases h : d = t
  ·subst h
   by_cases h' : d < a.tmps.size
   ·simp [h']
   ·simp [h']
  ·simp [h]

theorem putAll_defers (vs : Nat → Value) : ∀ (l : List Oper) (i : Nat) (a : Act),(putAll vs l i a).defers = a.defers
 | [],_,_ => rfl
 | o :: l,i,a => by rw [putAll,putAll_defers vs l,put_defers]
theorem putAll_none (vs : Nat → Value) (t : Nat) : ∀ (l : List Oper) (i : Nat) (a : Act),(∀ o ∈ l,o.dst ≠ some t) → (putAll vs l i a).tmps[t]? = a.tmps[t]?
 | [],_,_,_ => rfl
 | o :: l,i,a,h => by
  rw [putAll,putAll_none vs t l _ _ (fun o' ho => h o' (by simp [ho])),put_at,if_neg]
  intro h'; exact h o (by simp) h'.1
theorem putAll_some (vs : Nat → Value) (t : Nat) : ∀ (l : List Oper) (i : Nat) (a : Act) (j : Nat) (o : Oper),distB l = true → l[j]? = some o → o.dst = some t → t < a.tmps.size →
  (putAll vs l i a).tmps[t]? = some (vs (i + j))
 | [],_,_,_,_,_,h,_,_ => by simp at h
 | o' :: l,i,a,0,o,hd,hj,ht,hs => by
  simp at hj; subst hj
  simp only [distB,Bool.and_eq_true] at hd
  rw [putAll,putAll_none vs t l _ _ (fun o'' ho => by
   have h1:=hd.1
   rw [ht] at h1
   have:=List.all_eq_true.1 h1 o'' ho
   simpa using this),put_at,if_pos ⟨ht,hs⟩]; rfl
 | o' :: l,i,a,j + 1,o,hd,hj,ht,hs => by
  simp only [distB,Bool.and_eq_true] at hd
  rw [putAll,putAll_some vs t l (i + 1) _ j o hd.2 (by simpa using hj) ht (by rw [put_size]; exact hs),show i + 1 + j = i + (j + 1) by omega]

theorem act_ext {a b : Act} (h : ∀ t : Nat,a.tmps[t]? = b.tmps[t]?) (hd : a.defers = b.defers) : a = b:=by
 cases a; cases b
 simp only at h hd
 subst hd
 congr 1
 exact Array.ext_getElem? h

section law
variable {P : Program} {ops : Array Oper} {Φ : Nat → Value → World → Prop} {J : (Nat → Bool) → World → Prop} {a₀ : Act} {Q : Exit → Act → World → Prop} {n : Nat}

theorem free_head (hB : freeB ops n a₀.tmps.size = true) (hv : GenAll P ops Φ J a₀ (ops.toList.take n) 0)
  (he : ∀ w,J (fun j => decide (j < n)) w → EndAll Φ w (fun a => wpList P ops Q (ops.toList.drop n) a w) (ops.toList.take n) 0 a₀) :
  ∀ (f : Nat) (vs : Nat → Value) (listed : Array Bool) (a : Act) (w : World),left n listed ≤ f → HeadInv .any ops n listed → FreeInv ops Φ J a₀ vs listed a w → wpAny P .any ops Q (f + (ops.size - n)) listed a w:=by
 simp only [freeB,Bool.and_eq_true,Bool.or_eq_true,beq_iff_eq,decide_eq_true_eq] at hB
 obtain ⟨⟨⟨⟨⟨hn,hback⟩,hdist⟩,hin⟩,htail⟩,hseq⟩ := hB
 have hin' : ∀ j o d,ops[j]? = some o → j < n → o.dst = some d → d < a₀.tmps.size:=fun j o d ho hj hd => by
  have hmem : o ∈ ops.toList.take n:=List.mem_of_getElem? (i:=j) (by rw [List.getElem?_take,if_pos hj]; simpa using ho)
  have:=List.all_eq_true.1 hin o hmem
  rw [hd] at this
  simpa using this
 have hld : ∀ j o,ops[j]? = some o → j < n → (ops.toList.take n)[j]? = some o:=fun j o ho hj => by rw [List.getElem?_take,if_pos hj]; simpa using ho
 intro f
 induction f with
 | zero =>
  intro vs listed a w hl inv fi
  have hall:=left_zero (Nat.le_zero.1 hl)
  have harr : listed = headArr n ops.size:=by
   refine Array.ext (by simp [inv.size,headArr]; omega) fun j h1 h2 => ?_
   by_cases hj : j < n
   ·have:=hall j hj
    simp [h1] at this
    rw [this]
    simp only [headArr]
    rw [Array.getElem_append_left (by simpa using hj)]
    simp
   ·have:=inv.tail j (by omega) (by rw [inv.size] at h1; exact h1)
    simp [h1] at this
    rw [this]
    simp only [headArr]
    rw [Array.getElem_append_right (by simpa using hj)]
    simp
  have hnl : ∀ j o,ops[j]? = some o → listed.getD j false = true → j < n:=fun j o ho hl => by
   rcases Nat.lt_or_ge j n with h | h
   ·exact h
   ·have:=inv.tail j h (Array.getElem?_eq_some_iff.1 ho).1
    rw [getD_both this] at hl; cases hl
  have hK:=endAll_at (vs:=vs) _ _ _ (he w (by have h1:=fi.inv; rwa [show (fun j => listed.getD j false) = (fun j => decide (j < n)) from funext fun j => by
   by_cases hj : j < n
   ·rw [hall j hj]; simp [hj]
   ·have : listed.getD j false = false:=by
     rcases Nat.lt_or_ge j ops.size with h | h
     ·exact getD_both (inv.tail j (by omega) h)
     ·simp [Array.getElem?_eq_none (show listed.size ≤ j by rw [inv.size]; exact h)]
    rw [this]; simp [hj]] at h1)) (fun j hj => by
   have hj' : j < n:=by simp at hj; omega
   have hjs : j < ops.size:=by omega
   have:=(fi.vals j ops[j] (by simp [hjs]) (hall j hj')).1
   simpa using this)
  have ha : a = putAll vs (ops.toList.take n) 0 a₀ := by
   refine act_ext (fun t => ?_) (by rw [putAll_defers]; exact fi.defers)
   by_cases ht : ∃ j o,ops[j]? = some o ∧ j < n ∧ o.dst = some t
   ·obtain ⟨j,o,ho,hj,hd⟩ := ht
    rw [(fi.vals j o ho (hall j hj)).2 t hd,putAll_some vs t _ 0 a₀ j o hdist (hld j o ho hj) hd (hin' j o t ho hj hd)]
    simp
   ·rw [fi.rest t (fun j o ho hl hd => ht ⟨j,o,ho,hnl j o ho hl,hd⟩),putAll_none]
    intro o ho hd
    obtain ⟨j,hj⟩ := List.getElem?_of_mem ho
    rw [List.getElem?_take] at hj
    split at hj
    ·exact ht ⟨j,o,by simpa using hj,by assumption,hd⟩
    ·cases hj
  rw [← ha] at hK
  rw [Nat.zero_add]
  have hlen : (ops.toList.drop n).length = ops.size - n:=by simp
  have:=wpAny_of_seq (P:=P) (md:=.any) (Q':=Q) (ops.toList.drop n) n listed a w (fun j => by simp [List.getElem?_drop]) (by rw [hlen,harr]; exact hseq) hK
  rwa [hlen] at this
 | succ f ih =>
  intro vs listed a w hl inv fi
  by_cases h0 : left n listed = 0
  ·have:=ih vs listed a w (by omega) inv fi
   rw [show f + 1 + (ops.size - n) = f + (ops.size - n) + 1 by omega]
   exact wpAny_more _ _ _ _ this
  ·obtain ⟨j₀,hj₀,hun₀,hbefore⟩ := exists_unlisted h0
   have hj₀s : j₀ < ops.size:=by omega
   rw [show f + 1 + (ops.size - n) = f + (ops.size - n) + 1 by omega]
   refine ⟨fun hr => ?_,fun i hi => ?_⟩
   ·exfalso
    have : j₀ ∈ Region.ready .any ops listed:=mem_ready.2 ⟨getD_in (by rw [inv.size]; omega) hun₀,ops[j₀],by simp [hj₀s],fun e he hb => by
     have h1:=List.all_eq_true.1 hback (ops[j₀],j₀) (List.mem_iff_getElem?.2 ⟨j₀,by simp [hj₀s]⟩)
     have h2:=List.all_eq_true.1 h1 e (by simpa using he)
     simp only [hb,Bool.not_true,Bool.false_or,decide_eq_true_eq] at h2
     exact hbefore _ h2⟩
    rw [hr] at this; cases this
   ·have hin0 : i < n:=by
     rcases Nat.lt_or_ge i n with h | h
     ·exact h
     ·exfalso
      rcases htail with h1 | ⟨⟨h1,h2⟩,h3⟩
      ·obtain ⟨_,oi,hoi,_⟩ := mem_ready.1 hi
       have:=(Array.getElem?_eq_some_iff.1 hoi).1
       omega
      ·exact tail_waits h2 h3 h1 inv (n - j₀) j₀ rfl hj₀ (getD_in (by rw [inv.size]; omega) hun₀) i h hi
    obtain ⟨hiun,oi,hoi,hready⟩ := mem_ready.1 hi
    have his : i < ops.size:=(Array.getElem?_eq_some_iff.1 hoi).1
    have hvc:=genAll_at hv (hld i oi hoi hin0)
    rw [Nat.zero_add] at hvc
    have hvc:=hvc a w (fun j => listed.getD j false) (getD_both hiun) fi.inv (fun e he hb => by
      have hl':=hready e (by simpa using he) hb
      have hes : e.on < ops.size:=by
       have : e.on < listed.size:=by
        rcases Nat.lt_or_ge e.on listed.size with h | h
        ·exact h
        ·rw [show listed.getD e.on false = false from by simp [Array.getElem?_eq_none h]] at hl'; cases hl'
       rw [inv.size] at this; exact this
      have:=fi.vals e.on ops[e.on] (by simp [hes]) hl'
      exact ⟨ops[e.on],vs e.on,by simp [hes],hl',this.1,this.2⟩)
     (fun t ht => fi.rest t fun j o ho hlj => by
      have h1:=List.all_eq_true.1 ht o (by simpa using Array.mem_of_getElem? ho)
      simp only [Bool.or_eq_true,List.any_eq_true,Bool.and_eq_true,beq_iff_eq] at h1
      rcases h1 with h1 | ⟨e,he,hb,hei⟩
      ·simpa using h1
      ·exfalso
       have h2:=inv.closed j o ho hlj e (by simpa using he) hb
       rw [hei,getD_both hiun] at h2
       cases h2)
    have hset : (fun j => (listed.setIfInBounds i true).getD j false) = setB (fun j => listed.getD j false) i:=funext fun j => by
     unfold setB
     by_cases hji : j = i
     ·subst hji; simp [inv.size,his]
     ·rw [if_neg hji,getD_set_ne false (Ne.symm hji)]
    have next : ∀ v w',J (setB (fun j => listed.getD j false) i) w' → (∀ j,j ≠ i → listed.getD j false = true → ∀ v, Φ j v w → (∀ oj d,ops[j]? = some oj → oj.dst = some d → a.tmps[d]? = some v) → Φ j v w') → Φ i v w' → wpAny P .any ops Q (f + (ops.size - n)) (listed.setIfInBounds i true) (a.put oi.dst v) w':=fun v w' hj' hb hφ => by
     refine ih (fun j => if j = i then v else vs j) _ _ _ (by have:=left_set hin0 (by rw [inv.size]; exact his) hiun; omega) (inv.set hi hin0) ⟨?_, ?_, ?_, ?_, ?_⟩
     ·rw [hset]; exact hj'
     ·intro j o ho hl'
      by_cases hji : j = i
      ·subst hji
       have : o = oi:=Option.some.inj (ho.symm.trans hoi)
       subst this
       refine ⟨by simpa using hφ,fun d hd => ?_⟩
       rw [put_at,if_pos ⟨hd,by rw [fi.size]; exact hin' _ _ _ ho hin0 hd⟩]; simp
      ·rw [getD_set_ne false (Ne.symm hji)] at hl'
       have h1:=fi.vals j o ho hl'
       have hjn : j < n:=by
        rcases Nat.lt_or_ge j n with h | h
        ·exact h
        ·have:=inv.tail j h (Array.getElem?_eq_some_iff.1 ho).1
         rw [getD_both this] at hl'; cases hl'
       refine ⟨by simpa [hji] using hb j hji hl' _ h1.1 (fun oj d hoj hd => by rw [ho] at hoj; cases hoj; exact h1.2 d hd),fun d hd => ?_⟩
       rw [put_at,if_neg (fun h' => distB_ne hdist (hld j o ho hjn) (hld i oi hoi hin0) hji hd h'.1)]
       simpa [hji] using h1.2 d hd
     ·intro t ht
      have h1 : oi.dst ≠ some t:=ht i oi hoi (by simp [inv.size,his])
      rw [put_at,if_neg (fun h' => h1 h'.1)]
      refine fi.rest t fun j o ho hl' => ht j o ho ?_
      exact getD_set_true hl'
     ·rw [put_size]; exact fi.size
     ·rw [put_defers]; exact fi.defers
    unfold wpOp
    simp only [hoi]
    split
    ·rename_i hwd
     rw [if_pos hwd] at hvc
     exact .inl (wp_of_opOK hvc fun v w' ⟨hj',hb,hφ⟩ => next v w' hj' hb hφ)
    ·rename_i hwd
     rw [if_neg hwd] at hvc
     exact next _ _ hvc.1 (fun _ _ _ _ h _ => h) hvc.2

theorem wp_region_gen {id : Nat} {l : List Oper} {a : Act} {w : World} (n : Nat) (Φ : Nat → Value → World → Prop) (J : (Nat → Bool) → World → Prop) (hmix : P.follows .mixedOrders = true) (hB : freeB l.toArray n a.tmps.size = true)
  (hJ : J (fun _ => false) w.drew) (hv : GenAll P l.toArray Φ J a (l.take n) 0)
  (he : ∀ w',J (fun j => decide (j < n)) w' → EndAll Φ w' (fun a => wpList P l.toArray Q (l.drop n) a w') (l.take n) 0 a) : (Code.region id l.toArray true).wp P Q a w:=by
 refine wp_region_any hmix ?_
 have:=free_head (Q:=Q) (a₀ := a) hB hv he n (fun _ => undef) (Array.replicate l.toArray.size false) a w.drew (by
   unfold left; exact Nat.le_trans List.countP_le_length (by simp))
  ⟨by simp,fun j oj _ hl => (by rw [getD_replicate_false] at hl; cases hl),fun t _ ht => getD_in (by simpa using ht) (getD_replicate_false _ _)⟩
  ⟨by rw [show (fun j => (Array.replicate l.toArray.size false).getD j false) = (fun _ => false) from funext fun j => getD_replicate_false _ _]; exact hJ,fun j o _ hl => (by rw [getD_replicate_false] at hl; cases hl),fun _ _ => rfl,rfl,rfl⟩
 have hn : n ≤ l.toArray.size:=by simp only [freeB,Bool.and_eq_true,decide_eq_true_eq] at hB; exact hB.1.1.1.1.1
 rw [show n + (l.toArray.size - n) = l.toArray.size by omega] at this
 exact this
end law

theorem gen_plain {P : Program} {ops : Array Oper} {Φ : Nat → Value → World → Prop} {J : (Nat → Bool) → World → Prop} {a₀ : Act} {i : Nat} {o : Oper} (hg : o.guard = none)
  (h : ∀ (a : Act) (w : World) (L : Nat → Bool),L i = false → J L w →
   (∀ e ∈ o.after.toList,Region.binds .any e = true → ∃ oj v,ops[e.on]? = some oj ∧ L e.on = true ∧ Φ e.on v w ∧ ∀ d,oj.dst = some d → a.tmps[d]? = some v) →
   (∀ t : Nat,(ops.toList.all fun oj => oj.dst != some t || oj.after.toList.any fun e => Region.binds .any e && e.on == i) = true → a.tmps[t]? = a₀.tmps[t]?) →
   opOK P o a w (fun v w' => J (setB L i) w' ∧ (∀ j,j ≠ i → L j = true → ∀ v, Φ j v w → (∀ oj d,ops[j]? = some oj → oj.dst = some d → a.tmps[d]? = some v) → Φ j v w') ∧ Φ i v w')) :
  GenVC P ops Φ J a₀ i o:=fun a w L h1 h2 hp ht => by
 rw [if_pos (by simp [Region.wanted,hg])]
 exact h a w L h1 h2 hp ht

/-! Where each operation but makes new blocks. -/
section
variable (P : Program) (ops : Array Oper) (Φ : Nat → Value → World → Prop) (a₀ : Act) (w₀ : World)
def FreeVC (i : Nat) (o : Oper) : Prop :=
 ∀ (a : Act) (w : World),Below w₀.heap.size w₀ w →
  (∀ e ∈ o.after.toList,Region.binds .any e = true → ∃ oj v,ops[e.on]? = some oj ∧ Φ e.on v w ∧ ∀ d,oj.dst = some d → a.tmps[d]? = some v) →
  (∀ t : Nat,(ops.toList.all fun oj => oj.dst != some t || oj.after.toList.any fun e => Region.binds .any e && e.on == i) = true → a.tmps[t]? = a₀.tmps[t]?) →
  if Region.wanted o (yielded ops a.tmps) then opOK P o a w (fun v w' => Below w.heap.size w w' ∧ Φ i v w') else Φ i undef w
def FreeAll : List Oper → Nat → Prop
 | [],_ => True
 | o :: l,i => FreeVC P ops Φ a₀ w₀ i o ∧ FreeAll l (i + 1)
end
theorem opOK_call {P : Program} {o : Oper} {a : Act} {w : World} {R : Value → World → Prop} {f : FuncId} {args : Array Value} (hr : (execOp a.eval o).run P w = .ok (.enter f args) w)
  (h : Calls P f args w fun e w' => ∃ v,e = .returned v ∧ R v w') : opOK P o a w R:=by unfold opOK; rw [hr]; exact h
theorem opOK_val {P : Program} {o : Oper} {a : Act} {w w' : World} {R : Value → World → Prop} {v : Value} (hr : (execOp a.eval o).run P w = .ok (.value v) w') (h : R v w') : opOK P o a w R:=by unfold opOK; rw [hr]; exact h
theorem opOK_mono {P : Program} {o : Oper} {a : Act} {w : World} {R R' : Value → World → Prop} (h : opOK P o a w R) (hr : ∀ v w',R v w' → R' v w') : opOK P o a w R':=by
 unfold opOK at *
 generalize (execOp a.eval o).run P w = r at *
 cases r with
 | ok n w' =>
  cases n <;> simp only at h ⊢
  case value u => exact hr _ _ h
  case skip => exact hr _ _ h
  case enter f args => exact h.mono (fun _ _ ⟨v,he,hR⟩ => ⟨v,he,hr _ _ hR⟩)
 | halt x w' => simp only at h
end Go.Oche

/- The law of a drawn region (Free), in a fence that lets everything in: for functions that range over a function, and their rounds. -/
namespace Go.Oche
open Go Go.RowKit

def Open (F : Fence) : Prop:=F = Fence.wide ∨ ∃ l,F = Fence.wide.inRound l
theorem open_wide : Open Fence.wide:=.inl rfl
theorem open_round (l : Nat) : Open (Fence.wide.inRound l):=.inr ⟨l,rfl⟩
theorem Open.fn {F : Fence} (hF : Open F) (f : FuncId) : F.fn f:=by rcases hF with rfl | ⟨l,rfl⟩ <;> trivial
theorem Open.depth {F : Fence} (hF : Open F) : F.depth.isSome = true → 1 ≤ 0:=by rcases hF with rfl | ⟨l,rfl⟩ <;> intro h <;> simp [Fence.wide,Fence.inRound] at h
theorem callsIn_open {F : Fence} (hF : Open F) {n : Nat} {P : Program} {f : FuncId} {args : Array Value} {w : World} {R : Ending → World → Prop} (h : Calls P f args w R) : CallsIn F n P f args w R:=by
 rcases hF with rfl | ⟨l,rfl⟩
 ·exact callsIn_wide.2 h
 ·exact CallsIn.inRound l (callsIn_wide.2 h)

def noDefer (ops : Array Oper) : Bool:=ops.toList.all fun o => match o.op with | .defer _ => false | _ => true

theorem wpIn_of_opOK {F : Fence} (hF : Open F) {P : Program} {o : Oper} {a : Act} {w : World} {R : Value → World → Prop} {K : Act → World → Prop} {Q : Exit → Act → World → Prop}
  (hnd : ∀ c,o.op ≠ .defer c) (h : opOK P o a w R) (hK : ∀ v w',R v w' → K (a.put o.dst v) w') : o.wpIn F 0 P a w K Q:=by
 refine ⟨fun f _ => hF.fn f, ?_⟩
 rw [Oper.semAt_eq _ _ _ hnd]
 unfold opOK at h
 generalize (execOp a.eval o).run P w = r at *
 cases r with
 | ok n w' =>
  cases n <;> simp only at h <;> simp only [Oper.uponIn]
  case value u => exact hK _ _ h
  case skip => exact hK _ _ h
  case enter f args => exact ⟨hF.depth,callsIn_open hF (h.mono fun e w'' ⟨v,he,hr⟩ => by subst he; exact hK _ _ hr)⟩
 | halt x w' => simp only at h

theorem wpAnyIn_more {F : Fence} {n : Nat} {P : Program} {md : Region.Mode} {ops : Array Oper} {Q : Exit → Act → World → Prop} : ∀ (f : Nat) (listed : Array Bool) (a : Act) (w : World),
  wpAnyIn F n P md ops Q f listed a w → wpAnyIn F n P md ops Q (f + 1) listed a w
 | 0,_,_,_,h => ⟨fun _ => h.2,fun i hi => by rw [h.1] at hi; cases hi⟩
 | f + 1,_,_,_,h => ⟨h.1,fun i hi => wpOpIn_mono (fun _ _ => wpAnyIn_more f _ _ _) (h.2 i hi)⟩

theorem wpAnyIn_of_seq {F : Fence} {n : Nat} {P : Program} {md : Region.Mode} {ops : Array Oper} {Q' : Exit → Act → World → Prop} : ∀ (l : List Oper) (k : Nat) (listed : Array Bool) (a : Act) (w : World),(∀ j,l[j]? = ops[k + j]?) →
  Region.seqB md ops l.length k listed = true → wpListIn F n P ops Q' l a w → wpAnyIn F n P md ops Q' l.length listed a w
 | [],_,_,_,_,_,hB,h => ⟨by simpa [Region.seqB] using hB,h⟩
 | o :: l,k,listed,a,w,hl,hB,h => by
  have h0 : ops[k]? = some o:=by simpa using (hl 0).symm
  simp only [List.length_cons,Region.seqB,Bool.and_eq_true,decide_eq_true_eq] at hB
  refine ⟨fun h1 => (by rw [hB.1] at h1; cases h1),fun i hi => ?_⟩
  rw [hB.1] at hi
  have hik : i = k:=by simpa using hi
  subst hik
  have hw : wpOpIn F n P ops Q' i (wpListIn F n P ops Q' l) a w:=by unfold wpOpIn; simp only [h0]; exact h
  exact wpOpIn_mono (fun a' w' h' => wpAnyIn_of_seq l (i + 1) _ a' w' (fun j => by have:=hl (j + 1); simpa [Nat.add_assoc,Nat.add_comm 1 j] using this) hB.2 h') hw

section law
variable {F : Fence} {P : Program} {ops : Array Oper} {Φ : Nat → Value → World → Prop} {J : (Nat → Bool) → World → Prop} {a₀ : Act} {Q : Exit → Act → World → Prop} {n : Nat}

theorem free_headIn (hF : Open F) (hnd : noDefer ops = true) (hB : freeB ops n a₀.tmps.size = true) (hv : GenAll P ops Φ J a₀ (ops.toList.take n) 0)
  (he : ∀ w,J (fun j => decide (j < n)) w → EndAll Φ w (fun a => wpListIn F 0 P ops Q (ops.toList.drop n) a w) (ops.toList.take n) 0 a₀) :
  ∀ (f : Nat) (vs : Nat → Value) (listed : Array Bool) (a : Act) (w : World),left n listed ≤ f → HeadInv .any ops n listed → FreeInv ops Φ J a₀ vs listed a w → wpAnyIn F 0 P .any ops Q (f + (ops.size - n)) listed a w:=by
 simp only [freeB,Bool.and_eq_true,Bool.or_eq_true,beq_iff_eq,decide_eq_true_eq] at hB
 obtain ⟨⟨⟨⟨⟨hn,hback⟩,hdist⟩,hin⟩,htail⟩,hseq⟩ := hB
 have hnd' : ∀ o,o ∈ ops.toList → ∀ c,o.op ≠ .defer c:=fun o ho c hc => by
  have:=List.all_eq_true.1 hnd o ho
  rw [hc] at this; cases this
 have hin' : ∀ j o d,ops[j]? = some o → j < n → o.dst = some d → d < a₀.tmps.size:=fun j o d ho hj hd => by
  have hmem : o ∈ ops.toList.take n:=List.mem_of_getElem? (i:=j) (by rw [List.getElem?_take,if_pos hj]; simpa using ho)
  have:=List.all_eq_true.1 hin o hmem
  rw [hd] at this
  simpa using this
 have hld : ∀ j o,ops[j]? = some o → j < n → (ops.toList.take n)[j]? = some o:=fun j o ho hj => by rw [List.getElem?_take,if_pos hj]; simpa using ho
 intro f
 induction f with
 | zero =>
  intro vs listed a w hl inv fi
  have hall:=left_zero (Nat.le_zero.1 hl)
  have harr : listed = headArr n ops.size:=by
   refine Array.ext (by simp [inv.size,headArr]; omega) fun j h1 h2 => ?_
   by_cases hj : j < n
   ·have:=hall j hj
    simp [h1] at this
    rw [this]
    simp only [headArr]
    rw [Array.getElem_append_left (by simpa using hj)]
    simp
   ·have:=inv.tail j (by omega) (by rw [inv.size] at h1; exact h1)
    simp [h1] at this
    rw [this]
    simp only [headArr]
    rw [Array.getElem_append_right (by simpa using hj)]
    simp
  have hnl : ∀ j o,ops[j]? = some o → listed.getD j false = true → j < n:=fun j o ho hl => by
   rcases Nat.lt_or_ge j n with h | h
   ·exact h
   ·have:=inv.tail j h (Array.getElem?_eq_some_iff.1 ho).1
    rw [getD_both this] at hl; cases hl
  have hK:=endAll_at (vs:=vs) _ _ _ (he w (by have h1:=fi.inv; rwa [show (fun j => listed.getD j false) = (fun j => decide (j < n)) from funext fun j => by
   by_cases hj : j < n
   ·rw [hall j hj]; simp [hj]
   ·have : listed.getD j false = false:=by
     rcases Nat.lt_or_ge j ops.size with h | h
     ·exact getD_both (inv.tail j (by omega) h)
     ·simp [Array.getElem?_eq_none (show listed.size ≤ j by rw [inv.size]; exact h)]
    rw [this]; simp [hj]] at h1)) (fun j hj => by
   have hj' : j < n:=by simp at hj; omega
   have hjs : j < ops.size:=by omega
   have:=(fi.vals j ops[j] (by simp [hjs]) (hall j hj')).1
   simpa using this)
  have ha : a = putAll vs (ops.toList.take n) 0 a₀ := by
   refine act_ext (fun t => ?_) (by rw [putAll_defers]; exact fi.defers)
   by_cases ht : ∃ j o,ops[j]? = some o ∧ j < n ∧ o.dst = some t
   ·obtain ⟨j,o,ho,hj,hd⟩ := ht
    rw [(fi.vals j o ho (hall j hj)).2 t hd,putAll_some vs t _ 0 a₀ j o hdist (hld j o ho hj) hd (hin' j o t ho hj hd)]
    simp
   ·rw [fi.rest t (fun j o ho hl hd => ht ⟨j,o,ho,hnl j o ho hl,hd⟩),putAll_none]
    intro o ho hd
    obtain ⟨j,hj⟩ := List.getElem?_of_mem ho
    rw [List.getElem?_take] at hj
    split at hj
    ·exact ht ⟨j,o,by simpa using hj,by assumption,hd⟩
    ·cases hj
  rw [← ha] at hK
  rw [Nat.zero_add]
  have hlen : (ops.toList.drop n).length = ops.size - n:=by simp
  have:=wpAnyIn_of_seq (F:=F) (n:=0) (P:=P) (md:=.any) (Q':=Q) (ops.toList.drop n) n listed a w (fun j => by simp [List.getElem?_drop]) (by rw [hlen,harr]; exact hseq) hK
  rwa [hlen] at this
 | succ f ih =>
  intro vs listed a w hl inv fi
  by_cases h0 : left n listed = 0
  ·have:=ih vs listed a w (by omega) inv fi
   rw [show f + 1 + (ops.size - n) = f + (ops.size - n) + 1 by omega]
   exact wpAnyIn_more _ _ _ _ this
  ·obtain ⟨j₀,hj₀,hun₀,hbefore⟩ := exists_unlisted h0
   have hj₀s : j₀ < ops.size:=by omega
   rw [show f + 1 + (ops.size - n) = f + (ops.size - n) + 1 by omega]
   refine ⟨fun hr => ?_,fun i hi => ?_⟩
   ·exfalso
    have : j₀ ∈ Region.ready .any ops listed:=mem_ready.2 ⟨getD_in (by rw [inv.size]; omega) hun₀,ops[j₀],by simp [hj₀s],fun e he hb => by
     have h1:=List.all_eq_true.1 hback (ops[j₀],j₀) (List.mem_iff_getElem?.2 ⟨j₀,by simp [hj₀s]⟩)
     have h2:=List.all_eq_true.1 h1 e (by simpa using he)
     simp only [hb,Bool.not_true,Bool.false_or,decide_eq_true_eq] at h2
     exact hbefore _ h2⟩
    rw [hr] at this; cases this
   ·have hin0 : i < n:=by
     rcases Nat.lt_or_ge i n with h | h
     ·exact h
     ·exfalso
      rcases htail with h1 | ⟨⟨h1,h2⟩,h3⟩
      ·obtain ⟨_,oi,hoi,_⟩ := mem_ready.1 hi
       have:=(Array.getElem?_eq_some_iff.1 hoi).1
       omega
      ·exact tail_waits h2 h3 h1 inv (n - j₀) j₀ rfl hj₀ (getD_in (by rw [inv.size]; omega) hun₀) i h hi
    obtain ⟨hiun,oi,hoi,hready⟩ := mem_ready.1 hi
    have his : i < ops.size:=(Array.getElem?_eq_some_iff.1 hoi).1
    have hvc:=genAll_at hv (hld i oi hoi hin0)
    rw [Nat.zero_add] at hvc
    have hvc:=hvc a w (fun j => listed.getD j false) (getD_both hiun) fi.inv (fun e he hb => by
      have hl':=hready e (by simpa using he) hb
      have hes : e.on < ops.size:=by
       have : e.on < listed.size:=by
        rcases Nat.lt_or_ge e.on listed.size with h | h
        ·exact h
        ·rw [show listed.getD e.on false = false from by simp [Array.getElem?_eq_none h]] at hl'; cases hl'
       rw [inv.size] at this; exact this
      have:=fi.vals e.on ops[e.on] (by simp [hes]) hl'
      exact ⟨ops[e.on],vs e.on,by simp [hes],hl',this.1,this.2⟩)
     (fun t ht => fi.rest t fun j o ho hlj => by
      have h1:=List.all_eq_true.1 ht o (by simpa using Array.mem_of_getElem? ho)
      simp only [Bool.or_eq_true,List.any_eq_true,Bool.and_eq_true,beq_iff_eq] at h1
      rcases h1 with h1 | ⟨e,he,hb,hei⟩
      ·simpa using h1
      ·exfalso
       have h2:=inv.closed j o ho hlj e (by simpa using he) hb
       rw [hei,getD_both hiun] at h2
       cases h2)
    have hset : (fun j => (listed.setIfInBounds i true).getD j false) = setB (fun j => listed.getD j false) i:=funext fun j => by
     unfold setB
     by_cases hji : j = i
     ·subst hji; simp [inv.size,his]
     ·rw [if_neg hji,getD_set_ne false (Ne.symm hji)]
    have next : ∀ v w',J (setB (fun j => listed.getD j false) i) w' → (∀ j,j ≠ i → listed.getD j false = true → ∀ v, Φ j v w → (∀ oj d,ops[j]? = some oj → oj.dst = some d → a.tmps[d]? = some v) → Φ j v w') → Φ i v w' → wpAnyIn F 0 P .any ops Q (f + (ops.size - n)) (listed.setIfInBounds i true) (a.put oi.dst v) w':=fun v w' hj' hb hφ => by
     refine ih (fun j => if j = i then v else vs j) _ _ _ (by have:=left_set hin0 (by rw [inv.size]; exact his) hiun; omega) (inv.set hi hin0) ⟨?_, ?_, ?_, ?_, ?_⟩
     ·rw [hset]; exact hj'
     ·intro j o ho hl'
      by_cases hji : j = i
      ·subst hji
       have : o = oi:=Option.some.inj (ho.symm.trans hoi)
       subst this
       refine ⟨by simpa using hφ,fun d hd => ?_⟩
       rw [put_at,if_pos ⟨hd,by rw [fi.size]; exact hin' _ _ _ ho hin0 hd⟩]; simp
      ·rw [getD_set_ne false (Ne.symm hji)] at hl'
       have h1:=fi.vals j o ho hl'
       have hjn : j < n:=by
        rcases Nat.lt_or_ge j n with h | h
        ·exact h
        ·have:=inv.tail j h (Array.getElem?_eq_some_iff.1 ho).1
         rw [getD_both this] at hl'; cases hl'
       refine ⟨by simpa [hji] using hb j hji hl' _ h1.1 (fun oj d hoj hd => by rw [ho] at hoj; cases hoj; exact h1.2 d hd),fun d hd => ?_⟩
       rw [put_at,if_neg (fun h' => distB_ne hdist (hld j o ho hjn) (hld i oi hoi hin0) hji hd h'.1)]
       simpa [hji] using h1.2 d hd
     ·intro t ht
      have h1 : oi.dst ≠ some t:=ht i oi hoi (by simp [inv.size,his])
      rw [put_at,if_neg (fun h' => h1 h'.1)]
      refine fi.rest t fun j o ho hl' => ht j o ho ?_
      exact getD_set_true hl'
     ·rw [put_size]; exact fi.size
     ·rw [put_defers]; exact fi.defers
    unfold wpOpIn
    simp only [hoi]
    split
    ·rename_i hwd
     rw [if_pos hwd] at hvc
     exact (wpIn_of_opOK hF (hnd' oi (by simpa using Array.mem_of_getElem? hoi)) hvc fun v w' ⟨hj',hb,hφ⟩ => next v w' hj' hb hφ)
    ·rename_i hwd
     rw [if_neg hwd] at hvc
     exact ⟨fun f _ => hF.fn f,next _ _ hvc.1 (fun _ _ _ _ h _ => h) hvc.2⟩

theorem wpIn_region_gen {id : Nat} {l : List Oper} {a : Act} {w : World} (n : Nat) (Φ : Nat → Value → World → Prop) (J : (Nat → Bool) → World → Prop) (hmix : P.follows .mixedOrders = true) (hF : Open F) (hnd : noDefer l.toArray = true) (hB : freeB l.toArray n a.tmps.size = true)
  (hJ : J (fun _ => false) w.drew) (hv : GenAll P l.toArray Φ J a (l.take n) 0)
  (he : ∀ w',J (fun j => decide (j < n)) w' → EndAll Φ w' (fun a => wpListIn F 0 P l.toArray Q (l.drop n) a w') (l.take n) 0 a) : (Code.region id l.toArray true).wpIn F 0 P Q a w:=by
 refine wpIn_region_any hmix ?_
 have:=free_headIn hF hnd (Q:=Q) (a₀ := a) hB hv he n (fun _ => undef) (Array.replicate l.toArray.size false) a w.drew (by
   unfold left; exact Nat.le_trans List.countP_le_length (by simp))
  ⟨by simp,fun j oj _ hl => (by rw [getD_replicate_false] at hl; cases hl),fun t _ ht => getD_in (by simpa using ht) (getD_replicate_false _ _)⟩
  ⟨by rw [show (fun j => (Array.replicate l.toArray.size false).getD j false) = (fun _ => false) from funext fun j => getD_replicate_false _ _]; exact hJ,fun j o _ hl => (by rw [getD_replicate_false] at hl; cases hl),fun _ _ => rfl,rfl,rfl⟩
 have hn : n ≤ l.toArray.size:=by simp only [freeB,Bool.and_eq_true,decide_eq_true_eq] at hB; exact hB.1.1.1.1.1
 rw [show n + (l.toArray.size - n) = l.toArray.size by omega] at this
 exact this
end law

/-! The law where each operation's value is known ahead. -/
def fixΦ (cs : List Value) : Nat → Value → World → Prop:=fun i v _ => cs[i]? = some v
def putL : List Oper → List Value → Act → Act
 | o :: l,c :: cs,a => putL l cs (a.put o.dst c)
 | _,_,a => a
end Go.Oche
