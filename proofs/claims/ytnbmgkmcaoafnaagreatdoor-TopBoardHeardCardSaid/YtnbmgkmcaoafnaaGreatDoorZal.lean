/- The texts HH, FreeV, Ent, JSt, JBox, SeqJ, in build order. -/
import Derived.Test.YtnbmgkmcaoafnaaGreatDoorZak
import Derived.Laws.Tables
import Derived.Laws.CopyOwn

/- Chapter 5: Check. -/
namespace Go.Proofs.YtnbmgkmcaoafnaaGreatDoor
open Go.RowKit Go.Oche Go.Proofs

def legA (l : Lg) (bv : Value) : Array Value:=#[.int .i64 l.start,.int .i64 l.gin,.int .i64 l.gout,bv,.int .i64 l.players,.int .i64 l.turns,.bool l.won]
def legV (l : Lg) (bv : Value) : Value:=.agg (legA l bv)
def BedsIn (l : Lg) : Prop := ∀ b ∈ l.beds, -2 ^ 63 ≤ b ∧ b < 2 ^ 63
theorem check_eq (l : Lg) : checkL l = if decide (82 < l.beds.length) = true then 5 else if (!okCount l || decide (l.beds.length = 0) || !risesL l.beds || l.beds.any badBed) = true then 2 else if (!isIn l.players 1 4 || !isIn l.turns 0 60 || (l.won && l.turns == 0)) = true then 2 else 0:=by
 unfold checkL;by_cases h1 : 82 < l.beds.length
 ·simp [h1]
 ·rw [if_neg h1]
  have e1 : (okCount l = false ∨ l.beds = [] ∨ ¬ l.beds.Pairwise (· < ·) ∨ (∃ b ∈ l.beds,isBed5 b = false)) ↔ (!okCount l || decide (l.beds.length = 0) || !risesL l.beds || l.beds.any badBed) = true:=by
   unfold risesL badBed;simp [Bool.or_eq_true,List.any_eq_true,or_assoc]
  have e2 : (isIn l.players 1 4 = false ∨ isIn l.turns 0 60 = false ∨ (l.won = true ∧ l.turns = 0)) ↔ (!isIn l.players 1 4 || !isIn l.turns 0 60 || (l.won && l.turns == 0)) = true:=by
   simp [Bool.or_eq_true,or_assoc]
  have hd : decide (82 < l.beds.length) = false:=decide_eq_false h1;simp only [e1,e2,hd,Bool.false_eq_true,if_false]
set_option maxRecDepth 100000 in
set_option maxHeartbeats 4000000 in
theorem check_any {S : Nat → Prop} (l : Lg) (bv : Value) (w : World) (hs : Sl S w bv (ints l.beds)) (hbd : BedsIn l) :
  Calls Tryz.prog 45 #[legV l bv] w fun e w' => e = .returned (.int .i64 (checkL l)) ∧ Below w.heap.size w w':=by
 obtain ⟨a,cap,rfl,h2,h3⟩ := hs.form;simp only [ints_length] at *;unfold maxLen at h3;obtain ⟨er,her⟩ : ∃ e,checkL l = e:=⟨_,rfl⟩;obtain ⟨b1,hb1⟩ : ∃ b,decide (82 < l.beds.length) = b:=⟨_,rfl⟩;obtain ⟨b2,hb2⟩ : ∃ b,okCount l = b:=⟨_,rfl⟩;obtain ⟨b3,hb3⟩ : ∃ b,decide (l.beds.length = 0) = b:=⟨_,rfl⟩;obtain ⟨b4,hb4⟩ : ∃ b,risesL l.beds = b:=⟨_,rfl⟩;obtain ⟨b5,hb5⟩ : ∃ b,l.beds.any badBed = b:=⟨_,rfl⟩;obtain ⟨b6,hb6⟩ : ∃ b,isIn l.players 1 4 = b:=⟨_,rfl⟩;obtain ⟨b7,hb7⟩ : ∃ b,isIn l.turns 0 60 = b:=⟨_,rfl⟩;obtain ⟨b8,hb8⟩ : ∃ b,(l.turns == 0) = b:=⟨_,rfl⟩;obtain ⟨wn,hwn⟩ : ∃ b,l.won = b:=⟨_,rfl⟩;have HE : Hid (er = if b1 = true then 5 else if (!b2 || b3 || !b4 || b5) = true then 2 else if (!b6 || !b7 || (wn && b8)) = true then 2 else 0):=Lib.hid (by
  rw [← her,check_eq,hb1,hb2,hb3,hb4,hb5,hb6,hb7,hb8,hwn])
 have f1 : decide ((82 : Int) < (l.beds.length : Int)) = b1:=by rw [← hb1]; simp only [decide_eq_decide]; omega
 have f3 : ((l.beds.length : Int) == 0) = b3:=by rw [← hb3,Bool.eq_iff_iff]; simp
 rw [her];unfold legV legA;rw [hwn];have HS:=Lib.hid hs;have HBD:=Lib.hid hbd;have H2:=Lib.hid hb2;have H4:=Lib.hid hb4;have H5:=Lib.hid hb5;have H6:=Lib.hid hb6;have H7:=Lib.hid hb7;obtain ⟨w1,hw1⟩ : ∃ x,w.alloc (.cells #[.int .i64 l.start,.int .i64 l.gin,.int .i64 l.gout,.slice a l.beds.length cap,.int .i64 l.players,.int .i64 l.turns,.bool wn] 53) = x:=⟨_,rfl⟩;have hbw : Below w.heap.size w w1:=by rw [← hw1]; exact aB _ _
 have K : Hid (w1.heap[w.heap.size]? = some (.cells #[.int .i64 l.start,.int .i64 l.gin,.int .i64 l.gout,.slice a l.beds.length cap,.int .i64 l.players,.int .i64 l.turns,.bool wn] 53 (0,0))):=Lib.hid (by rw [← hw1]; exact World.alloc_heap_new _ _)
 have c0 : w1.cell? ⟨w.heap.size,0,none⟩ = some (.int .i64 l.start):=by rw [cell_of_heap K.out]; rfl
 have c1 : w1.cell? ⟨w.heap.size,1,none⟩ = some (.int .i64 l.gin):=by rw [cell_of_heap K.out]; rfl
 have c2 : w1.cell? ⟨w.heap.size,2,none⟩ = some (.int .i64 l.gout):=by rw [cell_of_heap K.out]; rfl
 have c3 : w1.cell? ⟨w.heap.size,3,none⟩ = some (.slice a l.beds.length cap):=by rw [cell_of_heap K.out]; rfl
 have HW:=Lib.hid hw1;have HB1:=Lib.hid hbw;have HS1:=Lib.hid (HS.out.below hbw);clear hw1 hbw hs hbd hb2 hb4 hb5 hb6 hb7 her hwn
 go_enter Tryz.func45,Tryz.ntmps45
 go_upto_region 1 with fail
 rw [HW.out];cases b1
 ·go_wp2_with fail
  refine (isSorted_r l.beds b4 H4 _ w1 HS1.out).mono ?_
  rintro e w2 ⟨rfl,hb2⟩;have HB2:=Lib.hid (bThen HB1.out hb2);have HS2:=Lib.hid (HS1.out.below hb2)
  replace K:=Lib.hid ((hb2.block _ (Array.getElem?_eq_some_iff.1 K.out).1).trans K.out)
  replace c0:=bAt hb2 c0
  replace c1:=bAt hb2 c1
  replace c2:=bAt hb2 c2
  replace c3:=bAt hb2 c3
  clear hb2 HB1 HS1 HW;go_wp2_with fail;refine (isCount_any l b2 H2 w2).mono ?_
  rintro e w3 ⟨rfl,hb3⟩;have HB3:=Lib.hid (bThen HB2.out hb3);have HS3:=Lib.hid (HS2.out.below hb3)
  replace K:=Lib.hid ((hb3.block _ (Array.getElem?_eq_some_iff.1 K.out).1).trans K.out)
  replace c3:=bAt hb3 c3
  clear hb3 HB2 HS2 c0 c1 c2;cases b2
  ·have he : er = 2:=by rw [HE.out]; simp
   clear HE;subst he;go_wp2;go_returns;exact ⟨rfl,HB3.out⟩
  cases b3
  case true =>
   have he : er = 2:=by rw [HE.out]; simp
   clear HE;subst he;go_wp2;go_returns;exact ⟨rfl,HB3.out⟩
  cases b4
  ·have he : er = 2:=by rw [HE.out]; simp
   clear HE;subst he;go_wp2;go_returns;exact ⟨rfl,HB3.out⟩
  go_wp2_with fail;refine (containsBad_r l.beds b5 H5 _ w3 HS3.out HBD.out).mono ?_
  rintro e w4 ⟨rfl,hb4⟩;have HB4:=Lib.hid (bThen HB3.out hb4)
  replace K:=Lib.hid ((hb4.block _ (Array.getElem?_eq_some_iff.1 K.out).1).trans K.out)
  clear hb4 HB3 HS3 c3;cases b5
  case true =>
   have he : er = 2:=by rw [HE.out]; simp
   clear HE;subst he;go_wp2;go_returns;exact ⟨rfl,HB4.out⟩
  have c4 : w4.cell? ⟨w.heap.size,4,none⟩ = some (.int .i64 l.players):=by rw [cell_of_heap K.out]; rfl
  go_wp2_with fail;refine (within_r 1 4 l.players b6 H6 _ _ (Sl.new1 (fun _ => True) w4 trivial 3 (.int .i64 l.players))).mono ?_
  rintro e w5 ⟨rfl,hb5⟩;have hb5':=bThen (aB w4 _) hb5;have HB5:=Lib.hid (bThen HB4.out hb5')
  replace K:=Lib.hid ((hb5'.block _ (Array.getElem?_eq_some_iff.1 K.out).1).trans K.out)
  clear hb5 hb5' HB4 c4;cases b6
  ·have he : er = 2:=by rw [HE.out]; simp
   clear HE;subst he;go_wp2;go_returns;exact ⟨rfl,HB5.out⟩
  have c5 : w5.cell? ⟨w.heap.size,5,none⟩ = some (.int .i64 l.turns):=by rw [cell_of_heap K.out]; rfl
  go_wp2_with fail;refine (within_r 0 60 l.turns b7 H7 _ _ (Sl.new1 (fun _ => True) w5 trivial 3 (.int .i64 l.turns))).mono ?_
  rintro e w6 ⟨rfl,hb6⟩;have hb6':=bThen (aB w5 _) hb6;have HB6:=Lib.hid (bThen HB5.out hb6')
  replace K:=Lib.hid ((hb6'.block _ (Array.getElem?_eq_some_iff.1 K.out).1).trans K.out)
  clear hb6 hb6' HB5 c5;cases b7
  ·have he : er = 2:=by rw [HE.out]; simp
   clear HE;subst he;go_wp2;go_returns;exact ⟨rfl,HB6.out⟩
  have c5 : w6.cell? ⟨w.heap.size,5,none⟩ = some (.int .i64 l.turns):=by rw [cell_of_heap K.out]; rfl
  have c6 : w6.cell? ⟨w.heap.size,6,none⟩ = some (.bool wn):=by rw [cell_of_heap K.out]; rfl
  cases wn
  ·have he : er = 0:=by rw [HE.out]; simp
   clear HE;subst he;go_wp2;go_returns;exact ⟨rfl,HB6.out⟩
  cases b8
  ·have he : er = 0:=by rw [HE.out]; simp
   clear HE;subst he;go_wp2;go_returns;exact ⟨rfl,HB6.out⟩
  ·have he : er = 2:=by rw [HE.out]; simp
   clear HE;subst he;go_wp2;go_returns;exact ⟨rfl,HB6.out⟩
 ·have he : er = 5:=HE.out
  clear HE;subst he;go_wp2;go_returns;exact ⟨rfl,HB1.out⟩
end Go.Proofs.YtnbmgkmcaoafnaaGreatDoor

/- The law of a drawn region (Free) once more: what holds at every moment may speak of the values together. -/
namespace Go.Oche
open Go Go.RowKit
def updV (vs : Nat → Value) (i : Nat) (v : Value) : Nat → Value:=fun j => if j = i then v else vs j
section
variable (P : Program) (ops : Array Oper) (J : (Nat → Bool) → (Nat → Value) → World → Prop) (a₀ : Act)
def VVC (i : Nat) (o : Oper) : Prop :=
 ∀ (a : Act) (w : World) (L : Nat → Bool) (vs : Nat → Value),L i = false → J L vs w →
  (∀ e ∈ o.after.toList,Region.binds .any e = true → ∃ oj,ops[e.on]? = some oj ∧ L e.on = true ∧ ∀ d,oj.dst = some d → a.tmps[d]? = some (vs e.on)) →
  (∀ t : Nat,(ops.toList.all fun oj => oj.dst != some t || oj.after.toList.any fun e => Region.binds .any e && e.on == i) = true → a.tmps[t]? = a₀.tmps[t]?) →
  if Region.wanted o (yielded ops a.tmps) then opOK P o a w (fun v w' => J (setB L i) (updV vs i v) w') else J (setB L i) (updV vs i undef) w
def VAll : List Oper → Nat → Prop
 | [],_ => True
 | o :: l,i => VVC P ops J a₀ i o ∧ VAll l (i + 1)
end
structure VInv (ops : Array Oper) (J : (Nat → Bool) → (Nat → Value) → World → Prop) (a₀ : Act) (vs : Nat → Value) (listed : Array Bool) (a : Act) (w : World) : Prop where
 inv : J (fun j => listed.getD j false) vs w
 vals : ∀ j o,ops[j]? = some o → listed.getD j false = true → ∀ d,o.dst = some d → a.tmps[d]? = some (vs j)
 rest : ∀ t,(∀ j o,ops[j]? = some o → listed.getD j false = true → o.dst ≠ some t) → a.tmps[t]? = a₀.tmps[t]?
 size : a.tmps.size = a₀.tmps.size
 defers : a.defers = a₀.defers
theorem vAll_at {P : Program} {ops : Array Oper} {J : (Nat → Bool) → (Nat → Value) → World → Prop} {a₀ : Act} : ∀ {l : List Oper} {i j : Nat} {o : Oper},
  VAll P ops J a₀ l i → l[j]? = some o → VVC P ops J a₀ (i + j) o
 | [],_,_,_,_,h => by simp at h
 | o' :: l,i,0,o,h,hj => by simp at hj; subst hj; exact h.1
 | o' :: l,i,j + 1,o,h,hj => by
  have:=vAll_at h.2 (j:=j) (o:=o) (by simpa using hj)
  rwa [show i + 1 + j = i + (j + 1) by omega] at this
section law
variable {P : Program} {ops : Array Oper} {J : (Nat → Bool) → (Nat → Value) → World → Prop} {a₀ : Act} {Q : Exit → Act → World → Prop} {n : Nat}

theorem v_head (hB : freeB ops n a₀.tmps.size = true) (hv : VAll P ops J a₀ (ops.toList.take n) 0)
  (he : ∀ vs w,J (fun j => decide (j < n)) vs w → wpList P ops Q (ops.toList.drop n) (putAll vs (ops.toList.take n) 0 a₀) w) :
  ∀ (f : Nat) (vs : Nat → Value) (listed : Array Bool) (a : Act) (w : World),left n listed ≤ f → HeadInv .any ops n listed → VInv ops J a₀ vs listed a w → wpAny P .any ops Q (f + (ops.size - n)) listed a w:=by
 simp only [freeB,Bool.and_eq_true,Bool.or_eq_true,beq_iff_eq,decide_eq_true_eq] at hB;obtain ⟨⟨⟨⟨⟨hn,hback⟩,hdist⟩,hin⟩,htail⟩,hseq⟩ := hB;have hin' : ∀ j o d,ops[j]? = some o → j < n → o.dst = some d → d < a₀.tmps.size:=fun j o d ho hj hd => by
  have hmem : o ∈ ops.toList.take n:=List.mem_of_getElem? (i:=j) (by rw [List.getElem?_take,if_pos hj]; simpa using ho)
  have:=List.all_eq_true.1 hin o hmem;rw [hd] at this
  simpa using this
 have hld : ∀ j o,ops[j]? = some o → j < n → (ops.toList.take n)[j]? = some o:=fun j o ho hj => by rw [List.getElem?_take,if_pos hj]; simpa using ho
 intro f
 induction f with
 | zero =>
  intro vs listed a w hl inv fi
  have hall:=left_zero (Nat.le_zero.1 hl);have harr : listed = headArr n ops.size:=by
   refine Array.ext (by simp [inv.size,headArr]; omega) fun j h1 h2 => ?_
   by_cases hj : j < n
   ·have:=hall j hj
    simp [h1] at this
    rw [this];simp only [headArr];rw [Array.getElem_append_left (by simpa using hj)]
    simp
   ·have:=inv.tail j (by omega) (by rw [inv.size] at h1; exact h1)
    simp [h1] at this
    rw [this];simp only [headArr];rw [Array.getElem_append_right (by simpa using hj)]
    simp
  have hnl : ∀ j o,ops[j]? = some o → listed.getD j false = true → j < n:=fun j o ho hl => by
   rcases Nat.lt_or_ge j n with h | h
   ·exact h
   ·have:=inv.tail j h (Array.getElem?_eq_some_iff.1 ho).1
    rw [getD_both this] at hl; cases hl
  have hK:=he vs w (by have h1:=fi.inv; rwa [show (fun j => listed.getD j false) = (fun j => decide (j < n)) from funext fun j => by
   by_cases hj : j < n
   ·rw [hall j hj]; simp [hj]
   ·have : listed.getD j false = false:=by
     rcases Nat.lt_or_ge j ops.size with h | h
     ·exact getD_both (inv.tail j (by omega) h)
     ·simp [Array.getElem?_eq_none (show listed.size ≤ j by rw [inv.size]; exact h)]
    rw [this]; simp [hj]] at h1)
  have ha : a = putAll vs (ops.toList.take n) 0 a₀ := by
   refine act_ext (fun t => ?_) (by rw [putAll_defers]; exact fi.defers)
   by_cases ht : ∃ j o,ops[j]? = some o ∧ j < n ∧ o.dst = some t
   ·obtain ⟨j,o,ho,hj,hd⟩ := ht
    rw [fi.vals j o ho (hall j hj) t hd,putAll_some vs t _ 0 a₀ j o hdist (hld j o ho hj) hd (hin' j o t ho hj hd)];simp
   ·rw [fi.rest t (fun j o ho hl hd => ht ⟨j,o,ho,hnl j o ho hl,hd⟩),putAll_none]
    intro o ho hd
    obtain ⟨j,hj⟩ := List.getElem?_of_mem ho
    rw [List.getElem?_take] at hj
    split at hj
    ·exact ht ⟨j,o,by simpa using hj,by assumption,hd⟩
    ·cases hj
  rw [← ha] at hK;rw [Nat.zero_add];have hlen : (ops.toList.drop n).length = ops.size - n:=by simp
  have:=wpAny_of_seq (P:=P) (md:=.any) (Q':=Q) (ops.toList.drop n) n listed a w (fun j => by simp [List.getElem?_drop]) (by rw [hlen,harr]; exact hseq) hK
  rwa [hlen] at this
 | succ f ih =>
  intro vs listed a w hl inv fi
  by_cases h0 : left n listed = 0
  ·have:=ih vs listed a w (by omega) inv fi
   rw [show f + 1 + (ops.size - n) = f + (ops.size - n) + 1 by omega]
   exact wpAny_more _ _ _ _ this
  ·obtain ⟨j₀,hj₀,hun₀,hbefore⟩ := exists_unlisted h0
   have hj₀s : j₀ < ops.size:=by omega
   rw [show f + 1 + (ops.size - n) = f + (ops.size - n) + 1 by omega]
   refine ⟨fun hr => ?_,fun i hi => ?_⟩
   ·exfalso
    have : j₀ ∈ Region.ready .any ops listed:=mem_ready.2 ⟨getD_in (by rw [inv.size]; omega) hun₀,ops[j₀],by simp [hj₀s],fun e he hb => by
     have h1:=List.all_eq_true.1 hback (ops[j₀],j₀) (List.mem_iff_getElem?.2 ⟨j₀,by simp [hj₀s]⟩)
     have h2:=List.all_eq_true.1 h1 e (by simpa using he)
     simp only [hb,Bool.not_true,Bool.false_or,decide_eq_true_eq] at h2;exact hbefore _ h2⟩
    rw [hr] at this; cases this
   ·have hin0 : i < n:=by
     rcases Nat.lt_or_ge i n with h | h
     ·exact h
     ·exfalso
      rcases htail with h1 | ⟨⟨h1,h2⟩,h3⟩
      ·obtain ⟨_,oi,hoi,_⟩ := mem_ready.1 hi
       have:=(Array.getElem?_eq_some_iff.1 hoi).1
       omega
      ·exact tail_waits h2 h3 h1 inv (n - j₀) j₀ rfl hj₀ (getD_in (by rw [inv.size]; omega) hun₀) i h hi
    obtain ⟨hiun,oi,hoi,hready⟩ := mem_ready.1 hi;have his : i < ops.size:=(Array.getElem?_eq_some_iff.1 hoi).1
    have hvc:=vAll_at hv (hld i oi hoi hin0);rw [Nat.zero_add] at hvc;have hvc:=hvc a w (fun j => listed.getD j false) vs (getD_both hiun) fi.inv (fun e he hb => by
      have hl':=hready e (by simpa using he) hb
      have hes : e.on < ops.size:=by
       have : e.on < listed.size:=by
        rcases Nat.lt_or_ge e.on listed.size with h | h
        ·exact h
        ·rw [show listed.getD e.on false = false from by simp [Array.getElem?_eq_none h]] at hl'; cases hl'
       rw [inv.size] at this; exact this
      have:=fi.vals e.on ops[e.on] (by simp [hes]) hl'
      exact ⟨ops[e.on],by simp [hes],hl',this⟩)
     (fun t ht => fi.rest t fun j o ho hlj => by
      have h1:=List.all_eq_true.1 ht o (by simpa using Array.mem_of_getElem? ho)
      simp only [Bool.or_eq_true,List.any_eq_true,Bool.and_eq_true,beq_iff_eq] at h1;rcases h1 with h1 | ⟨e,he,hb,hei⟩
      ·simpa using h1
      ·exfalso
       have h2:=inv.closed j o ho hlj e (by simpa using he) hb
       rw [hei,getD_both hiun] at h2;cases h2)
    have hset : (fun j => (listed.setIfInBounds i true).getD j false) = setB (fun j => listed.getD j false) i:=funext fun j => by
     unfold setB;by_cases hji : j = i
     ·subst hji; simp [inv.size,his]
     ·rw [if_neg hji,getD_set_ne false (Ne.symm hji)]
    have next : ∀ v w',J (setB (fun j => listed.getD j false) i) (updV vs i v) w' → wpAny P .any ops Q (f + (ops.size - n)) (listed.setIfInBounds i true) (a.put oi.dst v) w':=fun v w' hj' => by
     refine ih (updV vs i v) _ _ _ (by have:=left_set hin0 (by rw [inv.size]; exact his) hiun; omega) (inv.set hi hin0) ⟨?_, ?_, ?_, ?_, ?_⟩
     ·rw [hset]; exact hj'
     ·intro j o ho hl' d hd
      by_cases hji : j = i
      ·subst hji
       have : o = oi:=Option.some.inj (ho.symm.trans hoi);subst this;rw [put_at,if_pos ⟨hd,by rw [fi.size]; exact hin' _ _ _ ho hin0 hd⟩]; simp [updV]
      ·rw [getD_set_ne false (Ne.symm hji)] at hl'
       have hjn : j < n:=by
        rcases Nat.lt_or_ge j n with h | h
        ·exact h
        ·have:=inv.tail j h (Array.getElem?_eq_some_iff.1 ho).1
         rw [getD_both this] at hl'; cases hl'
       rw [put_at,if_neg (fun h' => distB_ne hdist (hld j o ho hjn) (hld i oi hoi hin0) hji hd h'.1)]
       simpa [updV,hji] using fi.vals j o ho hl' d hd
     ·intro t ht
      have h1 : oi.dst ≠ some t:=ht i oi hoi (by simp [inv.size,his])
      rw [put_at,if_neg (fun h' => h1 h'.1)]
      refine fi.rest t fun j o ho hl' => ht j o ho ?_
      exact getD_set_true hl'
     ·rw [put_size]; exact fi.size
     ·rw [put_defers]; exact fi.defers
    unfold wpOp;simp only [hoi];split
    ·rename_i hwd
     rw [if_pos hwd] at hvc;exact .inl (wp_of_opOK hvc fun v w' hj' => next v w' hj')
    ·rename_i hwd
     rw [if_neg hwd] at hvc;exact next _ _ hvc

theorem wp_region_v {id : Nat} {l : List Oper} {a : Act} {w : World} (n : Nat) (J : (Nat → Bool) → (Nat → Value) → World → Prop) (hmix : P.follows .mixedOrders = true) (hB : freeB l.toArray n a.tmps.size = true)
  (hJ : ∀ vs,J (fun _ => false) vs w.drew) (hv : VAll P l.toArray J a (l.take n) 0)
  (he : ∀ vs w',J (fun j => decide (j < n)) vs w' → wpList P l.toArray Q (l.drop n) (putAll vs (l.take n) 0 a) w') : (Code.region id l.toArray true).wp P Q a w:=by
 refine wp_region_any hmix ?_
 have:=v_head (Q:=Q) (a₀ := a) hB hv he n (fun _ => undef) (Array.replicate l.toArray.size false) a w.drew (by
   unfold left; exact Nat.le_trans List.countP_le_length (by simp))
  ⟨by simp,fun j oj _ hl => (by rw [getD_replicate_false] at hl; cases hl),fun t _ ht => getD_in (by simpa using ht) (getD_replicate_false _ _)⟩
  ⟨by rw [show (fun j => (Array.replicate l.toArray.size false).getD j false) = (fun _ => false) from funext fun j => getD_replicate_false _ _]; exact hJ _,fun j o _ hl => (by rw [getD_replicate_false] at hl; cases hl),fun _ _ => rfl,rfl,rfl⟩
 have hn : n ≤ l.toArray.size:=by simp only [freeB,Bool.and_eq_true,decide_eq_true_eq] at hB; exact hB.1.1.1.1.1
 rw [show n + (l.toArray.size - n) = l.toArray.size by omega] at this
 exact this
end law
open Go Go.RowKit

theorem opOK_skip {P : Program} {o : Oper} {a : Act} {w w' : World} {R : Value → World → Prop} (hr : (execOp a.eval o).run P w = .ok .skip w') (h : R undef w') : opOK P o a w R:=by unfold opOK; rw [hr]; exact h
section
variable {κ : Type} [DecidableEq κ] {P : Program} {K : TypeId} {enc : κ → Value}
theorem lookM_append_new {L : List (κ × Value)} {k : κ} {z : Value} (h : lookM L k = none) : lookM (L ++ [(k,z)]) k = some z:=by
 unfold lookM at h ⊢;rw [Option.map_eq_none_iff] at h;rw [List.find?_append,h]; simp
theorem lookM_entL (L : List (κ × Value)) (k : κ) (z : Value) : (lookM (entL L k z) k).getD z = (lookM L k).getD z:=by
 unfold entL;cases h : lookM L k with
 | none => rw [if_neg (by simp),lookM_append_new h]; rfl
 | some v => rw [if_pos (by rfl),h]
structure JE (enc : κ → Value) (w : World) (M : Nat) (L : List (κ × Value)) (k : κ) (z : Value) (e s : Nat) (S : Nat → Bool) (W : World) : Prop where
 grown : w.grownBy W (some M)
 off : S e = false → MapAt enc W M L ∧ S s = false
 on : S e = true → ∃ st,EntAt enc W M (entL L k z) k st
variable {w W : World} {M : Nat} {L : List (κ × Value)} {k : κ} {z : Value} {e s : Nat} {S : Nat → Bool}
theorem JE.start (h : MapAt enc w M L) : JE enc w M L k z e s (fun _ => false) w.drew :=
 ⟨⟨rfl,rfl,rfl,Nat.le_refl _,fun _ _ _ => rfl⟩,fun _ => ⟨h.keep rfl,rfl⟩,fun h => by cases h⟩
theorem JE.look (h : JE enc w M L k z e s S W) : ∃ L',MapAt enc W M L' ∧ (lookM L' k).getD z = (lookM L k).getD z:=by
 cases he : S e with
 | false => exact ⟨L,(h.off he).1,rfl⟩
 | true => obtain ⟨st,h1⟩ := h.on he; exact ⟨_,h1.map,lookM_entL L k z⟩
theorem JE.read (h : JE enc w M L k z e s S W) {i : Nat} (hi : i ≠ e) (hs : i = s → S e = true) : JE enc w M L k z e s (setB S i) W:=by
 refine ⟨h.grown,fun h' => ?_,fun h' => ?_⟩
 ·unfold setB at h' ⊢
  rw [if_neg (fun q => hi q.symm)] at h'
  have:=h.off h';refine ⟨this.1, ?_⟩
  split
  ·rename_i q
   have:=hs q.symm;rw [h'] at this; cases this
  ·exact this.2
 ·unfold setB at h'
  rw [if_neg (fun q => hi q.symm)] at h'
  exact h.on h'
theorem JE.made (h : JE enc w M L k z e s S W) {W' : World} {st : Nat} (hg : W.grownBy W' (some M)) (h2 : EntAt enc W' M (entL L k z) k st) : JE enc w M L k z e s (setB S e) W' :=
 ⟨grownBy_trans h.grown hg,fun h' => by simp [setB] at h',fun _ => ⟨st,h2⟩⟩
end
open Go Go.RowKit
structure JSt (st : Nat) (rd : List Nat) (A B : World → Prop) (L : Nat → Bool) (W : World) : Prop where
 off : L st = false → A W
 on : L st = true → B W
 rds : L st = true → ∀ i ∈ rd,L i = true
section
variable {st : Nat} {rd : List Nat} {A B : World → Prop} {L : Nat → Bool} {W W' : World}
theorem JSt.start (h : A W) : JSt st rd A B (fun _ => false) W:=⟨fun _ => h,fun h => by (cases h),fun h => by (cases h)⟩
theorem JSt.read (h : JSt st rd A B L W) {i : Nat} (hi : i ≠ st) : JSt st rd A B (setB L i) W:=by
 have e : setB L i st = L st:=by unfold setB; rw [if_neg (fun e => hi e.symm)]
 refine ⟨fun h' => h.off (by rwa [e] at h'),fun h' => h.on (by rwa [e] at h'),fun h' j hj => ?_⟩
 rw [e] at h';unfold setB;split
 ·rfl
 ·exact h.rds h' j hj
theorem JSt.look (h : JSt st rd A B L W) {i : Nat} (hi : i ∈ rd) (hL : L i = false) : A W:=by
 refine h.off ?_
 cases hs : L st with
 | false => rfl
 | true => rw [h.rds hs i hi] at hL; cases hL
theorem JSt.write (h : ∀ i ∈ rd,L i = true) (hB : B W') : JSt st rd A B (setB L st) W':=by
 refine ⟨fun h' => by simp [setB] at h',fun _ => hB,fun _ j hj => ?_⟩
 unfold setB;split
 ·rfl
 ·exact h j hj
end
open Go Go.RowKit
structure JBox (w0 : World) (ia ist : Nat) (t : TypeId) (z c : Array Value) (L : Nat → Bool) (W : World) : Prop where
 below : Below w0.heap.size w0 W
 off : L ia = false → W.heap.size = w0.heap.size ∧ L ist = false
 on : L ia = true → L ist = false → W.heap[w0.heap.size]? = some (.cells z t (0,0))
 st : L ist = true → W.heap[w0.heap.size]? = some (.cells c t (0,0))
section
variable {w0 W : World} {ia ist : Nat} {t : TypeId} {z c : Array Value} {L : Nat → Bool}
theorem setB_ne {i j : Nat} (h : j ≠ i) : setB L i j = L j:=by unfold setB; rw [if_neg h]
theorem setB_eq {i : Nat} : setB L i i = true:=by unfold setB; rw [if_pos rfl]
theorem JBox.start : JBox w0 ia ist t z c (fun _ => false) w0.drew:=⟨⟨rfl,rfl,rfl,Nat.le_refl _,fun _ _ => rfl⟩,fun _ => ⟨rfl,rfl⟩,fun h => (by cases h),fun h => (by cases h)⟩
theorem JBox.read (h : JBox w0 ia ist t z c L W) {i : Nat} (h1 : ia ≠ i) (h2 : ist ≠ i) : JBox w0 ia ist t z c (setB L i) W:=by
 refine ⟨h.below, ?_, ?_, ?_⟩ <;> rw [setB_ne h2] <;> try rw [setB_ne h1]
 ·exact h.off
 ·exact h.on
 ·exact h.st
theorem JBox.alloc (h : JBox w0 ia ist t z c L W) (hL : L ia = false) (hne : ist ≠ ia) : JBox w0 ia ist t z c (setB L ia) (W.alloc (.cells z t)) ∧ W.heap.size = w0.heap.size:=by
 obtain ⟨hs,hst⟩ := h.off hL;refine ⟨⟨h.below.trans ((aB _ _).mono h.below.size),fun h' => ?_,fun _ _ => ?_,fun h' => ?_⟩,hs⟩
 ·rw [setB_eq] at h'; cases h'
 ·rw [← hs]; exact World.alloc_heap_new _ _
 ·rw [setB_ne hne,hst] at h'; cases h'
theorem JBox.store (h : JBox w0 ia ist t z c L W) (hL : L ia = true) (hS : L ist = false) (hne : ist ≠ ia) : JBox w0 ia ist t z c (setB L ist) (W.setRow w0.heap.size c):=by
 refine ⟨below_setRow h.below (Nat.le_refl _) _,fun h' => ?_,fun _ h' => ?_,fun _ => setRow_heap _ _ _ _ _ _ (h.on hL hS)⟩
 ·rw [setB_ne hne.symm,hL] at h'; cases h'
 ·rw [setB_eq] at h'; cases h'
end
section
variable {P : Program}
theorem opOK_store_row {o : Oper} {a : Act} {w : World} {R : Value → World → Prop} (ty : TypeId) (x y : Operand) (ho : o.op = .store ty x y)
  (g : Nat) (cells : Array Value) (hx : a.eval x = .pointer (some ⟨g,0,none⟩)) (hy : a.eval y = .agg cells)
  (t : TypeId) (old : Array Value) (hg : w.heap[g]? = some (.cells old t (0,0))) (hi : (P.info? ty).map (·.size) = some cells.size)
  (hold : old.size = cells.size) (h1 : cells.all (·.oneCell') = true) (h : R undef (w.setRow g cells)) : opOK P o a w R:=by
 unfold opOK execOp;simp only [ho,hx,hy,Instr.storeAt,Instr.sureAddr,Sem.run_bind,Sem.run_pure,Result.andThen_ok,run_storeVar_row w g t ty old cells hg hi hold h1];exact h
end
open Go Go.RowKit

def SeqJVC (P : Program) (ops : Array Oper) (J : (Nat → Bool) → World → Prop) (ks₀ : List Kn) (i : Nat) (k : Kn) (o : Oper) (a : Act) (H : Nat → World → Prop) : Prop :=
 (∃ v,k.s v) ∧
 (∀ w L,L i = false → J L w → (∀ e ∈ o.after.toList,Region.binds .any e = true → L e.on = true ∧ H e.on w) →
  if guardOn ops o a then opOK P o a w (fun v w' => J (setB L i) w' ∧ pres ops ks₀ i o a w w' ∧ k.s v ∧ k.p v w') else J (setB L i) w ∧ k.s undef ∧ k.p undef w)

def SeqJAll (P : Program) (ops : Array Oper) (J : (Nat → Bool) → World → Prop) (ks₀ : List Kn) (K : Act → (Nat → World → Prop) → Prop) : List Kn → List Oper → Act → (Nat → World → Prop) → Nat → Prop
 | _,[],a,H,_ => K a H
 | [],_ :: _,_,_,_ => False
 | k :: ks,o :: l,a,H,i => SeqJVC P ops J ks₀ i k o a H ∧ ∀ v,k.s v → SeqJAll P ops J ks₀ K ks l (a.put o.dst v) (addH H i (k.p v)) (i + 1)

section
variable {P : Program} {ops : Array Oper} {J : (Nat → Bool) → World → Prop} {ks₀ : List Kn} {K : Act → (Nat → World → Prop) → Prop}

theorem seqJ_ks : ∀ {ks : List Kn} {l : List Oper} {a : Act} {H : Nat → World → Prop} {i : Nat} (vs : Nat → Value),SeqJAll P ops J ks₀ K ks l a H i → ∀ j,j < l.length → (∀ m k,m < j → ks[m]? = some k → k.s (vs (i + m))) →
  ∃ k o H',ks[j]? = some k ∧ l[j]? = some o ∧ SeqJVC P ops J ks₀ (i + j) k o (putAll vs (l.take j) i a) H' ∧ (∀ q w,i ≤ q → q < i + j → (∀ k,ks[q - i]? = some k → k.p (vs q) w) → H' q w) ∧ (∀ q w,q < i → H q w → H' q w)
 | [],_ :: _,_,_,_,_,h,_,_,_ => h.elim
 | _,[],_,_,_,_,_,j,hj,_ => by simp at hj
 | k :: ks,o :: l,a,H,i,vs,h,0,_,_ => ⟨k,o,H,rfl,rfl,by simpa [putAll] using h.1,fun q w h1 h2 => by omega,fun q w _ h => h⟩
 | k :: ks,o :: l,a,H,i,vs,h,j + 1,hj,hs => by
  have h0 : k.s (vs i):=by simpa using hs 0 k (by omega) rfl
  obtain ⟨k',o',H',e1,e2,e3,e4,e5⟩ := seqJ_ks vs (h.2 _ h0) j (by simp at hj; omega) (fun m k hm hk => by
   have:=hs (m + 1) k (by omega) (by simpa using hk)
   rwa [show i + (m + 1) = i + 1 + m by omega] at this)
  refine ⟨k',o',H',by simpa using e1,by simpa using e2,by rw [show i + (j + 1) = i + 1 + j by omega]; simpa [putAll] using e3,fun q w h1 h2 hq => ?_,fun q w h1 hq => ?_⟩
  ·by_cases hqi : q = i
   ·subst hqi
    exact e5 q w (by omega) (by unfold addH; rw [if_pos rfl]; exact hq k (by simp))
   ·refine e4 q w (by omega) (by omega) fun k hk => hq k ?_
    rw [show q - i = (q - (i + 1)) + 1 by omega]; simpa using hk
  ·exact e5 q w (by omega) (by unfold addH; rw [if_neg (by omega)]; exact hq)

theorem seqJ_has : ∀ {ks : List Kn} {l : List Oper} {a : Act} {H : Nat → World → Prop} {i : Nat},SeqJAll P ops J ks₀ K ks l a H i → ∀ j,j < l.length → ∃ k v,ks[j]? = some k ∧ k.s v
 | [],_ :: _,_,_,_,h,_,_ => h.elim
 | _,[],_,_,_,_,j,hj => by simp at hj
 | k :: ks,o :: l,a,H,i,h,0,_ => let ⟨⟨v,hv⟩,_⟩ := h.1; ⟨k,v,rfl,hv⟩
 | k :: ks,o :: l,a,H,i,h,j + 1,hj => by
  obtain ⟨⟨v,hv⟩,_⟩ := h.1;obtain ⟨k',v',e⟩ := seqJ_has (h.2 v hv) j (by simp at hj; omega)
  exact ⟨k',v',by simpa using e⟩

theorem seqJ_end {w : World} : ∀ {kk ks : List Kn} {l : List Oper} {a : Act} {H : Nat → World → Prop} {i : Nat},SeqJAll P ops J ks₀ K ks l a H i → (∀ j,ks[j]? = kk[i + j]?) → (∀ j,j < i → H j w) →
  EndAll (knΦ kk) w (fun a => ∃ H,(∀ j,j < i + l.length → H j w) ∧ K a H) l i a
 | _,_,[],a,H,i,h,_,hH => ⟨H,by simpa using hH,by cases ‹List Kn› <;> exact h⟩
 | _,[],_ :: _,_,_,_,h,_,_ => h.elim
 | kk,k :: ks,o :: l,a,H,i,h,hk,hH => fun v hv => by
  have h0:=hv k (by rw [← Nat.add_zero i,← hk 0]; rfl)
  have:=seqJ_end (kk:=kk) (w:=w) (h.2 v h0.1) (fun j => by rw [show i + 1 + j = i + (j + 1) by omega,← hk (j + 1)]; simp) (fun j hj => by
   unfold addH;by_cases hji : j = i
   ·rw [if_pos hji]; exact h0.2
   ·rw [if_neg hji]; exact hH j (by omega))
  rw [List.length_cons,show i + (l.length + 1) = i + 1 + l.length by omega]
  exact this

theorem seqJ_free {n : Nat} {a₀ : Act} {ks : List Kn} (hB : freeB ops n a₀.tmps.size = true) (hR : readsB ops n = true) (_hlk : ks.length = n) (h : SeqJAll P ops J ks K ks (ops.toList.take n) a₀ (fun _ _ => True) 0) :
  GenAll P ops (knΦ ks) J a₀ (ops.toList.take n) 0:=by
 simp only [freeB,Bool.and_eq_true,Bool.or_eq_true,beq_iff_eq,decide_eq_true_eq] at hB;obtain ⟨⟨⟨⟨⟨hn,hback⟩,hdist⟩,hin⟩, -⟩, -⟩ := hB;have hlen : (ops.toList.take n).length = n:=by simp; omega
 have key : ∀ i o,(ops.toList.take n)[i]? = some o → GenVC P ops (knΦ ks) J a₀ i o:=by
  intro i o ho
  have hi : i < n:=by have:=(List.getElem?_eq_some_iff.1 ho).1; omega
  have hoi : ops[i]? = some o:=by rw [List.getElem?_take,if_pos hi] at ho; simpa using ho
  intro a w L hL0 hb hp ht
  classical
  obtain ⟨vs,hvs⟩ : ∃ vs : Nat → Value, ∀ j,j < n → ((∃ v,knΦ ks j v w ∧ ∀ oj d,ops[j]? = some oj → oj.dst = some d → a.tmps[d]? = some v) → knΦ ks j (vs j) w ∧ ∀ oj d,ops[j]? = some oj → oj.dst = some d → a.tmps[d]? = some (vs j)) ∧ ∀ k,ks[j]? = some k → k.s (vs j):=by
   refine ⟨fun j => if hj : ∃ v,knΦ ks j v w ∧ ∀ oj d,ops[j]? = some oj → oj.dst = some d → a.tmps[d]? = some v then Classical.choose hj else if hj2 : ∃ v, ∃ k,ks[j]? = some k ∧ k.s v then Classical.choose hj2 else undef,fun j hj => ?_⟩
   by_cases hj1 : ∃ v,knΦ ks j v w ∧ ∀ oj d,ops[j]? = some oj → oj.dst = some d → a.tmps[d]? = some v
   ·simp only [dif_pos hj1]
    have hc:=Classical.choose_spec hj1;exact ⟨fun _ => hc,fun k hk => (hc.1 k hk).1⟩
   ·simp only [dif_neg hj1]
    refine ⟨fun hx => (hj1 hx).elim,fun k hk => ?_⟩
    obtain ⟨k',v',hk',hv'⟩ := seqJ_has h j (by omega)
    have hj2 : ∃ v, ∃ k,ks[j]? = some k ∧ k.s v:=⟨v',k',hk',hv'⟩;rw [dif_pos hj2];obtain ⟨k2,hk2,hs2⟩ := Classical.choose_spec hj2;rw [hk] at hk2;cases hk2;exact hs2
  obtain ⟨k,o',H',e1,e2,⟨_,hop⟩,e4, -⟩ := seqJ_ks vs h i (by omega) (fun m k hm hk => by rw [Nat.zero_add]; exact (hvs m (by omega)).2 k hk)
  rw [ho] at e2;cases e2;have hlt : ∀ e ∈ o.after.toList,Region.binds .any e = true → e.on < i:=fun e he hbe => by
   have h1:=List.all_eq_true.1 hback (o,i) (List.mem_iff_getElem?.2 ⟨i,by simp only [List.getElem?_zipIdx,Array.getElem?_toList,hoi,Option.map_some,Nat.zero_add]⟩)
   have h2:=List.all_eq_true.1 h1 e (by simpa using he)
   simpa [hbe] using h2
  have hdep : ∀ e ∈ o.after.toList,Region.binds .any e = true → knΦ ks e.on (vs e.on) w ∧ ∀ oj d,ops[e.on]? = some oj → oj.dst = some d → a.tmps[d]? = some (vs e.on):=fun e he hbe => by
   obtain ⟨oj,v,h1,_,h2,h3⟩ := hp e he hbe;refine (hvs e.on (by have:=hlt e he hbe; omega)).1 ⟨v,h2,fun oj' d hoj hd => ?_⟩
   rw [h1] at hoj;cases hoj;exact h3 d hd
  rw [Nat.zero_add] at hop;have hop:=hop w L hL0 hb (fun e he hbe => ⟨(let ⟨_,_,_,h2,_⟩ := hp e he hbe; h2),e4 e.on w (Nat.zero_le _) (by have:=hlt e he hbe; omega) fun k hk => ((hdep e he hbe).1 k (by simpa using hk)).2⟩)
  have hread : ((match o.op with | .select _ _ => false | _ => true) = true) ∧ ∀ t ∈ o.looksAt ops,(∃ e ∈ o.after.toList,Region.binds .any e = true ∧ (ops[e.on]?).bind (·.dst) = some t) ∨
    (ops.toList.all fun oj => oj.dst != some t || oj.after.toList.any fun e => Region.binds .any e && e.on == i) = true:=by
   have h1:=List.all_eq_true.1 hR (o,i) (List.mem_iff_getElem?.2 ⟨i,by rw [List.getElem?_zipIdx,ho]; simp⟩)
   simp only [Bool.and_eq_true] at h1;refine ⟨h1.1,fun t ht => ?_⟩
   have h2:=List.all_eq_true.1 h1.2 t ht;simp only [Bool.or_eq_true] at h2;rcases h2 with h2 | h2
   ·left
    obtain ⟨e,he,h3⟩ := List.any_eq_true.1 h2;simp only [Bool.and_eq_true,beq_iff_eq] at h3;exact ⟨e,he,h3.1,h3.2⟩
   ·exact .inr h2
  have hsel : ∀ cs b,o.op ≠ .select cs b:=fun cs b hc => by have:=hread.1; rw [hc] at this; cases this
  have hsz : ∀ d oj j,ops[j]? = some oj → j < n → oj.dst = some d → d < a₀.tmps.size:=fun d oj j hj hjn hd => by
   have hmem : oj ∈ ops.toList.take n:=List.mem_of_getElem? (i:=j) (by rw [List.getElem?_take,if_pos hjn]; simpa using hj)
   have:=List.all_eq_true.1 hin oj hmem;rw [hd] at this
   simpa using this
  have hdval : ∀ e ∈ o.after.toList,Region.binds .any e = true → ∀ oj d,ops[e.on]? = some oj → oj.dst = some d → (putAll vs ((ops.toList.take n).take i) 0 a₀).tmps[d]? = some (vs e.on):=by
   intro e he hbe oj t hoj hdj
   have hei:=hlt e he hbe;have hd2 : distB ((ops.toList.take n).take i) = true:=by
    have : ∀ (l : List Oper) (m : Nat),distB l = true → distB (l.take m) = true:=by
     intro l
     induction l with
     | nil => intro m _; simp [distB]
     | cons x l ih =>
      intro m hx
      cases m with
      | zero => rfl
      | succ m =>
       simp only [distB,Bool.and_eq_true,List.take_succ_cons] at hx ⊢;refine ⟨?_,ih m hx.2⟩
       cases hxd : x.dst with
       | none => rfl
       | some d =>
        have h1:=hx.1;rw [hxd] at h1;exact List.all_eq_true.2 fun y hy => List.all_eq_true.1 h1 y (List.mem_of_mem_take hy)
    exact this _ _ hdist
   have:=putAll_some vs t ((ops.toList.take n).take i) 0 a₀ e.on oj hd2 (by rw [List.getElem?_take,if_pos hei,List.getElem?_take,if_pos (by omega)]; simpa using hoj) hdj (hsz t oj e.on hoj (by omega) hdj)
   rw [this,Nat.zero_add]
  have heq : ∀ t ∈ o.looksAt ops,a.tmps[t]? = (putAll vs ((ops.toList.take n).take i) 0 a₀).tmps[t]? := by
   intro t hmem
   rcases hread.2 t hmem with ⟨e,he,hbe,hd⟩ | hall
   ·obtain ⟨oj,hoj,hdj⟩ := Option.bind_eq_some_iff.1 hd
    rw [(hdep e he hbe).2 oj t hoj hdj,hdval e he hbe oj t hoj hdj]
   ·rw [ht t hall,putAll_none]
    intro oj hoj hd
    obtain ⟨j,hj⟩ := List.getElem?_of_mem hoj
    rw [List.getElem?_take] at hj
    split at hj
    ·rename_i hji
     rw [List.getElem?_take,if_pos (by omega)] at hj
     have hj' : ops[j]? = some oj:=by simpa using hj
     have h1:=List.all_eq_true.1 hall oj (by simpa using Array.mem_of_getElem? hj')
     simp only [Bool.or_eq_true,List.any_eq_true,Bool.and_eq_true,beq_iff_eq,bne_iff_ne,ne_eq] at h1;rcases h1 with h1 | ⟨e,he,hbe,hei⟩
     ·exact h1 hd
     ·have h2:=List.all_eq_true.1 hback (oj,j) (List.mem_iff_getElem?.2 ⟨j,by simp only [List.getElem?_zipIdx,Array.getElem?_toList,hj',Option.map_some,Nat.zero_add]⟩)
      have h3:=List.all_eq_true.1 h2 e (by simpa using he)
      simp only [hbe,Bool.not_true,Bool.false_or,decide_eq_true_eq] at h3;omega
    ·cases hj
  have hev : execOp a.eval o = execOp (putAll vs ((ops.toList.take n).take i) 0 a₀).eval o:=execOp_congr o hsel fun x hx => by
   cases x with
   | tmp t =>
    have:=heq t (List.mem_append_left _ (List.mem_filterMap.2 ⟨.tmp t,by simpa using hx,rfl⟩))
    simp only [Act.eval,Array.getD_eq_getD_getElem?,this]
   | const v => rfl
   | global g => rfl
   | func f => rfl
  have hgd : Region.wanted o (yielded ops a.tmps) = guardOn ops o (putAll vs ((ops.toList.take n).take i) 0 a₀):=by
   unfold guardOn Region.wanted;cases hg : o.guard with
   | none => rfl
   | some jb =>
    obtain ⟨j,b⟩ := jb;have : yielded ops a.tmps j = yielded ops (putAll vs ((ops.toList.take n).take i) 0 a₀).tmps j:=by
     unfold yielded;cases hd : (ops[j]?).bind (·.dst) with
     | none => rfl
     | some t =>
      simp only [Option.bind_some];rw [heq t (List.mem_append_right _ (by rw [hg]; simp [hd]))]
    simp only [this]
  rw [hgd];have hok : ∀ R,opOK P o (putAll vs ((ops.toList.take n).take i) 0 a₀) w R → opOK P o a w R:=fun R hR => by
   unfold opOK at *;rw [hev]; exact hR
  split at hop
  ·rename_i hg
   rw [if_pos hg];refine hok _ (opOK_mono hop fun v w' ⟨h1,hpr,h2,h3⟩ => ⟨h1,fun j hj _ u hu hut kj hkj => ?_,fun k' hk' => ?_⟩)
   ·have:=hu kj hkj
    refine ⟨this.1,hpr j kj hkj (by omega) u this.1 (fun ⟨e,he,hbe,hej⟩ oj d hoj hd => ?_) this.2⟩
    subst hej;have h1:=(hdep e he hbe).2 oj d hoj hd;rw [hut oj d hoj hd] at h1;rw [hdval e he hbe oj d hoj hd,h1]
   ·rw [e1] at hk'
    cases hk';exact ⟨h2,h3⟩
  ·rename_i hg
   rw [if_neg hg];refine ⟨hop.1,fun k' hk' => ?_⟩
   rw [e1] at hk';cases hk';exact hop.2
 have all : ∀ (l : List Oper) (i : Nat),(∀ j o,l[j]? = some o → GenVC P ops (knΦ ks) J a₀ (i + j) o) → GenAll P ops (knΦ ks) J a₀ l i:=by
  intro l
  induction l with
  | nil => intro i _; trivial
  | cons o l ih =>
   intro i hl
   refine ⟨by simpa using hl 0 o rfl,ih (i + 1) fun j o' hj => ?_⟩
   have:=hl (j + 1) o' (by simpa using hj)
   rwa [show i + (j + 1) = i + 1 + j by omega] at this
 exact all _ 0 fun j o ho => by rw [Nat.zero_add]; exact key j o ho
end


def seqJK (J : (Nat → Bool) → World → Prop) (K : Act → World → Prop) (n : Nat) : Act → (Nat → World → Prop) → Prop:=fun a H => ∀ w',J (fun j => decide (j < n)) w' → (∀ j,j < n → H j w') → K a w'

section
variable {P : Program} {id : Nat} {l : List Oper} {a : Act} {w : World} {Q : Exit → Act → World → Prop} {ks : List Kn}
theorem seqJ_parts (n : Nat) (J : (Nat → Bool) → World → Prop) (hlk : ks.length = n) (hB : freeB l.toArray n a.tmps.size = true) (hR : readsB l.toArray n = true) {K : Act → World → Prop} (h : SeqJAll P l.toArray J ks (seqJK J K n) ks (l.take n) a (fun _ _ => True) 0) :
  GenAll P l.toArray (knΦ ks) J a (l.take n) 0 ∧ ∀ w',J (fun j => decide (j < n)) w' → EndAll (knΦ ks) w' (fun a => K a w') (l.take n) 0 a:=by
 have hn : n ≤ l.length:=by simp only [freeB,Bool.and_eq_true,decide_eq_true_eq] at hB; simpa using hB.1.1.1.1.1
 have hlen : (l.take n).length = n:=by simp; omega
 refine ⟨seqJ_free (ops:=l.toArray) hB hR hlk h,fun w' hb => ?_⟩
 have:=seqJ_end (w:=w') (kk:=ks) h (fun j => by simp) (fun j hj => by omega)
 rw [hlen] at this;have mono : ∀ (l : List Oper) (i : Nat) (a : Act) (X Y : Act → Prop),(∀ a,X a → Y a) → EndAll (knΦ ks) w' X l i a → EndAll (knΦ ks) w' Y l i a:=by
  intro l
  induction l with
  | nil => intro i a X Y hXY hx; exact hXY _ hx
  | cons o l ih => intro i a X Y hXY hx v hv; exact ih _ _ _ _ hXY (hx v hv)
 exact mono _ _ _ _ _ (fun a ⟨H,hH,hK⟩ => hK w' hb (by simpa using hH)) this

theorem wp_region_seqJ (n : Nat) (ks : List Kn) (J : (Nat → Bool) → World → Prop) (hlk : ks.length = n) (hmix : P.follows .mixedOrders = true) (hB : freeB l.toArray n a.tmps.size = true) (hR : readsB l.toArray n = true) (h0 : J (fun _ => false) w.drew)
  (h : SeqJAll P l.toArray J ks (seqJK J (fun a w' => wpList P l.toArray Q (l.drop n) a w') n) ks (l.take n) a (fun _ _ => True) 0) : (Code.region id l.toArray true).wp P Q a w :=
 have ⟨h1,h2⟩ := seqJ_parts n J hlk hB hR h
 wp_region_gen n (knΦ ks) J hmix hB h0 h1 h2

end
/-! Where all values are known ahead. -/
def SeqCAll (P : Program) (ops : Array Oper) (J : (Nat → Bool) → World → Prop) (K : Act → Prop) : List Value → List Oper → Act → Nat → Prop
 | _,[],a,_ => K a
 | [],_ :: _,_,_ => False
 | c :: cs,o :: l,a,i => (∀ w L,L i = false → J L w → (∀ e ∈ o.after.toList,Region.binds .any e = true → L e.on = true) →
   if guardOn ops o a then opOK P o a w (fun v w' => v = c ∧ J (setB L i) w') else J (setB L i) w ∧ c = undef) ∧ SeqCAll P ops J K cs l (a.put o.dst c) (i + 1)
section
variable {P : Program} {ops : Array Oper} {J : (Nat → Bool) → World → Prop} {o : Oper} {l : List Oper} {a : Act} {i : Nat}
theorem pres_con {cs : List Value} {w w' : World} : pres ops (cs.map Kn.is) i o a w w':=fun j k hk _ v _ _ _ => by
 obtain ⟨c,_,rfl⟩ := List.mem_map.1 (List.mem_of_getElem? hk)
 trivial
theorem seqC_J {cs₀ : List Value} {K : Act → World → Prop} {n : Nat} : ∀ {cs : List Value} {l : List Oper} {a : Act} {i : Nat} (H : Nat → World → Prop),SeqCAll P ops J (fun a => ∀ w',J (fun j => decide (j < n)) w' → K a w') cs l a i →
  SeqJAll P ops J (cs₀.map Kn.is) (seqJK J K n) (cs.map Kn.is) l a H i
 | [],[],_,_,_,h => fun w' hJ _ => h w' hJ
 | _ :: _,[],_,_,_,h => fun w' hJ _ => h w' hJ
 | [],_ :: _,_,_,_,h => h.elim
 | c :: cs,o :: l,a,i,H,h => by
  refine ⟨⟨⟨c,rfl⟩,fun w L hL hJ hd => ?_⟩,fun v hv => by cases hv; exact seqC_J _ h.2⟩
  have:=h.1 w L hL hJ fun e he hb => (hd e he hb).1
  split at this
  ·rename_i hg
   rw [if_pos hg];exact opOK_mono this fun v w' ⟨h1,h2⟩ => ⟨h2,pres_con,h1,trivial⟩
  ·rename_i hg
   rw [if_neg hg];exact ⟨this.1,this.2.symm,trivial⟩
theorem wp_region_seqC {id : Nat} {w : World} {Q : Exit → Act → World → Prop} (n : Nat) (cs : List Value) (J : (Nat → Bool) → World → Prop) (hlk : cs.length = n) (hmix : P.follows .mixedOrders = true) (hB : freeB l.toArray n a.tmps.size = true) (hR : readsB l.toArray n = true) (h0 : J (fun _ => false) w.drew)
  (h : SeqCAll P l.toArray J (fun a => ∀ w',J (fun j => decide (j < n)) w' → wpList P l.toArray Q (l.drop n) a w') cs (l.take n) a 0) : (Code.region id l.toArray true).wp P Q a w :=
 wp_region_seqJ n (cs.map Kn.is) J (by simpa using hlk) hmix hB hR h0 (seqC_J _ h)
variable {K : Act → Prop} {c : Value} {cs : List Value}
theorem sc_is (hg : o.guard = none) (h : ∀ w L,L i = false → J L w → (∀ e ∈ o.after.toList,Region.binds .any e = true → L e.on = true) → opOK P o a w (fun v w' => v = c ∧ J (setB L i) w'))
  (hr : SeqCAll P ops J K cs l (a.put o.dst c) (i + 1)) : SeqCAll P ops J K (c :: cs) (o :: l) a i:=by
 refine ⟨fun w L hL hJ hd => ?_,hr⟩
 rw [if_pos (by simp [guardOn,Region.wanted,hg])]
 exact h w L hL hJ hd
theorem sc_rd (hg : o.guard = none) (hJ : ∀ w L,L i = false → J L w → J (setB L i) w) (h : ∀ w L,L i = false → J L w → opOK P o a w (fun v w' => v = c ∧ w' = w))
  (hr : SeqCAll P ops J K cs l (a.put o.dst c) (i + 1)) : SeqCAll P ops J K (c :: cs) (o :: l) a i :=
 sc_is hg (fun w L hL hj _ => opOK_mono (h w L hL hj) fun _ _ ⟨h1,h2⟩ => ⟨h1,by rw [h2]; exact hJ w L hL hj⟩) hr
theorem sc_end (h : K a) : SeqCAll P ops J K cs [] a i:=by cases cs <;> exact h
end
structure JCell (w0 : World) (st : Nat) (rd : List Nat) (p : Addr) (v : Value) (L : Nat → Bool) (W : World) : Prop where
 eq : W = if L st = true then w0.setCell p v else w0
 rds : L st = true → ∀ i ∈ rd,L i = true
section
variable {w0 W : World} {st : Nat} {rd : List Nat} {p : Addr} {v : Value} {L : Nat → Bool}
theorem JCell.start : JCell w0 st rd p v (fun _ => false) w0:=⟨rfl,fun h => (by cases h)⟩
theorem JCell.cell (h : JCell w0 st rd p v L W) {b o : Nat} {x : Value} (hv : w0.cell? ⟨b,o,none⟩ = some x) (hb : b ≠ p.block) : W.cell? ⟨b,o,none⟩ = some x:=by
 rw [h.eq];split
 ·rw [World.cell?_of_block (w:=w0) (Below.heap_setCell _ _ _ _ hb)]; exact hv
 ·exact hv
theorem JCell.look (h : JCell w0 st rd p v L W) {i : Nat} (hi : i ∈ rd) (hL : L i = false) : W = w0:=by
 rw [h.eq];split
 ·rename_i hs
  rw [h.rds hs i hi] at hL; cases hL
 ·rfl
theorem JCell.read (h : JCell w0 st rd p v L W) {i : Nat} (hi : st ≠ i) : JCell w0 st rd p v (setB L i) W:=by
 refine ⟨by rw [setB_ne hi]; exact h.eq,fun h' j hj => ?_⟩
 rw [setB_ne hi] at h';unfold setB;split
 ·rfl
 ·exact h.rds h' j hj
theorem JCell.before (h : JCell w0 st rd p v L W) (hL : L st = false) : W = w0:=by rw [h.eq,hL]; rfl
theorem JCell.store (h : ∀ i ∈ rd,L i = true) : JCell w0 st rd p v (setB L st) (w0.setCell p v):=by
 refine ⟨by rw [setB_eq,if_pos rfl],fun _ j hj => ?_⟩
 unfold setB;split
 ·rfl
 ·exact h j hj
theorem JCell.done (h : JCell w0 st rd p v L W) (hL : L st = true) : W = w0.setCell p v:=by rw [h.eq,hL]; rfl
end
end Go.Oche
