/- The texts O2X, Seq, O2Y, in build order. -/
import Derived.Test.YtnbmgkmcaoafnaaGreatDoorZad

/- Chapter 2: ways, the recursion. -/
namespace Go.Proofs.YtnbmgkmcaoafnaaGreatDoor.O2
open Go.RowKit Go.Oche Go.Oche.O2 Go.Proofs
attribute [local go_sem] Oper.semAt_some

def encB (N0 : Nat) : List Int → Array Value → (Nat → Prop) → World → Prop:=fun b args O W => ∃ pv,args = #[pv] ∧ PathAt (POK N0 O W) W pv b

def WaysAt (N0 : Nat) (g : Int) (bs : List Int) (Cs : List (List Int)) (P n : Nat) : Prop :=
 ∀ (S : Nat → Prop) (s : Nat) (path : List Int) (pv : Value) (l0 : Nat) (J Jx : List (List Int) → (Nat → Prop) → World → Prop) (O : Nat → Prop) (W : World),
  Board S W P bs g Cs → (∀ k,S k → k < W.heap.size ∧ ¬ O k) → (∀ j (h : j < Cs.length),s < (Cs[j]).length) → s ≤ 1001 → path.length + n ≤ 100 → N0 ≤ W.heap.size → PathAt (POK N0 O W) W pv path →
  (∀ k,O k → k < W.heap.size) → Stab 47 W.heap.size J → Stab 47 W.heap.size Jx →
  (∀ pre b post args O₁ W₁,(waysL g bs Cs n s).map (path ++ ·) = pre ++ b :: post → Rel O W O₁ W₁ → J pre O₁ W₁ → encB N0 b args O₁ W₁ → YieldAt Fence.wide 0 Tryz.prog l0 args W₁ fun e W' =>
   ∃ O',Rel O₁ W₁ O' W' ∧ ((e = .returned (.bool true) ∧ J (pre ++ [b]) O' W') ∨ (e = .returned (.bool false) ∧ Jx (pre ++ [b]) O' W'))) →
  J [] O W →
  CallsIn Fence.wide 0 Tryz.prog 102 #[.pointer (some ⟨P,0,none⟩),.int .i64 s,.int .i64 n,pv,.func (.yield l0) #[] #[]] W fun e W' =>
   ∃ O',Rel O W O' W' ∧ ((e = .returned (.bool true) ∧ J ((waysL g bs Cs n s).map (path ++ ·)) O' W') ∨ (e = .returned (.bool false) ∧ ∃ pre,pre <+: (waysL g bs Cs n s).map (path ++ ·) ∧ Jx pre O' W'))

theorem Rel.turned {O O' : Nat → Prop} {W W' W'' : World} (h : Rel O W O' W') (D : Nat → Prop) (h1 : W''.os = W'.os) (h2 : W''.tape = W'.tape) (h3 : W''.output = W'.output) (h4 : W''.heap.size = W'.heap.size) (h5 : ∀ k, ¬ D k → W''.heap[k]? = W'.heap[k]?) (hD : ∀ k,D k → W.heap.size ≤ k) : Rel O W O' W'' :=
 ⟨h1.trans h.os,h2.trans h.tape,h3.trans h.output,by rw [h4]; exact h.size,fun k hk hn => (h5 k (fun hd => by have:=hD k hd; omega)).trans (h.block k hk hn),h.own,fun k hk => by rw [h4]; exact h.lt k hk⟩
theorem Stab.turned {β : Type} {N : Nat} {J : List β → (Nat → Prop) → World → Prop} (hJ : Stab 47 N J) {pre : List β} {O : Nat → Prop} {W W' : World} (h : J pre O W) (D : Nat → Prop) (h1 : W'.os = W.os) (h2 : W'.tape = W.tape) (h3 : W'.output = W.output) (h4 : W'.heap.size = W.heap.size) (h5 : ∀ k, ¬ D k → W'.heap[k]? = W.heap[k]?) (hD : ∀ k,D k → ¬ O k ∧ N ≤ k ∧ ¬ Row 47 W k) : J pre O W' :=
 hJ pre O W W' h h1 h2 h3 (by omega) fun k _ hk => h5 k (fun hd => by have:=hD k hd; rcases hk with hk | hk | hk; exact this.1 hk; omega; exact this.2.2 hk)

theorem PathAt.form {S : Nat → Prop} {W : World} {v : Value} {xs : List Int} (h : PathAt S W v xs) : ∃ a n c,v = .slice a n c:=by
 obtain ⟨a,c,rfl,_⟩ := h.sl;exact ⟨_,_,_,rfl⟩

set_option maxRecDepth 100000 in
set_option maxHeartbeats 1000000 in
theorem ways_zero (N0 : Nat) (g : Int) (bs : List Int) (Cs : List (List Int)) (P : Nat) : WaysAt N0 g bs Cs P 0:=by
 intro S s path pv l0 J Jx O W hBd hS hs hs1 hpl hN0 hpath hO hJ hJx hY h0
 obtain ⟨pa,pn,pc,rfl⟩ := hpath.form;obtain ⟨W0,hW0⟩ : ∃ W0,(((((W.alloc (.cells #[.pointer (some ⟨P,0,none⟩)] 160)).alloc (.cells #[.int .i64 0] 3)).alloc (.cells #[(.slice pa pn pc)] 36)).alloc (.cells #[.func (.yield l0) #[] #[]] 201)).alloc (.cells #[.bool false] 4)) = W0:=⟨_,rfl⟩;have hB0 : Below W.heap.size W W0:=by rw [← hW0]; exact (((((Below.refl _ _).alloc (Nat.le_refl _) _).alloc (by simp) _).alloc (by simp; omega) _).alloc (by simp; omega) _).alloc (by simp; omega) _
 have hZ0 : W0.heap.size = W.heap.size + 5:=by rw [← hW0]; simp
 have c10 : W0.heap[W.heap.size + 1 + 1 + 1 + 1]? = some (.cells #[.bool false] 4 (0,0)):=by
  rw [← hW0]; have:=World.alloc_heap_new ((((W.alloc (.cells #[.pointer (some ⟨P,0,none⟩)] 160)).alloc (.cells #[.int .i64 0] 3)).alloc (.cells #[(.slice pa pn pc)] 36)).alloc (.cells #[.func (.yield l0) #[] #[]] 201)) (.cells #[.bool false] 4); simpa only [World.size_alloc] using this
 have c9 : W0.cell? ⟨W.heap.size + 1 + 1 + 1,0,none⟩ = some (.func (.yield l0) #[] #[]):=by
  rw [← hW0]; have:=cell_new (((W.alloc (.cells #[.pointer (some ⟨P,0,none⟩)] 160)).alloc (.cells #[.int .i64 0] 3)).alloc (.cells #[(.slice pa pn pc)] 36)) (.func (.yield l0) #[] #[]) 201; simp only [World.size_alloc] at this; exact bAt (aB _ _) this
 have c8 : W0.cell? ⟨W.heap.size + 1 + 1,0,none⟩ = some (.slice pa pn pc):=by
  rw [← hW0]; have:=cell_new ((W.alloc (.cells #[.pointer (some ⟨P,0,none⟩)] 160)).alloc (.cells #[.int .i64 0] 3)) (.slice pa pn pc) 36; simp only [World.size_alloc] at this; exact bAt (aB _ _) (bAt (aB _ _) this)
 have c7 : W0.cell? ⟨W.heap.size + 1,0,none⟩ = some (.int .i64 0):=by
  rw [← hW0]; have:=cell_new (W.alloc (.cells #[.pointer (some ⟨P,0,none⟩)] 160)) (.int .i64 0) 3; simp only [World.size_alloc] at this; exact bAt (aB _ _) (bAt (aB _ _) (bAt (aB _ _) this))
 have hr0 : Rel O W O W0:=Rel.of_below hB0 hO;have hj0:=Stab.ext hJ h0 hB0;have HY:=Lib.hid hY;have HW0:=Lib.hid hW0;have C10:=Lib.hid c10;have HJ0:=Lib.hid hj0;obtain ⟨fn,tmps,assign,body,hy,hR⟩ := HY.out [] path [] #[(.slice pa pn pc)] O W0 (by simp [waysL]) hr0 hj0 ⟨_,rfl,(hpath.below hB0).mono fun k hk => ⟨by have:=hk.1; omega,hk.2.1,hk.2.2.1.keep (hB0.block k hk.1),hk.2.2.2⟩⟩
 have HR:=Lib.hid hR;rw [← hW0] at hy;clear hW0 c10 hY hj0 hR;refine callsIn_of_wp_marks Tryz.func102 rfl trivial ?_ rfl
 simp only [Tryz.ntmps102,List.size_toArray,List.length_cons,List.length_nil,Nat.reduceAdd,Nat.reduceSub,Array.replicate_succ,Array.replicate_zero,List.push_toArray,List.append_toArray,List.nil_append,List.cons_append]
 gi_wp2_with fail
 rw [HW0.out];refine ⟨rfl,RoundIn.mono HR.out ?_⟩
 have tail : ∀ (b : Bool) (O' : Nat → Prop) (W3 W'' : World),Rel O W0 O' W3 → W3.heap[W.heap.size + 1 + 1 + 1 + 1]? = some (.cells #[.bool false] 4 (0,0)) → Passed [] (W3.setCell ⟨W.heap.size + 1 + 1 + 1 + 1,0,none⟩ (.bool b)) W'' → Rel O W O' W'' ∧ (∀ X : List (List Int) → (Nat → Prop) → World → Prop,Stab 47 W.heap.size X → X [path] O' W3 → X [path] O' W''):=by
  intro b O' W3 W'' hr3 hM4 hp
  have h5 : ∀ k, ¬ k = W.heap.size + 1 + 1 + 1 + 1 → W''.heap[k]? = W3.heap[k]? := fun k hk => (hp.block k (by simp)).trans (Below.heap_setCell _ _ _ _ (by simpa using hk))
  have hn : ¬ O' (W.heap.size + 1 + 1 + 1 + 1):=fun h => by
   rcases hr3.own _ h with h | h
   ·have:=hO _ h; omega
   ·omega
  refine ⟨Rel.turned (hr0.trans hr3) (fun k => k = W.heap.size + 1 + 1 + 1 + 1) hp.os hp.tape hp.output (by rw [hp.size]; simp) h5 (fun k hk => by omega),fun X hX hx => ?_⟩
  exact Stab.turned hX hx (fun k => k = W.heap.size + 1 + 1 + 1 + 1) hp.os hp.tape hp.output (by rw [hp.size]; simp) h5 (fun k hk => ⟨by rw [hk]; exact hn,by omega,fun ⟨_,_,h⟩ => by rw [hk,hM4] at h; simp at h⟩)
 rintro e W3 ⟨O',hr3,(⟨rfl,hj3⟩ | ⟨rfl,hj3⟩)⟩
 ·have d10:=(hr3.block _ (by omega) (fun h => by have:=hO _ h; omega)).trans C10.out
  have e10 : W3.cell? ⟨W.heap.size + 1 + 1 + 1 + 1,0,none⟩ = some (.bool false):=by rw [cell_of_heap d10]; rfl
  have f10 : W3.frozen? ⟨W.heap.size + 1 + 1 + 1 + 1,0,none⟩ = false:=frozen_of_heap d10;have D10:=Lib.hid d10;have HJ3:=Lib.hid hj3;clear d10 hj3
  gi_wp2_with fail
  refine leave_marks [] _ (Marks.nil 0 _) fun W'' hp => ?_
  have hz : W''.cell? ⟨W.heap.size + 1 + 1 + 1 + 1,0,none⟩ = some (.bool true):=(hp.cell _).trans (by rw [cell_of_heap (heap_setCell_at D10.out _)]; rfl)
  obtain ⟨hr,hx⟩ := tail _ O' W3 W'' hr3 D10.out hp;exact ⟨.bool true,by simp [results,Tryz.results102,go_sem,hz],O',hr,.inl ⟨rfl,by simpa [waysL] using hx J hJ HJ3.out⟩⟩
 ·have d10:=(hr3.block _ (by omega) (fun h => by have:=hO _ h; omega)).trans C10.out
  have e10 : W3.cell? ⟨W.heap.size + 1 + 1 + 1 + 1,0,none⟩ = some (.bool false):=by rw [cell_of_heap d10]; rfl
  have f10 : W3.frozen? ⟨W.heap.size + 1 + 1 + 1 + 1,0,none⟩ = false:=frozen_of_heap d10;have D10:=Lib.hid d10;have HJ3:=Lib.hid hj3;clear d10 hj3
  gi_wp2_with fail
  refine leave_marks [] _ (Marks.nil 0 _) fun W'' hp => ?_
  have hz : W''.cell? ⟨W.heap.size + 1 + 1 + 1 + 1,0,none⟩ = some (.bool false):=(hp.cell _).trans (by rw [cell_of_heap (heap_setCell_at D10.out _)]; rfl)
  obtain ⟨hr,hx⟩ := tail _ O' W3 W'' hr3 D10.out hp;exact ⟨.bool false,by simp [results,Tryz.results102,go_sem,hz],O',hr,.inr ⟨rfl,[path],by simp [waysL],hx Jx hJx HJ3.out⟩⟩
end Go.Proofs.YtnbmgkmcaoafnaaGreatDoor.O2

/- A region whose order is drawn, walked in the text's order: each operation at any world that has grown since. -/
namespace Go.Oche
open Go Go.RowKit

structure Kn where
 s : Value → Prop
 p : Value → World → Prop
 m : ∀ v w w',Below w.heap.size w w' → p v w → p v w'
def Kn.is (c : Value) : Kn:=⟨fun v => v = c,fun _ _ => True,fun _ _ _ _ h => h⟩
def pres (ops : Array Oper) (ks : List Kn) (i : Nat) (o : Oper) (a : Act) (w w' : World) : Prop := ∀ j k,ks[j]? = some k → j ≠ i → ∀ v,k.s v →
 ((∃ e ∈ o.after.toList,Region.binds .any e = true ∧ e.on = j) → ∀ oj d,ops[j]? = some oj → oj.dst = some d → a.tmps[d]? = some v) → k.p v w → k.p v w'
theorem pres_below {ops : Array Oper} {ks : List Kn} {i : Nat} {o : Oper} {a : Act} {w w' : World} (h : Below w.heap.size w w') : pres ops ks i o a w w':=fun _ k _ _ v _ _ hp => k.m v w w' h hp
def knΦ (ks : List Kn) (i : Nat) (v : Value) (w : World) : Prop := ∀ k,ks[i]? = some k → k.s v ∧ k.p v w
def guardOn (ops : Array Oper) (o : Oper) (a : Act) : Bool:=Region.wanted o (yielded ops a.tmps)
def addH (H : Nat → World → Prop) (i : Nat) (p : World → Prop) : Nat → World → Prop:=fun j w => if j = i then p w else H j w

def SeqVC (P : Program) (ops : Array Oper) (w₀ : World) (ks₀ : List Kn) (i : Nat) (k : Kn) (o : Oper) (a : Act) (H : Nat → World → Prop) : Prop :=
 (∃ v,k.s v) ∧
 (∀ w,Below w₀.heap.size w₀ w → (∀ e ∈ o.after.toList,Region.binds .any e = true → H e.on w) →
  if guardOn ops o a then opOK P o a w (fun v w' => Below w₀.heap.size w w' ∧ pres ops ks₀ i o a w w' ∧ k.s v ∧ k.p v w') else k.s undef ∧ k.p undef w)

def SeqAll (P : Program) (ops : Array Oper) (w₀ : World) (ks₀ : List Kn) (K : Act → (Nat → World → Prop) → Prop) : List Kn → List Oper → Act → (Nat → World → Prop) → Nat → Prop
 | _,[],a,H,_ => K a H
 | [],_ :: _,_,_,_ => False
 | k :: ks,o :: l,a,H,i => SeqVC P ops w₀ ks₀ i k o a H ∧ ∀ v,k.s v → SeqAll P ops w₀ ks₀ K ks l (a.put o.dst v) (addH H i (k.p v)) (i + 1)

def readsB (ops : Array Oper) (n : Nat) : Bool :=
 (ops.toList.take n).zipIdx.all fun (o,i) => (match o.op with | .select _ _ => false | _ => true) &&
  (o.looksAt ops).all fun t => (o.after.toList.any fun e => Region.binds .any e && ((ops[e.on]?).bind (·.dst) == some t)) ||
   (ops.toList.all fun oj => oj.dst != some t || oj.after.toList.any fun e => Region.binds .any e && e.on == i)

section
variable {P : Program} {ops : Array Oper} {w₀ : World} {ks₀ : List Kn} {K : Act → (Nat → World → Prop) → Prop}

theorem seqAll_ks : ∀ {ks : List Kn} {l : List Oper} {a : Act} {H : Nat → World → Prop} {i : Nat} (vs : Nat → Value),SeqAll P ops w₀ ks₀ K ks l a H i → ∀ j,j < l.length → (∀ m k,m < j → ks[m]? = some k → k.s (vs (i + m))) →
  ∃ k o H',ks[j]? = some k ∧ l[j]? = some o ∧ SeqVC P ops w₀ ks₀ (i + j) k o (putAll vs (l.take j) i a) H' ∧ (∀ q w,i ≤ q → q < i + j → (∀ k,ks[q - i]? = some k → k.p (vs q) w) → H' q w) ∧ (∀ q w,q < i → H q w → H' q w)
 | [],_ :: _,_,_,_,_,h,_,_,_ => h.elim
 | _,[],_,_,_,_,_,j,hj,_ => by simp at hj
 | k :: ks,o :: l,a,H,i,vs,h,0,_,_ => ⟨k,o,H,rfl,rfl,by simpa [putAll] using h.1,fun q w h1 h2 => by omega,fun q w _ h => h⟩
 | k :: ks,o :: l,a,H,i,vs,h,j + 1,hj,hs => by
  have h0 : k.s (vs i):=by simpa using hs 0 k (by omega) rfl
  obtain ⟨k',o',H',e1,e2,e3,e4,e5⟩ := seqAll_ks vs (h.2 _ h0) j (by simp at hj; omega) (fun m k hm hk => by
   have:=hs (m + 1) k (by omega) (by simpa using hk)
   rwa [show i + (m + 1) = i + 1 + m by omega] at this)
  refine ⟨k',o',H',by simpa using e1,by simpa using e2,by rw [show i + (j + 1) = i + 1 + j by omega]; simpa [putAll] using e3,fun q w h1 h2 hq => ?_,fun q w h1 hq => ?_⟩
  ·by_cases hqi : q = i
   ·subst hqi
    exact e5 q w (by omega) (by unfold addH; rw [if_pos rfl]; exact hq k (by simp))
   ·refine e4 q w (by omega) (by omega) fun k hk => hq k ?_
    rw [show q - i = (q - (i + 1)) + 1 by omega]; simpa using hk
  ·exact e5 q w (by omega) (by unfold addH; rw [if_neg (by omega)]; exact hq)

theorem seqAll_has : ∀ {ks : List Kn} {l : List Oper} {a : Act} {H : Nat → World → Prop} {i : Nat},SeqAll P ops w₀ ks₀ K ks l a H i → ∀ j,j < l.length → ∃ k v,ks[j]? = some k ∧ k.s v
 | [],_ :: _,_,_,_,h,_,_ => h.elim
 | _,[],_,_,_,_,j,hj => by simp at hj
 | k :: ks,o :: l,a,H,i,h,0,_ => let ⟨⟨v,hv⟩,_⟩ := h.1; ⟨k,v,rfl,hv⟩
 | k :: ks,o :: l,a,H,i,h,j + 1,hj => by
  obtain ⟨⟨v,hv⟩,_⟩ := h.1;obtain ⟨k',v',e⟩ := seqAll_has (h.2 v hv) j (by simp at hj; omega)
  exact ⟨k',v',by simpa using e⟩

theorem seqAll_end {w : World} : ∀ {kk ks : List Kn} {l : List Oper} {a : Act} {H : Nat → World → Prop} {i : Nat},SeqAll P ops w₀ ks₀ K ks l a H i → (∀ j,ks[j]? = kk[i + j]?) → (∀ j,j < i → H j w) →
  EndAll (knΦ kk) w (fun a => ∃ H,(∀ j,j < i + l.length → H j w) ∧ K a H) l i a
 | _,_,[],a,H,i,h,_,hH => ⟨H,by simpa using hH,by cases ‹List Kn› <;> exact h⟩
 | _,[],_ :: _,_,_,_,h,_,_ => h.elim
 | kk,k :: ks,o :: l,a,H,i,h,hk,hH => fun v hv => by
  have h0:=hv k (by rw [← Nat.add_zero i,← hk 0]; rfl)
  have:=seqAll_end (kk:=kk) (w:=w) (h.2 v h0.1) (fun j => by rw [show i + 1 + j = i + (j + 1) by omega,← hk (j + 1)]; simp) (fun j hj => by
   unfold addH;by_cases hji : j = i
   ·rw [if_pos hji]; exact h0.2
   ·rw [if_neg hji]; exact hH j (by omega))
  rw [List.length_cons,show i + (l.length + 1) = i + 1 + l.length by omega]
  exact this

theorem seqAll_free {n : Nat} {a₀ : Act} {ks : List Kn} (hB : freeB ops n a₀.tmps.size = true) (hR : readsB ops n = true) (_hlk : ks.length = n) (h : SeqAll P ops w₀ ks K ks (ops.toList.take n) a₀ (fun _ _ => True) 0) :
  GenAll P ops (knΦ ks) (fun _ w => Below w₀.heap.size w₀ w) a₀ (ops.toList.take n) 0:=by
 simp only [freeB,Bool.and_eq_true,Bool.or_eq_true,beq_iff_eq,decide_eq_true_eq] at hB;obtain ⟨⟨⟨⟨⟨hn,hback⟩,hdist⟩,hin⟩, -⟩, -⟩ := hB;have hlen : (ops.toList.take n).length = n:=by simp; omega
 have key : ∀ i o,(ops.toList.take n)[i]? = some o → GenVC P ops (knΦ ks) (fun _ w => Below w₀.heap.size w₀ w) a₀ i o:=by
  intro i o ho
  have hi : i < n:=by have:=(List.getElem?_eq_some_iff.1 ho).1; omega
  have hoi : ops[i]? = some o:=by rw [List.getElem?_take,if_pos hi] at ho; simpa using ho
  intro a w L _ hb hp ht
  classical
  obtain ⟨vs,hvs⟩ : ∃ vs : Nat → Value, ∀ j,j < n → ((∃ v,knΦ ks j v w ∧ ∀ oj d,ops[j]? = some oj → oj.dst = some d → a.tmps[d]? = some v) → knΦ ks j (vs j) w ∧ ∀ oj d,ops[j]? = some oj → oj.dst = some d → a.tmps[d]? = some (vs j)) ∧ ∀ k,ks[j]? = some k → k.s (vs j):=by
   refine ⟨fun j => if hj : ∃ v,knΦ ks j v w ∧ ∀ oj d,ops[j]? = some oj → oj.dst = some d → a.tmps[d]? = some v then Classical.choose hj else if hj2 : ∃ v, ∃ k,ks[j]? = some k ∧ k.s v then Classical.choose hj2 else undef,fun j hj => ?_⟩
   by_cases hj1 : ∃ v,knΦ ks j v w ∧ ∀ oj d,ops[j]? = some oj → oj.dst = some d → a.tmps[d]? = some v
   ·simp only [dif_pos hj1]
    have hc:=Classical.choose_spec hj1;exact ⟨fun _ => hc,fun k hk => (hc.1 k hk).1⟩
   ·simp only [dif_neg hj1]
    refine ⟨fun hx => (hj1 hx).elim,fun k hk => ?_⟩
    obtain ⟨k',v',hk',hv'⟩ := seqAll_has h j (by omega)
    have hj2 : ∃ v, ∃ k,ks[j]? = some k ∧ k.s v:=⟨v',k',hk',hv'⟩;rw [dif_pos hj2];obtain ⟨k2,hk2,hs2⟩ := Classical.choose_spec hj2;rw [hk] at hk2;cases hk2;exact hs2
  obtain ⟨k,o',H',e1,e2,⟨_,hop⟩,e4, -⟩ := seqAll_ks vs h i (by omega) (fun m k hm hk => by rw [Nat.zero_add]; exact (hvs m (by omega)).2 k hk)
  rw [ho] at e2;cases e2;have hlt : ∀ e ∈ o.after.toList,Region.binds .any e = true → e.on < i:=fun e he hbe => by
   have h1:=List.all_eq_true.1 hback (o,i) (List.mem_iff_getElem?.2 ⟨i,by simp only [List.getElem?_zipIdx,Array.getElem?_toList,hoi,Option.map_some,Nat.zero_add]⟩)
   have h2:=List.all_eq_true.1 h1 e (by simpa using he)
   simpa [hbe] using h2
  have hdep : ∀ e ∈ o.after.toList,Region.binds .any e = true → knΦ ks e.on (vs e.on) w ∧ ∀ oj d,ops[e.on]? = some oj → oj.dst = some d → a.tmps[d]? = some (vs e.on):=fun e he hbe => by
   obtain ⟨oj,v,h1,_,h2,h3⟩ := hp e he hbe;refine (hvs e.on (by have:=hlt e he hbe; omega)).1 ⟨v,h2,fun oj' d hoj hd => ?_⟩
   rw [h1] at hoj;cases hoj;exact h3 d hd
  have hop:=hop w hb (fun e he hbe => e4 e.on w (Nat.zero_le _) (by have:=hlt e he hbe; omega) fun k hk => ((hdep e he hbe).1 k (by simpa using hk)).2)
  have hread : ((match o.op with | .select _ _ => false | _ => true) = true) ∧ ∀ t ∈ o.looksAt ops,(∃ e ∈ o.after.toList,Region.binds .any e = true ∧ (ops[e.on]?).bind (·.dst) = some t) ∨
    (ops.toList.all fun oj => oj.dst != some t || oj.after.toList.any fun e => Region.binds .any e && e.on == i) = true:=by
   have h1:=List.all_eq_true.1 hR (o,i) (List.mem_iff_getElem?.2 ⟨i,by rw [List.getElem?_zipIdx,ho]; simp⟩)
   simp only [Bool.and_eq_true] at h1;refine ⟨h1.1,fun t ht => ?_⟩
   have h2:=List.all_eq_true.1 h1.2 t ht;simp only [Bool.or_eq_true] at h2;rcases h2 with h2 | h2
   ·left
    obtain ⟨e,he,h3⟩ := List.any_eq_true.1 h2;simp only [Bool.and_eq_true,beq_iff_eq] at h3;exact ⟨e,he,h3.1,h3.2⟩
   ·exact .inr h2
  have hsel : ∀ cs b,o.op ≠ .select cs b:=fun cs b hc => by have:=hread.1; rw [hc] at this; cases this
  have hsz : ∀ d oj j,ops[j]? = some oj → j < n → oj.dst = some d → d < a₀.tmps.size:=fun d oj j hj hjn hd => by
   have hmem : oj ∈ ops.toList.take n:=List.mem_of_getElem? (i:=j) (by rw [List.getElem?_take,if_pos hjn]; simpa using hj)
   have:=List.all_eq_true.1 hin oj hmem;rw [hd] at this
   simpa using this
  have hdval : ∀ e ∈ o.after.toList,Region.binds .any e = true → ∀ oj d,ops[e.on]? = some oj → oj.dst = some d → (putAll vs ((ops.toList.take n).take i) 0 a₀).tmps[d]? = some (vs e.on):=by
   intro e he hbe oj t hoj hdj
   have hei:=hlt e he hbe;have hd2 : distB ((ops.toList.take n).take i) = true:=by
    have : ∀ (l : List Oper) (m : Nat),distB l = true → distB (l.take m) = true:=by
     intro l
     induction l with
     | nil => intro m _; simp [distB]
     | cons x l ih =>
      intro m hx
      cases m with
      | zero => rfl
      | succ m =>
       simp only [distB,Bool.and_eq_true,List.take_succ_cons] at hx ⊢;refine ⟨?_,ih m hx.2⟩
       cases hxd : x.dst with
       | none => rfl
       | some d =>
        have h1:=hx.1;rw [hxd] at h1;exact List.all_eq_true.2 fun y hy => List.all_eq_true.1 h1 y (List.mem_of_mem_take hy)
    exact this _ _ hdist
   have:=putAll_some vs t ((ops.toList.take n).take i) 0 a₀ e.on oj hd2 (by rw [List.getElem?_take,if_pos hei,List.getElem?_take,if_pos (by omega)]; simpa using hoj) hdj (hsz t oj e.on hoj (by omega) hdj)
   rw [this,Nat.zero_add]
  have heq : ∀ t ∈ o.looksAt ops,a.tmps[t]? = (putAll vs ((ops.toList.take n).take i) 0 a₀).tmps[t]? := by
   intro t hmem
   rcases hread.2 t hmem with ⟨e,he,hbe,hd⟩ | hall
   ·obtain ⟨oj,hoj,hdj⟩ := Option.bind_eq_some_iff.1 hd
    rw [(hdep e he hbe).2 oj t hoj hdj,hdval e he hbe oj t hoj hdj]
   ·rw [ht t hall,putAll_none]
    intro oj hoj hd
    obtain ⟨j,hj⟩ := List.getElem?_of_mem hoj
    rw [List.getElem?_take] at hj
    split at hj
    ·rename_i hji
     rw [List.getElem?_take,if_pos (by omega)] at hj
     have hj' : ops[j]? = some oj:=by simpa using hj
     have h1:=List.all_eq_true.1 hall oj (by simpa using Array.mem_of_getElem? hj')
     simp only [Bool.or_eq_true,List.any_eq_true,Bool.and_eq_true,beq_iff_eq,bne_iff_ne,ne_eq] at h1;rcases h1 with h1 | ⟨e,he,hbe,hei⟩
     ·exact h1 hd
     ·have h2:=List.all_eq_true.1 hback (oj,j) (List.mem_iff_getElem?.2 ⟨j,by simp only [List.getElem?_zipIdx,Array.getElem?_toList,hj',Option.map_some,Nat.zero_add]⟩)
      have h3:=List.all_eq_true.1 h2 e (by simpa using he)
      simp only [hbe,Bool.not_true,Bool.false_or,decide_eq_true_eq] at h3;omega
    ·cases hj
  have hev : execOp a.eval o = execOp (putAll vs ((ops.toList.take n).take i) 0 a₀).eval o:=execOp_congr o hsel fun x hx => by
   cases x with
   | tmp t =>
    have:=heq t (List.mem_append_left _ (List.mem_filterMap.2 ⟨.tmp t,by simpa using hx,rfl⟩))
    simp only [Act.eval,Array.getD_eq_getD_getElem?,this]
   | const v => rfl
   | global g => rfl
   | func f => rfl
  have hgd : Region.wanted o (yielded ops a.tmps) = guardOn ops o (putAll vs ((ops.toList.take n).take i) 0 a₀):=by
   unfold guardOn Region.wanted;cases hg : o.guard with
   | none => rfl
   | some jb =>
    obtain ⟨j,b⟩ := jb;have : yielded ops a.tmps j = yielded ops (putAll vs ((ops.toList.take n).take i) 0 a₀).tmps j:=by
     unfold yielded;cases hd : (ops[j]?).bind (·.dst) with
     | none => rfl
     | some t =>
      simp only [Option.bind_some];rw [heq t (List.mem_append_right _ (by rw [hg]; simp [hd]))]
    simp only [this]
  rw [hgd];have hok : ∀ R,opOK P o (putAll vs ((ops.toList.take n).take i) 0 a₀) w R → opOK P o a w R:=fun R hR => by
   unfold opOK at *;rw [hev]; exact hR
  split at hop
  ·rename_i hg
   rw [if_pos hg];refine hok _ (opOK_mono hop fun v w' ⟨h1,hpr,h2,h3⟩ => ⟨hb.trans h1,fun j hj _ u hu hut kj hkj => ?_,fun k' hk' => ?_⟩)
   ·have:=hu kj hkj
    refine ⟨this.1,hpr j kj hkj (by omega) u this.1 (fun ⟨e,he,hbe,hej⟩ oj d hoj hd => ?_) this.2⟩
    subst hej;have h1:=(hdep e he hbe).2 oj d hoj hd;rw [hut oj d hoj hd] at h1;rw [hdval e he hbe oj d hoj hd,h1]
   ·rw [e1] at hk'
    cases hk';exact ⟨h2,h3⟩
  ·rename_i hg
   rw [if_neg hg];refine ⟨hb,fun k' hk' => ?_⟩
   rw [e1] at hk';cases hk';exact hop
 have all : ∀ (l : List Oper) (i : Nat),(∀ j o,l[j]? = some o → GenVC P ops (knΦ ks) (fun _ w => Below w₀.heap.size w₀ w) a₀ (i + j) o) → GenAll P ops (knΦ ks) (fun _ w => Below w₀.heap.size w₀ w) a₀ l i:=by
  intro l
  induction l with
  | nil => intro i _; trivial
  | cons o l ih =>
   intro i hl
   refine ⟨by simpa using hl 0 o rfl,ih (i + 1) fun j o' hj => ?_⟩
   have:=hl (j + 1) o' (by simpa using hj)
   rwa [show i + (j + 1) = i + 1 + j by omega] at this
 exact all _ 0 fun j o ho => by rw [Nat.zero_add]; exact key j o ho
end

def seqK (w : World) (K : Act → World → Prop) (n : Nat) : Act → (Nat → World → Prop) → Prop:=fun a H => ∀ w',Below w.heap.size w w' → (∀ j,j < n → H j w') → K a w'

section
variable {P : Program} {id : Nat} {l : List Oper} {a : Act} {w : World} {Q : Exit → Act → World → Prop} {ks : List Kn}
theorem genAll_drew {ops : Array Oper} {Φ : Nat → Value → World → Prop} {a₀ : Act} : ∀ {l : List Oper} {i : Nat},GenAll P ops Φ (fun _ w' => Below w.heap.size w w') a₀ l i → GenAll P ops Φ (fun _ w' => Below w.drew.heap.size w.drew w') a₀ l i
 | [],_,_ => trivial
 | _ :: _,_,h => ⟨fun a w1 L hL hb hp ht => by
   have:=h.1 a w1 L hL ⟨hb.os,hb.tape,hb.output,hb.size,hb.block⟩ hp ht;split at this
   ·rename_i hw
    rw [if_pos hw];exact opOK_mono this fun v w' ⟨h1,h2⟩ => ⟨⟨h1.os,h1.tape,h1.output,h1.size,h1.block⟩,h2⟩
   ·rename_i hw
    rw [if_neg hw];exact ⟨hb,this.2⟩,genAll_drew h.2⟩
theorem seq_parts (n : Nat) (hlk : ks.length = n) (hB : freeB l.toArray n a.tmps.size = true) (hR : readsB l.toArray n = true) {K : Act → World → Prop} (h : SeqAll P l.toArray w ks (seqK w K n) ks (l.take n) a (fun _ _ => True) 0) :
  GenAll P l.toArray (knΦ ks) (fun _ w' => Below w.drew.heap.size w.drew w') a (l.take n) 0 ∧ ∀ w',Below w.heap.size w w' → EndAll (knΦ ks) w' (fun a => K a w') (l.take n) 0 a:=by
 have hn : n ≤ l.length:=by simp only [freeB,Bool.and_eq_true,decide_eq_true_eq] at hB; simpa using hB.1.1.1.1.1
 have hlen : (l.take n).length = n:=by simp; omega
 refine ⟨genAll_drew (seqAll_free (ops:=l.toArray) hB hR hlk h),fun w' hb => ?_⟩
 have:=seqAll_end (w:=w') (kk:=ks) h (fun j => by simp) (fun j hj => by omega)
 rw [hlen] at this;have mono : ∀ (l : List Oper) (i : Nat) (a : Act) (X Y : Act → Prop),(∀ a,X a → Y a) → EndAll (knΦ ks) w' X l i a → EndAll (knΦ ks) w' Y l i a:=by
  intro l
  induction l with
  | nil => intro i a X Y hXY hx; exact hXY _ hx
  | cons o l ih => intro i a X Y hXY hx v hv; exact ih _ _ _ _ hXY (hx v hv)
 exact mono _ _ _ _ _ (fun a ⟨H,hH,hK⟩ => hK w' hb (by simpa using hH)) this

theorem wp_region_seq (n : Nat) (ks : List Kn) (hlk : ks.length = n) (hmix : P.follows .mixedOrders = true) (hB : freeB l.toArray n a.tmps.size = true) (hR : readsB l.toArray n = true)
  (h : SeqAll P l.toArray w ks (seqK w (fun a w' => wpList P l.toArray Q (l.drop n) a w') n) ks (l.take n) a (fun _ _ => True) 0) : (Code.region id l.toArray true).wp P Q a w :=
 have ⟨h1,h2⟩ := seq_parts n hlk hB hR h
 wp_region_gen n (knΦ ks) (fun _ w' => Below w.drew.heap.size w.drew w') hmix hB (Below.refl _ _) h1 fun w' hb => h2 w' ⟨hb.os,hb.tape,hb.output,hb.size,hb.block⟩

theorem wpIn_region_seq {F : Fence} (n : Nat) (ks : List Kn) (hlk : ks.length = n) (hmix : P.follows .mixedOrders = true) (hF : Open F) (hnd : noDefer l.toArray = true) (hB : freeB l.toArray n a.tmps.size = true) (hR : readsB l.toArray n = true)
  (h : SeqAll P l.toArray w ks (seqK w (fun a w' => wpListIn F 0 P l.toArray Q (l.drop n) a w') n) ks (l.take n) a (fun _ _ => True) 0) : (Code.region id l.toArray true).wpIn F 0 P Q a w :=
 have ⟨h1,h2⟩ := seq_parts n hlk hB hR h
 wpIn_region_gen n (knΦ ks) (fun _ w' => Below w.drew.heap.size w.drew w') hmix hF hnd hB (Below.refl _ _) h1 fun w' hb => h2 w' ⟨hb.os,hb.tape,hb.output,hb.size,hb.block⟩
end

section
variable {P : Program} {ops : Array Oper} {w₀ : World} {ks₀ : List Kn} {K : Act → (Nat → World → Prop) → Prop} {ks : List Kn} {o : Oper} {l : List Oper} {a : Act} {H : Nat → World → Prop} {i : Nat}
theorem seq_is {c : Value} (hg : o.guard = none) (h : ∀ w,Below w₀.heap.size w₀ w → (∀ e ∈ o.after.toList,Region.binds .any e = true → H e.on w) → opOK P o a w (fun v w' => v = c ∧ Below w.heap.size w w'))
  (hr : SeqAll P ops w₀ ks₀ K ks l (a.put o.dst c) (addH H i (fun _ => True)) (i + 1)) : SeqAll P ops w₀ ks₀ K (.is c :: ks) (o :: l) a H i:=by
 refine ⟨⟨⟨c,rfl⟩,fun w hb hd => ?_⟩,fun v hv => by cases hv; exact hr⟩
 rw [if_pos (by simp [guardOn,Region.wanted,hg])]
 exact opOK_mono (h w hb hd) fun v w' ⟨h1,h2⟩ => ⟨h2.mono hb.size,pres_below h2,h1,trivial⟩
theorem seq_on {c : Value} (hg : guardOn ops o a = true) (h : ∀ w,Below w₀.heap.size w₀ w → (∀ e ∈ o.after.toList,Region.binds .any e = true → H e.on w) → opOK P o a w (fun v w' => v = c ∧ Below w.heap.size w w'))
  (hr : SeqAll P ops w₀ ks₀ K ks l (a.put o.dst c) (addH H i (fun _ => True)) (i + 1)) : SeqAll P ops w₀ ks₀ K (.is c :: ks) (o :: l) a H i:=by
 refine ⟨⟨⟨c,rfl⟩,fun w hb hd => ?_⟩,fun v hv => by cases hv; exact hr⟩
 rw [if_pos hg];exact opOK_mono (h w hb hd) fun v w' ⟨h1,h2⟩ => ⟨h2.mono hb.size,pres_below h2,h1,trivial⟩
theorem seq_off (hg : guardOn ops o a = false) (hr : SeqAll P ops w₀ ks₀ K ks l (a.put o.dst undef) (addH H i (fun _ => True)) (i + 1)) : SeqAll P ops w₀ ks₀ K (.is undef :: ks) (o :: l) a H i:=by
 refine ⟨⟨⟨undef,rfl⟩,fun w hb hd => ?_⟩,fun v hv => by cases hv; exact hr⟩
 rw [if_neg (by simp [hg])]
 exact ⟨rfl,trivial⟩
theorem seq_new {k : Kn} (hs : ∃ v,k.s v) (hg : guardOn ops o a = true)
  (h : ∀ w,Below w₀.heap.size w₀ w → (∀ e ∈ o.after.toList,Region.binds .any e = true → H e.on w) → opOK P o a w (fun v w' => Below w.heap.size w w' ∧ k.s v ∧ k.p v w'))
  (hr : ∀ v,k.s v → SeqAll P ops w₀ ks₀ K ks l (a.put o.dst v) (addH H i (k.p v)) (i + 1)) : SeqAll P ops w₀ ks₀ K (k :: ks) (o :: l) a H i:=by
 refine ⟨⟨hs,fun w hb hd => ?_⟩,hr⟩
 rw [if_pos hg];exact opOK_mono (h w hb hd) fun v w' ⟨h1,h2⟩ => ⟨h1.mono hb.size,pres_below h1,h2⟩
theorem seq_end (h : K a H) : SeqAll P ops w₀ ks₀ K ks [] a H i:=by cases ks <;> exact h
end
end Go.Oche

/- Chapter 2: ways, one dart more. -/
namespace Go.Proofs.YtnbmgkmcaoafnaaGreatDoor.O2
open Go.RowKit Go.Oche Go.Oche.O2 Go.Proofs
attribute [local go_sem] Oper.semAt_some

def waysPre (g : Int) (bs : List Int) (Cs : List (List Int)) (n : Nat) (path : List Int) (pre : List (Int × Int)) : List (List Int) :=
 (pre.flatMap fun t => if 0 < cellN Cs n t.2 then (waysL g bs Cs n t.2).map (t.1 :: ·) else []).map (path ++ ·)
theorem waysPre_all (g : Int) (bs : List Int) (Cs : List (List Int)) (n : Nat) (path : List Int) (s : Int) : waysPre g bs Cs n path (throwsL g s bs) = (waysL g bs Cs (n + 1) s).map (path ++ ·):=rfl
theorem waysPre_app (g : Int) (bs : List Int) (Cs : List (List Int)) (n : Nat) (path : List Int) (a b : List (Int × Int)) : waysPre g bs Cs n path (a ++ b) = waysPre g bs Cs n path a ++ waysPre g bs Cs n path b:=by simp [waysPre]
theorem waysPre_no {g : Int} {bs : List Int} {Cs : List (List Int)} {n : Nat} {path : List Int} {x l : Int} (h : ¬ 0 < cellN Cs n l) : waysPre g bs Cs n path [(x,l)] = []:=by simp [waysPre,h]
theorem waysPre_yes {g : Int} {bs : List Int} {Cs : List (List Int)} {n : Nat} {path : List Int} {x l : Int} (h : 0 < cellN Cs n l) : waysPre g bs Cs n path [(x,l)] = (waysL g bs Cs n l).map ((path ++ [x]) ++ ·):=by simp [waysPre,h]

theorem Stab.base {β : Type} {t : TypeId} {N N' : Nat} {J : List β → (Nat → Prop) → World → Prop} (h : Stab t N J) (hN : N ≤ N') (b : List β) : Stab t N' (fun p O W => J (b ++ p) O W) :=
 fun p O A B hj e1 e2 e3 e4 hk => h _ O A B hj e1 e2 e3 e4 fun k hkA hx => hk k hkA (by rcases hx with hx | hx | hx; exact .inl hx; exact .inr (.inl (by omega)); exact .inr (.inr hx))
theorem Rel.add {O O' : Nat → Prop} {W W' : World} (h : Rel O W O' W') {M : Nat} (hM : M < W.heap.size) : Rel (fun k => O k ∨ k = M) W (fun k => O' k ∨ k = M) W' :=
 ⟨h.os,h.tape,h.output,h.size,fun k hk hn => h.block k hk (fun hx => hn (.inl hx)),fun k hk => by rcases hk with hk | hk; exact (h.own k hk).imp .inl id; exact .inl (.inr hk),fun k hk => by rcases hk with hk | rfl; exact h.lt k hk; exact Nat.lt_of_lt_of_le hM h.size⟩

theorem depOf {ops : Array Oper} {Φ : Nat → Value → World → Prop} {a : Act} {w : World} {o : Oper} (hp : ∀ e ∈ o.after.toList,Region.binds .any e = true → ∃ oj v,ops[e.on]? = some oj ∧ Φ e.on v w ∧ ∀ d,oj.dst = some d → a.tmps[d]? = some v)
  (j : Nat) (gr : Ground) (he : (⟨j,gr⟩ : Edge) ∈ o.after.toList) (hb : Region.binds .any ⟨j,gr⟩ = true) {oj : Oper} {d : Nat} (h1 : ops[j]? = some oj) (hd : oj.dst = some d) : ∃ v, Φ j v w ∧ a.tmps[d]? = some v:=by
 obtain ⟨oj',v,h2,h3,h4⟩ := hp _ he hb;rw [h1] at h2;obtain rfl:=Option.some.inj h2;exact ⟨v,h3,h4 d hd⟩
theorem depFix {ops : Array Oper} {cs : List Value} {a : Act} {w : World} {o : Oper} (hp : ∀ e ∈ o.after.toList,Region.binds .any e = true → ∃ oj v,ops[e.on]? = some oj ∧ fixΦ cs e.on v w ∧ ∀ d,oj.dst = some d → a.tmps[d]? = some v)
  (j : Nat) (gr : Ground) (he : (⟨j,gr⟩ : Edge) ∈ o.after.toList) (hb : Region.binds .any ⟨j,gr⟩ = true) {oj : Oper} {d : Nat} (h1 : ops[j]? = some oj) (hd : oj.dst = some d) {c : Value} (hc : cs[j]? = some c) : a.tmps[d]? = some c:=by
 obtain ⟨v,h2,h3⟩ := depOf hp j gr he hb h1 hd;unfold fixΦ at h2;rw [hc] at h2;rw [h3,Option.some.inj h2]
theorem vc_skip {P : Program} {ops : Array Oper} {cs : List Value} {a₀ : Act} {w₀ : World} {i : Nat} {o : Oper} (j : Nat) (hg : o.guard = some (j,true)) (he : (⟨j,.guard⟩ : Edge) ∈ o.after.toList) {oj : Oper} {d : Nat} (h1 : ops[j]? = some oj) (hd : oj.dst = some d) (hc : cs[j]? = some (.bool false)) (hu : cs[i]? = some undef) :
  FreeVC P ops (fixΦ cs) a₀ w₀ i o:=fun a w _ hp _ => by
 have h:=depFix hp j .guard he rfl h1 hd hc;rw [if_neg (by simp [Region.wanted,hg,yielded,h1,hd,h])]
 exact hu

set_option maxRecDepth 100000 in
set_option maxHeartbeats 1000000 in
theorem ways_succ (N0 : Nat) (g : Int) (bs : List Int) (Cs : List (List Int)) (P n : Nat) (hbs : ∀ b ∈ bs,bedOk b = true) (hn : n < Cs.length) (hn1 : n ≤ 10) (ih : WaysAt N0 g bs Cs P n) : WaysAt N0 g bs Cs P (n + 1):=by
 intro S s path pv l0 J Jx O W hBd hS hs hs1 hpl hN0 hpath hO hJ hJx hY h0
 obtain ⟨pa,pn,pc,rfl⟩ := hpath.form;obtain ⟨W0,hW0⟩ : ∃ W0,(((((W.alloc (.cells #[.pointer (some ⟨P,0,none⟩)] 160)).alloc (.cells #[.int .i64 ((n : Int) + 1)] 3)).alloc (.cells #[.slice pa pn pc] 36)).alloc (.cells #[.func (.yield l0) #[] #[]] 201)).alloc (.cells #[.bool false] 4)) = W0:=⟨_,rfl⟩;have hB0 : Below W.heap.size W W0:=by rw [← hW0]; exact (((((Below.refl _ _).alloc (Nat.le_refl _) _).alloc (by simp) _).alloc (by simp; omega) _).alloc (by simp; omega) _).alloc (by simp; omega) _
 have hZ0 : W0.heap.size = W.heap.size + 5:=by rw [← hW0]; simp
 have c10 : W0.heap[W.heap.size + 1 + 1 + 1 + 1]? = some (.cells #[.bool false] 4 (0,0)):=by
  rw [← hW0]; have:=World.alloc_heap_new ((((W.alloc (.cells #[.pointer (some ⟨P,0,none⟩)] 160)).alloc (.cells #[.int .i64 ((n : Int) + 1)] 3)).alloc (.cells #[.slice pa pn pc] 36)).alloc (.cells #[.func (.yield l0) #[] #[]] 201)) (.cells #[.bool false] 4); simpa only [World.size_alloc] using this
 have c9 : W0.cell? ⟨W.heap.size + 1 + 1 + 1,0,none⟩ = some (.func (.yield l0) #[] #[]):=by
  rw [← hW0]; have:=cell_new (((W.alloc (.cells #[.pointer (some ⟨P,0,none⟩)] 160)).alloc (.cells #[.int .i64 ((n : Int) + 1)] 3)).alloc (.cells #[.slice pa pn pc] 36)) (.func (.yield l0) #[] #[]) 201; simp only [World.size_alloc] at this; exact bAt (aB _ _) this
 have c8 : W0.cell? ⟨W.heap.size + 1 + 1,0,none⟩ = some (.slice pa pn pc):=by
  rw [← hW0]; have:=cell_new ((W.alloc (.cells #[.pointer (some ⟨P,0,none⟩)] 160)).alloc (.cells #[.int .i64 ((n : Int) + 1)] 3)) (.slice pa pn pc) 36; simp only [World.size_alloc] at this; exact bAt (aB _ _) (bAt (aB _ _) this)
 have c7 : W0.cell? ⟨W.heap.size + 1,0,none⟩ = some (.int .i64 ((n : Int) + 1)):=by
  rw [← hW0]; have:=cell_new (W.alloc (.cells #[.pointer (some ⟨P,0,none⟩)] 160)) (.int .i64 ((n : Int) + 1)) 3; simp only [World.size_alloc] at this; exact bAt (aB _ _) (bAt (aB _ _) (bAt (aB _ _) this))
 have c5 : W0.cell? ⟨W.heap.size,0,none⟩ = some (.pointer (some ⟨P,0,none⟩)):=by
  rw [← hW0]; have:=cell_new W (.pointer (some ⟨P,0,none⟩)) 160; exact bAt (aB _ _) (bAt (aB _ _) (bAt (aB _ _) (bAt (aB _ _) this)))
 obtain ⟨W2,hW2⟩ : ∃ W2,(W0.alloc (.cells #[.pointer (some ⟨P,0,none⟩)] 160)).alloc (.cells #[.int .i64 (s : Int)] 3) = W2:=⟨_,rfl⟩;have hB2 : Below W0.heap.size W0 W2:=by rw [← hW2]; exact (aB _ _).trans ((aB _ _).mono (by simp))
 have hZ2 : W2.heap.size = W0.heap.size + 2:=by rw [← hW2]; simp
 have gb : W2.cell? ⟨W0.heap.size,0,none⟩ = some (.pointer (some ⟨P,0,none⟩)):=by rw [← hW2]; exact bAt (aB _ _) (cell_new _ _ _)
 have gs : W2.cell? ⟨W0.heap.size + 1,0,none⟩ = some (.int .i64 (s : Int)):=by rw [← hW2]; have:=cell_new (W0.alloc (.cells #[.pointer (some ⟨P,0,none⟩)] 160)) (.int .i64 (s : Int)) 3; rw [World.size_alloc] at this; exact this
 have hB02 : Below W.heap.size W W2:=hB0.trans (hB2.mono (by omega))
 have hBd2:=hBd.below hB02;obtain ⟨hPS,vb,vc,vs,d0,d1,d2,hslb,hslc,hvl,hrows⟩ := hBd2;obtain ⟨vr,hvr,hslr⟩ := hrows n hn;obtain ⟨av,capv,rfl, -, -,h4v⟩ := hslc;obtain ⟨bv,offv,rfl,hSbv,hcv⟩ := h4v n vr hvr;obtain ⟨ar,capr,rfl, -, -,h4r⟩ := hslr;have hPW:=hS _ hPS;have hbvW:=hS _ hSbv;have hr2 : Rel O W O W2:=Rel.of_below hB02 hO;have hj2:=Stab.ext hJ h0 hB02;have HY:=Lib.hid hY;have HW0:=Lib.hid hW0;have HW2:=Lib.hid hW2;have HIH:=Lib.hid ih;have HBD:=Lib.hid hBd;have HPATH:=Lib.hid hpath;have HBS:=Lib.hid hbs;have HS:=Lib.hid hS;have HSS:=Lib.hid hs;have HOO:=Lib.hid hO;have H4R:=Lib.hid h4r;have HVL:=Lib.hid hvl;have G10:=Lib.hid ((hB2.block _ (by omega)).trans c10)
 have G9:=Lib.hid (bAt hB2 c9);have G8:=Lib.hid (bAt hB2 c8);have G7:=Lib.hid (bAt hB2 c7);have G5:=Lib.hid (bAt hB2 c5);have D2:=Lib.hid d2;have HCV:=Lib.hid hcv;have hnz : ((n : Int) + 1 == 0) = false:=by simp; omega
 clear hW0 hW2 hY ih hBd hpath hbs hS hs hO h4r h4v hrows hvr hvl c10 c9 c8 hcv d2 h0;have c7':=c7;have c5':=c5;rw [← HW0.out] at c7' c5';refine callsIn_of_wp_marks Tryz.func102 rfl trivial ?_ rfl
 simp only [Tryz.ntmps102,List.size_toArray,List.length_cons,List.length_nil,Nat.reduceAdd,Nat.reduceSub,Array.replicate_succ,Array.replicate_zero,List.push_toArray,List.append_toArray,List.nil_append,List.cons_append]
 gi_wp2_with fail
 rw [HW0.out];refine ⟨trivial,rfl,(callsIn_wide.2 (throws_any _ _ _)).mono ?_⟩
 rintro e w' ⟨rfl,rfl⟩;clear c7 c5 c7' c5'
 gi_wp2_with fail
 rw [HW2.out];rw [hZ0] at gb gs;obtain ⟨M,hM⟩ : ∃ M,M = W.heap.size + 1 + 1 + 1 + 1:=⟨_,rfl⟩;have hOM : ¬ O M:=fun h => by have:=HOO.out _ h; omega
 refine wpIn_range (gf:=152) (fa:=#[]) (lb:=#[.pointer (some ⟨W.heap.size + 5,0,none⟩),.pointer (some ⟨W.heap.size + 5 + 1,0,none⟩)]) rfl (enters_of Tryz.func152 (by kernel_rfl) rfl)
  (throws1_in g s bs (W.heap.size + 5) (W.heap.size + 5 + 1) P vb W2 (fun j => j < W2.heap.size ∧ ¬ O j ∧ j ≠ M) HBS.out (by omega) (by omega) gb gs d0 d1 hslb ⟨by omega,fun h => by have:=HOO.out _ h; omega,by omega⟩ ⟨by omega,fun h => by have:=HOO.out _ h; omega,by omega⟩ ⟨by omega,hPW.2,by omega⟩ (fun j hj hj2 => ⟨hj2,(HS.out j hj).2,by have:=(HS.out j hj).1; omega⟩))
  (fun pre Oi W' => ∃ Oo,(∀ k,Oi k ↔ Oo k ∨ k = M) ∧ ¬ Oo M ∧ Rel O W Oo W' ∧ J (waysPre g bs Cs n path pre) Oo W' ∧ W'.heap[M]? = some (.cells #[.bool false] 4 (0,0)))
  (fun c pre Oi W' => c = .ret ∧ ∃ Oo,(∀ k,Oi k ↔ Oo k ∨ k = M) ∧ ¬ Oo M ∧ Rel O W Oo W' ∧ (∃ p,p <+: (waysL g bs Cs (n + 1) s).map (path ++ ·) ∧ Jx p Oo W') ∧ W'.heap[M]? = some (.cells #[.bool false] 4 (0,0)))
  (fun pre Oi A B h e1 e2 e3 e4 hk => ?stab1) (fun c pre Oi A B h e1 e2 e3 e4 hk => ?stab2)
  (fun j => O j ∨ j = M) (fun j hj => by rcases hj with hj | rfl; have:=HOO.out _ hj; omega; omega) (fun j hj => ⟨hj.1,fun h => by rcases h with h | h; exact hj.2.1 h; exact hj.2.2 h⟩) ⟨O,fun _ => Iff.rfl,hOM,hr2,hj2,by rw [hM]; exact G10.out⟩
  (fun b args O W' h => by subst h; rfl) ?round ?done ?stop
 case stab1 =>
  obtain ⟨Oo,hiff,hnM,hr,hj,hM4⟩ := h;have hlt : M < A.heap.size:=(Array.getElem?_eq_some_iff.1 hM4).1
  refine ⟨Oo,hiff,hnM,⟨e1.trans hr.os,e2.trans hr.tape,e3.trans hr.output,Nat.le_trans hr.size e4,fun k hk' hn => (hk k (Nat.lt_of_lt_of_le hk' hr.size) (.inr (.inl (by omega)))).trans (hr.block k hk' hn),hr.own,fun k hk => Nat.lt_of_lt_of_le (hr.lt k hk) e4⟩, ?_,(hk _ hlt (.inl ((hiff _).2 (.inr rfl)))).trans hM4⟩
  exact hJ _ _ _ _ hj e1 e2 e3 e4 fun k hkA h => hk k hkA (by rcases h with h | h | h; exact .inl ((hiff k).2 (.inl h)); exact .inr (.inl (by omega)); exact .inr (.inr h))
 case stab2 =>
  obtain ⟨hc,Oo,hiff,hnM,hr,⟨p,hp,hj⟩,hM4⟩ := h;have hlt : M < A.heap.size:=(Array.getElem?_eq_some_iff.1 hM4).1
  refine ⟨hc,Oo,hiff,hnM,⟨e1.trans hr.os,e2.trans hr.tape,e3.trans hr.output,Nat.le_trans hr.size e4,fun k hk' hn => (hk k (Nat.lt_of_lt_of_le hk' hr.size) (.inr (.inl (by omega)))).trans (hr.block k hk' hn),hr.own,fun k hk => Nat.lt_of_lt_of_le (hr.lt k hk) e4⟩,⟨p,hp, ?_⟩,(hk _ hlt (.inl ((hiff _).2 (.inr rfl)))).trans hM4⟩
  exact hJx _ _ _ _ hj e1 e2 e3 e4 fun k hkA h => hk k hkA (by rcases h with h | h | h; exact .inl ((hiff k).2 (.inl h)); exact .inr (.inl (by omega)); exact .inr (.inr h))
 case round =>
  rintro l pre ⟨x,y⟩ post args O₁ W₁ hL hl1 hl2 hnl hnl' hrel hI henc;subst henc;clear hI;have hmem : (x,y) ∈ throwsL g s bs:=by rw [hL]; simp
  obtain ⟨hyb,hao,hz,hz0'⟩ := throwsL_mem hmem;have hwy:=worth_bd (HBS.out x hyb);have hza:=aftOk_bd hao;obtain ⟨q,rfl⟩ : ∃ q : Nat,y = q:=⟨y.toNat,by omega⟩
  have hqs : q < s:=by omega
  have HLL:=Lib.hid hL;clear hao hz hyb hmem hL
  gi_wp2_with fail
  refine ⟨aB _ _, ?_⟩
  rintro W₃ hon ⟨Oo,hiff,hnM,hr,hj,hM4⟩;have tr : ∀ b o z,W2.cell? ⟨b,o,none⟩ = some z → ¬ O b → b ≠ M → W₃.cell? ⟨b,o,none⟩ = some z:=fun b o z hz h1 h2 => (hon.cell _).trans (bAt (aB _ _) (rAt hrel hz (fun h => by rcases h with h | h; exact h1 h; exact h2 h)))
  have nO : ∀ k,W.heap.size ≤ k → ¬ O k:=fun k hk h => by have:=HOO.out _ h; omega
  have x11 : W₃.cell? ⟨W₁.heap.size,0,none⟩ = some (.int .i64 x):=(hon.cell _).trans (cell_new _ _ _);have x5:=tr _ _ _ G5.out (nO _ (by omega)) (by omega)
  have x7:=tr _ _ _ G7.out (nO _ (by omega)) (by omega)
  have x8:=tr _ _ _ G8.out (nO _ (by omega)) (by omega)
  have x9:=tr _ _ _ G9.out (nO _ (by omega)) (by omega)
  have xP:=tr _ _ _ D2.out hPW.2 (by omega)
  have xV:=tr _ _ _ HCV.out hbvW.2 (by omega)
  have hrow : q < (Cs[n]).length:=by have:=HSS.out n hn; omega
  obtain ⟨br,offr,rfl,hSbr,hcr⟩ := H4R.out q _ (intsAt hrow);have xr:=tr _ _ _ hcr (HS.out _ hSbr).2 (by have:=(HS.out _ hSbr).1; omega)
  obtain ⟨c,hc⟩ : ∃ c,(Cs[n])[q] = c:=⟨_,rfl⟩;rw [hc] at xr;have hcN : cellN Cs n (q : Int) = c:=by
   unfold cellN;rw [List.getD_eq_getElem?_getD,List.getD_eq_getElem?_getD]; simp [hn,hrow,hc]
  have hO3 : ∀ j,O₁ j → j < W₃.heap.size:=fun j hj => by
   rcases (hiff j).1 hj with h | rfl
   ·exact hr.lt _ h
   ·exact (Array.getElem?_eq_some_iff.1 hM4).1
  have HIFF:=Lib.hid hiff;have HJJ:=Lib.hid hj;have HM4:=Lib.hid hM4;have HCN:=Lib.hid hcN;have HM:=Lib.hid hM;have h3 : W₁.heap.size < W₃.heap.size:=by rw [hon.size]; simp
  have h1M : W2.heap.size ≤ W₁.heap.size:=hrel.size;clear hcr hc hcN hj hM4 hiff tr hon hM;by_cases hpos : 0 < c
  ·have hd : decide (0 < c) = true:=by simp [hpos]
   have hw1 : IntKind.i64.wrap (n : Int) = n:=wrap_small _ (by omega) (by omega)
   have h1n : n < vs.length:=by rw [HVL.out]; exact hn
   have h2n : (n : Int) < (vs.length : Int):=by omega
   have h2q : (q : Int) < ((Cs[n]).length : Int):=by omega
   gi_wp2_with fail
   refine wpIn_region_seq 24 [.is ?_,.is ?_,.is ?_,.is ?_,.is ?_,.is ?_,.is ?_,.is ?_,.is ?_,.is ?_,.is ?_,.is ?_,.is ?_,.is ?_,.is ?_,.is ?_,.is ?_,.is ?_,.is (.slice pa pn pn),.is ?_,.is ?_,
    ⟨fun v => ∃ b,v = .slice (some ⟨b,0,none⟩) 1 1,fun v w => ∃ b,v = .slice (some ⟨b,0,none⟩) 1 1 ∧ w.cell? ⟨b,0,none⟩ = some (.int .i64 x),fun v w w' hb ⟨b,h1,h2⟩ => ⟨b,h1,bAt hb h2⟩⟩,
    ⟨fun v => ∃ a n c,v = .slice a n c,fun v w => PathAt (fun k => W₃.heap.size ≤ k ∧ k < w.heap.size ∧ Row 47 w k) w v (path ++ [x]),fun v w w' hb h => (h.below hb).mono fun k hk => ⟨hk.1,Nat.lt_of_lt_of_le hk.2.1 hb.size,hk.2.2.keep (hb.block k hk.2.1)⟩⟩,.is ?_] rfl mix (open_round l) (by kernel_rfl) (by kernel_rfl) (by kernel_rfl) ?seqm
   case seqm =>
    simp only [List.take_succ_cons,List.take_zero]
    iterate 13
     refine seq_is rfl (fun w1 hb _ => ?_) ?_
     ·have z5:=bAt hb x5
      have z7:=bAt hb x7;have zP:=bAt hb xP;have zV:=bAt hb xV;have zr:=bAt hb xr;simp [opOK,go_sem,z5,z7,zP,zV,zr,hw1,h2n,h2q,hd,Below.refl]
      try exact rfl
     simp only [Act.put,List.setIfInBounds_toArray,List.set_cons_succ,List.set_cons_zero]
    iterate 5
     refine seq_on (by rfl) (fun w1 hb _ => ?_) ?_
     ·have z5:=bAt hb x5
      have z7:=bAt hb x7;have z8:=bAt hb x8;simp [opOK,go_sem,z5,z7,z8,hw1,Below.refl]
      try exact rfl
     simp only [Act.put,List.setIfInBounds_toArray,List.set_cons_succ,List.set_cons_zero]
    have hp3 : PathAt (POK N0 O W) W₃ (.slice pa pn pc) path:=HPATH.out.rel hr (fun k hk => hk.2.1)
    have HP3:=Lib.hid hp3;clear hp3;refine seq_on (by rfl) (fun w1 hb _ => ?_) ?_
    ·simp [opOK,go_sem]
     exact (clip_any path _ w1 (HP3.out.below hb)).mono fun e w' h => ⟨_,h.1,rfl,by rw [h.2]; exact Below.refl _ _⟩
    simp only [Act.put,List.setIfInBounds_toArray,List.set_cons_succ,List.set_cons_zero]
    iterate 2
     refine seq_on (by rfl) (fun w1 hb _ => ?_) ?_
     ·have z11:=bAt hb x11
      simp [opOK,go_sem,z11,Below.refl]
      try exact rfl
     simp only [Act.put,List.setIfInBounds_toArray,List.set_cons_succ,List.set_cons_zero]
    refine seq_new ⟨_,0,rfl⟩ (by rfl) (fun w1 hb _ => ?_) ?_
    ·simp [opOK,go_sem]
     exact aB _ _
    rintro v21 ⟨b21,rfl⟩;simp only [Act.put,List.setIfInBounds_toArray,List.set_cons_succ,List.set_cons_zero];refine seq_new ⟨_,none,0,0,rfl⟩ (by rfl) (fun w1 hb hH => ?_) ?_
    ·obtain ⟨b',e,hc⟩ : ∃ b,Value.slice (some ⟨b21,0,none⟩) 1 1 = .slice (some ⟨b,0,none⟩) 1 1 ∧ w1.cell? ⟨b,0,none⟩ = some (.int .i64 x):=by
      have:=hH ⟨21,.data⟩ (by simp) rfl
      simpa [addH] using this
     simp only [Value.slice.injEq,Option.some.injEq,Addr.mk.injEq,and_true] at e;subst e;obtain ⟨v',w',hrun,hbw,hpa⟩ := append_clip path _ w1 (HP3.out.below hb) (by omega) x b21 1 hc
     refine opOK_append_run (v1:=clipV (.slice pa pn pc)) (v2:=.slice (some ⟨b21,0,none⟩) 1 1) (.tmp 41) (.tmp 44) 36 rfl rfl rfl hrun ⟨hbw, ?_,hpa.mono fun k hk => ⟨Nat.le_trans hb.size hk.1,hk.2.1,hk.2.2⟩⟩
     obtain ⟨a,n,c,rfl⟩ := hpa.form;exact ⟨_,_,_,rfl⟩
    rintro v22 ⟨pa2,pn2,pc2,rfl⟩;simp only [Act.put,List.setIfInBounds_toArray,List.set_cons_succ,List.set_cons_zero];refine seq_on (by rfl) (fun w1 hb _ => ?_) ?_
    ·have z9:=bAt hb x9
     simp [opOK,go_sem,z9,Below.refl]
     try exact rfl
    simp only [Act.put,List.setIfInBounds_toArray,List.set_cons_succ,List.set_cons_zero];refine seq_end fun w5 hb hH => ?_
    have hp5 : PathAt (fun k => W₃.heap.size ≤ k ∧ k < w5.heap.size ∧ Row 47 w5 k) w5 (.slice pa2 pn2 pc2) (path ++ [x]):=by
     have:=hH 22 (by omega)
     simpa [addH] using this
    clear hH;simp only [List.drop_succ_cons,List.drop_zero]
    gi_wp2_with fail
    have hM3 : M < W₃.heap.size:=(Array.getElem?_eq_some_iff.1 HM4.out).1
    have h35:=hb.size;have hr5 : Rel O W Oo w5:=hr.ext hb;have hW5 : W.heap.size ≤ w5.heap.size:=hr5.size;have hO5 : ∀ k,Oo k → k < w5.heap.size:=fun k hk => Nat.lt_of_lt_of_le (hr.lt k hk) h35
    have hOS : ∀ k,S k → ¬ Oo k:=fun k hk hx => by
     rcases hr.own k hx with h | h
     ·exact (HS.out k hk).2 h
     ·have:=(HS.out k hk).1; omega
    have hO1 : O₁ = fun k => Oo k ∨ k = M:=funext fun k => propext (HIFF.out k)
    have hsplit : (waysL g bs Cs (n + 1) s).map (path ++ ·) = waysPre g bs Cs n path pre ++ (waysL g bs Cs n q).map ((path ++ [x]) ++ ·) ++ waysPre g bs Cs n path post:=by
     rw [← waysPre_all,HLL.out,show pre ++ (x,(q : Int)) :: post = pre ++ [(x,(q : Int))] ++ post by simp,waysPre_app,waysPre_app,waysPre_yes (by rw [HCN.out]; exact hpos)]
    have HSP:=Lib.hid hsplit;clear hsplit;refine ⟨trivial,rfl,(HIH.out S q (path ++ [x]) _ l0 (fun p O W => J (waysPre g bs Cs n path pre ++ p) O W) (fun p O W => Jx (waysPre g bs Cs n path pre ++ p) O W) Oo w5
     ((HBD.out.rel hr (fun k hk => (HS.out k hk).2)).below hb) (fun k hk => ⟨by have:=(HS.out k hk).1; omega,hOS k hk⟩) (fun j hj => by have:=HSS.out j hj; omega) (by omega) (by simp; omega) (by omega)
     (hp5.mono fun k hk => ⟨hk.2.1,fun hx => by have:=hr.lt k hx; omega,hk.2.2,by have:=hr.size; omega⟩) hO5 (Stab.base hJ hW5 _) (Stab.base hJx hW5 _) ?_ (by simpa using Stab.ext hJ HJJ.out hb)).mono ?_⟩
    ·intro p b r args Oa Wa heq hra hja henc
     have:=HY.out (waysPre g bs Cs n path pre ++ p) b (r ++ waysPre g bs Cs n path post) args Oa Wa (by rw [HSP.out,heq]; simp) (hr5.trans hra) hja henc
     simpa [List.append_assoc] using this
    rintro e W6 ⟨Oi,hr6,(⟨rfl,hj6⟩ | ⟨rfl,p,hp,hj6⟩)⟩
    all_goals
     have hMi : ¬ Oi M:=fun h => by
      rcases hr6.own M h with h | h
      ·exact hnM h
      ·omega
     have hM6:=(hr6.block M (by omega) hnM).trans ((hb.block M hM3).trans HM4.out)
     have hr36 : Rel O₁ W₃ (fun k => Oi k ∨ k = M) W6:=by rw [hO1]; exact Rel.add ((Rel.of_below hb hr.lt).trans hr6) hM3
     have hr06 : Rel O W Oi W6:=hr5.trans hr6;have HJ6:=Lib.hid hj6;have HM6:=Lib.hid hM6;clear hj6 hM6 hO1
    ·gi_wp2_with fail
     refine ⟨_,hr36,Oi,fun _ => Iff.rfl,hMi,hr06, ?_,HM6.out⟩
     rw [waysPre_app,waysPre_yes (by rw [HCN.out]; exact hpos)]
     exact HJ6.out
    ·have HP:=Lib.hid hp
     clear hp;have e10 : W6.cell? ⟨W.heap.size + 1 + 1 + 1 + 1,0,none⟩ = some (.bool false):=by rw [← HM.out,cell_of_heap HM6.out]; rfl
     have f10 : W6.frozen? ⟨W.heap.size + 1 + 1 + 1 + 1,0,none⟩ = false:=by rw [← HM.out]; exact frozen_of_heap HM6.out
     gi_wp2_with fail
     rw [← HM.out];have h5 : ∀ k, ¬ k = M → (W6.setCell ⟨M,0,none⟩ (.bool false)).heap[k]? = W6.heap[k]? := fun k hk => Below.heap_setCell _ _ _ _ hk
     refine ⟨_,hr36.setCell (p:=⟨M,0,none⟩) (.inr rfl) _,rfl,Oi,fun _ => Iff.rfl,hMi,Rel.turned hr06 (fun k => k = M) rfl rfl rfl (by simp) h5 (fun k hk => by have:=HM.out; omega),⟨waysPre g bs Cs n path pre ++ p, ?_, ?_⟩,by rw [heap_setCell_at HM6.out]; rfl⟩
     ·rw [HSP.out,List.append_assoc]
      exact (List.prefix_append_right_inj _).2 (HP.out.trans (List.prefix_append _ _))
     ·exact Stab.turned hJx HJ6.out (fun k => k = M) rfl rfl rfl (by simp) h5 (fun k hk => by subst hk; exact ⟨hMi,by have:=HM.out; omega,fun ⟨_,_,h⟩ => by rw [HM6.out] at h; simp at h⟩)
  ·have hd : decide (0 < c) = false:=by simp [hpos]
   gi_wp2_with fail
   refine wpIn_region_fix 24 [.pointer (some ⟨P,0,none⟩),.pointer (some ⟨P,0,none⟩),.pointer (some ⟨P,2,none⟩),.slice (some ⟨bv,offv,none⟩) vs.length capv,.int .i64 ((n : Int) + 1),.int .i64 n,.pointer (some ⟨bv,offv + n,none⟩),.slice (some ⟨br,offr,none⟩) (Cs[n]).length capr,.int .i64 q,.pointer (some ⟨br,offr + q,none⟩),.int .i64 c,.bool false,.bool false,undef,undef,undef,undef,undef,undef,undef,undef,undef,undef,undef] mix (open_round l) (by kernel_rfl) (by kernel_rfl) (by simp) ?_ ?_
   ·simp only [List.take_succ_cons,List.take_zero,FreeAll,Nat.reduceAdd,and_true]
    refine ⟨?_, ?_, ?_, ?_, ?_, ?_, ?_, ?_, ?_, ?_, ?_, ?_, ?_, ?_, ?_, ?_, ?_, ?_, ?_, ?_, ?_, ?_, ?_, ?_⟩
    rotate_left 13
    all_goals first | exact vc_skip 12 rfl (by simp) rfl rfl rfl rfl | skip
    all_goals
     refine vc_plain _ _ _ _ _ rfl fun A Wx hb hp ht => ?_
     simp [Region.binds,fixΦ] at hp
     have t5:=ht 5 rfl;have t7:=ht 7 rfl;have t12:=ht 12 rfl;have z5:=bAt hb x5;have z7:=bAt hb x7;have zP:=bAt hb xP;have zV:=bAt hb xV;have zr:=bAt hb xr;simp at t5 t7 t12
    ·simp [opOK,fixΦ,go_sem,t5,z5,Below.refl]
    ·simp [opOK,fixΦ,go_sem,hp,Below.refl]
    ·simp [opOK,fixΦ,go_sem,hp,Below.refl]
    ·simp [opOK,fixΦ,go_sem,hp,zP,Below.refl]
    ·simp [opOK,fixΦ,go_sem,t7,z7,Below.refl]
    ·simp [opOK,fixΦ,go_sem,hp,Below.refl]
     exact (wrap_small _ (by omega) (by omega)).symm
    ·have h1 : n < vs.length:=by rw [HVL.out]; exact hn
     have h2 : (n : Int) < (vs.length : Int):=by omega
     simp [opOK,fixΦ,go_sem,hp,h2,Below.refl]
    ·simp [opOK,fixΦ,go_sem,hp,zV,Below.refl]
    ·simp [opOK,fixΦ,go_sem,t12,Below.refl]
    ·have h2 : (q : Int) < ((Cs[n]).length : Int):=by omega
     simp [opOK,fixΦ,go_sem,hp,h2,Below.refl]
    ·simp [opOK,fixΦ,go_sem,hp,zr,Below.refl]
    ·simp [opOK,fixΦ,go_sem,hp,hd,Below.refl]
    ·simp [opOK,fixΦ,go_sem,hp,Below.refl]
   ·intro W5 hb
    simp only [List.take_succ_cons,List.take_zero,List.drop_succ_cons,List.drop_zero,putL,Act.put,List.setIfInBounds_toArray,List.set_cons_succ,List.set_cons_zero]
    gi_wp2_with fail
    refine ⟨trivial, ?_⟩
    gi_wp2_with fail
    refine ⟨O₁,Rel.of_below hb hO3,Oo,HIFF.out,hnM,hr.ext hb, ?_,(hb.block M (Array.getElem?_eq_some_iff.1 HM4.out).1).trans HM4.out⟩
    rw [waysPre_app,waysPre_no (by rw [HCN.out]; omega),List.append_nil]
    exact Stab.ext hJ HJJ.out hb
 case done =>
  intro D O₁ W' hD hnD hrel hI hDD
  obtain ⟨Oo,hiff,hnM,hr,hj,hM4⟩ := hI;have e10 : W'.cell? ⟨W.heap.size + 1 + 1 + 1 + 1,0,none⟩ = some (.bool false):=by rw [← hM,cell_of_heap hM4]; rfl
  have f10 : W'.frozen? ⟨W.heap.size + 1 + 1 + 1 + 1,0,none⟩ = false:=by rw [← hM]; exact frozen_of_heap hM4
  have HM4:=Lib.hid hM4;have HM:=Lib.hid hM;have HJJ:=Lib.hid hj;have HDD:=Lib.hid hDD;have HIFF:=Lib.hid hiff;clear hM4 hj hDD hrel hiff
  gi_wp2_with fail
  rw [← HM.out];have hmk : Marks 0 (W'.setCell ⟨M,0,none⟩ (.bool true)) [D]:=(Marks.nil _ _).cons (by rw [Below.heap_setCell _ _ _ _ (by have:=HM.out; simp; omega)]; exact HDD.out) (Nat.zero_le _) (by simp)
  refine leave_marks [D] _ hmk fun W'' hp => ?_
  have hz : W''.cell? ⟨M,0,none⟩ = some (.bool true):=(hp.cell _).trans (by rw [cell_of_heap (heap_setCell_at HM4.out _)]; rfl)
  have h5 : ∀ k, ¬ (k = M ∨ k = D) → W''.heap[k]? = W'.heap[k]? := fun k hk => (hp.block k (by simp; exact fun h => hk (.inr h))).trans (Below.heap_setCell _ _ _ _ (fun h => hk (.inl h)))
  refine ⟨.bool true,by simp [results,Tryz.results102,go_sem,hz],Oo,Rel.turned hr (fun k => k = M ∨ k = D) hp.os hp.tape hp.output (by rw [hp.size]; simp) h5 (fun k hk => by have:=HM.out; omega),.inl ⟨rfl, ?_⟩⟩
  exact Stab.turned hJ HJJ.out (fun k => k = M ∨ k = D) hp.os hp.tape hp.output (by rw [hp.size]; simp) h5 (fun k hk => by
   have:=HM.out;rcases hk with rfl | rfl
   ·exact ⟨hnM,by omega,fun ⟨_,_,h⟩ => by rw [HM4.out] at h; simp at h⟩
   ·exact ⟨fun h => hnD ((HIFF.out _).2 (.inl h)),by omega,fun ⟨_,_,h⟩ => by rw [HDD.out] at h; simp at h⟩)
 case stop =>
  rintro D c pre O₁ W' hD hnD hpre hrel ⟨rfl,Oo,hiff,hnM,hr,⟨p,hp,hj⟩,hM4⟩ hDD;have HM4:=Lib.hid hM4;have HM:=Lib.hid hM;have HJJ:=Lib.hid hj;have HPP:=Lib.hid hp;have HDD:=Lib.hid hDD;have HIFF:=Lib.hid hiff;clear hM4 hj hDD hrel hiff hM hp
  gi_wp2_with fail
  have hmk : Marks 0 W' [D]:=(Marks.nil _ _).cons HDD.out (Nat.zero_le _) (by simp)
  refine leave_marks [D] _ hmk fun W'' hp => ?_
  have hz : W''.cell? ⟨W.heap.size + 1 + 1 + 1 + 1,0,none⟩ = some (.bool false):=(hp.cell _).trans (by rw [← HM.out,cell_of_heap HM4.out]; rfl)
  have h5 : ∀ k, ¬ k = D → W''.heap[k]? = W'.heap[k]? := fun k hk => hp.block k (by simpa using hk)
  refine ⟨.bool false,by simp [results,Tryz.results102,go_sem,hz],Oo,Rel.turned hr (fun k => k = D) hp.os hp.tape hp.output hp.size h5 (fun k hk => by omega),.inr ⟨rfl,p,HPP.out, ?_⟩⟩
  exact Stab.turned hJx HJJ.out (fun k => k = D) hp.os hp.tape hp.output hp.size h5 (fun k hk => by
   subst hk;exact ⟨fun h => hnD ((HIFF.out _).2 (.inl h)),by omega,fun ⟨_,_,h⟩ => by rw [HDD.out] at h; simp at h⟩)
end Go.Proofs.YtnbmgkmcaoafnaaGreatDoor.O2
