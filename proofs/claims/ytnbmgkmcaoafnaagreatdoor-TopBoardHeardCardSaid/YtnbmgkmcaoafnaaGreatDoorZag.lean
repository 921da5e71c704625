/- The texts Mp, SlSl, AppN, Cpy, in build order. -/
import Derived.Test.YtnbmgkmcaoafnaaGreatDoorZaf
import Derived.MapKept
import Derived.RangeFuncOwn
import Derived.Laws.AppendOwn

/- A map as a list of entries, in the order in which they came; keys of one type that are compared as Lean compares them. -/
namespace Go.Oche
open Go Go.RowKit

def findL {κ : Type} [DecidableEq κ] (k : κ) : List κ → List MapEntry → Nat → Option (Nat × Value)
 | k' :: ks,e :: es,i => if k' = k then some (i,e.val) else findL k ks es (i + 1)
 | _,_,_ => none
structure KeyEq {κ : Type} [DecidableEq κ] (P : Program) (K : TypeId) (enc : κ → Value) : Prop where
 chk : ∀ (c : Bool) (k : κ) (w : World),(Instr.checkKey c 10000 K (enc k)).run P w = .ok () w
 fnd : ∀ (k : κ) (ks : List κ) (es : List MapEntry) (w : World),es.map (·.key) = ks.map enc → (Instr.findKey K (enc k) es).run P w = .ok (findL k ks es 0) w
 bits : ∀ k : κ,Instr.sameBits 10000 (enc k) (enc k) = true

section
variable {κ : Type} [DecidableEq κ] {P : Program} {K : TypeId} {enc : κ → Value}
theorem KeyEq.of_now {d : TypeDesc} (hd : P.underlying K = some d) (hs : ∀ k k',Instr.sameNow d (enc k) (enc k') = some (decide (k' = k)))
  (chk : ∀ (c : Bool) (k : κ) (w : World),(Instr.checkKey c 10000 K (enc k)).run P w = .ok () w) (bits : ∀ k : κ,Instr.sameBits 10000 (enc k) (enc k) = true) : KeyEq P K enc where
 chk:=chk
 bits:=bits
 fnd:=fun k ks es w h => by
  have key : ∀ (ks : List κ) (es : List MapEntry) (i : Nat),es.map (·.key) = ks.map enc → Instr.findNow d (enc k) es i = some (findL k ks es i):=by
   intro ks
   induction ks with
   | nil =>
    intro es i h
    cases es with
    | nil => rfl
    | cons e es => simp at h
   | cons k' ks ih =>
    intro es i h
    cases es with
    | nil => simp at h
    | cons e es =>
     simp only [List.map_cons,List.cons.injEq] at h;unfold Instr.findNow findL;rw [h.1,hs];by_cases e' : k' = k
     ·simp [e']
     ·simp only [e',decide_false,if_false]
      exact ih es (i + 1) h.2
  exact MapKept.run_findKey hd (key ks es 0 h)
theorem KeyEq.of_ask {d : TypeDesc} (hd : P.underlying K = some d) (hs : ∀ a b,Instr.sameNow d a b = none) (he : ∀ k k' w,(Op.equal K (enc k) (enc k')).run P w = .ok (decide (k' = k)) w)
  (chk : ∀ (c : Bool) (k : κ) (w : World),(Instr.checkKey c 10000 K (enc k)).run P w = .ok () w) (bits : ∀ k : κ,Instr.sameBits 10000 (enc k) (enc k) = true) : KeyEq P K enc where
 chk:=chk
 bits:=bits
 fnd:=fun k ks es w h => by
  have key : ∀ (ks : List κ) (es : List MapEntry) (i : Nat),es.map (·.key) = ks.map enc → (Instr.findAsking K (enc k) es i).run P w = .ok (findL k ks es i) w:=by
   intro ks
   induction ks with
   | nil =>
    intro es i h
    cases es with
    | nil => rfl
    | cons e es => simp at h
   | cons k' ks ih =>
    intro es i h
    cases es with
    | nil => simp at h
    | cons e es =>
     simp only [List.map_cons,List.cons.injEq] at h;unfold Instr.findAsking findL;rw [h.1];simp only [Sem.run_bind,he,Result.andThen];by_cases e' : k' = k
     ·simp [e',Sem.run_pure]
     ·simp only [e',decide_false,Bool.false_eq_true,if_false]
      exact ih es (i + 1) h.2
  unfold Instr.findKey;simp only [Sem.run_bind,run_underlying hd,Result.andThen];cases es with
  | nil =>
   cases ks with
   | nil => simp [Instr.findNow,findL]
   | cons k' ks => simp at h
  | cons e es =>
   simp only [Instr.findNow,hs];exact key ks (e :: es) 0 h
theorem sameBits_int (q : IntKind) (k : Int) (n : Nat) : Instr.sameBits n (.int q k) (.int q k) = true:=by cases n <;> simp [Instr.sameBits]
theorem check_int {q : IntKind} (hk : P.underlying K = some (.int q)) (k : Int) (c : Bool) (w : World) : (Instr.checkKey c 10000 K (.int q k)).run P w = .ok () w:=by
 have h : MapKept.IsKey (.int q) (.int q k):=rfl;exact MapKept.run_checkKey hk h c 9999
theorem KeyEq.int {q : IntKind} (hk : P.underlying K = some (.int q)) : KeyEq P K (Value.int q) :=
 KeyEq.of_now hk (fun k k' => by
  have : (k == k') = decide (k' = k):=by rw [Bool.eq_iff_iff]; simp only [beq_iff_eq,decide_eq_true_eq]; exact eq_comm
  simp [Instr.sameNow,this]) (fun c k w => check_int hk k c w) (fun k => sameBits_int q k 10000)

def Born (es : Array MapEntry) (clock : Nat) : Prop:=(es.toList.map (·.born)).Pairwise (· < ·) ∧ ∀ e ∈ es.toList,e.born < clock
theorem Born.push {es : Array MapEntry} {clock : Nat} (h : Born es clock) (k v : Value) : Born (es.push { key:=k,val:=v,born:=clock }) (clock + 1):=by
 refine ⟨?_,fun e he => ?_⟩
 ·rw [Array.toList_push,List.map_append,List.pairwise_append]
  refine ⟨h.1,by simp,fun x hx y hy => ?_⟩
  obtain ⟨e,he,rfl⟩ := List.mem_map.1 hx;have:=h.2 e he;simp at hy; omega
 ·rw [Array.toList_push] at he
  rcases List.mem_append.1 he with he | he
  ·have:=h.2 e he; omega
  ·simp at he; subst he; simp
theorem born_modify (es : Array MapEntry) (i : Nat) (f : MapEntry → MapEntry) (hf : ∀ e,(f e).born = e.born) : (es.modify i f).toList.map (·.born) = es.toList.map (·.born):=by
 apply List.ext_getElem?
 intro j
 simp only [List.getElem?_map,Array.getElem?_toList,Array.getElem?_modify]
 by_cases hj : i = j
 ·subst hj
  cases es[i]? <;> simp [hf]
 ·simp [hj]
theorem Born.modify {es : Array MapEntry} {clock : Nat} (h : Born es clock) (i : Nat) (f : MapEntry → MapEntry) (hf : ∀ e,(f e).born = e.born) : Born (es.modify i f) clock:=by
 refine ⟨by rw [born_modify es i f hf]; exact h.1,fun e he => ?_⟩
 have hb : e.born ∈ (es.modify i f).toList.map (·.born):=List.mem_map.2 ⟨e,he,rfl⟩
 rw [born_modify es i f hf] at hb;obtain ⟨e',he',e2⟩ := List.mem_map.1 hb;rw [← e2]; exact h.2 e' he'
def MapAt {κ : Type} (enc : κ → Value) (W : World) (b : Nat) (L : List (κ × Value)) : Prop :=
 ∃ es clock,W.heap[b]? = some (.map es clock) ∧ es.toList.map (·.key) = L.map (fun p => enc p.1) ∧ es.toList.map (·.val) = L.map (·.2) ∧ Born es clock
def lookM (L : List (κ × Value)) (k : κ) : Option Value:=(L.find? fun p => decide (p.1 = k)).map (·.2)
def upd : List (κ × Value) → κ → Value → List (κ × Value)
 | [],k,v => [(k,v)]
 | p :: l,k,v => if p.1 = k then (k,v) :: l else p :: upd l k v
theorem lookM_upd (L : List (κ × Value)) (k k' : κ) (v : Value) : lookM (upd L k v) k' = if k = k' then some v else lookM L k':=by
 induction L with
 | nil =>
  by_cases h : k = k'
  ·simp [upd,lookM,h]
  ·simp [upd,lookM,h]
 | cons p l ih =>
  unfold upd;by_cases hp : p.1 = k
  ·rw [if_pos hp]
   by_cases h : k = k'
   ·simp [lookM,h]
   ·simp [lookM,h,hp]
  ·rw [if_neg hp]
   by_cases h : p.1 = k'
   ·have hk : ¬ k = k':=fun e => hp (h.trans e.symm)
    simp [lookM,h,hk]
   ·have e1 : lookM (p :: upd l k v) k' = lookM (upd l k v) k':=by simp [lookM,h]
    have e2 : lookM (p :: l) k' = lookM l k':=by simp [lookM,h]
    rw [e1,ih,e2]
omit [DecidableEq κ] in
theorem MapAt.made (enc : κ → Value) (w : World) : MapAt enc (w.alloc (.map #[] 0)) w.heap.size []:=⟨#[],0,World.alloc_heap_new _ _,rfl,rfl,by simp,by simp⟩
omit [DecidableEq κ] in
theorem MapAt.keep {W W' : World} {b : Nat} {L : List (κ × Value)} (h : MapAt enc W b L) (hk : W'.heap[b]? = W.heap[b]?) : MapAt enc W' b L:=by
 obtain ⟨es,c,h1,h2⟩ := h; exact ⟨es,c,hk.trans h1,h2⟩
omit [DecidableEq κ] in
theorem MapAt.lt {W : World} {b : Nat} {L : List (κ × Value)} (h : MapAt enc W b L) : b < W.heap.size:=by
 obtain ⟨es,c,h1,_⟩ := h; exact (Array.getElem?_eq_some_iff.1 h1).1
omit [DecidableEq κ] in
theorem MapAt.below {W W' : World} {b : Nat} {L : List (κ × Value)} (h : MapAt enc W b L) (hb : Below W.heap.size W W') : MapAt enc W' b L:=h.keep (hb.block b h.lt)

theorem findL_lookM (k : κ) : ∀ (L : List (κ × Value)) (es : List MapEntry) (i : Nat),es.map (·.val) = L.map (·.2) → (findL k (L.map (·.1)) es i).map (·.2) = lookM L k
 | [],es,i,h => by cases es <;> rfl
 | p :: L,[],i,h => by simp at h
 | p :: L,e :: es,i,h => by
  simp only [List.map_cons,List.cons.injEq] at h;rw [List.map_cons,findL];by_cases hp : p.1 = k
  ·simp [hp,lookM,h.1]
  ·have e2 : lookM (p :: L) k = lookM L k:=by simp [lookM,hp]
   rw [if_neg hp,e2];exact findL_lookM k L es (i + 1) h.2
theorem findL_some {k : κ} : ∀ {ks : List κ} {es : List MapEntry} {i : Nat} {j : Nat} {v : Value},findL k ks es i = some (j,v) → ∃ q,j = i + q ∧ ks[q]? = some k ∧ q < es.length ∧ ∀ q',q' < q → ks[q']? ≠ some k
 | [],es,i,j,v,h => by cases es <;> simp [findL] at h
 | k' :: ks,[],i,j,v,h => by simp [findL] at h
 | k' :: ks,e :: es,i,j,v,h => by
  unfold findL at h;by_cases hk : k' = k
  ·rw [if_pos hk] at h
   simp only [Option.some.injEq,Prod.mk.injEq] at h;exact ⟨0,by omega,by simp [hk],by simp,fun q' hq => by omega⟩
  ·rw [if_neg hk] at h
   obtain ⟨q,h1,h2,h3,h4⟩ := findL_some h;refine ⟨q + 1,by omega,by simpa using h2,by simpa using h3,fun q' hq => ?_⟩
   cases q' with
   | zero => simpa using hk
   | succ q' => simpa using h4 q' (by omega)
theorem findL_none {k : κ} : ∀ {ks : List κ} {es : List MapEntry} {i : Nat},es.length = ks.length → findL k ks es i = none → k ∉ ks
 | [],es,i,_,h => by simp
 | k' :: ks,[],i,hl,h => by simp at hl
 | k' :: ks,e :: es,i,hl,h => by
  unfold findL at h;by_cases hk : k' = k
  ·rw [if_pos hk] at h; cases h
  ·rw [if_neg hk] at h
   simp only [List.length_cons,Nat.add_right_cancel_iff] at hl;have:=findL_none hl h;simp only [List.mem_cons,not_or];exact ⟨fun e => hk e.symm,this⟩
theorem upd_at {k : κ} {v : Value} : ∀ {L : List (κ × Value)} {q : Nat},(L.map (·.1))[q]? = some k → (∀ q',q' < q → (L.map (·.1))[q']? ≠ some k) → upd L k v = L.set q (k,v)
 | [],q,h,_ => by simp at h
 | p :: L,0,h,_ => by
  simp only [List.map_cons,List.getElem?_cons_zero,Option.some.injEq] at h
  simp [upd,h]
 | p :: L,q + 1,h,hn => by
  have h0 : ¬ p.1 = k:=by simpa using hn 0 (by omega)
  rw [upd,if_neg h0,List.set_cons_succ,upd_at (by simpa using h) (fun q' hq => by simpa using hn (q' + 1) (by omega))]
theorem upd_none {k : κ} {v : Value} : ∀ {L : List (κ × Value)},k ∉ L.map (·.1) → upd L k v = L ++ [(k,v)]
 | [],_ => rfl
 | p :: L,h => by
  simp only [List.map_cons,List.mem_cons,not_or] at h;unfold upd;rw [if_neg (fun e => h.1 e.symm),upd_none h.2]; rfl

theorem MapAt.lookup (KE : KeyEq P K enc) {T E : TypeId} (ht : P.underlying T = some (.map K E)) {z : Value} {W : World} (hz : (zeroValue E).run P W = .ok z W) {b : Nat} {L : List (κ × Value)} (h : MapAt enc W b L) (k : κ) (c : Bool) :
  (Instr.lookup T (.map (some b)) (enc k) c).run P W = .ok (if c then .tuple #[(lookM L k).getD z,.bool (lookM L k).isSome] else (lookM L k).getD z) W:=by
 obtain ⟨es,clock,h1,h2,h3,h4⟩ := h;have hf:=KE.fnd k (L.map (·.1)) es.toList W (by rw [h2,List.map_map]; rfl)
 have hl:=findL_lookM k L es.toList 0 h3;unfold Instr.lookup;simp only [Sem.run_bind,run_underlying ht,Result.andThen,MapKept.run_getObj_map h1,KE.chk,Sem.run_pure,hf];cases hfl : findL k (L.map (·.1)) es.toList 0 with
 | none =>
  rw [hfl] at hl;rw [← hl];simp only [Option.map_none,Sem.run_bind,hz,Result.andThen,Sem.run_pure,Option.getD_none,Option.isSome_none]
  all_goals (cases c <;> rfl)
 | some r =>
  obtain ⟨i,v⟩ := r;rw [hfl] at hl;rw [← hl];simp only [Option.map_some,Option.getD_some,Option.isSome_some]
  all_goals (cases c <;> rfl)

theorem MapAt.update (KE : KeyEq P K enc) {T E : TypeId} (ht : P.underlying T = some (.map K E)) {W : World} {b : Nat} {L : List (κ × Value)} (h : MapAt enc W b L) (k : κ) (v : Value) :
  ∃ W',(Instr.mapUpdate T (.map (some b)) (enc k) v).run P W = .ok () W' ∧ MapAt enc W' b (upd L k v) ∧ W.grownBy W' (some b):=by
 obtain ⟨es,clock,h1,h2,h3,h4⟩ := h;have hlen : es.toList.length = (L.map (·.1)).length:=by have:=congrArg List.length h3; simpa using this
 have hf:=KE.fnd k (L.map (·.1)) es.toList W (by rw [h2,List.map_map]; rfl)
 have hset : ∀ o : Obj,W.grownBy { W with heap:=W.heap.setIfInBounds b o } (some b):=fun o => ⟨rfl,rfl,rfl,by simp,fun q _ hq => (MapKept.heap_set (o':=o) h1).2 q (fun e => hq (by rw [e]))⟩
 unfold Instr.mapUpdate;simp only [Sem.run_bind,run_underlying ht,Result.andThen,MapKept.run_getObj_map h1,KE.chk,hf];cases hfl : findL k (L.map (·.1)) es.toList 0 with
 | none =>
  have hn:=findL_none hlen hfl;simp only [MapKept.run_setObj_map _ h1];refine ⟨_,rfl,⟨_,_,(MapKept.heap_set h1).1, ?_, ?_,h4.push _ _⟩,hset _⟩
  ·rw [upd_none hn]; simp [h2]
  ·rw [upd_none hn]; simp [h3]
 | some r =>
  obtain ⟨i,v0⟩ := r;obtain ⟨q,rfl,hq,hql,hmin⟩ := findL_some hfl;rw [Nat.zero_add];have hqs : q < es.size:=by simpa using hql
  have hke : es[q].key = enc k:=by
   have h6 : (es.toList.map (·.key))[q]? = (L.map (fun p => enc p.1))[q]? := by rw [h2]
   have h5 : (L.map (fun p => enc p.1))[q]? = ((L.map (·.1))[q]?).map enc:=by simp [Function.comp_def]
   rw [h5,hq] at h6
   simpa [hqs] using h6
  have hst : (Instr.keyThatStays (((es[q]?).map (·.key)).getD (enc k)) (enc k)).run P W = .ok (enc k) W:=by
   unfold Instr.keyThatStays;simp [hqs,hke,KE.bits,Sem.run_pure]
  simp only [Sem.run_bind,hst,Result.andThen,MapKept.run_setObj_map _ h1];refine ⟨_,rfl,⟨_,_,(MapKept.heap_set h1).1, ?_, ?_,h4.modify q _ (fun _ => rfl)⟩,hset _⟩
  ·rw [upd_at hq hmin]
   apply List.ext_getElem?
   intro j
   have hj : (es.toList.map (·.key))[j]? = (L.map (fun p => enc p.1))[j]? := by rw [h2]
   simp only [List.getElem?_map,Array.getElem?_toList,Array.getElem?_modify,List.getElem?_set] at hj ⊢
   by_cases hqj : q = j
   ·subst hqj
    have hqL : q < L.length:=by simpa using (List.getElem?_eq_some_iff.1 hq).1
    simp [hqs,hqL]
   ·simp only [if_neg hqj]; exact hj
  ·rw [upd_at hq hmin]
   apply List.ext_getElem?
   intro j
   have hj : (es.toList.map (·.val))[j]? = (L.map (·.2))[j]? := by rw [h3]
   simp only [List.getElem?_map,Array.getElem?_toList,Array.getElem?_modify,List.getElem?_set] at hj ⊢
   by_cases hqj : q = j
   ·subst hqj
    have hqL : q < L.length:=by simpa using (List.getElem?_eq_some_iff.1 hq).1
    simp [hqs,hqL]
   ·simp only [if_neg hqj]; exact hj
def EntAt {κ : Type} (enc : κ → Value) (W : World) (b : Nat) (L : List (κ × Value)) (k : κ) (st : Nat) : Prop :=
 ∃ (es : Array MapEntry) (clock q : Nat),W.heap[b]? = some (.map es clock) ∧ es.toList.map (·.key) = L.map (fun p => enc p.1) ∧ es.toList.map (·.val) = L.map (·.2) ∧ Born es clock ∧
  (es[q]?).map MapEntry.born = some st ∧ (L.map (·.1))[q]? = some k ∧ ∀ q',q' < q → (L.map (·.1))[q']? ≠ some k
omit [DecidableEq κ] in
theorem EntAt.keep {W W' : World} {b : Nat} {L : List (κ × Value)} {k : κ} {st : Nat} (h : EntAt enc W b L k st) (hk : W'.heap[b]? = W.heap[b]?) : EntAt enc W' b L k st:=by
 obtain ⟨es,c,q,h1,h2⟩ := h; exact ⟨es,c,q,hk.trans h1,h2⟩
omit [DecidableEq κ] in
theorem EntAt.map {W : World} {b : Nat} {L : List (κ × Value)} {k : κ} {st : Nat} (h : EntAt enc W b L k st) : MapAt enc W b L:=by
 obtain ⟨es,c,q,h1,h2,h3,h4,_⟩ := h; exact ⟨es,c,h1,h2,h3,h4⟩
def entL (L : List (κ × Value)) (k : κ) (z : Value) : List (κ × Value):=if (lookM L k).isSome then L else L ++ [(k,z)]
theorem lookM_none {L : List (κ × Value)} {k : κ} (h : k ∉ L.map (·.1)) : lookM L k = none:=by
 unfold lookM;rw [Option.map_eq_none_iff,List.find?_eq_none]
 intro p hp e
 exact h (List.mem_map.2 ⟨p,hp,by simpa using e⟩)
theorem upd_entL (L : List (κ × Value)) (k : κ) (z v : Value) : upd (entL L k z) k v = upd L k v:=by
 unfold entL;by_cases h : k ∈ L.map (·.1)
 ·have : (lookM L k).isSome = true:=by
   obtain ⟨p,hp,e⟩ := List.mem_map.1 h;unfold lookM;rw [Option.isSome_map,List.find?_isSome]
   exact ⟨p,hp,by simpa using e⟩
  rw [if_pos this]
 ·rw [lookM_none h,if_neg (by simp),upd_none h]
  have key : ∀ L : List (κ × Value),k ∉ L.map (·.1) → upd (L ++ [(k,z)]) k v = L ++ [(k,v)]:=by
   intro L
   induction L with
   | nil => intro _; simp [upd]
   | cons p L ih =>
    intro h
    simp only [List.map_cons,List.mem_cons,not_or] at h;rw [List.cons_append,upd,if_neg (fun e => h.1 e.symm),ih h.2]; rfl
  exact key L h
theorem MapAt.entry (KE : KeyEq P K enc) {T E : TypeId} (ht : P.underlying T = some (.map K E)) {z : Value} {W : World} (hz : (zeroValue E).run P W = .ok z W) {b : Nat} {L : List (κ × Value)} (h : MapAt enc W b L) (k : κ) :
  ∃ W' st,(Instr.mapEntry T (.map (some b)) (enc k)).run P W = .ok (.tuple #[(lookM L k).getD z,.int .i64 (st : Nat)]) W' ∧ EntAt enc W' b (entL L k z) k st ∧ W.grownBy W' (some b):=by
 obtain ⟨es,clock,h1,h2,h3,h4⟩ := h;have hlen : es.toList.length = (L.map (·.1)).length:=by have:=congrArg List.length h3; simpa using this
 have hf:=KE.fnd k (L.map (·.1)) es.toList W (by rw [h2,List.map_map]; rfl)
 have hl:=findL_lookM k L es.toList 0 h3;have hset : ∀ o : Obj,W.grownBy { W with heap:=W.heap.setIfInBounds b o } (some b):=fun o => ⟨rfl,rfl,rfl,by simp,fun q _ hq => (MapKept.heap_set (o':=o) h1).2 q (fun e => hq (by rw [e]))⟩
 unfold Instr.mapEntry;simp only [Sem.run_bind,run_underlying ht,Result.andThen,MapKept.run_getObj_map h1,KE.chk,hf];cases hfl : findL k (L.map (·.1)) es.toList 0 with
 | none =>
  have hn:=findL_none hlen hfl;have hlk:=lookM_none hn;simp only [Sem.run_bind,hz,Result.andThen,MapKept.run_setObj_map _ h1,Sem.run_pure];refine ⟨{ W with heap:=W.heap.setIfInBounds b (.map (es.push { key:=enc k,val:=z,born:=clock }) (clock + 1)) },clock,by rw [hlk]; rfl,⟨_,_,es.size,(MapKept.heap_set h1).1, ?_, ?_,h4.push _ _,by simp, ?_,fun q' hq' => ?_⟩,hset _⟩
  ·rw [entL,hlk,if_neg (by simp)]; simp [h2]
  ·rw [entL,hlk,if_neg (by simp)]; simp [h3]
  ·rw [entL,hlk,if_neg (by simp),List.map_append,List.getElem?_append_right (by rw [← hlen]; simp)]
   rw [← hlen]; simp
  ·rw [entL,hlk,if_neg (by simp),List.map_append,List.getElem?_append_left (by rw [← hlen]; simpa using hq')]
   intro e
   exact hn (List.mem_of_getElem? e)
 | some r =>
  obtain ⟨i,v0⟩ := r;obtain ⟨q,rfl,hq,hql,hmin⟩ := findL_some hfl;rw [Nat.zero_add];have hqs : q < es.size:=by simpa using hql
  have hke : es[q].key = enc k:=by
   have h6 : (es.toList.map (·.key))[q]? = (L.map (fun p => enc p.1))[q]? := by rw [h2]
   have h5 : (L.map (fun p => enc p.1))[q]? = ((L.map (·.1))[q]?).map enc:=by simp [Function.comp_def]
   rw [h5,hq] at h6
   simpa [hqs] using h6
  have hst : (Instr.keyThatStays (((es[q]?).map (·.key)).getD (enc k)) (enc k)).run P W = .ok (enc k) W:=by
   unfold Instr.keyThatStays;simp [hqs,hke,KE.bits,Sem.run_pure]
  rw [hfl] at hl;have hlk : lookM L k = some v0:=by rw [← hl]; rfl
  have hent : entL L k z = L:=by rw [entL,hlk]; rfl
  simp only [Sem.run_bind,hst,Result.andThen,MapKept.run_setObj_map _ h1,Sem.run_pure];refine ⟨{ W with heap:=W.heap.setIfInBounds b (.map (es.modify q fun e => { e with key:=enc k }) clock) },es[q].born,by rw [hlk]; simp [hqs,goInt],⟨_,_,q,(MapKept.heap_set h1).1, ?_, ?_,h4.modify q _ (fun _ => rfl),by simp [hqs,Array.getElem_modify],by rw [hent]; exact hq,by rw [hent]; exact hmin⟩,hset _⟩
  ·rw [hent,← h2]
   apply List.ext_getElem?
   intro j
   simp only [List.getElem?_map,Array.getElem?_toList,Array.getElem?_modify]
   by_cases hqj : q = j
   ·subst hqj
    simp [hqs,hke]
   ·simp [hqj]
  ·rw [hent,← h3]
   apply List.ext_getElem?
   intro j
   simp only [List.getElem?_map,Array.getElem?_toList,Array.getElem?_modify]
   by_cases hqj : q = j
   ·subst hqj
    simp [hqs]
   ·simp [hqj]
theorem EntAt.store {W : World} {T b : Nat} {L : List (κ × Value)} {k : κ} {st : Nat} (h : EntAt enc W b L k st) (v : Value) :
  ∃ W',(Instr.entryStore T (.map (some b)) (.int .i64 (st : Nat)) v).run P W = .ok () W' ∧ MapAt enc W' b (upd L k v) ∧ W.grownBy W' (some b):=by
 obtain ⟨es,clock,q,h1,h2,h3,h4,h5,hq,hmin⟩ := h;have hset : ∀ o : Obj,W.grownBy { W with heap:=W.heap.setIfInBounds b o } (some b):=fun o => ⟨rfl,rfl,rfl,by simp,fun q _ hq => (MapKept.heap_set (o':=o) h1).2 q (fun e => hq (by rw [e]))⟩
 obtain ⟨e,he,heb⟩ := Option.map_eq_some_iff.1 h5;have hqs : q < es.size:=(Array.getElem?_eq_some_iff.1 he).1
 have hfi : es.findIdx? (fun e => (e.born : Int) == (st : Int)) = some q:=by
  rw [Array.findIdx?_eq_some_iff_getElem]
  refine ⟨hqs, ?_,fun j hj => ?_⟩
  ·have : es[q] = e:=by simpa [hqs] using he
   simp [this,heb]
  ·have hp:=List.pairwise_iff_getElem.1 h4.1 j q (by simp; omega) (by simpa using hqs) hj
   have e1 : es[q] = e:=by simpa [hqs] using he
   simp only [List.getElem_map,Array.getElem_toList,e1,heb] at hp;simp; omega
 unfold Instr.entryStore;simp only [Sem.run_bind,MapKept.run_getObj_map h1,Result.andThen,asInt,asIntOf,Sem.run_pure,hfi,MapKept.run_setObj_map _ h1];refine ⟨{ W with heap:=W.heap.setIfInBounds b (.map (es.modify q fun e => { e with val:=v }) clock) },rfl,⟨_,_,(MapKept.heap_set h1).1, ?_, ?_,h4.modify q _ (fun _ => rfl)⟩,hset _⟩
 ·rw [upd_at hq hmin]
  apply List.ext_getElem?
  intro j
  have hj : (es.toList.map (·.key))[j]? = (L.map (fun p => enc p.1))[j]? := by rw [h2]
  simp only [List.getElem?_map,Array.getElem?_toList,Array.getElem?_modify,List.getElem?_set] at hj ⊢
  by_cases hqj : q = j
  ·subst hqj
   have hqL : q < L.length:=by simpa using (List.getElem?_eq_some_iff.1 hq).1
   have hk2 : (L[q]?).map (·.1) = some k:=by simpa using hq
   simp only [List.getElem?_eq_getElem hqL,Option.map_some,Option.some.injEq] at hk2 hj
   rw [hk2] at hj
   simpa [hqs,hqL] using hj
  ·simp only [if_neg hqj]; exact hj
 ·rw [upd_at hq hmin]
  apply List.ext_getElem?
  intro j
  have hj : (es.toList.map (·.val))[j]? = (L.map (·.2))[j]? := by rw [h3]
  simp only [List.getElem?_map,Array.getElem?_toList,Array.getElem?_modify,List.getElem?_set] at hj ⊢
  by_cases hqj : q = j
  ·subst hqj
   have hqL : q < L.length:=by simpa using (List.getElem?_eq_some_iff.1 hq).1
   simp [hqs,hqL]
  ·simp only [if_neg hqj]; exact hj
end
open Go Go.RowKit
def SlSl (S : Nat → Prop) (w : World) (v : Value) (gs : List (List Int)) : Prop :=
 ∃ vs,Sl S w v vs ∧ vs.length = gs.length ∧ ∀ i (h : i < gs.length), ∃ u,vs[i]? = some u ∧ Sl S w u (ints gs[i])
section
variable {S S' : Nat → Prop} {w w' : World} {v : Value} {gs : List (List Int)}
theorem SlSl.mono (h : SlSl S w v gs) (hS : ∀ k,S k → S' k) : SlSl S' w v gs:=by
 obtain ⟨vs,h1,h2,h3⟩ := h;exact ⟨vs,h1.mono hS,h2,fun i hi => let ⟨u,e,hu⟩ := h3 i hi; ⟨u,e,hu.mono hS⟩⟩
theorem SlSl.cells (h : SlSl S w v gs) (hc : ∀ b o,S b → (w.cell? ⟨b,o,none⟩).isSome → w'.cell? ⟨b,o,none⟩ = w.cell? ⟨b,o,none⟩) : SlSl S w' v gs:=by
 obtain ⟨vs,h1,h2,h3⟩ := h;exact ⟨vs,h1.cells hc,h2,fun i hi => let ⟨u,e,hu⟩ := h3 i hi; ⟨u,e,hu.cells hc⟩⟩
theorem SlSl.below (h : SlSl S w v gs) (hb : Below w.heap.size w w') : SlSl S w' v gs:=by
 obtain ⟨vs,h1,h2,h3⟩ := h;exact ⟨vs,h1.below hb,h2,fun i hi => let ⟨u,e,hu⟩ := h3 i hi; ⟨u,e,hu.below hb⟩⟩
theorem SlSl.lt (h : SlSl S w v gs) : SlSl (fun k => S k ∧ k < w.heap.size) w v gs:=by
 obtain ⟨vs,h1,h2,h3⟩ := h;exact ⟨vs,h1.lt,h2,fun i hi => let ⟨u,e,hu⟩ := h3 i hi; ⟨u,e,hu.lt⟩⟩
theorem SlSl.form (h : SlSl S w v gs) : ∃ a cap,v = .slice a gs.length cap ∧ gs.length ≤ cap ∧ cap ≤ maxLen:=by
 obtain ⟨vs,h1,h2,_⟩ := h;obtain ⟨a,cap,e,l1,l2⟩ := h1.form;exact ⟨a,cap,by rw [e,h2],by omega,l2⟩
theorem SlSl.cell {a : Option Addr} {n cap : Nat} (h : SlSl S w (.slice a n cap) gs) {i : Nat} (hi : i < gs.length) : ∃ b off u,a = some ⟨b,off,none⟩ ∧ S b ∧ w.cell? ⟨b,off + i,none⟩ = some u ∧ Sl S w u (ints gs[i]):=by
 obtain ⟨vs,h1,h2,h3⟩ := h;obtain ⟨u,e,hu⟩ := h3 i hi;obtain ⟨a',cap',e1,_,_,h4⟩ := h1;cases e1;obtain ⟨b,off,e2,s,c⟩ := h4 i u e;exact ⟨b,off,u,e2,s,c,hu⟩
theorem MapAt.ne {κ : Type} {enc : κ → Value} {M base n k : Nat} {L : List (κ × Value)} {e : TypeId} {r : Value} {xs : List Value} (h : MapAt enc w M L) (ho : w.ownsRow base e k r n xs) : some M ≠ r.ownBlock:=by
 obtain ⟨es,c,hM,_⟩ := h;rcases ho.2 with ⟨rfl,_⟩ | ⟨g,cap,cur,rfl,_,hg,_⟩
 ·simp [Value.ownBlock]
 ·intro e2
  simp only [Value.ownBlock,Option.some.injEq] at e2;subst e2;rw [hM] at hg; cases hg
end
open Go Go.RowKit
section
variable {P : Program} {ops : Array Oper} {Q : Exit → Act → World → Prop} {o : Oper} {rest : List Oper} {a : Act} {w : World}
theorem opOK_appendN_at (s x : Operand) (t : TypeId) (ho : o.op = .call { callee:=.builtin .append,args:=#[s,x],argTypes:=#[t,t] })
  (base : Nat) (e : TypeId) (z : Value) (size bytes : Nat) (ht : P.underlying t = some (.slice e)) (hi : (P.info? e).map (fun i => (i.zero,i.size,i.bytes)) = some (some z,size,bytes)) (hzs : z.cells.size = size) (hsz : 0 < size)
  (v : Value) (n : Nat) (xs : List Value) (hs : a.eval s = v) (hown : w.ownsRow base e size v n xs) (b off m c : Nat) (news : List Value) (hx : a.eval x = .slice (some ⟨b,off,none⟩) m c) (hl : news.length = m * size) (hnews : ∀ j u,news[j]? = some u → w.cell? ⟨b,off + j,none⟩ = some u) (h1 : ∀ u ∈ news,u.oneCell' = true)
  (h63 : n + m ≤ 100000) (hbytes : bytes ≤ 1000) (hbase : base ≤ w.heap.size) :
  opOK P o a w (fun v' w' => w'.ownsRow base e size v' (n + m) (xs ++ news) ∧ w.grownBy w' v.ownBlock ∧ (v'.ownBlock = v.ownBlock ∨ v'.ownBlock = some w.heap.size)):=by
 obtain ⟨i,hi,hz0,hz1,hz2⟩ := info_parts hi;have hmul : (n + m) * bytes ≤ 100000 * 1000:=Nat.mul_le_mul h63 hbytes;obtain ⟨v',w',hr,h2,h3,h4,h5⟩ := run_append_own_at (P:=P) w base t o.type e i z size bytes ht hi hz0 hz1 hz2 hzs hsz v n xs hown ⟨b,off,none⟩ m c news hl
  (fun j y hj => by rw [addr_at]; exact hnews j y hj) h1 (by unfold maxLen; omega) (by omega) hbase
 unfold opOK execOp;simp only [ho,resolve,invoke,builtin,Sem.run_bind,Sem.run_pure,Result.andThen_ok,List.map_toArray,List.map_cons,List.map_nil,hs,hx,hr];exact ⟨h2,h3,h5⟩
theorem wpList_appendN (hg : o.guard = none) (s x : Operand) (t : TypeId) (ho : o.op = .call { callee:=.builtin .append,args:=#[s,x],argTypes:=#[t,t] })
  (base : Nat) (e : TypeId) (z : Value) (size bytes : Nat) (ht : P.underlying t = some (.slice e)) (hi : (P.info? e).map (fun i => (i.zero,i.size,i.bytes)) = some (some z,size,bytes)) (hzs : z.cells.size = size) (hsz : 0 < size)
  (v : Value) (n : Nat) (xs : List Value) (hs : a.eval s = v) (hown : w.ownsRow base e size v n xs) (b off m c : Nat) (news : List Value) (hx : a.eval x = .slice (some ⟨b,off,none⟩) m c) (hl : news.length = m * size) (hnews : ∀ j u,news[j]? = some u → w.cell? ⟨b,off + j,none⟩ = some u) (h1 : ∀ u ∈ news,u.oneCell' = true)
  (h63 : n + m ≤ 100000) (hbytes : bytes ≤ 1000) (hbase : base ≤ w.heap.size)
  (hK : ∀ v' w',w'.ownsRow base e size v' (n + m) (xs ++ news) → w.grownBy w' v.ownBlock → (v'.ownBlock = v.ownBlock ∨ v'.ownBlock = some w.heap.size) → wpList P ops Q rest (a.put o.dst v') w') : wpList P ops Q (o :: rest) a w :=
 wpList_opOK hg (opOK_appendN_at s x t ho base e z size bytes ht hi hzs hsz v n xs hs hown b off m c news hx hl hnews h1 h63 hbytes hbase) fun v' w' ⟨h1,h2,h3⟩ => hK v' w' h1 h2 h3
theorem wpListIn_appendN {F : Fence} (hF : Open F) (hg : o.guard = none) (s x : Operand) (t : TypeId) (ho : o.op = .call { callee:=.builtin .append,args:=#[s,x],argTypes:=#[t,t] })
  (base : Nat) (e : TypeId) (z : Value) (size bytes : Nat) (ht : P.underlying t = some (.slice e)) (hi : (P.info? e).map (fun i => (i.zero,i.size,i.bytes)) = some (some z,size,bytes)) (hzs : z.cells.size = size) (hsz : 0 < size)
  (v : Value) (n : Nat) (xs : List Value) (hs : a.eval s = v) (hown : w.ownsRow base e size v n xs) (b off m c : Nat) (news : List Value) (hx : a.eval x = .slice (some ⟨b,off,none⟩) m c) (hl : news.length = m * size) (hnews : ∀ j u,news[j]? = some u → w.cell? ⟨b,off + j,none⟩ = some u) (h1 : ∀ u ∈ news,u.oneCell' = true)
  (h63 : n + m ≤ 100000) (hbytes : bytes ≤ 1000) (hbase : base ≤ w.heap.size)
  (hK : ∀ v' w',w'.ownsRow base e size v' (n + m) (xs ++ news) → w.grownBy w' v.ownBlock → (v'.ownBlock = v.ownBlock ∨ v'.ownBlock = some w.heap.size) → wpListIn F 0 P ops Q rest (a.put o.dst v') w') : wpListIn F 0 P ops Q (o :: rest) a w :=
 wpListIn_opOK hF hg (fun c hc => by rw [ho] at hc; cases hc) (opOK_appendN_at s x t ho base e z size bytes ht hi hzs hsz v n xs hs hown b off m c news hx hl hnews h1 h63 hbytes hbase) fun v' w' ⟨h1,h2,h3⟩ => hK v' w' h1 h2 h3
structure BoxRow (bx : Nat) (tb e : TypeId) (size n : Nat) (xs : List Value) (O : Nat → Prop) (lv : Value) (W : World) : Prop where
 o : ∀ k,O k ↔ k = bx ∨ lv.ownBlock = some k
 box : W.heap[bx]? = some (.cells #[lv] tb (0,0))
 row : W.ownsRow (bx + 1) e size lv n xs
theorem BoxRow.stab {bx : Nat} {tb e : TypeId} {size n : Nat} {xs : List Value} {O : Nat → Prop} {lv : Value} {A B : World} (h : BoxRow bx tb e size n xs O lv A) (hk : ∀ k,k < A.heap.size → O k → B.heap[k]? = A.heap[k]?) : BoxRow bx tb e size n xs O lv B :=
 ⟨h.o,(hk bx (Array.getElem?_eq_some_iff.1 h.box).1 ((h.o bx).2 (.inl rfl))).trans h.box,ownsN_kept h.row fun g hg => hk g (h.row.lt g hg).2 ((h.o g).2 (.inr hg))⟩
theorem BoxRow.more {bx : Nat} {tb e : TypeId} {size n m : Nat} {xs news : List Value} {O : Nat → Prop} {lv lv' : Value} {W Wa Wb : World} (h : BoxRow bx tb e size n xs O lv W) (hb : Below W.heap.size W Wa)
  (ho : Wb.ownsRow (bx + 1) e size lv' (n + m) (xs ++ news)) (hg : Wa.grownBy Wb lv.ownBlock) (hat : lv'.ownBlock = lv.ownBlock ∨ lv'.ownBlock = some Wa.heap.size) :
  BoxRow bx tb e size (n + m) (xs ++ news) (fun k => k = bx ∨ lv'.ownBlock = some k) lv' (Wb.setCell ⟨bx,0,none⟩ lv') ∧ Rel O W (fun k => k = bx ∨ lv'.ownBlock = some k) (Wb.setCell ⟨bx,0,none⟩ lv') ∧
   Wb.cell? ⟨bx,0,none⟩ = some lv ∧ Wb.frozen? ⟨bx,0,none⟩ = false:=by
 have hbl : bx < W.heap.size:=(Array.getElem?_eq_some_iff.1 h.box).1
 have hba : bx < Wa.heap.size:=Nat.lt_of_lt_of_le hbl hb.size;have hbx : Wb.heap[bx]? = some (.cells #[lv] tb (0,0)):=(hg.block bx hba (fun e => by have:=(h.row.lt bx e.symm).1; omega)).trans ((hb.block bx hbl).trans h.box)
 have hne : ∀ g,lv'.ownBlock = some g → g ≠ bx:=fun g hg e => by have:=(ho.lt g hg).1; omega
 refine ⟨⟨fun _ => Iff.rfl,by rw [heap_setCell_at hbx]; rfl,ownsN_kept ho fun g hg => Below.heap_setCell _ _ _ _ (hne g hg)⟩,⟨hg.os.trans hb.os,hg.tape.trans hb.tape,hg.output.trans hb.output, ?_,fun k hk hn => ?_,fun k hk => ?_,fun k hk => ?_⟩,by rw [cell_of_heap hbx]; rfl,frozen_of_heap hbx⟩
 ·have:=hg.size; have:=hb.size; simp; omega
 ·have h1 : ¬ k = bx:=fun e => hn ((h.o k).2 (.inl e))
  have h2 : ¬ lv.ownBlock = some k:=fun e => hn ((h.o k).2 (.inr e))
  rw [Below.heap_setCell _ _ _ _ h1,hg.block k (Nat.lt_of_lt_of_le hk hb.size) (fun e => h2 e.symm)]
  exact hb.block k hk
 ·rcases hk with rfl | hk
  ·exact .inl ((h.o k).2 (.inl rfl))
  ·rcases hat with e | e
   ·exact .inl ((h.o k).2 (.inr (e.symm.trans hk)))
   ·rw [e] at hk; cases hk; exact .inr hb.size
 ·rcases hk with rfl | hk
  ·have:=hg.size; simp; omega
  ·have:=(ho.lt k hk).2; simpa using this
end
open Go Go.RowKit
section
variable {P : Program} {w : World}
theorem run_append_empty (t ty e : TypeId) (i : TypeInfo) (z : Value) (ht : P.underlying t = some (.slice e)) (hi : P.info? e = some i) (_hz : i.zero = some z) (b : Addr) (a : Option Addr) (cap : Nat) :
  (Builtin.append_ #[t,t] ty #[.slice (some b) 0 0,.slice a 0 cap]).run P w = .ok (.slice (some b) 0 0) w:=by
 cases a <;> simp [Builtin.append_,run_underlying ht,sizeOf,typeInfo,hi,Builtin.lenOf,Builtin.firstCells,loadCells,loadCellsFrom,storeCells,Sem.run_pure]
theorem flat_len {size : Nat} : ∀ {rows : List (List Value)},(∀ r ∈ rows,r.length = size) → rows.flatten.length = rows.length * size
 | [],_ => by simp
 | r :: rows,h => by rw [List.flatten_cons,List.length_append,h r (by simp),flat_len (fun r hr => h r (by simp [hr])),List.length_cons,Nat.add_mul]; omega
theorem SlN.to1 {S : Nat → Prop} {v : Value} {xs : List Value} (h : SlN 1 S w v (xs.map fun x => [x])) : Sl S w v xs:=by
 obtain ⟨a,cap,rfl,h2,h3,h4⟩ := h;refine ⟨a,cap,by simp,by simpa using h2,h3,fun i x hx => ?_⟩
 obtain ⟨_,b,off,e,s,c⟩ := h4 i [x] (by simp [hx])
 exact ⟨b,off,e,s,by simpa using c 0 x rfl⟩
end
end Go.Oche
