/- The texts MpD, KY, VC, VD, VE, VF, VG, VJ, in build order. -/
import Derived.Test.YtnbmgkmcaoafnaaGreatDoorZah
import Derived.Laws.StructEq

/- delete(m, k), and a range over a map in which keys that were handed out are struck. -/
namespace Go.Oche
open Go Go.RowKit
section
variable {κ : Type} [DecidableEq κ] {P : Program} {K : TypeId} {enc : κ → Value}
omit [DecidableEq κ] in
theorem map_eraseI {α β : Type} (f : α → β) : ∀ (l : List α) (i : Nat),(l.eraseIdx i).map f = (l.map f).eraseIdx i
 | [],i => by simp
 | a :: l,0 => rfl
 | a :: l,i + 1 => by rw [List.eraseIdx_cons_succ,List.map_cons,List.map_cons,List.eraseIdx_cons_succ,map_eraseI f l i]
theorem erase_key {L : List (κ × Value)} {k : κ} (hn : (L.map (·.1)).Nodup) {i : Nat} (hi : (L.map (·.1))[i]? = some k) : L.eraseIdx i = L.filter fun p => decide (p.1 ≠ k):=by
 induction L generalizing i with
 | nil => rfl
 | cons p L ih =>
  rw [List.map_cons,List.nodup_cons] at hn;cases i with
  | zero =>
   simp at hi
   subst hi;rw [List.eraseIdx_cons_zero,List.filter_cons_of_neg (by simp)]
   refine (List.filter_eq_self.2 fun q hq => ?_).symm
   rw [decide_eq_true_eq];intro e;exact hn.1 (by rw [← e]; exact List.mem_map_of_mem hq)
  | succ i =>
   rw [List.map_cons,List.getElem?_cons_succ] at hi
   have hne : p.1 ≠ k:=fun e => hn.1 (by rw [e]; exact List.mem_of_getElem? hi)
   rw [List.eraseIdx_cons_succ,List.filter_cons_of_pos (by simpa using hne),ih hn.2 hi]
theorem filter_none {L : List (κ × Value)} {k : κ} (h : k ∉ L.map (·.1)) : L.filter (fun p => decide (p.1 ≠ k)) = L :=
 List.filter_eq_self.2 fun q hq => by rw [decide_eq_true_eq]; intro e; exact h (by rw [← e]; exact List.mem_map_of_mem hq)
theorem Born.erase {es : Array MapEntry} {clock i : Nat} (h : Born es clock) : Born (es.eraseIdxIfInBounds i) clock:=by
 have hs : (es.eraseIdxIfInBounds i).toList.Sublist es.toList:=by
  rw [Array.toList_eraseIdxIfInBounds]; exact List.eraseIdx_sublist _ _
 exact ⟨h.1.sublist (hs.map _),fun e he => h.2 e (hs.mem he)⟩
theorem MapAt.delete_run (KE : KeyEq P K enc) {T E : TypeId} (ht : P.underlying T = some (.map K E)) {W : World} {b : Nat} {es : Array MapEntry} {clock : Nat} {L : List (κ × Value)} (h1 : W.heap[b]? = some (.map es clock)) (h2 : es.toList.map (·.key) = L.map (fun p => enc p.1)) (h3 : es.toList.map (·.val) = L.map (·.2)) (hn : (L.map (·.1)).Nodup) (k : κ) (ty : TypeId) :
  ∃ es',(Builtin.delete_ #[T,K] ty #[.map (some b),enc k]).run P W = .ok (.tuple #[]) { W with heap:=W.heap.setIfInBounds b (.map es' clock) } ∧ es'.toList.map (·.key) = (L.filter fun p => decide (p.1 ≠ k)).map (fun p => enc p.1) ∧ es'.toList.map (·.val) = (L.filter fun p => decide (p.1 ≠ k)).map (·.2) ∧
   es'.toList.Sublist es.toList ∧ (∀ e ∈ es.toList,e ∉ es'.toList → e.key = enc k) ∧ (Born es clock → Born es' clock):=by
 have hlen : es.toList.length = (L.map (·.1)).length:=by have:=congrArg List.length h2; simpa using this
 have hf:=KE.fnd k (L.map (·.1)) es.toList W (by rw [h2,List.map_map]; rfl)
 unfold Builtin.delete_;simp only [List.getElem?_toArray,List.getElem?_cons_zero,List.getElem?_cons_succ,Sem.run_bind,run_underlying ht,Result.andThen,MapKept.run_getObj_map h1,KE.chk,hf]
 cases hfl : findL k (L.map (·.1)) es.toList 0 with
 | none =>
  have hnk:=findL_none hlen hfl;simp only [Sem.run_bind,MapKept.run_setObj_map _ h1,Result.andThen_ok,Sem.run_pure];refine ⟨es,rfl, ?_, ?_,List.Sublist.refl _,fun e he hne => (hne he).elim,id⟩
  ·rw [filter_none hnk]; exact h2
  ·rw [filter_none hnk]; exact h3
 | some r =>
  obtain ⟨i,v0⟩ := r;obtain ⟨q,e1,e2,e3,e4⟩ := findL_some hfl;rw [Nat.zero_add] at e1;subst e1;simp only [Sem.run_bind,MapKept.run_setObj_map _ h1,Result.andThen_ok,Sem.run_pure];have he:=erase_key hn e2;refine ⟨_,rfl, ?_, ?_, ?_,fun e hm hne => ?_,fun hb => hb.erase⟩
  ·rw [Array.toList_eraseIdxIfInBounds,map_eraseI,h2,← map_eraseI,he]
  ·rw [Array.toList_eraseIdxIfInBounds,map_eraseI,h3,← map_eraseI,he]
  ·rw [Array.toList_eraseIdxIfInBounds]; exact List.eraseIdx_sublist _ _
  ·rw [Array.toList_eraseIdxIfInBounds] at hne
   obtain ⟨j,hj⟩ := List.getElem?_of_mem hm
   by_cases c : j = i
   ·subst c
    have:=congrArg (fun l => l[j]?) h2
    simp only [List.getElem?_map,hj,Option.map_some] at this
    rw [List.getElem?_map] at e2
    cases hL : L[j]? with
    | none => rw [hL] at e2; cases e2
    | some p =>
     rw [hL] at this e2;simp at this e2;rw [this,e2]
   ·refine (hne ?_).elim
    rw [List.mem_eraseIdx_iff_getElem?];exact ⟨j,c,hj⟩
theorem MapAt.delete (KE : KeyEq P K enc) {T E : TypeId} (ht : P.underlying T = some (.map K E)) {W : World} {b : Nat} {L : List (κ × Value)} (h : MapAt enc W b L) (hn : (L.map (·.1)).Nodup) (k : κ) (ty : TypeId) :
  ∃ W',(Builtin.delete_ #[T,K] ty #[.map (some b),enc k]).run P W = .ok (.tuple #[]) W' ∧ MapAt enc W' b (L.filter fun p => decide (p.1 ≠ k)) ∧ W.grownBy W' (some b):=by
 obtain ⟨es,clock,h1,h2,h3,h4⟩ := h;obtain ⟨es',hr,k2,k3,_,_,k4⟩ := MapAt.delete_run KE ht h1 h2 h3 hn k ty;exact ⟨_,hr,⟨es',clock,(MapKept.heap_set h1).1,k2,k3,k4 h4⟩,⟨rfl,rfl,rfl,by simp,fun q _ hq => (MapKept.heap_set h1).2 q (fun e => hq (by rw [e]))⟩⟩
omit [DecidableEq κ] in
theorem keys_nodup {dec : Value → κ} (hd : ∀ k,dec (enc k) = k) {es : Array MapEntry} {L : List (κ × Value)} (h : es.toList.map (·.key) = L.map (fun p => enc p.1)) (hn : (L.map (·.1)).Nodup) : (es.toList.map (·.key)).Nodup:=by
 rw [h];have h0 : ((L.map (·.1)).map enc).Nodup:=List.Pairwise.map enc (fun a b hab e => hab (by rw [← hd a,← hd b,e])) hn
 rw [List.map_map] at h0;exact h0
theorem key_inj : ∀ {l : List MapEntry},(l.map (·.key)).Nodup → ∀ {x y : MapEntry},x ∈ l → y ∈ l → x.key = y.key → x = y
 | [],_,x,y,hx,_,_ => by cases hx
 | z :: l,hn,x,y,hx,hy,hxy => by
  rw [List.map_cons,List.nodup_cons] at hn;rcases List.mem_cons.1 hx with e1 | h1
  ·rcases List.mem_cons.1 hy with e2 | h2
   ·rw [e1,e2]
   ·exact (hn.1 (by rw [← e1,hxy]; exact List.mem_map_of_mem h2)).elim
  ·rcases List.mem_cons.1 hy with e2 | h2
   ·exact (hn.1 (by rw [← e2,← hxy]; exact List.mem_map_of_mem h1)).elim
   ·exact key_inj hn.2 h1 h2 hxy
def SeenD (enc : κ → Value) (W : World) (r b : Nat) (L0 L : List (κ × Value)) (ks : List κ) : Prop :=
 ∃ (es0 es : Array MapEntry) (clock since c0 : Nat) (seen : Array Nat) (q : List MapEntry),W.heap[b]? = some (.map es clock) ∧ W.heap[r]? = some (.mapIter (some b) since seen c0) ∧ since ≤ c0 ∧ since ≤ clock ∧
  es0.toList.map (·.key) = L0.map (fun p => enc p.1) ∧ Born es0 since ∧ es.toList.map (·.key) = L.map (fun p => enc p.1) ∧ es.toList.map (·.val) = L.map (·.2) ∧ es.toList.Sublist es0.toList ∧ (∀ e ∈ es0.toList,e ∉ es.toList → e ∈ q) ∧
  q.map (·.born) = seen.toList ∧ q.map (·.key) = ks.map enc ∧ (∀ e ∈ q,e ∈ es0.toList) ∧ q.Nodup
omit [DecidableEq κ] in
theorem SeenD.of {W : World} {r b : Nat} {L : List (κ × Value)} (h : SeenAt enc W r b L []) : SeenD enc W r b L L []:=by
 obtain ⟨es,c,s,q,h1,h2,h3,h4,h5,h6,h7,h8,h9⟩ := h;exact ⟨es,es,c,c,c,s,q,h1,h2,Nat.le_refl _,Nat.le_refl _,h3,h5,h3,h4,List.Sublist.refl _,fun e he hn => (hn he).elim,h6,h7,h8,h9⟩
omit [DecidableEq κ] in
theorem SeenD.map {W : World} {r b : Nat} {L0 L : List (κ × Value)} {ks : List κ} (h : SeenD enc W r b L0 L ks) : MapAt enc W b L:=by
 obtain ⟨es0,es,c,since,c0,s,q,h1,h2,h3,h4,h5,h6,h7,h8,h9,_⟩ := h;exact ⟨es,c,h1,h7,h8,h6.1.sublist (h9.map _),fun e he => Nat.lt_of_lt_of_le (h6.2 e (h9.mem he)) h4⟩
omit [DecidableEq κ] in
theorem SeenD.keep {W W' : World} {r b : Nat} {L0 L : List (κ × Value)} {ks : List κ} (h : SeenD enc W r b L0 L ks) (hb : W'.heap[b]? = W.heap[b]?) (hr : W'.heap[r]? = W.heap[r]?) : SeenD enc W' r b L0 L ks:=by
 obtain ⟨es0,es,c,since,c0,s,q,h1,h2,h3⟩ := h; exact ⟨es0,es,c,since,c0,s,q,hb.trans h1,hr.trans h2,h3⟩
omit [DecidableEq κ] in
theorem SeenD.lt {W : World} {r b : Nat} {L0 L : List (κ × Value)} {ks : List κ} (h : SeenD enc W r b L0 L ks) : r < W.heap.size ∧ b < W.heap.size ∧ r ≠ b:=by
 obtain ⟨es0,es,c,since,c0,s,q,h1,h2,_⟩ := h;refine ⟨(Array.getElem?_eq_some_iff.1 h2).1,(Array.getElem?_eq_some_iff.1 h1).1,fun e => ?_⟩
 rw [e,h1] at h2; cases h2
omit [DecidableEq κ] in
theorem SeenD.next {dec : Value → κ} (hd : ∀ k,dec (enc k) = k) {W : World} {r b : Nat} {L0 L : List (κ × Value)} {ks : List κ} (h : SeenD enc W r b L0 L ks) (hn0 : (L0.map (·.1)).Nodup) (ty : TypeId) :
  ((Instr.next (.pointer (some ⟨r,0,none⟩)) false ty).run P W = .ok (.tuple #[.bool false]) W ∧ ks.Perm (L0.map (·.1))) ∨
  ∃ k v W',(k,v) ∈ L ∧ k ∉ ks ∧ ks.length < L0.length ∧ (Instr.next (.pointer (some ⟨r,0,none⟩)) false ty).run P W = .ok (.tuple #[.bool true,enc k,v]) W' ∧ SeenD enc W' r b L0 L (ks ++ [k]) ∧ W.grownBy W' (some r) ∧ W'.heap.size = W.heap.size ∧
   (Instr.entry (.pointer (some ⟨r,0,none⟩))).run P W' = .ok (.tuple #[enc k,v]) W':=by
 obtain ⟨es0,es,c,since,c0,seen,q,h1,h2,hsc,hsk,h3,h5,g3,g4,hsub,hgone,h6,h7,h8,h9⟩ := h;have hlenL : es.toList.length = L.length:=by have:=congrArg List.length g4; simpa using this
 have hlen0 : es0.toList.length = L0.length:=by have:=congrArg List.length h3; simpa using this
 have hlenq : q.length = ks.length:=by have:=congrArg List.length h7; simpa using this
 have hnb : (es.toList.map (·.born)).Nodup:=(born_nodup h5).sublist (hsub.map _)
 have hnd0 : es0.toList.Nodup:=List.Pairwise.of_map (·.born) (fun _ _ h e => h (congrArg _ e)) (born_nodup h5)
 have hmem : ∀ x : Nat,seen.contains x = true ↔ ∃ e ∈ q,e.born = x:=fun x => by
  rw [Array.contains_iff_mem,← Array.mem_toList_iff,← h6,List.mem_map]
 rcases run_next_at (P:=P) W ty r b since c0 seen es c h2 h1 (fun x hx => h5.2 x (hsub.mem hx)) hsc with ⟨h0,hrun⟩ | ⟨e,he,w1,hw1,hrun⟩
 ·left
  refine ⟨hrun, ?_⟩
  have hall : ∀ e ∈ es0.toList,e ∈ q:=fun e he0 => by
   by_cases he : e ∈ es.toList
   ·have hc : seen.contains e.born = true:=by
     cases hx : seen.contains e.born with
     | true => rfl
     | false =>
      have : e ∈ leftOf es seen:=Array.mem_filter.2 ⟨by simpa using he,by simpa using hx⟩
      have hz : leftOf es seen = #[]:=Array.eq_empty_of_size_eq_zero h0;rw [hz] at this; simp at this
    obtain ⟨e',he',hb⟩ := (hmem _).1 hc;rw [← born_inj h5 he0 (h8 e' he') hb]; exact he'
   ·exact hgone e he0 he
  have hp : q.Perm es0.toList:=(List.perm_ext_iff_of_nodup h9 hnd0).2 fun a => ⟨h8 a,hall a⟩
  have:=(hp.map (·.key)).map dec
  rw [h7,h3,List.map_map,List.map_map] at this
  simpa [Function.comp_def,hd] using this
 ·right
  obtain ⟨hes,hns⟩ := mem_left he;have hnq : e ∉ q:=fun hq => by
   have:=(hmem e.born).2 ⟨e,hq,rfl⟩;rw [this] at hns; cases hns
  obtain ⟨i,hi⟩ := List.getElem?_of_mem hes
  have hiL : i < L.length:=by rw [← hlenL]; exact (List.getElem?_eq_some_iff.1 hi).1
  have hk : e.key = enc L[i].1:=by
   have:=congrArg (fun l => l[i]?) g3
   simp only [List.getElem?_map,hi,Option.map_some,List.getElem?_eq_getElem hiL,Option.some.injEq] at this
   exact this
  have hv : e.val = L[i].2:=by
   have:=congrArg (fun l => l[i]?) g4
   simp only [List.getElem?_map,hi,Option.map_some,List.getElem?_eq_getElem hiL,Option.some.injEq] at this
   exact this
  have hb1 : w1.heap[b]? = some (.map es c):=by rcases hw1 with rfl | rfl <;> exact h1
  have hr1 : w1.heap[r]? = some (.mapIter (some b) since seen c0):=by rcases hw1 with rfl | rfl <;> exact h2
  have hne : r ≠ b:=fun e => by rw [e,h1] at h2; cases h2
  have hrlt : r < w1.heap.size:=(Array.getElem?_eq_some_iff.1 hr1).1
  have hb2 : (Go.ChangeMaps.setBlock w1 r (.mapIter (some b) since (seen.push e.born) c)).heap[b]? = some (.map es c):=by
   simp [Go.ChangeMaps.setBlock,hne,hb1]
  have hr2 : (Go.ChangeMaps.setBlock w1 r (.mapIter (some b) since (seen.push e.born) c)).heap[r]? = some (.mapIter (some b) since (seen.push e.born) c):=by
   simp [Go.ChangeMaps.setBlock,hrlt]
  have hen:=run_entry_at (P:=P) _ r b since seen es c e hr2 hb2 hes hnb;rw [hk,hv] at hen hrun;have he0 : e ∈ es0.toList:=hsub.mem hes;have hkn : L[i].1 ∉ ks:=by
   intro hm
   have : enc L[i].1 ∈ q.map (·.key):=by rw [h7]; exact List.mem_map_of_mem hm
   obtain ⟨e',he',hke⟩ := List.mem_map.1 this;have hnk:=keys_nodup hd h3 hn0;have:=key_inj hnk he0 (h8 e' he') (by rw [hke,hk])
   exact hnq (by rw [this]; exact he')
  have hlen : (e :: q).length ≤ es0.toList.length:=by
   refine List.Nodup.length_le_of_subset (l₁ := e :: q) (List.nodup_cons.2 ⟨hnq,h9⟩) fun x hx => ?_
   rcases List.mem_cons.1 hx with rfl | hx
   ·exact he0
   ·exact h8 x hx
  refine ⟨L[i].1,L[i].2,_,List.getElem_mem hiL,hkn, ?_,hrun,⟨es0,es,c,since,c,_,q ++ [e],hb2,hr2,hsk,hsk,h3,h5,g3,g4,hsub,fun x hx hxn => List.mem_append_left _ (hgone x hx hxn),by simp [h6],by simp [h7,hk],fun x hx => ?_, ?_⟩, ?_, ?_,hen⟩
  ·have:=hlen; simp only [List.length_cons] at this; omega
  ·rcases List.mem_append.1 hx with hx | hx
   ·exact h8 x hx
   ·simp at hx; subst hx; exact he0
  ·rw [List.nodup_append]
   exact ⟨h9,by simp,fun a ha b hb => by simp at hb; subst hb; exact fun e' => hnq (e' ▸ ha)⟩
  ·rcases hw1 with rfl | rfl
   ·exact setBlock_grown h2
   ·exact ⟨rfl,rfl,rfl,Nat.le_of_eq (by show W.heap.size = (W.heap.setIfInBounds r _).size; rw [Array.size_setIfInBounds]),fun q' hq' hne' => by
     have hne2 : r ≠ q':=fun e => hne' (by rw [e])
     show (W.heap.setIfInBounds r _)[q']? = W.heap[q']?
     rw [Array.getElem?_setIfInBounds_ne hne2]⟩
  ·rcases hw1 with rfl | rfl
   ·show (w1.heap.setIfInBounds r _).size = w1.heap.size; rw [Array.size_setIfInBounds]
   ·show (W.heap.setIfInBounds r _).size = W.heap.size; rw [Array.size_setIfInBounds]
theorem SeenD.delete (KE : KeyEq P K enc) {dec : Value → κ} (hd : ∀ k,dec (enc k) = k) {T E : TypeId} (ht : P.underlying T = some (.map K E)) {W : World} {r b : Nat} {L0 L : List (κ × Value)} {ks : List κ} (h : SeenD enc W r b L0 L ks) (hn : (L.map (·.1)).Nodup) {k : κ} (hk : k ∈ ks) (hn0 : (L0.map (·.1)).Nodup) (ty : TypeId) :
  ∃ W',(Builtin.delete_ #[T,K] ty #[.map (some b),enc k]).run P W = .ok (.tuple #[]) W' ∧ SeenD enc W' r b L0 (L.filter fun p => decide (p.1 ≠ k)) ks ∧ W.grownBy W' (some b):=by
 have hlt:=h.lt;obtain ⟨es0,es,c,since,c0,seen,q,h1,h2,hsc,hsk,h3,h5,g3,g4,hsub,hgone,h6,h7,h8,h9⟩ := h;obtain ⟨es',hr,k2,k3,k5,k6, -⟩ := MapAt.delete_run KE ht h1 g3 g4 hn k ty;have hnk:=keys_nodup hd h3 hn0;refine ⟨_,hr,⟨es0,es',c,since,c0,seen,q,(MapKept.heap_set h1).1,((MapKept.heap_set h1).2 r (fun e => hlt.2.2 e)).trans h2,hsc,hsk,h3,h5,k2,k3,k5.trans hsub,fun x hx hxn => ?_,h6,h7,h8,h9⟩,⟨rfl,rfl,rfl,by simp,fun q _ hq => (MapKept.heap_set h1).2 q (fun e => hq (by rw [e]))⟩⟩
 by_cases hxe : x ∈ es.toList
 ·have hxk:=k6 x hxe hxn
  have : enc k ∈ q.map (·.key):=by rw [h7]; exact List.mem_map_of_mem hk
  obtain ⟨e',he',hke⟩ := List.mem_map.1 this;rw [key_inj hnk hx (h8 e' he') (by rw [hxk,hke])]; exact he'
 ·exact hgone x hx hxe
end
end Go.Oche

/- Chapter 5: the keys of heard's maps: hits, stands, stands with darts, ends of visits, steps; and what their maps hold. -/
namespace Go.Proofs.YtnbmgkmcaoafnaaGreatDoor
open Go Go.RowKit Go.Oche Go.Proofs

def stV (s : Std) : Value:=.agg #[.int .i64 s.left,.bool s.inn]
def htV (h : Ht) : Value:=.agg #[.int .i64 h.score,.bool h.hin,.bool h.hout]
def enV (x : En) : Value:=.agg #[.int .i64 x.left,.bool x.inn,.bool x.bust,.bool x.won]
def atV (a : Std × Nat) : Value:=.agg #[.int .i64 a.1.left,.bool a.1.inn,.int .i64 (a.2 : Int)]
def spV (p : Std × Std) : Value:=.agg #[.int .i64 p.1.left,.bool p.1.inn,.int .i64 p.2.left,.bool p.2.inn]
def smV (s : Sm) : Value:=.agg #[.int .i64 (s.ways : Int),.int .i64 (s.lo : Int),.int .i64 (s.hi : Int)]

theorem std_in (n : Nat) (s t : Std) (w : World) : (Op.equalIn (n + 2) 106 (stV s) (stV t)).run Tryz.prog w = .ok (decide (t = s)) w:=by
 obtain ⟨a,b⟩ := s;obtain ⟨c,d⟩ := t;have hf : Tryz.prog.underlying 106 = some (.struct (Tryz.prog.fieldsOf 106)):=by kernel_rfl
 have hp : Tryz.prog.stoodInHeld 106 = false:=by kernel_rfl
 unfold stV;rw [run_equalIn_agg w (n + 1) _ _ _ hf hp];simp [Program.fieldsOf,Op.eqFields,go_sem,Tryz.underlying106];by_cases h : a = c <;> by_cases h2 : b = d <;> simp [h,h2]
 ·intro e; exact (h2 e.symm).elim
 all_goals (intro e; exact (h e.symm).elim)
theorem ht_in (n : Nat) (s t : Ht) (w : World) : (Op.equalIn (n + 2) 137 (htV s) (htV t)).run Tryz.prog w = .ok (decide (t = s)) w:=by
 obtain ⟨a,b,x⟩ := s;obtain ⟨c,d,y⟩ := t;have hf : Tryz.prog.underlying 137 = some (.struct (Tryz.prog.fieldsOf 137)):=by kernel_rfl
 have hp : Tryz.prog.stoodInHeld 137 = false:=by kernel_rfl
 unfold htV;rw [run_equalIn_agg w (n + 1) _ _ _ hf hp];simp [Program.fieldsOf,Op.eqFields,go_sem,Tryz.underlying137];by_cases h : a = c <;> by_cases h2 : b = d <;> by_cases h3 : x = y <;> simp [h,h2,h3,eq_comm]
theorem at_in (n : Nat) (s t : Std × Nat) (w : World) : (Op.equalIn (n + 3) 188 (atV s) (atV t)).run Tryz.prog w = .ok (decide (t = s)) w:=by
 obtain ⟨⟨a,b⟩,x⟩ := s;obtain ⟨⟨c,d⟩,y⟩ := t;have hf : Tryz.prog.underlying 188 = some (.struct (Tryz.prog.fieldsOf 188)):=by kernel_rfl
 have hp : Tryz.prog.stoodInHeld 188 = false:=by kernel_rfl
 have hi:=std_in n ⟨a,b⟩ ⟨c,d⟩;unfold stV at hi;unfold atV;rw [run_equalIn_agg w (n + 2) _ _ _ hf hp];simp [Program.fieldsOf,Op.eqFields,go_sem,Tryz.underlying188,hi];by_cases h : a = c <;> by_cases h2 : b = d <;> by_cases h3 : x = y <;> simp [h,h2,h3,eq_comm]
 all_goals omega
theorem en_in (n : Nat) (s t : En) (w : World) : (Op.equalIn (n + 3) 150 (enV s) (enV t)).run Tryz.prog w = .ok (decide (t = s)) w:=by
 obtain ⟨a,b,x,u⟩ := s;obtain ⟨c,d,y,v⟩ := t;have hf : Tryz.prog.underlying 150 = some (.struct (Tryz.prog.fieldsOf 150)):=by kernel_rfl
 have hp : Tryz.prog.stoodInHeld 150 = false:=by kernel_rfl
 have hi:=std_in n ⟨a,b⟩ ⟨c,d⟩;unfold stV at hi;unfold enV;rw [run_equalIn_agg w (n + 2) _ _ _ hf hp];simp [Program.fieldsOf,Op.eqFields,go_sem,Tryz.underlying150,hi];by_cases h : a = c <;> by_cases h2 : b = d <;> by_cases h3 : x = y <;> by_cases h4 : u = v <;> simp [h,h2,h3,h4,eq_comm]
theorem ag_kind {K : TypeId} {d : TypeDesc} (_h : Tryz.prog.underlying K = some d) (hd : (∃ fs,d = .struct fs) ∨ ∃ n e,d = .array n e) : ∀ a b,Instr.sameNow d a b = none:=by
 rcases hd with ⟨fs,rfl⟩ | ⟨n,e,rfl⟩ <;> intro a b <;> cases a <;> cases b <;> rfl
theorem sb_int (n : Nat) (k : IntKind) (a : Int) : Instr.sameBits n (.int k a) (.int k a) = true:=by cases n <;> simp [Instr.sameBits]
theorem sb_bool (n : Nat) (a : Bool) : Instr.sameBits n (.bool a) (.bool a) = true:=by cases n <;> simp [Instr.sameBits]
theorem sb_st (s : Std) : Instr.sameBits 10000 (stV s) (stV s) = true:=by unfold stV Instr.sameBits; simp [sb_int,sb_bool]
theorem sb_ht (s : Ht) : Instr.sameBits 10000 (htV s) (htV s) = true:=by unfold htV Instr.sameBits; simp [sb_int,sb_bool]
theorem sb_at (s : Std × Nat) : Instr.sameBits 10000 (atV s) (atV s) = true:=by unfold atV Instr.sameBits; simp [sb_int,sb_bool]
theorem sb_en (s : En) : Instr.sameBits 10000 (enV s) (enV s) = true:=by unfold enV Instr.sameBits; simp [sb_int,sb_bool]
theorem sb_sp (s : Std × Std) : Instr.sameBits 10000 (spV s) (spV s) = true:=by unfold spV Instr.sameBits; simp [sb_int,sb_bool]
theorem st_key : KeyEq Tryz.prog 106 stV :=
 have hf : Tryz.prog.underlying 106 = some (.struct (Tryz.prog.fieldsOf 106)):=by kernel_rfl
 KeyEq.of_ask hf (ag_kind hf (.inl ⟨_,rfl⟩)) (fun k k' w => std_in 9998 k k' w) (fun c k w => by cases k; kernel_rfl) sb_st
theorem ht_key : KeyEq Tryz.prog 137 htV :=
 have hf : Tryz.prog.underlying 137 = some (.struct (Tryz.prog.fieldsOf 137)):=by kernel_rfl
 KeyEq.of_ask hf (ag_kind hf (.inl ⟨_,rfl⟩)) (fun k k' w => ht_in 9998 k k' w) (fun c k w => by cases k; kernel_rfl) sb_ht
theorem at_key : KeyEq Tryz.prog 188 atV :=
 have hf : Tryz.prog.underlying 188 = some (.struct (Tryz.prog.fieldsOf 188)):=by kernel_rfl
 KeyEq.of_ask hf (ag_kind hf (.inl ⟨_,rfl⟩)) (fun k k' w => at_in 9997 k k' w) (fun c k w => by obtain ⟨⟨_,_⟩,_⟩ := k; kernel_rfl) sb_at
theorem en_key : KeyEq Tryz.prog 150 enV :=
 have hf : Tryz.prog.underlying 150 = some (.struct (Tryz.prog.fieldsOf 150)):=by kernel_rfl
 KeyEq.of_ask hf (ag_kind hf (.inl ⟨_,rfl⟩)) (fun k k' w => en_in 9997 k k' w) (fun c k w => by cases k; kernel_rfl) sb_en
theorem sp_in (n : Nat) (s t : Std × Std) (w : World) : (Op.equalIn (n + 3) 107 (spV s) (spV t)).run Tryz.prog w = .ok (decide (t = s)) w:=by
 obtain ⟨⟨a,b⟩,⟨x,u⟩⟩ := s;obtain ⟨⟨c,d⟩,⟨y,v⟩⟩ := t;have hi : ∀ a b c e w,(Op.equalIn (n + 2) 106 (.agg #[.int .i64 a,.bool b]) (.agg #[.int .i64 c,.bool e])).run Tryz.prog w = .ok (decide (Std.mk c e = Std.mk a b)) w:=fun a b c e w => std_in n ⟨a,b⟩ ⟨c,e⟩ w
 unfold spV Op.equalIn;have hu : Tryz.prog.underlying 107 = some (.array 2 106):=by kernel_rfl
 have hs : ∀ w,(sizeOf 106).run Tryz.prog w = .ok 2 w:=fun w => by kernel_rfl
 simp only [Sem.run_bind,run_underlying hu,Result.andThen,hs];simp [go_sem,List.range',Sem.run_bind,hi,Result.andThen,Sem.run_pure];by_cases h : a = c <;> by_cases h2 : b = d <;> by_cases h3 : x = y <;> by_cases h4 : u = v <;> simp [h,h2,h3,h4,eq_comm,hi,Result.andThen,Sem.run_pure]
theorem sp_key : KeyEq Tryz.prog 107 spV :=
 have hf : Tryz.prog.underlying 107 = some (.array 2 106):=by kernel_rfl
 KeyEq.of_ask hf (ag_kind hf (.inr ⟨_,_,rfl⟩)) (fun k k' w => sp_in 9997 k k' w) (fun c k w => by obtain ⟨⟨_,_⟩,⟨_,_⟩⟩ := k; kernel_rfl) sb_sp
theorem zero_i (w : World) : (zeroValue 3).run Tryz.prog w = .ok (.int .i64 0) w:=by kernel_rfl
theorem zero_b (w : World) : (zeroValue 4).run Tryz.prog w = .ok (.bool false) w:=by kernel_rfl
theorem zero_some (w : World) : (zeroValue 109).run Tryz.prog w = .ok (smV ⟨0,0,0⟩) w:=by kernel_rfl
theorem zero_ends (w : World) : (zeroValue 147).run Tryz.prog w = .ok (.map none) w:=by kernel_rfl
open Go.RowKit Go.Oche Go.Proofs

structure Rp where
 turn : Int
 score : Int
 left : Int
deriving DecidableEq
structure Sp where
 bef : Std
 en : En
 darts : Nat
deriving DecidableEq
def Sp.aft (s : Sp) : Std:=s.en.std
def fitsP (s : Std) (x : En) (said : List Rp) : Bool:=said.all fun r => (r.score == -1 || r.score == s.left - x.left) && (r.left == -1 || r.left == x.left)
def addNew {α : Type} [DecidableEq α] (acc : List α) (s : α) : List α := if s ∈ acc then acc else acc ++ [s]
def firsts {α : Type} [DecidableEq α] (l : List α) : List α := l.foldl addNew []
def OkS (l : Lg) (said : Int → List Rp) (t : Int) (sp : Sp) : Prop:=(sp.en,sp.darts) ∈ vis5 l sp.bef ∧ sp.en.won = (l.won && (t == l.turns - 1)) ∧ fitsP sp.bef sp.en (said t) = true
def stepL (l : Lg) (said : Int → List Rp) (t : Int) (now : List Std) : List Sp :=
 now.flatMap fun s => ((vis5 l s).filter fun p => (p.1.won == (l.won && (t == l.turns - 1))) && fitsP s p.1 (said t)).map fun p => ⟨s,p.1,p.2⟩
def followL (l : Lg) (said : Int → List Rp) : List Int → List Std → List (List Sp) × List Std
 | [],now => ([],now)
 | t :: ts,now => (stepL l said t now :: (followL l said ts (firsts ((stepL l said t now).map Sp.aft))).1,(followL l said ts (firsts ((stepL l said t now).map Sp.aft))).2)
def pruneL : List (List Sp) → List Std → List (List Sp) × List Std
 | [],now => ([],now)
 | st :: rest,now => ((st.filter fun s => decide (s.aft ∈ (pruneL rest now).2)) :: (pruneL rest now).1,firsts ((st.filter fun s => decide (s.aft ∈ (pruneL rest now).2)).map Sp.bef))
def Run (l : Lg) (said : Int → List Rp) : List Int → Std → List Sp → Prop
 | [],_,r => r = []
 | t :: ts,s,r => ∃ sp r',r = sp :: r' ∧ sp.bef = s ∧ OkS l said t sp ∧ Run l said ts sp.aft r'
section
variable {α : Type} [DecidableEq α]
theorem mem_addNew {acc : List α} {s x : α} : x ∈ addNew acc s ↔ x ∈ acc ∨ x = s:=by
 unfold addNew;split
 ·rename_i h; exact ⟨.inl,fun e => e.elim id fun e => e ▸ h⟩
 ·simp
theorem mem_foldl_new {x : α} : ∀ {l acc : List α},x ∈ l.foldl addNew acc ↔ x ∈ acc ∨ x ∈ l
 | [],acc => by simp
 | s :: l,acc => by
  rw [List.foldl_cons,mem_foldl_new,mem_addNew,List.mem_cons,or_assoc]
theorem mem_firsts {x : α} {l : List α} : x ∈ firsts l ↔ x ∈ l:=by
 unfold firsts; rw [mem_foldl_new]; simp
theorem nodup_addNew {acc : List α} (h : acc.Nodup) (s : α) : (addNew acc s).Nodup:=by
 unfold addNew;split
 ·exact h
 ·rename_i hn
  rw [List.nodup_append];exact ⟨h,by simp,fun a ha b hb e => hn (by rw [List.mem_singleton] at hb; rw [← hb,← e]; exact ha)⟩
theorem nodup_foldl_new : ∀ {l acc : List α},acc.Nodup → (l.foldl addNew acc).Nodup
 | [],_,h => h
 | s :: l,acc,h => by rw [List.foldl_cons]; exact nodup_foldl_new (nodup_addNew h s)
theorem nodup_firsts (l : List α) : (firsts l).Nodup:=nodup_foldl_new List.nodup_nil
end
variable {l : Lg} {said : Int → List Rp}
theorem mem_stepL {t : Int} {now : List Std} {sp : Sp} : sp ∈ stepL l said t now ↔ sp.bef ∈ now ∧ OkS l said t sp:=by
 unfold stepL OkS;rw [List.mem_flatMap];constructor
 ·rintro ⟨s,hs,h⟩
  obtain ⟨p,hp,rfl⟩ := List.mem_map.1 h;obtain ⟨h1,h2⟩ := List.mem_filter.1 hp;rw [Bool.and_eq_true,beq_iff_eq] at h2;exact ⟨hs,h1,h2.1,h2.2⟩
 ·rintro ⟨h1,h2,h3,h4⟩
  exact ⟨sp.bef,h1,List.mem_map.2 ⟨(sp.en,sp.darts),List.mem_filter.2 ⟨h2,by rw [Bool.and_eq_true,beq_iff_eq]; exact ⟨h3,h4⟩⟩,rfl⟩⟩
theorem followL_len : ∀ (ts : List Int) (now : List Std),(followL l said ts now).1.length = ts.length
 | [],_ => rfl
 | t :: ts,now => by rw [followL,List.length_cons,List.length_cons,followL_len ts]
theorem pruneL_len : ∀ (ss : List (List Sp)) (now : List Std),(pruneL ss now).1.length = ss.length
 | [],_ => rfl
 | st :: ss,now => by rw [pruneL,List.length_cons,List.length_cons,pruneL_len ss]
theorem prune_bef : ∀ (ts : List Int) (now : List Std) (s : Std),s ∈ (pruneL (followL l said ts now).1 (followL l said ts now).2).2 ↔ s ∈ now ∧ ∃ r,Run l said ts s r
 | [],now,s => by simp [followL,pruneL,Run]
 | t :: ts,now,s => by
  rw [followL,pruneL,mem_firsts,List.mem_map];constructor
  ·rintro ⟨sp,h,rfl⟩
   obtain ⟨h1,h2⟩ := List.mem_filter.1 h;rw [decide_eq_true_eq] at h2;obtain ⟨h3,h4⟩ := mem_stepL.1 h1;obtain ⟨-,r,hr⟩ := (prune_bef ts _ _).1 h2;exact ⟨h3,sp :: r,sp,r,rfl,rfl,h4,hr⟩
  ·rintro ⟨hs,r,sp,r',rfl,h1,h2,h3⟩
   subst h1;have hst : sp ∈ stepL l said t now:=mem_stepL.2 ⟨hs,h2⟩;exact ⟨sp,List.mem_filter.2 ⟨hst,decide_eq_true ((prune_bef ts _ _).2 ⟨mem_firsts.2 (List.mem_map_of_mem hst),r',h3⟩)⟩,rfl⟩
theorem prune_kept : ∀ (ts : List Int) (now : List Std) (i : Nat) (sp : Sp),(∃ k,(pruneL (followL l said ts now).1 (followL l said ts now).2).1[i]? = some k ∧ sp ∈ k) ↔ ∃ s ∈ now, ∃ r,Run l said ts s r ∧ r[i]? = some sp
 | [],now,i,sp => by
  simp only [followL,pruneL,Run];constructor
  ·rintro ⟨k,h,_⟩; simp at h
  ·rintro ⟨s,_,r,rfl,h⟩; simp at h
 | t :: ts,now,0,sp => by
  rw [followL,pruneL];simp only [List.getElem?_cons_zero,Option.some.injEq,exists_eq_left']
  constructor
  ·intro h
   obtain ⟨h1,h2⟩ := List.mem_filter.1 h;rw [decide_eq_true_eq] at h2;obtain ⟨h3,h4⟩ := mem_stepL.1 h1;obtain ⟨-,r,hr⟩ := (prune_bef ts _ _).1 h2;exact ⟨sp.bef,h3,sp :: r,⟨sp,r,rfl,rfl,h4,hr⟩,rfl⟩
  ·rintro ⟨s,hs,r,⟨sp',r',rfl,h1,h2,h3⟩,h⟩
   simp at h
   subst h h1;have hst : sp' ∈ stepL l said t now:=mem_stepL.2 ⟨hs,h2⟩;exact List.mem_filter.2 ⟨hst,decide_eq_true ((prune_bef ts _ _).2 ⟨mem_firsts.2 (List.mem_map_of_mem hst),r',h3⟩)⟩
 | t :: ts,now,i + 1,sp => by
  rw [followL,pruneL];simp only [List.getElem?_cons_succ]
  rw [prune_kept ts _ i sp];constructor
  ·rintro ⟨s,hs,r,hr,hi⟩
   rw [mem_firsts,List.mem_map] at hs;obtain ⟨sp0,h0,rfl⟩ := hs;obtain ⟨h1,h2⟩ := mem_stepL.1 h0;exact ⟨sp0.bef,h1,sp0 :: r,⟨sp0,r,rfl,rfl,h2,hr⟩,by simpa using hi⟩
  ·rintro ⟨s,hs,r,⟨sp0,r',rfl,h1,h2,h3⟩,h⟩
   subst h1;exact ⟨sp0.aft,mem_firsts.2 (List.mem_map_of_mem (mem_stepL.2 ⟨hs,h2⟩)),r',h3,by simpa using h⟩
theorem follow_end : ∀ (ts : List Int) (now : List Std),(followL l said ts now).2 ≠ [] ↔ ∃ s ∈ now, ∃ r,Run l said ts s r
 | [],now => by
  rw [followL];constructor
  ·intro h
   cases now with
   | nil => exact (h rfl).elim
   | cons s now => exact ⟨s,by simp,[],rfl⟩
  ·rintro ⟨s,hs,_⟩ h
   dsimp only at h
   rw [h] at hs; cases hs
 | t :: ts,now => by
  rw [followL]
  dsimp only
  rw [follow_end ts];constructor
  ·rintro ⟨s,hs,r,hr⟩
   rw [mem_firsts,List.mem_map] at hs;obtain ⟨sp,h0,rfl⟩ := hs;obtain ⟨h1,h2⟩ := mem_stepL.1 h0;exact ⟨sp.bef,h1,sp :: r,sp,r,rfl,rfl,h2,hr⟩
  ·rintro ⟨s,hs,r,sp,r',rfl,h1,h2,h3⟩
   subst h1;exact ⟨sp.aft,mem_firsts.2 (List.mem_map_of_mem (mem_stepL.2 ⟨hs,h2⟩)),r',h3⟩
theorem Run.len : ∀ {ts : List Int} {s : Std} {r : List Sp},Run l said ts s r → r.length = ts.length
 | [],_,_,h => by rw [show _ = [] from h]; rfl
 | _ :: _,_,_,⟨_,_,e,_,_,h⟩ => by rw [e,List.length_cons,List.length_cons,Run.len h]
theorem Run.less {said' : Int → List Rp} (hs : ∀ t, ∀ x ∈ said' t,x ∈ said t) : ∀ {ts : List Int} {s : Std} {r : List Sp},Run l said ts s r → Run l said' ts s r
 | [],_,_,h => h
 | t :: _,_,_,⟨sp,r',e,h1,⟨h2,h3,h4⟩,h⟩ => ⟨sp,r',e,h1,⟨h2,h3,by unfold fitsP at h4 ⊢; rw [List.all_eq_true] at h4 ⊢; exact fun x hx => h4 x (hs t x hx)⟩,Run.less hs h⟩
open Go.RowKit Go.Oche Go.Proofs

def IsSpan (p : Int × Int) (xs : List Int) : Prop:=p.1 ∈ xs ∧ p.2 ∈ xs ∧ ∀ x ∈ xs,p.1 ≤ x ∧ x ≤ p.2
theorem IsSpan.unique {p q : Int × Int} {xs : List Int} (h : IsSpan p xs) (h' : IsSpan q xs) : p = q:=by
 obtain ⟨a,b,c⟩ := h;obtain ⟨a',b',c'⟩ := h';have h1:=c _ a';have h2:=c _ b';have h3:=c' _ a;have h4:=c' _ b;exact Prod.ext (by omega) (by omega)
theorem IsSpan.congr {p : Int × Int} {xs ys : List Int} (h : IsSpan p xs) (he : ∀ x,x ∈ xs ↔ x ∈ ys) : IsSpan p ys:=⟨(he _).1 h.1,(he _).1 h.2.1,fun x hx => h.2.2 x ((he x).2 hx)⟩
def wideI (p : Int × Int) (n : Int) : Int × Int:=(min p.1 n,max p.2 n)
def spanL : List Int → Int × Int
 | [] => (0,0)
 | x :: xs => xs.foldl wideI (x,x)
theorem foldl_wide : ∀ (xs : List Int) (p : Int × Int),p.1 ≤ p.2 → (xs.foldl wideI p).1 ≤ p.1 ∧ p.2 ≤ (xs.foldl wideI p).2 ∧ (∀ x ∈ xs,(xs.foldl wideI p).1 ≤ x ∧ x ≤ (xs.foldl wideI p).2) ∧ ((xs.foldl wideI p).1 = p.1 ∨ (xs.foldl wideI p).1 ∈ xs) ∧ ((xs.foldl wideI p).2 = p.2 ∨ (xs.foldl wideI p).2 ∈ xs)
 | [],p,h => ⟨Int.le_refl _,Int.le_refl _,by simp,.inl rfl,.inl rfl⟩
 | y :: xs,p,h => by
  rw [List.foldl_cons];obtain ⟨h1,h2,h3,h4,h5⟩ := foldl_wide xs (wideI p y) (by unfold wideI; simp only; omega)
  have e1 : (wideI p y).1 = min p.1 y:=rfl;have e2 : (wideI p y).2 = max p.2 y:=rfl;rw [e1] at h1 h4;rw [e2] at h2 h5;refine ⟨by omega,by omega,fun x hx => ?_, ?_, ?_⟩
  ·rcases List.mem_cons.1 hx with rfl | hx
   ·omega
   ·exact h3 x hx
  ·rcases h4 with h4 | h4
   ·by_cases c : p.1 ≤ y
    ·left; omega
    ·right; rw [h4,show min p.1 y = y by omega]; simp
   ·right; simp [h4]
  ·rcases h5 with h5 | h5
   ·by_cases c : y ≤ p.2
    ·left; omega
    ·right; rw [h5,show max p.2 y = y by omega]; simp
   ·right; simp [h5]
theorem spanL_is {xs : List Int} (h : xs ≠ []) : IsSpan (spanL xs) xs:=by
 cases xs with
 | nil => exact (h rfl).elim
 | cons x xs =>
  obtain ⟨h1,h2,h3,h4,h5⟩ := foldl_wide xs (x,x) (Int.le_refl _);have e : spanL (x :: xs) = xs.foldl wideI (x,x):=rfl;rw [← e] at h1 h2 h3 h4 h5;refine ⟨?_, ?_,fun y hy => ?_⟩
  ·rcases h4 with h | h
   ·rw [h]; simp
   ·simp [h]
  ·rcases h5 with h | h
   ·rw [h]; simp
   ·simp [h]
  ·rcases List.mem_cons.1 hy with rfl | hy
   ·exact ⟨h1,h2⟩
   ·exact h3 y hy
def joinS (p q : Int × Int) : Int × Int:=(min p.1 q.1,max p.2 q.2)
def turnsF (players turns : Int) : Nat → Int → List Int
 | 0,_ => []
 | k + 1,t => if t < turns then t :: turnsF players turns k (t + players) else []
def turnsL (l : Lg) (p : Int) : List Int:=turnsF l.players l.turns l.turns.toNat p
theorem turnsF_at {P T : Int} (hP : 1 ≤ P) : ∀ (k : Nat) (t : Int) (i : Nat),T - t ≤ k → t + i * P < T → (turnsF P T k t)[i]? = some (t + i * P)
 | 0,t,i,h,hi => by
  have : (0 : Int) ≤ i * P:=Int.mul_nonneg (by omega) (by omega)
  omega
 | k + 1,t,i,h,hi => by
  have h0 : (0 : Int) ≤ i * P:=Int.mul_nonneg (by omega) (by omega)
  rw [turnsF,if_pos (by omega)]
  cases i with
  | zero => simp
  | succ i =>
   have e : ((i + 1 : Nat) : Int) * P = P + i * P:=by rw [show ((i + 1 : Nat) : Int) = (i : Int) + 1 by omega,Int.add_mul]; omega
   rw [e] at hi ⊢;rw [List.getElem?_cons_succ,turnsF_at hP k (t + P) i (by omega) (by omega)]
   congr 1; omega
def saidL (list : List Rp) (which : Nat → Bool) (t : Int) : List Rp:=(list.zipIdx.filter fun p => (p.1.turn == t) && which p.2).map (·.1)
def start5 (l : Lg) : Std:=⟨l.start,l.gin == 0⟩
def playerL (l : Lg) (said : Int → List Rp) (p : Int) : Option (List (List Sp)) :=
 if (followL l said (turnsL l p) [start5 l]).2 = [] then none else some (pruneL (followL l said (turnsL l p) [start5 l]).1 (followL l said (turnsL l p) [start5 l]).2).1
def canL (l : Lg) (list : List Rp) (which : Nat → Bool) : Bool:=(List.range l.players.toNat).all fun (p : Nat) => (playerL l (saidL list which) p).isSome
theorem player_some {l : Lg} {said : Int → List Rp} {p : Int} : (playerL l said p).isSome = true ↔ ∃ r,Run l said (turnsL l p) (start5 l) r:=by
 unfold playerL;have h:=follow_end (l:=l) (said:=said) (turnsL l p) [start5 l];simp only [List.mem_singleton,exists_eq_left] at h;by_cases e : (followL l said (turnsL l p) [start5 l]).2 = []
 ·rw [if_pos e]
  constructor
  ·intro h; cases h
  ·intro hr; exact (h.2 hr e).elim
 ·rw [if_neg e]
  exact ⟨fun _ => h.1 e,fun _ => rfl⟩
theorem player_kept {l : Lg} {said : Int → List Rp} {p : Int} {ks : List (List Sp)} (h : playerL l said p = some ks) : ks.length = (turnsL l p).length ∧ ∀ (i : Nat) (sp : Sp),(∃ k,ks[i]? = some k ∧ sp ∈ k) ↔ ∃ r,Run l said (turnsL l p) (start5 l) r ∧ r[i]? = some sp:=by
 unfold playerL at h;split at h
 ·cases h
 ·cases h
  refine ⟨by rw [pruneL_len,followL_len],fun i sp => ?_⟩
  have:=prune_kept (l:=l) (said:=said) (turnsL l p) [start5 l] i sp;simp only [List.mem_singleton,exists_eq_left] at this;exact this
open Go.RowKit Go.Oche Go.Proofs

def thr5 (l : Lg) (D : Nat → Nat) : Nat → Std → Nat → En × Nat
 | 0,s,_ => (s.en,0)
 | k + 1,s,q =>
  let h:=if D q % (l.beds.length + 1) = l.beds.length then miss5 else hitB5 l (l.beds.getD (D q % (l.beds.length + 1)) 0)
  if (dart5 l s h).2 = true then ((thr5 l D k (dart5 l s h).1.std (q + 1)).1,(thr5 l D k (dart5 l s h).1.std (q + 1)).2 + 1) else ((dart5 l s h).1,1)
theorem thr5_mem (l : Lg) (D : Nat → Nat) : ∀ (k : Nat) (s : Std) (q : Nat),thr5 l D k s q ∈ from5 l k s
 | 0,s,q => by simp [thr5,from5]
 | k + 1,s,q => by
  rw [thr5];obtain ⟨h,hh⟩ : ∃ h,(if D q % (l.beds.length + 1) = l.beds.length then miss5 else hitB5 l (l.beds.getD (D q % (l.beds.length + 1)) 0)) = h:=⟨_,rfl⟩
  have hm : h ∈ hits5 l:=by
   rw [← hh];unfold hits5;split
   ·simp
   ·rename_i hne
    have hlt : D q % (l.beds.length + 1) < l.beds.length:=by have:=Nat.mod_lt (D q) (show 0 < l.beds.length + 1 by omega); omega
    refine List.mem_cons_of_mem _ (List.mem_map_of_mem ?_)
    rw [List.getD_eq_getElem?_getD,List.getElem?_eq_getElem hlt]
    exact List.getElem_mem hlt
  rw [hh,from5,List.mem_flatMap];refine ⟨h,hm, ?_⟩
  by_cases hg : (dart5 l s h).2 = true
  ·rw [if_pos hg,if_pos hg]
   exact List.mem_map.2 ⟨_,thr5_mem l D k _ (q + 1),rfl⟩
  ·rw [if_neg hg,if_neg hg]; simp
def visT (l : Lg) (D : Nat → Nat) (s : Std) (q : Nat) : Sp:=⟨s,noBust s (thr5 l D 3 s q).1,(thr5 l D 3 s q).2⟩
theorem visT_mem (l : Lg) (D : Nat → Nat) (s : Std) (q : Nat) : ((visT l D s q).en,(visT l D s q).darts) ∈ vis5 l s:=List.mem_map.2 ⟨_,thr5_mem l D 3 s q,rfl⟩
structure Pl5 where
 sts : List Std
 at_ : Nat
 out : List Sp
 won : Bool
def step5 (l : Lg) (D : Nat → Nat) (x : Pl5) : Pl5 :=
 let p:=x.out.length % x.sts.length
 let v:=visT l D (x.sts.getD p (start5 l)) x.at_
 ⟨x.sts.set p v.aft,x.at_ + v.darts,x.out ++ [v],v.en.won⟩
def play5 (l : Lg) (D : Nat → Nat) : Nat → Pl5 → Pl5
 | 0,x => x
 | k + 1,x => if x.won = true then x else play5 l D k (step5 l D x)
def begin5 (l : Lg) : Pl5:=⟨List.replicate l.players.toNat (start5 l),0,[],false⟩
def aftAt (l : Lg) (out : List Sp) (i : Nat) : Std:=((out[i]?).map Sp.aft).getD (start5 l)
structure Ok5 (l : Lg) (x : Pl5) : Prop where
 len : x.sts.length = l.players.toNat
 vis : ∀ sp ∈ x.out,(sp.en,sp.darts) ∈ vis5 l sp.bef
 won : ∀ i sp,x.out[i]? = some sp → sp.en.won = (x.won && decide (i + 1 = x.out.length))
 bef : ∀ i sp,x.out[i]? = some sp → sp.bef = if i < l.players.toNat then start5 l else aftAt l x.out (i - l.players.toNat)
 cur : ∀ j,j < l.players.toNat → x.sts[(x.out.length + j) % l.players.toNat]? = some (if x.out.length + j < l.players.toNat then start5 l else aftAt l x.out (x.out.length + j - l.players.toNat))
theorem Ok5.begin {l : Lg} (_hp : 1 ≤ l.players) : Ok5 l (begin5 l):=by
 refine ⟨by simp [begin5],by simp [begin5],fun i sp h => by simp [begin5] at h,fun i sp h => by simp [begin5] at h,fun j hj => ?_⟩
 have hm : (0 + j) % l.players.toNat = j:=by rw [Nat.zero_add]; exact Nat.mod_eq_of_lt hj
 show (List.replicate l.players.toNat (start5 l))[(0 + j) % l.players.toNat]? = some (if 0 + j < l.players.toNat then start5 l else aftAt l [] (0 + j - l.players.toNat))
 rw [hm,if_pos (by omega)]
 simp [hj]
theorem aftAt_app {l : Lg} {out : List Sp} {v : Sp} {i : Nat} (h : i < out.length) : aftAt l (out ++ [v]) i = aftAt l out i:=by
 unfold aftAt; rw [List.getElem?_append_left h]
theorem Ok5.step {l : Lg} {D : Nat → Nat} {x : Pl5} (hp : 1 ≤ l.players) (h : Ok5 l x) (hw : x.won = false) : Ok5 l (step5 l D x):=by
 obtain ⟨P,hP⟩ : ∃ P,l.players.toNat = P:=⟨_,rfl⟩;have hP1 : 1 ≤ P:=by omega
 obtain ⟨n,hn⟩ : ∃ n,x.out.length = n:=⟨_,rfl⟩;have hc0:=h.cur 0 (by omega)
 have hlen:=h.len;rw [hP,hn,Nat.add_zero] at hc0;rw [hP] at hlen;obtain ⟨s,hs⟩ : ∃ s,(if n < P then start5 l else aftAt l x.out (n - P)) = s:=⟨_,rfl⟩
 rw [hs] at hc0;have hgd : x.sts.getD (n % P) (start5 l) = s:=by rw [List.getD_eq_getElem?_getD,hc0]; rfl
 obtain ⟨v,hv⟩ : ∃ v,visT l D s x.at_ = v:=⟨_,rfl⟩;have hvb : v.bef = s:=by rw [← hv]; rfl
 have hvm : (v.en,v.darts) ∈ vis5 l v.bef:=by rw [hvb,← hv]; exact visT_mem l D s x.at_
 have hst : step5 l D x = ⟨x.sts.set (n % P) v.aft,x.at_ + v.darts,x.out ++ [v],v.en.won⟩ := by
  unfold step5;simp only [hn,hlen,hgd,hv]
 rw [hst];refine ⟨by simp [hlen,hP],fun sp hsp => ?_,fun i sp hi => ?_,fun i sp hi => ?_,fun j hj => ?_⟩
 ·rcases List.mem_append.1 hsp with hsp | hsp
  ·exact h.vis sp hsp
  ·rw [List.mem_singleton] at hsp; rw [hsp]; exact hvm
 ·simp only at hi ⊢
  rw [List.length_append,List.length_singleton,hn];by_cases e : i < n
  ·rw [List.getElem?_append_left (by omega)] at hi
   have:=h.won i sp hi;rw [hw] at this;rw [this,decide_eq_false (by omega : ¬ i + 1 = n + 1)]; simp
  ·rw [List.getElem?_append_right (by omega),hn] at hi
   have e2 : i = n:=by
    by_cases e3 : i - n = 0
    ·omega
    ·rw [List.getElem?_eq_none (by simp; omega)] at hi; cases hi
   subst e2;simp at hi;rw [← hi]; simp
 ·simp only at hi ⊢
  rw [hP];by_cases e : i < n
  ·rw [List.getElem?_append_left (by omega)] at hi
   have:=h.bef i sp hi;rw [hP] at this;rw [this];by_cases c : i < P
   ·rw [if_pos c,if_pos c]
   ·rw [if_neg c,if_neg c,aftAt_app (by omega)]
  ·rw [List.getElem?_append_right (by omega),hn] at hi
   have e2 : i = n:=by
    by_cases e3 : i - n = 0
    ·omega
    ·rw [List.getElem?_eq_none (by simp; omega)] at hi; cases hi
   subst e2;simp at hi;rw [← hi,hvb,← hs];by_cases c : i < P
   ·rw [if_pos c,if_pos c]
   ·rw [if_neg c,if_neg c,aftAt_app (by omega)]
 ·simp only
  rw [hP] at hj ⊢;rw [List.length_append,List.length_singleton,hn];by_cases c : j + 1 < P
  ·have hc:=h.cur (j + 1) (by omega)
   rw [hP,hn] at hc;have hne : n % P ≠ (n + (j + 1)) % P:=by
    intro e
    have h1 : (n + (j + 1)) % P = (n % P + (j + 1)) % P:=by rw [Nat.add_mod,Nat.mod_eq_of_lt (show j + 1 < P by omega)]
    rw [h1] at e;have h2:=Nat.mod_lt n (show 0 < P by omega)
    by_cases h3 : n % P + (j + 1) < P
    ·rw [Nat.mod_eq_of_lt h3] at e; omega
    ·have h4 : (n % P + (j + 1)) % P = n % P + (j + 1) - P:=by
      rw [Nat.mod_eq_sub_mod (a:=n % P + (j + 1)) (b:=P) (by omega)]; exact Nat.mod_eq_of_lt (by omega)
     rw [h4] at e; omega
   rw [show n + 1 + j = n + (j + 1) by omega,List.getElem?_set_ne hne,hc]
   by_cases d : n + (j + 1) < P
   ·rw [if_pos d,if_pos d]
   ·rw [if_neg d,if_neg d,aftAt_app (by omega)]
  ·have e : n + 1 + j = n + P:=by omega
   rw [e,Nat.add_mod_right,if_neg (by omega),List.getElem?_set_self (by rw [hlen]; exact Nat.mod_lt _ (by omega))]
   unfold aftAt;rw [show n + P - P = n by omega,List.getElem?_append_right (by omega),hn]
   simp
theorem Ok5.play {l : Lg} {D : Nat → Nat} (hp : 1 ≤ l.players) : ∀ (k : Nat) {x : Pl5},Ok5 l x → Ok5 l (play5 l D k x)
 | 0,_,h => h
 | k + 1,x,h => by
  rw [play5];cases hw : x.won
  ·rw [if_neg (by decide)]; exact Ok5.play hp k (h.step hp hw)
  ·rw [if_pos rfl]; exact h
theorem vis5_upd (l : Lg) (T : Int) (W : Bool) (s : Std) : vis5 { l with turns:=T,won:=W } s = vis5 l s:=by
 have key : ∀ k s,from5 { l with turns:=T,won:=W } k s = from5 l k s:=by
  intro k
  induction k with
  | zero => intro s; rfl
  | succ k ih =>
   intro s
   rw [from5,from5];have e : hits5 { l with turns:=T,won:=W } = hits5 l:=rfl
   rw [e]
   congr 1
   funext h
   have e2 : dart5 { l with turns:=T,won:=W } s h = dart5 l s h:=rfl
   rw [e2,ih]
 unfold vis5;rw [key]
def leg5 (l : Lg) (x : Pl5) : Lg:={ l with turns:=x.out.length,won:=x.won }
theorem Ok5.run {l : Lg} {x : Pl5} (hp : 1 ≤ l.players) (h : Ok5 l x) {said : Int → List Rp} (hs : ∀ (i : Nat) (sp : Sp),x.out[i]? = some sp → fitsP sp.bef sp.en (said i) = true) :
  ∀ (k : Nat) (t : Nat),x.out.length - t ≤ k → ∃ r,Run (leg5 l x) said (turnsF l.players x.out.length k t) (if t < l.players.toNat then start5 l else aftAt l x.out (t - l.players.toNat)) r ∧ ∀ (j : Nat) (sp : Sp),x.out[t + j * l.players.toNat]? = some sp → r[j]? = some sp
 | 0,t,hk => ⟨[],rfl,fun j sp hj => by
   rw [List.getElem?_eq_none (Nat.le_trans (by omega) (Nat.le_add_right _ _))] at hj; cases hj⟩
 | k + 1,t,hk => by
  rw [turnsF];by_cases c : t < x.out.length
  ·rw [if_pos (by omega)]
   have hsp : x.out[t]? = some x.out[t]:=List.getElem?_eq_getElem c
   obtain ⟨r,hr,hrj⟩ := Ok5.run hp h hs k (t + l.players.toNat) (by omega)
   rw [if_neg (by omega),show t + l.players.toNat - l.players.toNat = t by omega] at hr
   have haft : aftAt l x.out t = x.out[t].aft:=by unfold aftAt; rw [hsp]; rfl
   rw [haft] at hr;have ht : ((t + l.players.toNat : Nat) : Int) = (t : Int) + l.players:=by omega
   rw [ht] at hr;refine ⟨x.out[t] :: r,⟨x.out[t],r,rfl,h.bef t _ hsp,⟨?_, ?_,hs t _ hsp⟩,hr⟩,fun j sp hj => ?_⟩
   ·show _ ∈ vis5 { l with turns:=x.out.length,won:=x.won } _
    rw [vis5_upd]; exact h.vis _ (List.getElem_mem c)
   ·rw [h.won t _ hsp]
    show _ = (x.won && (((t : Nat) : Int) == ((x.out.length : Nat) : Int) - 1))
    congr 1
    rw [Bool.eq_iff_iff,decide_eq_true_eq,beq_iff_eq]; omega
   ·cases j with
    | zero => rw [Nat.zero_mul,Nat.add_zero,hsp] at hj; simpa using hj
    | succ j =>
     rw [List.getElem?_cons_succ]
     exact hrj j sp (by rw [← hj]; congr 1; rw [Nat.succ_mul]; omega)
  ·rw [if_neg (by omega)]
   exact ⟨[],rfl,fun j sp hj => by rw [List.getElem?_eq_none (Nat.le_trans (by omega) (Nat.le_add_right _ _))] at hj; cases hj⟩
open Go.RowKit Go.Oche Go.Proofs

def Sp.score (s : Sp) : Int:=s.bef.left - s.en.left
def allS (list : List Rp) : Int → List Rp:=saidL list fun _ => true
def keptL (l : Lg) (said : Int → List Rp) (t : Nat) : List Sp:=((playerL l said ((t % l.players.toNat : Nat) : Int)).getD []).getD (t / l.players.toNat) []
structure Tr where
 score : Int × Int
 left : Int × Int
 darts : Int × Int
def trL (k : List Sp) : Tr:=⟨spanL (k.map Sp.score),spanL (k.map fun s => s.en.left),spanL (k.map fun s => (s.darts : Int))⟩
def truthL (l : Lg) (list : List Rp) : Option (List Tr) :=
 if (List.range l.players.toNat).all (fun (p : Nat) => (playerL l (allS list) p).isSome) = true then some ((List.range l.turns.toNat).map fun t => trL (keptL l (allS list) t)) else none
variable {l : Lg} {said : Int → List Rp}
theorem Run.at_ : ∀ {ts : List Int} {s : Std} {r : List Sp},Run l said ts s r → ∀ (i : Nat) (t : Int) (sp : Sp),ts[i]? = some t → r[i]? = some sp → OkS l said t sp
 | [],_,_,_,i,t,sp,h,_ => by simp at h
 | t0 :: ts,s,_,⟨sp0,r',e,h1,h2,h3⟩,0,t,sp,ht,hr => by subst e; simp at ht hr; subst ht hr; exact h2
 | t0 :: ts,s,_,⟨sp0,r',e,h1,h2,h3⟩,i + 1,t,sp,ht,hr => by
  subst e;rw [List.getElem?_cons_succ] at ht hr
  exact Run.at_ h3 i t sp ht hr
theorem Run.turn {said' : Int → List Rp} : ∀ {ts : List Int} {s : Std} {r : List Sp},Run l said ts s r → (∀ (i : Nat) (t : Int) (sp : Sp),ts[i]? = some t → r[i]? = some sp → fitsP sp.bef sp.en (said' t) = true) → Run l said' ts s r
 | [],_,_,h,_ => h
 | t :: ts,s,_,⟨sp,r',e,h1,⟨h2,h3,_⟩,h⟩,hf => by
  subst e;exact ⟨sp,r',rfl,h1,⟨h2,h3,hf 0 t sp rfl rfl⟩,Run.turn h fun i t' sp' hi hr => hf (i + 1) t' sp' (by simpa using hi) (by simpa using hr)⟩
theorem turnsL_at (hP : 1 ≤ l.players) (hT : 0 ≤ l.turns) {t : Nat} (ht : t < l.turns.toNat) : (turnsL l ((t % l.players.toNat : Nat) : Int))[t / l.players.toNat]? = some (t : Int):=by
 have hd:=Nat.div_add_mod t l.players.toNat;have e : ((t % l.players.toNat : Nat) : Int) + ((t / l.players.toNat : Nat) : Int) * l.players = (t : Int):=by
  have h1 : ((t / l.players.toNat : Nat) : Int) * l.players = ((l.players.toNat * (t / l.players.toNat) : Nat) : Int):=by
   rw [Int.natCast_mul,Int.toNat_of_nonneg (by omega),Int.mul_comm]
  rw [h1]; omega
 have:=turnsF_at (T:=l.turns) hP l.turns.toNat ((t % l.players.toNat : Nat) : Int) (t / l.players.toNat) (by omega) (by rw [e]; omega)
 unfold turnsL;rw [this,e]
def HasTruth (l : Lg) (said : Int → List Rp) : Prop := ∀ p : Nat,p < l.players.toNat → ∃ r,Run l said (turnsL l p) (start5 l) r
theorem kept_mem (hP : 1 ≤ l.players) (h : HasTruth l said) {t : Nat} {sp : Sp} : sp ∈ keptL l said t ↔ ∃ r,Run l said (turnsL l ((t % l.players.toNat : Nat) : Int)) (start5 l) r ∧ r[t / l.players.toNat]? = some sp:=by
 have hp : t % l.players.toNat < l.players.toNat:=Nat.mod_lt _ (by omega)
 obtain ⟨ks,hks⟩ := Option.isSome_iff_exists.1 (player_some.2 (h _ hp));unfold keptL;rw [hks,Option.getD_some];rw [← (player_kept hks).2];constructor
 ·intro hm
  rw [List.getD_eq_getElem?_getD] at hm
  cases e : ks[t / l.players.toNat]? with
  | none => rw [e] at hm; cases hm
  | some k => rw [e] at hm; exact ⟨k,rfl,hm⟩
 ·rintro ⟨k,e,hm⟩
  rw [List.getD_eq_getElem?_getD,e]; exact hm
theorem kept_ne (hP : 1 ≤ l.players) (hT : 0 ≤ l.turns) (h : HasTruth l said) {t : Nat} (ht : t < l.turns.toNat) : keptL l said t ≠ []:=by
 obtain ⟨r,hr⟩ := h _ (Nat.mod_lt t (show 0 < l.players.toNat by omega))
 have hi:=(List.getElem?_eq_some_iff.1 (turnsL_at hP hT ht)).1
 rw [← hr.len] at hi;intro e;have:=(kept_mem hP h).2 ⟨r,hr,List.getElem?_eq_getElem hi⟩
 rw [e] at this; cases this
open Go.RowKit Go.Oche Go.Proofs

variable {l : Lg} {said : Int → List Rp}
def GoodBeds (l : Lg) : Prop := ∀ b ∈ l.beds,0 ≤ b.tdiv 100 * b.tmod 100
theorem hits_nn (h : GoodBeds l) : ∀ x ∈ hits5 l,0 ≤ x.score:=by
 intro x hx
 unfold hits5 at hx;rcases List.mem_cons.1 hx with rfl | hx
 ·simp [miss5]
 ·obtain ⟨b,hb,rfl⟩ := List.mem_map.1 hx; exact h b hb
theorem dart_left {s : Std} {h : Ht} (h0 : 0 ≤ h.score) (hs : 0 ≤ s.left) : 0 ≤ (dart5 l s h).1.left ∧ (dart5 l s h).1.left ≤ s.left:=by
 unfold dart5;have : 1 ≤ low5 l.gout:=by unfold low5; split <;> omega
 split
 ·simp; omega
 ·split
  ·simp; omega
  ·split
   ·simp; omega
   ·simp; omega
theorem from_left (hg : GoodBeds l) : ∀ (k : Nat) (s : Std),0 ≤ s.left → ∀ p ∈ from5 l k s,0 ≤ p.1.left ∧ p.1.left ≤ s.left
 | 0,s,hs,p,hp => by simp [from5] at hp; subst hp; simp [Std.en]; omega
 | k + 1,s,hs,p,hp => by
  rw [from5,List.mem_flatMap] at hp;obtain ⟨h,hh,hp⟩ := hp;have hd:=dart_left (l:=l) (hits_nn hg h hh) hs;split at hp
  ·obtain ⟨q,hq,rfl⟩ := List.mem_map.1 hp
   have:=from_left hg k _ hd.1 q hq;simp only [En.std] at this ⊢;omega
  ·simp at hp; subst hp; exact hd
theorem vis_left (hg : GoodBeds l) {s : Std} (hs : 0 ≤ s.left) {p : En × Nat} (hp : p ∈ vis5 l s) : 0 ≤ p.1.left ∧ p.1.left ≤ s.left:=by
 unfold vis5 at hp;obtain ⟨q,hq,rfl⟩ := List.mem_map.1 hp;have:=from_left hg 3 s hs q hq;unfold noBust
 dsimp only
 split
 ·simp [Std.en]; omega
 ·exact this
theorem Run.left (hg : GoodBeds l) : ∀ {ts : List Int} {s : Std} {r : List Sp},0 ≤ s.left → Run l said ts s r → ∀ sp ∈ r,0 ≤ sp.en.left ∧ sp.en.left ≤ sp.bef.left ∧ sp.bef.left ≤ s.left
 | [],_,r,_,h,sp,hsp => by rw [show r = [] from h] at hsp; cases hsp
 | t :: ts,s,_,hs,⟨sp0,r',e,h1,h2,h3⟩,sp,hsp => by
  subst e h1;have hv:=vis_left hg hs h2.1;rcases List.mem_cons.1 hsp with rfl | hsp
  ·exact ⟨hv.1,hv.2,Int.le_refl _⟩
  ·have:=Run.left hg (s:=sp0.aft) (by simpa [Sp.aft,En.std] using hv.1) h3 sp hsp
   simp only [Sp.aft,En.std] at this;simp only at hv;omega
theorem kept_left (hP : 1 ≤ l.players) (hg : GoodBeds l) (hs : 0 ≤ l.start) (h : HasTruth l said) {t : Nat} {sp : Sp} (hm : sp ∈ keptL l said t) : 0 ≤ sp.en.left ∧ sp.en.left ≤ sp.bef.left ∧ sp.bef.left ≤ l.start:=by
 obtain ⟨r,hr,hi⟩ := (kept_mem hP h).1 hm;have:=Run.left hg (by simpa [start5] using hs) hr sp (List.mem_of_getElem? hi)
 simpa [start5] using this
theorem kept_congr {said said' : Int → List Rp} (h : ∀ t s x,fitsP s x (said t) = fitsP s x (said' t)) (t : Nat) : keptL l said t = keptL l said' t ∧ (HasTruth l said ↔ HasTruth l said'):=by
 have hst : ∀ t now,stepL l said t now = stepL l said' t now:=fun t now => by
  unfold stepL
  congr 1
  funext s
  congr 1
  refine List.filter_congr fun p _ => ?_
  rw [h]
 have hfo : ∀ ts now,followL l said ts now = followL l said' ts now:=by
  intro ts
  induction ts with
  | nil => intro now; rfl
  | cons t ts ih => intro now; rw [followL,followL,hst,ih]
 have hpl : ∀ p,playerL l said p = playerL l said' p:=fun p => by unfold playerL; rw [hfo]
 refine ⟨by unfold keptL; rw [hpl], ?_⟩
 unfold HasTruth;constructor
 ·intro hh p hp; exact player_some.1 (by rw [← hpl]; exact player_some.2 (hh p hp))
 ·intro hh p hp; exact player_some.1 (by rw [hpl]; exact player_some.2 (hh p hp))
theorem mem_allS {list : List Rp} {t : Int} {x : Rp} : x ∈ allS list t ↔ x ∈ list ∧ x.turn = t:=by
 unfold allS saidL;simp only [Bool.and_true,List.mem_map,List.mem_filter];constructor
 ·rintro ⟨⟨y,i⟩,⟨h1,h2⟩,rfl⟩
  rw [List.mem_zipIdx_iff_getElem?] at h1;exact ⟨List.mem_of_getElem? h1,by simpa using h2⟩
 ·rintro ⟨h1,h2⟩
  obtain ⟨i,hi⟩ := List.getElem?_of_mem h1
  exact ⟨(x,i),⟨by rw [List.mem_zipIdx_iff_getElem?]; exact hi,by simpa using h2⟩,rfl⟩
open Go.RowKit Go.Oche Go.Proofs

theorem from_one (l : Lg) : ∀ (k : Nat) (s : Std), ∀ p ∈ from5 l (k + 1) s,1 ≤ p.2:=by
 intro k s p hp
 rw [from5_succ] at hp;obtain ⟨h,_,hp⟩ := List.mem_flatMap.1 hp;unfold con5 at hp;split at hp
 ·obtain ⟨q,_,rfl⟩ := List.mem_map.1 hp; simp
 ·simp at hp; simp [hp]
theorem vis_darts (l : Lg) {s : Std} {p : En × Nat} (hp : p ∈ vis5 l s) : 1 ≤ p.2 ∧ p.2 ≤ 3:=by
 unfold vis5 at hp;obtain ⟨q,hq,rfl⟩ := List.mem_map.1 hp;exact ⟨from_one l 2 s q hq,from_darts l 3 s q hq⟩
theorem vis_bust (l : Lg) {s : Std} {p : En × Nat} (hp : p ∈ vis5 l s) : p.1.bust = false:=by
 unfold vis5 at hp;obtain ⟨q,hq,rfl⟩ := List.mem_map.1 hp;unfold noBust
 dsimp only
 by_cases hb : q.1.bust = true
 ·rw [if_pos hb]; rfl
 ·rw [if_neg hb]; simpa using hb
def winsL (l : Lg) (s : Std) : Bool:=(vis5 l s).any fun p => p.1.won
def IsScores (l : Lg) (s : Std) (xs : List Int) : Prop:=xs.Pairwise (· < ·) ∧ ∀ x,x ∈ xs ↔ ∃ p ∈ vis5 l s,p.1.won = false ∧ s.left - p.1.left = x
def waysO (l : Lg) (s : Std) (score : Int) : Option Sm:=agg ((vis5 l s).map fun p => (s.left - p.1.left,p.2)) score
end Go.Proofs.YtnbmgkmcaoafnaaGreatDoor
