/- The texts HB, EqArr, Mp, Ent, JSt, JBox, Agg, IA, HC, in build order. -/
import Derived.Test.YtnhggfnnolfcdaaGreatZad
import Derived.DeepKeys
import Derived.Laws.StructEq
import Derived.MapKept
import Derived.RangeFuncOwn
import Derived.Laws.AppendOwn
import Derived.Laws.Tables
import Derived.Laws.CopyOwn
import Derived.Laws.Rows
import Derived.Deep.WholeRow

/- Chapter 4: comparing players, places and marks. -/
namespace Go.Proofs.YtnhggfnnolfcdaaGreat
open Go.RowKit Go.Oche Go.Proofs
theorem list_seven {α : Type} {l : List α} (h : l.length = 7) : ∃ a b c d e f g,l = [a,b,c,d,e,f,g]:=by
 match l,h with
 | [a,b,c,d,e,f,g],_ => exact ⟨a,b,c,d,e,f,g,rfl⟩
def plrV (p : Plr) : Value:=.agg (plrRow p).toArray
theorem isNaN_any (a : Int) (w : World) : Calls Tryz.prog 106 #[.int .i64 a] w fun e w' => e = .returned (.bool false) ∧ w = w':=by
 go_enter Tryz.func106,Tryz.ntmps106
 go_wp2
 go_ret
 exact ⟨ret_bool (by simp),rfl⟩
theorem compare_any (a b : Int) (w : World) : Calls Tryz.prog 105 #[.int .i64 a,.int .i64 b] w fun e w' => e = .returned (.int .i64 (cmp3 a b)) ∧ w = w':=by
 obtain ⟨c,hc⟩ : ∃ c,cmp3 a b = c:=⟨_,rfl⟩
 unfold cmp3 at hc
 have hc':=hc
 have H:=Lib.hid hc
 rw [show cmp3 a b = c from hc']
 clear hc hc'
 go_enter Tryz.func105,Tryz.ntmps105
 go_wp2_with (go_at_call 106; refine (isNaN_any _ _).mono ?_; rintro e w' ⟨rfl,rfl⟩)
 all_goals
  go_ret
  refine ⟨ret_int ?_,rfl⟩
  rw [← H.out]
  repeat' (first | omega | split)
theorem more_any (a b : Int) (w : World) : Calls Tryz.prog 103 #[.int .i64 a,.int .i64 b] w fun e w' => e = .returned (.int .i64 (cmp3 b a)) ∧ w = w':=by
 go_enter Tryz.func103,Tryz.ntmps103
 go_wp2_with (go_at_call 105; refine (compare_any _ _ _).mono ?_; rintro e w' ⟨rfl,rfl⟩)
 go_ret
 exact ⟨rfl,rfl⟩
set_option maxRecDepth 100000 in
theorem compare1_any (r : Rul) (nv : Value) (x y : Plr) (h7 : x.mks.length = 7) (h7' : y.mks.length = 7) (w : World) :
  Calls Tryz.prog 99 #[.agg (rulA r nv),plrV x,plrV y] w fun e w' => e = .returned (.int .i64 (cmp3 y.pts x.pts)) ∧ Below w.heap.size w w':=by
 obtain ⟨xp,xm,xk⟩ := x
 obtain ⟨yp,ym,yk⟩ := y
 obtain ⟨a,b,c,d,e,f,g,rfl⟩ := list_seven h7
 obtain ⟨a',b',c',d',e',f',g',rfl⟩ := list_seven h7'
 clear h7 h7'
 unfold plrV plrRow rulA
 simp only [List.map_cons,List.map_nil,List.cons_append,List.nil_append]
 go_enter Tryz.func99,Tryz.ntmps99
 go_wp2_with (go_at_call 103; refine (more_any _ _ _).mono ?_; rintro e w' ⟨rfl,rfl⟩)
 go_ret
 exact ⟨rfl,((aB _ _).alloc (by simp) _).alloc (by simp; omega) _⟩
set_option maxRecDepth 100000 in
theorem compare3_any (r : Rul) (nv : Value) (x y : Plr) (h7 : x.mks.length = 7) (h7' : y.mks.length = 7) (w : World) :
  Calls Tryz.prog 120 #[.agg (rulA r nv),plrV x,plrV y] w fun e w' => e = .returned (.int .i64 (cmp3 y.pts x.pts)) ∧ Below w.heap.size w w':=by
 obtain ⟨xp,xm,xk⟩ := x
 obtain ⟨yp,ym,yk⟩ := y
 obtain ⟨a,b,c,d,e,f,g,rfl⟩ := list_seven h7
 obtain ⟨a',b',c',d',e',f',g',rfl⟩ := list_seven h7'
 clear h7 h7'
 unfold plrV plrRow rulA
 simp only [List.map_cons,List.map_nil,List.cons_append,List.nil_append]
 go_enter Tryz.func120,Tryz.ntmps120
 go_wp2_with (go_at_call 103; refine (more_any _ _ _).mono ?_; rintro e w' ⟨rfl,rfl⟩)
 go_ret
 exact ⟨rfl,((aB _ _).alloc (by simp) _).alloc (by simp; omega) _⟩
set_option maxRecDepth 100000 in
theorem compare4_any (r : Rul) (nv : Value) (x y : Plr) (h7 : x.mks.length = 7) (h7' : y.mks.length = 7) (w : World) :
  Calls Tryz.prog 124 #[.agg (rulA r nv),plrV x,plrV y] w fun e w' => e = .returned (.int .i64 (cmp3 y.pts x.pts)) ∧ Below w.heap.size w w':=by
 obtain ⟨xp,xm,xk⟩ := x
 obtain ⟨yp,ym,yk⟩ := y
 obtain ⟨a,b,c,d,e,f,g,rfl⟩ := list_seven h7
 obtain ⟨a',b',c',d',e',f',g',rfl⟩ := list_seven h7'
 clear h7 h7'
 unfold plrV plrRow rulA
 simp only [List.map_cons,List.map_nil,List.cons_append,List.nil_append]
 go_enter Tryz.func124,Tryz.ntmps124
 go_wp2_with (go_at_call 103; refine (more_any _ _ _).mono ?_; rintro e w' ⟨rfl,rfl⟩)
 go_ret
 exact ⟨rfl,((aB _ _).alloc (by simp) _).alloc (by simp; omega) _⟩
theorem idx7 (a b c d e f g : Int) (k : Nat) (hk : k < 7) (w : World) :
  (Instr.index 78 (.agg #[.int .i64 a,.int .i64 b,.int .i64 c,.int .i64 d,.int .i64 e,.int .i64 f,.int .i64 g]) (.int .i64 k)).run Tryz.prog w = .ok (.int .i64 ([a,b,c,d,e,f,g].getD k 0)) w:=by
 obtain rfl | rfl | rfl | rfl | rfl | rfl | rfl : k = 0 ∨ k = 1 ∨ k = 2 ∨ k = 3 ∨ k = 4 ∨ k = 5 ∨ k = 6:=by omega
 all_goals kernel_rfl
theorem take_sum {l : List Int} {k : Nat} (h : k < l.length) : (l.take (k + 1)).sum = (l.take k).sum + l.getD k 0:=by
 rw [List.take_succ_eq_append_getElem h,List.sum_append,getD_of h]; simp
set_option maxRecDepth 100000 in
set_option maxHeartbeats 1000000 in
theorem marks_any (x : Plr) (h7 : x.mks.length = 7) (hlo : ∀ m ∈ x.mks,0 ≤ m ∧ m ≤ 3) (w : World) :
  Calls Tryz.prog 113 #[plrV x] w fun e w' => e = .returned (.int .i64 (sumM x)) ∧ Below w.heap.size w w':=by
 obtain ⟨xp,xm,xk⟩ := x
 obtain ⟨a,b,c,d,e,f,g,rfl⟩ := list_seven h7
 clear h7
 obtain ⟨l,hl⟩ : ∃ l,[a,b,c,d,e,f,g] = l:=⟨_,rfl⟩
 have hi : ∀ (k : Nat),k < 7 → ∀ w,(Instr.index 78 (.agg #[.int .i64 a,.int .i64 b,.int .i64 c,.int .i64 d,.int .i64 e,.int .i64 f,.int .i64 g]) (.int .i64 k)).run Tryz.prog w = .ok (.int .i64 (l.getD k 0)) w:=fun k hk w => by rw [← hl]; exact idx7 _ _ _ _ _ _ _ k hk w
 have hb : ∀ k,k < 7 → 0 ≤ l.getD k 0 ∧ l.getD k 0 ≤ 3:=fun k hk => by
  have hk' : k < l.length:=by rw [← hl]; exact hk
  rw [getD_of hk']; exact hlo _ (by dsimp only; rw [hl]; exact List.getElem_mem hk')
 have hs : ∀ k,k ≤ 7 → 0 ≤ (l.take k).sum ∧ (l.take k).sum ≤ 3 * k:=fun k => by
  induction k with
  | zero => intro _; simp
  | succ k ih =>
   intro hk
   have h1:=ih (by omega)
   have h2:=hb k (by omega)
   rw [take_sum (by rw [← hl]; show k < 7; omega)]; push_cast; omega
 have hsum : sumM ⟨xp,[a,b,c,d,e,f,g],xk⟩ = (l.take 7).sum:=by rw [← hl]; rfl
 obtain ⟨q,hq⟩ : ∃ q : Nat → Int, ∀ k,l.getD k 0 = q k:=⟨_,fun _ => rfl⟩
 have ht : ∀ k,k < 7 → (l.take (k + 1)).sum = (l.take k).sum + q k:=fun k hk => by rw [← hq]; exact take_sum (by rw [← hl]; exact hk)
 simp only [hq] at hb hi
 have HT:=Lib.hid ht
 have HS:=Lib.hid hs
 have HB:=Lib.hid hb
 have HI:=Lib.hid hi
 have HM:=Lib.hid hsum
 rw [hsum]
 clear hlo hl hi hb hs hsum ht hq
 unfold plrV plrRow
 simp only [List.map_cons,List.map_nil,List.cons_append,List.nil_append]
 go_enter Tryz.func113,Tryz.ntmps113
 go_wp2
 go_loop [2,4,7] (fun s x i => ∃ k : Nat,k ≤ 7 ∧ i = .int .i64 k ∧ s = .int .i64 (l.take k).sum) (fun _ _ i => 7 - (intOf i).toNat)
 case atStart => exact ⟨0,by omega,rfl,by simp⟩
 case round =>
  obtain ⟨k,hk,rfl,rfl⟩ := hrel
  have h1:=HS.out k hk
  by_cases hlt : k < 7
  ·have h2:=HB.out k hlt
   have hi:=HI.out k hlt
   have ht:=HT.out k hlt
   have HT2:=Lib.hid ht
   clear ht
   go_wp2
   go_round
   case rel => exact ⟨k + 1,by omega,by go_num,by rw [HT2.out]⟩
   case measure => simp [intOf]; omega
  ·obtain rfl : k = 7:=by omega
   go_wp2
   go_ret
   exact ⟨rfl,aB _ _⟩
end Go.Proofs.YtnhggfnnolfcdaaGreat

/- Arrays of integers compared. -/
namespace Go.Oche
open Go
section
variable {P : Program}
theorem part_cell {e : TypeId} {q : IntKind} (he : P.underlying e = some (.int q)) {xs : Array Value} {off : Nat} {v : Value} (hx : xs[off]? = some v) (w : World) : (part e xs off).run P w = .ok v w :=
 run_part_plain w (by simp [Program.plainKey,he]) hx
theorem eqItems_ints (d : Nat) {e : TypeId} {q : IntKind} (he : P.underlying e = some (.int q)) (xs ys : List Int) (hl : xs.length = ys.length) (w : World) : ∀ k,k ≤ xs.length →
  (Op.eqItems (d + 1) e 1 (xs.map (Value.int q)).toArray (ys.map (Value.int q)).toArray (List.range' k (xs.length - k))).run P w = .ok (decide (xs.drop k = ys.drop k)) w:=by
 suffices h : ∀ m k,k + m = xs.length → (Op.eqItems (d + 1) e 1 (xs.map (Value.int q)).toArray (ys.map (Value.int q)).toArray (List.range' k m)).run P w = .ok (decide (xs.drop k = ys.drop k)) w from
  fun k hk => h _ k (by omega)
 intro m
 induction m with
 | zero => intro k hk; rw [List.drop_eq_nil_of_le (by omega),List.drop_eq_nil_of_le (by omega)]; simp [Op.eqItems]
 | succ m ih =>
  intro k hk
  have hx : k < xs.length:=by omega
  have hy : k < ys.length:=by omega
  have p1:=part_cell he (xs:=(xs.map (Value.int q)).toArray) (off:=k * 1) (v:=.int q xs[k]) (by simp [hx]) w
  have p2:=part_cell he (xs:=(ys.map (Value.int q)).toArray) (off:=k * 1) (v:=.int q ys[k]) (by simp [hy]) w
  have p3:=run_equalIn_int w d e q q xs[k] ys[k] he
  rw [List.range'_succ]
  simp only [Op.eqItems,Sem.run_bind,p1,p2,p3,Result.andThen_ok]
  rw [List.drop_eq_getElem_cons hx,List.drop_eq_getElem_cons hy]
  by_cases h : xs[k] = ys[k]
  ·rw [h,beq_self_eq_true]
   simp only [Bool.not_true,Bool.false_eq_true,if_false,ih (k + 1) (by omega),List.cons.injEq,true_and]
  ·have : (xs[k] == ys[k]) = false:=by simp [h]
   rw [this]
   simp only [Bool.not_false,if_true,Sem.run_pure]
   rw [decide_eq_false (fun e => h (List.cons.inj e).1)]
theorem run_eq_ints (d : Nat) {t e : TypeId} {q : IntKind} {i : TypeInfo} (hi : P.info? e = some i) (hc : P.cellsOf e = 1) (he : P.underlying e = some (.int q)) (xs ys : List Int) (hl : xs.length = ys.length) (ht : P.underlying t = some (.array xs.length e)) (w : World) :
  (Op.equalIn (d + 2) t (.agg (xs.map (Value.int q)).toArray) (.agg (ys.map (Value.int q)).toArray)).run P w = .ok (decide (xs = ys)) w:=by
 rw [run_equalIn_array w (d + 1) _ _ ht hi,hc,List.range_eq_range']
 have:=eqItems_ints (P:=P) d he xs ys hl w 0 (Nat.zero_le _)
 simpa using this
end
end Go.Oche

/- A map as a list of entries, in the order in which they came; keys of one type that are compared as Lean compares them. -/
namespace Go.Oche
open Go Go.RowKit

def findL {κ : Type} [DecidableEq κ] (k : κ) : List κ → List MapEntry → Nat → Option (Nat × Value)
 | k' :: ks,e :: es,i => if k' = k then some (i,e.val) else findL k ks es (i + 1)
 | _,_,_ => none
structure KeyEq {κ : Type} [DecidableEq κ] (P : Program) (K : TypeId) (enc : κ → Value) : Prop where
 chk : ∀ (c : Bool) (k : κ) (w : World),(Instr.checkKey c 10000 K (enc k)).run P w = .ok () w
 fnd : ∀ (k : κ) (ks : List κ) (es : List MapEntry) (w : World),es.map (·.key) = ks.map enc → (Instr.findKey K (enc k) es).run P w = .ok (findL k ks es 0) w
 bits : ∀ k : κ,Instr.sameBits 10000 (enc k) (enc k) = true

section
variable {κ : Type} [DecidableEq κ] {P : Program} {K : TypeId} {enc : κ → Value}
theorem KeyEq.of_now {d : TypeDesc} (hd : P.underlying K = some d) (hs : ∀ k k',Instr.sameNow d (enc k) (enc k') = some (decide (k' = k)))
  (chk : ∀ (c : Bool) (k : κ) (w : World),(Instr.checkKey c 10000 K (enc k)).run P w = .ok () w) (bits : ∀ k : κ,Instr.sameBits 10000 (enc k) (enc k) = true) : KeyEq P K enc where
 chk:=chk
 bits:=bits
 fnd:=fun k ks es w h => by
  have key : ∀ (ks : List κ) (es : List MapEntry) (i : Nat),es.map (·.key) = ks.map enc → Instr.findNow d (enc k) es i = some (findL k ks es i):=by
   intro ks
   induction ks with
   | nil =>
    intro es i h
    cases es with
    | nil => rfl
    | cons e es => simp at h
   | cons k' ks ih =>
    intro es i h
    cases es with
    | nil => simp at h
    | cons e es =>
     simp only [List.map_cons,List.cons.injEq] at h
     unfold Instr.findNow findL
     rw [h.1,hs]
     by_cases e' : k' = k
     ·simp [e']
     ·simp only [e',decide_false,if_false]
      exact ih es (i + 1) h.2
  exact MapKept.run_findKey hd (key ks es 0 h)
theorem sameBits_int (q : IntKind) (k : Int) (n : Nat) : Instr.sameBits n (.int q k) (.int q k) = true:=by cases n <;> simp [Instr.sameBits]
theorem check_int {q : IntKind} (hk : P.underlying K = some (.int q)) (k : Int) (c : Bool) (w : World) : (Instr.checkKey c 10000 K (.int q k)).run P w = .ok () w:=by
 have h : MapKept.IsKey (.int q) (.int q k):=rfl
 exact MapKept.run_checkKey hk h c 9999
theorem KeyEq.int {q : IntKind} (hk : P.underlying K = some (.int q)) : KeyEq P K (Value.int q) :=
 KeyEq.of_now hk (fun k k' => by
  have : (k == k') = decide (k' = k):=by rw [Bool.eq_iff_iff]; simp only [beq_iff_eq,decide_eq_true_eq]; exact eq_comm
  simp [Instr.sameNow,this]) (fun c k w => check_int hk k c w) (fun k => sameBits_int q k 10000)

def Born (es : Array MapEntry) (clock : Nat) : Prop:=(es.toList.map (·.born)).Pairwise (· < ·) ∧ ∀ e ∈ es.toList,e.born < clock
theorem Born.push {es : Array MapEntry} {clock : Nat} (h : Born es clock) (k v : Value) : Born (es.push { key:=k,val:=v,born:=clock }) (clock + 1):=by
 refine ⟨?_,fun e he => ?_⟩
 ·rw [Array.toList_push,List.map_append,List.pairwise_append]
  refine ⟨h.1,by simp,fun x hx y hy => ?_⟩
  obtain ⟨e,he,rfl⟩ := List.mem_map.1 hx
  have:=h.2 e he
  simp at hy; omega
 ·rw [Array.toList_push] at he
  rcases List.mem_append.1 he with he | he
  ·have:=h.2 e he; omega
  ·simp at he; subst he; simp
theorem born_modify (es : Array MapEntry) (i : Nat) (f : MapEntry → MapEntry) (hf : ∀ e,(f e).born = e.born) : (es.modify i f).toList.map (·.born) = es.toList.map (·.born):=by
 apply List.ext_getElem?
 intro j
 simp only [List.getElem?_map,Array.getElem?_toList,Array.getElem?_modify]
 by_cases hj : i = j
 ·subst hj
  cases es[i]? <;> simp [hf]
 ·simp [hj]
theorem Born.modify {es : Array MapEntry} {clock : Nat} (h : Born es clock) (i : Nat) (f : MapEntry → MapEntry) (hf : ∀ e,(f e).born = e.born) : Born (es.modify i f) clock:=by
 refine ⟨by rw [born_modify es i f hf]; exact h.1,fun e he => ?_⟩
 have hb : e.born ∈ (es.modify i f).toList.map (·.born):=List.mem_map.2 ⟨e,he,rfl⟩
 rw [born_modify es i f hf] at hb
 obtain ⟨e',he',e2⟩ := List.mem_map.1 hb
 rw [← e2]; exact h.2 e' he'
def MapAt {κ : Type} (enc : κ → Value) (W : World) (b : Nat) (L : List (κ × Value)) : Prop :=
 ∃ es clock,W.heap[b]? = some (.map es clock) ∧ es.toList.map (·.key) = L.map (fun p => enc p.1) ∧ es.toList.map (·.val) = L.map (·.2) ∧ Born es clock
def lookM (L : List (κ × Value)) (k : κ) : Option Value:=(L.find? fun p => decide (p.1 = k)).map (·.2)
def upd : List (κ × Value) → κ → Value → List (κ × Value)
 | [],k,v => [(k,v)]
 | p :: l,k,v => if p.1 = k then (k,v) :: l else p :: upd l k v
omit [DecidableEq κ] in
theorem MapAt.made (enc : κ → Value) (w : World) : MapAt enc (w.alloc (.map #[] 0)) w.heap.size []:=⟨#[],0,World.alloc_heap_new _ _,rfl,rfl,by simp,by simp⟩
omit [DecidableEq κ] in
theorem MapAt.keep {W W' : World} {b : Nat} {L : List (κ × Value)} (h : MapAt enc W b L) (hk : W'.heap[b]? = W.heap[b]?) : MapAt enc W' b L:=by
 obtain ⟨es,c,h1,h2⟩ := h; exact ⟨es,c,hk.trans h1,h2⟩
omit [DecidableEq κ] in
theorem MapAt.lt {W : World} {b : Nat} {L : List (κ × Value)} (h : MapAt enc W b L) : b < W.heap.size:=by
 obtain ⟨es,c,h1,_⟩ := h; exact (Array.getElem?_eq_some_iff.1 h1).1
omit [DecidableEq κ] in
theorem MapAt.below {W W' : World} {b : Nat} {L : List (κ × Value)} (h : MapAt enc W b L) (hb : Below W.heap.size W W') : MapAt enc W' b L:=h.keep (hb.block b h.lt)

theorem findL_lookM (k : κ) : ∀ (L : List (κ × Value)) (es : List MapEntry) (i : Nat),es.map (·.val) = L.map (·.2) → (findL k (L.map (·.1)) es i).map (·.2) = lookM L k
 | [],es,i,h => by cases es <;> rfl
 | p :: L,[],i,h => by simp at h
 | p :: L,e :: es,i,h => by
  simp only [List.map_cons,List.cons.injEq] at h
  rw [List.map_cons,findL]
  by_cases hp : p.1 = k
  ·simp [hp,lookM,h.1]
  ·have e2 : lookM (p :: L) k = lookM L k:=by simp [lookM,hp]
   rw [if_neg hp,e2]
   exact findL_lookM k L es (i + 1) h.2
theorem findL_some {k : κ} : ∀ {ks : List κ} {es : List MapEntry} {i : Nat} {j : Nat} {v : Value},findL k ks es i = some (j,v) → ∃ q,j = i + q ∧ ks[q]? = some k ∧ q < es.length ∧ ∀ q',q' < q → ks[q']? ≠ some k
 | [],es,i,j,v,h => by cases es <;> simp [findL] at h
 | k' :: ks,[],i,j,v,h => by simp [findL] at h
 | k' :: ks,e :: es,i,j,v,h => by
  unfold findL at h
  by_cases hk : k' = k
  ·rw [if_pos hk] at h
   simp only [Option.some.injEq,Prod.mk.injEq] at h
   exact ⟨0,by omega,by simp [hk],by simp,fun q' hq => by omega⟩
  ·rw [if_neg hk] at h
   obtain ⟨q,h1,h2,h3,h4⟩ := findL_some h
   refine ⟨q + 1,by omega,by simpa using h2,by simpa using h3,fun q' hq => ?_⟩
   cases q' with
   | zero => simpa using hk
   | succ q' => simpa using h4 q' (by omega)
theorem findL_none {k : κ} : ∀ {ks : List κ} {es : List MapEntry} {i : Nat},es.length = ks.length → findL k ks es i = none → k ∉ ks
 | [],es,i,_,h => by simp
 | k' :: ks,[],i,hl,h => by simp at hl
 | k' :: ks,e :: es,i,hl,h => by
  unfold findL at h
  by_cases hk : k' = k
  ·rw [if_pos hk] at h; cases h
  ·rw [if_neg hk] at h
   simp only [List.length_cons,Nat.add_right_cancel_iff] at hl
   have:=findL_none hl h
   simp only [List.mem_cons,not_or]
   exact ⟨fun e => hk e.symm,this⟩
theorem upd_at {k : κ} {v : Value} : ∀ {L : List (κ × Value)} {q : Nat},(L.map (·.1))[q]? = some k → (∀ q',q' < q → (L.map (·.1))[q']? ≠ some k) → upd L k v = L.set q (k,v)
 | [],q,h,_ => by simp at h
 | p :: L,0,h,_ => by
  simp only [List.map_cons,List.getElem?_cons_zero,Option.some.injEq] at h
  simp [upd,h]
 | p :: L,q + 1,h,hn => by
  have h0 : ¬ p.1 = k:=by simpa using hn 0 (by omega)
  rw [upd,if_neg h0,List.set_cons_succ,upd_at (by simpa using h) (fun q' hq => by simpa using hn (q' + 1) (by omega))]
theorem upd_none {k : κ} {v : Value} : ∀ {L : List (κ × Value)},k ∉ L.map (·.1) → upd L k v = L ++ [(k,v)]
 | [],_ => rfl
 | p :: L,h => by
  simp only [List.map_cons,List.mem_cons,not_or] at h
  unfold upd
  rw [if_neg (fun e => h.1 e.symm),upd_none h.2]; rfl

theorem MapAt.lookup (KE : KeyEq P K enc) {T E : TypeId} (ht : P.underlying T = some (.map K E)) {z : Value} {W : World} (hz : (zeroValue E).run P W = .ok z W) {b : Nat} {L : List (κ × Value)} (h : MapAt enc W b L) (k : κ) (c : Bool) :
  (Instr.lookup T (.map (some b)) (enc k) c).run P W = .ok (if c then .tuple #[(lookM L k).getD z,.bool (lookM L k).isSome] else (lookM L k).getD z) W:=by
 obtain ⟨es,clock,h1,h2,h3,h4⟩ := h
 have hf:=KE.fnd k (L.map (·.1)) es.toList W (by rw [h2,List.map_map]; rfl)
 have hl:=findL_lookM k L es.toList 0 h3
 unfold Instr.lookup
 simp only [Sem.run_bind,run_underlying ht,Result.andThen,MapKept.run_getObj_map h1,KE.chk,Sem.run_pure,hf]
 cases hfl : findL k (L.map (·.1)) es.toList 0 with
 | none =>
  rw [hfl] at hl
  rw [← hl]
  simp only [Option.map_none,Sem.run_bind,hz,Result.andThen,Sem.run_pure,Option.getD_none,Option.isSome_none]
  all_goals (cases c <;> rfl)
 | some r =>
  obtain ⟨i,v⟩ := r
  rw [hfl] at hl
  rw [← hl]
  simp only [Option.map_some,Option.getD_some,Option.isSome_some]
  all_goals (cases c <;> rfl)

theorem MapAt.update (KE : KeyEq P K enc) {T E : TypeId} (ht : P.underlying T = some (.map K E)) {W : World} {b : Nat} {L : List (κ × Value)} (h : MapAt enc W b L) (k : κ) (v : Value) :
  ∃ W',(Instr.mapUpdate T (.map (some b)) (enc k) v).run P W = .ok () W' ∧ MapAt enc W' b (upd L k v) ∧ W.grownBy W' (some b):=by
 obtain ⟨es,clock,h1,h2,h3,h4⟩ := h
 have hlen : es.toList.length = (L.map (·.1)).length:=by have:=congrArg List.length h3; simpa using this
 have hf:=KE.fnd k (L.map (·.1)) es.toList W (by rw [h2,List.map_map]; rfl)
 have hset : ∀ o : Obj,W.grownBy { W with heap:=W.heap.setIfInBounds b o } (some b):=fun o => ⟨rfl,rfl,rfl,by simp,fun q _ hq => (MapKept.heap_set (o':=o) h1).2 q (fun e => hq (by rw [e]))⟩
 unfold Instr.mapUpdate
 simp only [Sem.run_bind,run_underlying ht,Result.andThen,MapKept.run_getObj_map h1,KE.chk,hf]
 cases hfl : findL k (L.map (·.1)) es.toList 0 with
 | none =>
  have hn:=findL_none hlen hfl
  simp only [MapKept.run_setObj_map _ h1]
  refine ⟨_,rfl,⟨_,_,(MapKept.heap_set h1).1, ?_, ?_,h4.push _ _⟩,hset _⟩
  ·rw [upd_none hn]; simp [h2]
  ·rw [upd_none hn]; simp [h3]
 | some r =>
  obtain ⟨i,v0⟩ := r
  obtain ⟨q,rfl,hq,hql,hmin⟩ := findL_some hfl
  rw [Nat.zero_add]
  have hqs : q < es.size:=by simpa using hql
  have hke : es[q].key = enc k:=by
   have h6 : (es.toList.map (·.key))[q]? = (L.map (fun p => enc p.1))[q]? := by rw [h2]
   have h5 : (L.map (fun p => enc p.1))[q]? = ((L.map (·.1))[q]?).map enc:=by simp [Function.comp_def]
   rw [h5,hq] at h6
   simpa [hqs] using h6
  have hst : (Instr.keyThatStays (((es[q]?).map (·.key)).getD (enc k)) (enc k)).run P W = .ok (enc k) W:=by
   unfold Instr.keyThatStays
   simp [hqs,hke,KE.bits,Sem.run_pure]
  simp only [Sem.run_bind,hst,Result.andThen,MapKept.run_setObj_map _ h1]
  refine ⟨_,rfl,⟨_,_,(MapKept.heap_set h1).1, ?_, ?_,h4.modify q _ (fun _ => rfl)⟩,hset _⟩
  ·rw [upd_at hq hmin]
   apply List.ext_getElem?
   intro j
   have hj : (es.toList.map (·.key))[j]? = (L.map (fun p => enc p.1))[j]? := by rw [h2]
   simp only [List.getElem?_map,Array.getElem?_toList,Array.getElem?_modify,List.getElem?_set] at hj ⊢
   by_cases hqj : q = j
   ·subst hqj
    have hqL : q < L.length:=by simpa using (List.getElem?_eq_some_iff.1 hq).1
    simp [hqs,hqL]
   ·simp only [if_neg hqj]; exact hj
  ·rw [upd_at hq hmin]
   apply List.ext_getElem?
   intro j
   have hj : (es.toList.map (·.val))[j]? = (L.map (·.2))[j]? := by rw [h3]
   simp only [List.getElem?_map,Array.getElem?_toList,Array.getElem?_modify,List.getElem?_set] at hj ⊢
   by_cases hqj : q = j
   ·subst hqj
    have hqL : q < L.length:=by simpa using (List.getElem?_eq_some_iff.1 hq).1
    simp [hqs,hqL]
   ·simp only [if_neg hqj]; exact hj
def EntAt {κ : Type} (enc : κ → Value) (W : World) (b : Nat) (L : List (κ × Value)) (k : κ) (st : Nat) : Prop :=
 ∃ (es : Array MapEntry) (clock q : Nat),W.heap[b]? = some (.map es clock) ∧ es.toList.map (·.key) = L.map (fun p => enc p.1) ∧ es.toList.map (·.val) = L.map (·.2) ∧ Born es clock ∧
  (es[q]?).map MapEntry.born = some st ∧ (L.map (·.1))[q]? = some k ∧ ∀ q',q' < q → (L.map (·.1))[q']? ≠ some k
omit [DecidableEq κ] in
theorem EntAt.keep {W W' : World} {b : Nat} {L : List (κ × Value)} {k : κ} {st : Nat} (h : EntAt enc W b L k st) (hk : W'.heap[b]? = W.heap[b]?) : EntAt enc W' b L k st:=by
 obtain ⟨es,c,q,h1,h2⟩ := h; exact ⟨es,c,q,hk.trans h1,h2⟩
omit [DecidableEq κ] in
theorem EntAt.map {W : World} {b : Nat} {L : List (κ × Value)} {k : κ} {st : Nat} (h : EntAt enc W b L k st) : MapAt enc W b L:=by
 obtain ⟨es,c,q,h1,h2,h3,h4,_⟩ := h; exact ⟨es,c,h1,h2,h3,h4⟩
def entL (L : List (κ × Value)) (k : κ) (z : Value) : List (κ × Value):=if (lookM L k).isSome then L else L ++ [(k,z)]
theorem lookM_none {L : List (κ × Value)} {k : κ} (h : k ∉ L.map (·.1)) : lookM L k = none:=by
 unfold lookM
 rw [Option.map_eq_none_iff,List.find?_eq_none]
 intro p hp e
 exact h (List.mem_map.2 ⟨p,hp,by simpa using e⟩)
theorem MapAt.entry (KE : KeyEq P K enc) {T E : TypeId} (ht : P.underlying T = some (.map K E)) {z : Value} {W : World} (hz : (zeroValue E).run P W = .ok z W) {b : Nat} {L : List (κ × Value)} (h : MapAt enc W b L) (k : κ) :
  ∃ W' st,(Instr.mapEntry T (.map (some b)) (enc k)).run P W = .ok (.tuple #[(lookM L k).getD z,.int .i64 (st : Nat)]) W' ∧ EntAt enc W' b (entL L k z) k st ∧ W.grownBy W' (some b):=by
 obtain ⟨es,clock,h1,h2,h3,h4⟩ := h
 have hlen : es.toList.length = (L.map (·.1)).length:=by have:=congrArg List.length h3; simpa using this
 have hf:=KE.fnd k (L.map (·.1)) es.toList W (by rw [h2,List.map_map]; rfl)
 have hl:=findL_lookM k L es.toList 0 h3
 have hset : ∀ o : Obj,W.grownBy { W with heap:=W.heap.setIfInBounds b o } (some b):=fun o => ⟨rfl,rfl,rfl,by simp,fun q _ hq => (MapKept.heap_set (o':=o) h1).2 q (fun e => hq (by rw [e]))⟩
 unfold Instr.mapEntry
 simp only [Sem.run_bind,run_underlying ht,Result.andThen,MapKept.run_getObj_map h1,KE.chk,hf]
 cases hfl : findL k (L.map (·.1)) es.toList 0 with
 | none =>
  have hn:=findL_none hlen hfl
  have hlk:=lookM_none hn
  simp only [Sem.run_bind,hz,Result.andThen,MapKept.run_setObj_map _ h1,Sem.run_pure]
  refine ⟨{ W with heap:=W.heap.setIfInBounds b (.map (es.push { key:=enc k,val:=z,born:=clock }) (clock + 1)) },clock,by rw [hlk]; rfl,⟨_,_,es.size,(MapKept.heap_set h1).1, ?_, ?_,h4.push _ _,by simp, ?_,fun q' hq' => ?_⟩,hset _⟩
  ·rw [entL,hlk,if_neg (by simp)]; simp [h2]
  ·rw [entL,hlk,if_neg (by simp)]; simp [h3]
  ·rw [entL,hlk,if_neg (by simp),List.map_append,List.getElem?_append_right (by rw [← hlen]; simp)]
   rw [← hlen]; simp
  ·rw [entL,hlk,if_neg (by simp),List.map_append,List.getElem?_append_left (by rw [← hlen]; simpa using hq')]
   intro e
   exact hn (List.mem_of_getElem? e)
 | some r =>
  obtain ⟨i,v0⟩ := r
  obtain ⟨q,rfl,hq,hql,hmin⟩ := findL_some hfl
  rw [Nat.zero_add]
  have hqs : q < es.size:=by simpa using hql
  have hke : es[q].key = enc k:=by
   have h6 : (es.toList.map (·.key))[q]? = (L.map (fun p => enc p.1))[q]? := by rw [h2]
   have h5 : (L.map (fun p => enc p.1))[q]? = ((L.map (·.1))[q]?).map enc:=by simp [Function.comp_def]
   rw [h5,hq] at h6
   simpa [hqs] using h6
  have hst : (Instr.keyThatStays (((es[q]?).map (·.key)).getD (enc k)) (enc k)).run P W = .ok (enc k) W:=by
   unfold Instr.keyThatStays
   simp [hqs,hke,KE.bits,Sem.run_pure]
  rw [hfl] at hl
  have hlk : lookM L k = some v0:=by rw [← hl]; rfl
  have hent : entL L k z = L:=by rw [entL,hlk]; rfl
  simp only [Sem.run_bind,hst,Result.andThen,MapKept.run_setObj_map _ h1,Sem.run_pure]
  refine ⟨{ W with heap:=W.heap.setIfInBounds b (.map (es.modify q fun e => { e with key:=enc k }) clock) },es[q].born,by rw [hlk]; simp [hqs,goInt],⟨_,_,q,(MapKept.heap_set h1).1, ?_, ?_,h4.modify q _ (fun _ => rfl),by simp [hqs,Array.getElem_modify],by rw [hent]; exact hq,by rw [hent]; exact hmin⟩,hset _⟩
  ·rw [hent,← h2]
   apply List.ext_getElem?
   intro j
   simp only [List.getElem?_map,Array.getElem?_toList,Array.getElem?_modify]
   by_cases hqj : q = j
   ·subst hqj
    simp [hqs,hke]
   ·simp [hqj]
  ·rw [hent,← h3]
   apply List.ext_getElem?
   intro j
   simp only [List.getElem?_map,Array.getElem?_toList,Array.getElem?_modify]
   by_cases hqj : q = j
   ·subst hqj
    simp [hqs]
   ·simp [hqj]
theorem EntAt.store {W : World} {T b : Nat} {L : List (κ × Value)} {k : κ} {st : Nat} (h : EntAt enc W b L k st) (v : Value) :
  ∃ W',(Instr.entryStore T (.map (some b)) (.int .i64 (st : Nat)) v).run P W = .ok () W' ∧ MapAt enc W' b (upd L k v) ∧ W.grownBy W' (some b):=by
 obtain ⟨es,clock,q,h1,h2,h3,h4,h5,hq,hmin⟩ := h
 have hset : ∀ o : Obj,W.grownBy { W with heap:=W.heap.setIfInBounds b o } (some b):=fun o => ⟨rfl,rfl,rfl,by simp,fun q _ hq => (MapKept.heap_set (o':=o) h1).2 q (fun e => hq (by rw [e]))⟩
 obtain ⟨e,he,heb⟩ := Option.map_eq_some_iff.1 h5
 have hqs : q < es.size:=(Array.getElem?_eq_some_iff.1 he).1
 have hfi : es.findIdx? (fun e => (e.born : Int) == (st : Int)) = some q:=by
  rw [Array.findIdx?_eq_some_iff_getElem]
  refine ⟨hqs, ?_,fun j hj => ?_⟩
  ·have : es[q] = e:=by simpa [hqs] using he
   simp [this,heb]
  ·have hp:=List.pairwise_iff_getElem.1 h4.1 j q (by simp; omega) (by simpa using hqs) hj
   have e1 : es[q] = e:=by simpa [hqs] using he
   simp only [List.getElem_map,Array.getElem_toList,e1,heb] at hp
   simp; omega
 unfold Instr.entryStore
 simp only [Sem.run_bind,MapKept.run_getObj_map h1,Result.andThen,asInt,asIntOf,Sem.run_pure,hfi,MapKept.run_setObj_map _ h1]
 refine ⟨{ W with heap:=W.heap.setIfInBounds b (.map (es.modify q fun e => { e with val:=v }) clock) },rfl,⟨_,_,(MapKept.heap_set h1).1, ?_, ?_,h4.modify q _ (fun _ => rfl)⟩,hset _⟩
 ·rw [upd_at hq hmin]
  apply List.ext_getElem?
  intro j
  have hj : (es.toList.map (·.key))[j]? = (L.map (fun p => enc p.1))[j]? := by rw [h2]
  simp only [List.getElem?_map,Array.getElem?_toList,Array.getElem?_modify,List.getElem?_set] at hj ⊢
  by_cases hqj : q = j
  ·subst hqj
   have hqL : q < L.length:=by simpa using (List.getElem?_eq_some_iff.1 hq).1
   have hk2 : (L[q]?).map (·.1) = some k:=by simpa using hq
   simp only [List.getElem?_eq_getElem hqL,Option.map_some,Option.some.injEq] at hk2 hj
   rw [hk2] at hj
   simpa [hqs,hqL] using hj
  ·simp only [if_neg hqj]; exact hj
 ·rw [upd_at hq hmin]
  apply List.ext_getElem?
  intro j
  have hj : (es.toList.map (·.val))[j]? = (L.map (·.2))[j]? := by rw [h3]
  simp only [List.getElem?_map,Array.getElem?_toList,Array.getElem?_modify,List.getElem?_set] at hj ⊢
  by_cases hqj : q = j
  ·subst hqj
   have hqL : q < L.length:=by simpa using (List.getElem?_eq_some_iff.1 hq).1
   simp [hqs,hqL]
  ·simp only [if_neg hqj]; exact hj
end
end Go.Oche

/- m[k] += v in a region that draws its order: the entry may be made before the lookup. -/
namespace Go.Oche
open Go Go.RowKit

section
variable {κ : Type} [DecidableEq κ] {P : Program} {K : TypeId} {enc : κ → Value}
theorem lookM_append_new {L : List (κ × Value)} {k : κ} {z : Value} (h : lookM L k = none) : lookM (L ++ [(k,z)]) k = some z:=by
 unfold lookM at h ⊢
 rw [Option.map_eq_none_iff] at h
 rw [List.find?_append,h]; simp
theorem lookM_entL (L : List (κ × Value)) (k : κ) (z : Value) : (lookM (entL L k z) k).getD z = (lookM L k).getD z:=by
 unfold entL
 cases h : lookM L k with
 | none => rw [if_neg (by simp),lookM_append_new h]; rfl
 | some v => rw [if_pos (by rfl),h]
structure JE (enc : κ → Value) (w : World) (M : Nat) (L : List (κ × Value)) (k : κ) (z : Value) (e s : Nat) (S : Nat → Bool) (W : World) : Prop where
 grown : w.grownBy W (some M)
 off : S e = false → MapAt enc W M L ∧ S s = false
 on : S e = true → ∃ st,EntAt enc W M (entL L k z) k st
variable {w W : World} {M : Nat} {L : List (κ × Value)} {k : κ} {z : Value} {e s : Nat} {S : Nat → Bool}
theorem JE.start (h : MapAt enc w M L) : JE enc w M L k z e s (fun _ => false) w.drew :=
 ⟨⟨rfl,rfl,rfl,Nat.le_refl _,fun _ _ _ => rfl⟩,fun _ => ⟨h.keep rfl,rfl⟩,fun h => by cases h⟩
theorem JE.look (h : JE enc w M L k z e s S W) : ∃ L',MapAt enc W M L' ∧ (lookM L' k).getD z = (lookM L k).getD z:=by
 cases he : S e with
 | false => exact ⟨L,(h.off he).1,rfl⟩
 | true => obtain ⟨st,h1⟩ := h.on he; exact ⟨_,h1.map,lookM_entL L k z⟩
theorem JE.read (h : JE enc w M L k z e s S W) {i : Nat} (hi : i ≠ e) (hs : i = s → S e = true) : JE enc w M L k z e s (setB S i) W:=by
 refine ⟨h.grown,fun h' => ?_,fun h' => ?_⟩
 ·unfold setB at h' ⊢
  rw [if_neg (fun q => hi q.symm)] at h'
  have:=h.off h'
  refine ⟨this.1, ?_⟩
  split
  ·rename_i q
   have:=hs q.symm
   rw [h'] at this; cases this
  ·exact this.2
 ·unfold setB at h'
  rw [if_neg (fun q => hi q.symm)] at h'
  exact h.on h'
theorem JE.made (h : JE enc w M L k z e s S W) {W' : World} {st : Nat} (hg : W.grownBy W' (some M)) (h2 : EntAt enc W' M (entL L k z) k st) : JE enc w M L k z e s (setB S e) W' :=
 ⟨grownBy_trans h.grown hg,fun h' => by simp [setB] at h',fun _ => ⟨st,h2⟩⟩
end
end Go.Oche

/- A region that draws its order, with one store among operations that only read. -/
namespace Go.Oche
open Go Go.RowKit
structure JSt (st : Nat) (rd : List Nat) (A B : World → Prop) (L : Nat → Bool) (W : World) : Prop where
 off : L st = false → A W
 on : L st = true → B W
 rds : L st = true → ∀ i ∈ rd,L i = true
section
variable {st : Nat} {rd : List Nat} {A B : World → Prop} {L : Nat → Bool} {W W' : World}
theorem JSt.start (h : A W) : JSt st rd A B (fun _ => false) W:=⟨fun _ => h,fun h => by (cases h),fun h => by (cases h)⟩
theorem JSt.read (h : JSt st rd A B L W) {i : Nat} (hi : i ≠ st) : JSt st rd A B (setB L i) W:=by
 have e : setB L i st = L st:=by unfold setB; rw [if_neg (fun e => hi e.symm)]
 refine ⟨fun h' => h.off (by rwa [e] at h'),fun h' => h.on (by rwa [e] at h'),fun h' j hj => ?_⟩
 rw [e] at h'
 unfold setB
 split
 ·rfl
 ·exact h.rds h' j hj
theorem JSt.look (h : JSt st rd A B L W) {i : Nat} (hi : i ∈ rd) (hL : L i = false) : A W:=by
 refine h.off ?_
 cases hs : L st with
 | false => rfl
 | true => rw [h.rds hs i hi] at hL; cases hL
theorem JSt.write (h : ∀ i ∈ rd,L i = true) (hB : B W') : JSt st rd A B (setB L st) W':=by
 refine ⟨fun h' => by simp [setB] at h',fun _ => hB,fun _ j hj => ?_⟩
 unfold setB
 split
 ·rfl
 ·exact h j hj
end
end Go.Oche

/- A region that draws its order, with one new block and one store into it, among operations that only read: the block's place is known ahead. -/
namespace Go.Oche
open Go Go.RowKit
structure JBox (w0 : World) (ia ist : Nat) (t : TypeId) (z c : Array Value) (L : Nat → Bool) (W : World) : Prop where
 below : Below w0.heap.size w0 W
 off : L ia = false → W.heap.size = w0.heap.size ∧ L ist = false
 on : L ia = true → L ist = false → W.heap[w0.heap.size]? = some (.cells z t (0,0))
 st : L ist = true → W.heap[w0.heap.size]? = some (.cells c t (0,0))
section
variable {w0 W : World} {ia ist : Nat} {t : TypeId} {z c : Array Value} {L : Nat → Bool}
theorem setB_ne {i j : Nat} (h : j ≠ i) : setB L i j = L j:=by unfold setB; rw [if_neg h]
theorem setB_eq {i : Nat} : setB L i i = true:=by unfold setB; rw [if_pos rfl]
theorem JBox.start : JBox w0 ia ist t z c (fun _ => false) w0.drew:=⟨⟨rfl,rfl,rfl,Nat.le_refl _,fun _ _ => rfl⟩,fun _ => ⟨rfl,rfl⟩,fun h => (by cases h),fun h => (by cases h)⟩
theorem JBox.read (h : JBox w0 ia ist t z c L W) {i : Nat} (h1 : ia ≠ i) (h2 : ist ≠ i) : JBox w0 ia ist t z c (setB L i) W:=by
 refine ⟨h.below, ?_, ?_, ?_⟩ <;> rw [setB_ne h2] <;> try rw [setB_ne h1]
 ·exact h.off
 ·exact h.on
 ·exact h.st
theorem JBox.alloc (h : JBox w0 ia ist t z c L W) (hL : L ia = false) (hne : ist ≠ ia) : JBox w0 ia ist t z c (setB L ia) (W.alloc (.cells z t)) ∧ W.heap.size = w0.heap.size:=by
 obtain ⟨hs,hst⟩ := h.off hL
 refine ⟨⟨h.below.trans ((aB _ _).mono h.below.size),fun h' => ?_,fun _ _ => ?_,fun h' => ?_⟩,hs⟩
 ·rw [setB_eq] at h'; cases h'
 ·rw [← hs]; exact World.alloc_heap_new _ _
 ·rw [setB_ne hne,hst] at h'; cases h'
theorem JBox.store (h : JBox w0 ia ist t z c L W) (hL : L ia = true) (hS : L ist = false) (hne : ist ≠ ia) : JBox w0 ia ist t z c (setB L ist) (W.setRow w0.heap.size c):=by
 refine ⟨below_setRow h.below (Nat.le_refl _) _,fun h' => ?_,fun _ h' => ?_,fun _ => setRow_heap _ _ _ _ _ _ (h.on hL hS)⟩
 ·rw [setB_ne hne.symm,hL] at h'; cases h'
 ·rw [setB_eq] at h'; cases h'
end
section
variable {P : Program}
theorem opOK_store_row {o : Oper} {a : Act} {w : World} {R : Value → World → Prop} (ty : TypeId) (x y : Operand) (ho : o.op = .store ty x y)
  (g : Nat) (cells : Array Value) (hx : a.eval x = .pointer (some ⟨g,0,none⟩)) (hy : a.eval y = .agg cells)
  (t : TypeId) (old : Array Value) (hg : w.heap[g]? = some (.cells old t (0,0))) (hi : (P.info? ty).map (·.size) = some cells.size)
  (hold : old.size = cells.size) (h1 : cells.all (·.oneCell') = true) (h : R undef (w.setRow g cells)) : opOK P o a w R:=by
 unfold opOK execOp
 simp only [ho,hx,hy,Instr.storeAt,Instr.sureAddr,Sem.run_bind,Sem.run_pure,Result.andThen_ok,run_storeVar_row w g t ty old cells hg hi hold h1]
 exact h
end
end Go.Oche

/- A struct of many cells, loaded and stored as a whole: one step, whatever the number of cells. -/
namespace Go.Oche
open Go Go.RowKit
section
variable {P : Program}
theorem opOK_load_row {o : Oper} {a : Act} {w : World} {R : Value → World → Prop} (ty : TypeId) (x : Operand) (ho : o.op = .load ty x)
  (g : Nat) (cells : Array Value) (hx : a.eval x = .pointer (some ⟨g,0,none⟩)) (t : TypeId) (fr : Nat × Nat) (hg : w.heap[g]? = some (.cells cells t fr)) (d : TypeDesc) (hu : P.underlying ty = some d)
  (hd : (match d with | .struct _ | .array _ _ => true | _ => false) = true) (hi : (P.info? ty).map (·.size) = some cells.size) (h : R (.agg cells) w) : opOK P o a w R:=by
 unfold opOK execOp
 simp only [ho,hx,Instr.loadAt,Instr.sureAddr,Sem.run_bind,Sem.run_pure,Result.andThen_ok,run_loadVar_row w g t ty cells fr d hg hu hd hi]
 exact h
theorem opOK_load_agg {o : Oper} {a : Act} {w : World} {R : Value → World → Prop} (ty : TypeId) (x : Operand) (ho : o.op = .load ty x)
  (b off : Nat) (cells : List Value) (hx : a.eval x = .pointer (some ⟨b,off,none⟩)) (hc : ∀ j v,cells[j]? = some v → w.cell? ⟨b,off + j,none⟩ = some v) (d : TypeDesc) (hu : P.underlying ty = some d)
  (hd : (match d with | .struct _ | .array _ _ => true | _ => false) = true) (hi : (P.info? ty).map (·.size) = some cells.length) (h : R (.agg cells.toArray) w) : opOK P o a w R:=by
 have hl : (loadCells ⟨b,off,none⟩ cells.length).run P w = .ok cells.toArray w :=
  run_loadCells_list (P:=P) w ⟨b,off,none⟩ cells (fun j v hv => by
   have hadd : (⟨b,off,none⟩ : Addr).add j = ⟨b,off + j,none⟩ := by unfold Addr.add; split <;> simp_all
   rw [hadd]; exact hc j v hv)
 have hv : (loadVar ty ⟨b,off,none⟩).run P w = .ok (.agg cells.toArray) w:=by
  cases hq : P.info? ty with
  | none => simp [hq] at hi
  | some i =>
   have hs : i.size = cells.length:=by simpa [hq] using hi
   cases d <;> simp at hd <;> simp [loadVar,isAgg,run_underlying hu,sizeOf,typeInfo,hq,hs,hl]
 unfold opOK execOp
 simp only [ho,hx,Instr.loadAt,Instr.sureAddr,Sem.run_bind,Sem.run_pure,Result.andThen_ok,hv]
 exact h
end
end Go.Oche

/- Chapter 4: players compared. -/
namespace Go.Proofs.YtnhggfnnolfcdaaGreat
open Go.RowKit Go.Oche Go.Proofs
instance plrDec : DecidableEq Plr:=fun x y => decidable_of_iff (x.pts = y.pts ∧ x.mks = y.mks ∧ x.kl = y.kl) ⟨fun ⟨a,b,c⟩ => by cases x; cases y; simp_all,fun h => by subst h; exact ⟨rfl,rfl,rfl⟩⟩
theorem eq_marks (xs ys : List Int) (h7 : xs.length = 7) (h7' : ys.length = 7) (w : World) : (Op.equalIn 9999 78 (.agg (xs.map (Value.int .i64)).toArray) (.agg (ys.map (Value.int .i64)).toArray)).run Tryz.prog w = .ok (decide (xs = ys)) w:=by
 have h3 : (Tryz.prog.info? 3).isSome = true:=by kernel_rfl
 obtain ⟨i,hi⟩ := Option.isSome_iff_exists.1 h3
 exact run_eq_ints 9997 hi (by kernel_rfl) Tryz.underlying3 xs ys (by omega) (by rw [h7]; exact Tryz.underlying78) w
set_option maxRecDepth 100000 in
theorem eq_plr (x y : Plr) (h7 : x.mks.length = 7) (h7' : y.mks.length = 7) (w : World) : (Op.equalIn 10000 80 (plrV x) (plrV y)).run Tryz.prog w = .ok (decide (x = y)) w:=by
 have hm:=eq_marks x.mks y.mks h7 h7' w
 have hp : ∀ p : Plr,p.mks.length = 7 → (part 78 (plrRow p).toArray 1).run Tryz.prog w = .ok (.agg (p.mks.map (Value.int .i64)).toArray) w:=fun p hp => by
  obtain ⟨pp,pm,pk⟩ := p
  obtain ⟨a,b,c,d,e,f,g,rfl⟩ := list_seven hp
  kernel_rfl
 have hp0 : ∀ p : Plr,(part 3 (plrRow p).toArray 0).run Tryz.prog w = .ok (.int .i64 p.pts) w:=fun p => part_cell Tryz.underlying3 rfl w
 have hp8 : ∀ p : Plr,p.mks.length = 7 → (part 4 (plrRow p).toArray 8).run Tryz.prog w = .ok (.bool p.kl) w:=fun p hp => by
  obtain ⟨pp,pm,pk⟩ := p
  obtain ⟨a,b,c,d,e,f,g,rfl⟩ := list_seven hp
  kernel_rfl
 have hf : (Tryz.prog.fieldsOf 80).toList.map (fun f => (f.name, f.type, f.offset)) = [("Points", 3, 0), ("Marks", 78, 1), ("Killer", 4, 8)] := by kernel_rfl
 unfold plrV
 rw [run_equalIn_struct w 9999 80 _ _ (by kernel_rfl) (by kernel_rfl)]
 obtain ⟨fs,hfs⟩ : ∃ fs,(Tryz.prog.fieldsOf 80).toList = fs:=⟨_,rfl⟩
 rw [hfs] at hf ⊢
 match fs,hf with
 | [f1,f2,f3],hf =>
  simp only [List.map_cons,List.map_nil,List.cons.injEq,Prod.mk.injEq,and_true] at hf
  obtain ⟨⟨n1,t1,o1⟩,⟨n2,t2,o2⟩,⟨n3,t3,o3⟩⟩ := hf
  have q1:=run_equalIn_int (P:=Tryz.prog) w 9998 3 .i64 .i64 x.pts y.pts Tryz.underlying3
  have q3:=run_equalIn_bool' (P:=Tryz.prog) w 9998 4 x.kl y.kl Tryz.underlying4
  simp only [Op.eqFields,n1,n2,n3,t1,t2,t3,o1,o2,o3,ne_eq,String.reduceEq,not_false_eq_true,if_true,Sem.run_bind,hp0,q1,Result.andThen_ok]
  have hd : decide (x = y) = ((x.pts == y.pts) && (decide (x.mks = y.mks) && (x.kl == y.kl))):=by
   rw [Bool.eq_iff_iff]; cases x; cases y; simp
  rw [hd]
  have a1:=hp x h7
  have a2:=hp y h7'
  have a3:=hp8 x h7
  have a4:=hp8 y h7'
  obtain ⟨b1,e1⟩ : ∃ b,(x.pts == y.pts) = b:=⟨_,rfl⟩
  obtain ⟨b2,e2⟩ : ∃ b,decide (x.mks = y.mks) = b:=⟨_,rfl⟩
  obtain ⟨b3,e3⟩ : ∃ b,(x.kl == y.kl) = b:=⟨_,rfl⟩
  rw [e2] at hm
  rw [e3] at q3
  rw [e1,e2,e3]
  cases b1 <;> cases b2 <;> cases b3 <;> simp [a1,a2,a3,a4,q3,hm]
theorem neq_plr (x y : Plr) (h7 : x.mks.length = 7) (h7' : y.mks.length = 7) (w : World) : (binOp .neq 80 (plrV x) (plrV y)).run Tryz.prog w = .ok (.bool (!decide (x = y))) w:=by
 have:=eq_plr x y h7 h7' w
 unfold plrV at this ⊢
 rw [run_neq_struct,this]; rfl
theorem opOK_neq_plr {o : Oper} {a : Act} {w : World} {R : Value → World → Prop} (x y : Operand) (z : TypeId) (ho : o.op = .binOp .neq 80 x y z) (p q : Plr) (h7 : p.mks.length = 7) (h7' : q.mks.length = 7)
  (hx : a.eval x = plrV p) (hy : a.eval y = plrV q) (h : R (.bool (!decide (p = q))) w) : opOK Tryz.prog o a w R:=by
 have hg : (eqGuard .neq 80 x y (plrV p) (plrV q)).run Tryz.prog w = .ok () w:=run_eqGuard_agg w _ _ _ _ _ _ (by kernel_rfl)
 unfold opOK execOp
 simp only [ho,hx,hy,Sem.run_bind,hg,neq_plr p q h7 h7',Result.andThen_ok,Sem.run_pure]
 exact h
theorem size_plr : (Tryz.prog.info? 80).map (·.size) = some 9:=by kernel_rfl
theorem opOK_load_plr {o : Oper} {a : Act} {w : World} {R : Value → World → Prop} (x : Operand) (ho : o.op = .load 80 x) (pb i : Nat) (l : List Plr) (hi : i < l.length) (hx : a.eval x = .pointer (some ⟨pb,i * 9,none⟩)) (hP : PlsAt w pb l) (h : R (plrV l[i]) w) : opOK Tryz.prog o a w R :=
 opOK_load_agg 80 x ho pb (i * 9) (plrRow l[i]) hx (fun _ _ hv => hP.cell hi hv) _ Tryz.underlying80 rfl (by rw [plrRow_len (hP.1 _ (List.getElem_mem hi))]; exact size_plr) h
end Go.Proofs.YtnhggfnnolfcdaaGreat

/- Chapter 4: places, points, comparing by cricket's law. -/
namespace Go.Proofs.YtnhggfnnolfcdaaGreat
open Go.RowKit Go.Oche Go.Proofs
theorem within_one' {S : Nat → Prop} (lo hi n : Int) (r : Bool) (hr : Hid (isIn n lo hi = r)) (v : Value) (w : World) (hs : Sl S w v (ints [n])) :
  Calls Tryz.prog 35 #[.int .i64 lo,.int .i64 hi,v] w fun e w' => e = .returned (.bool r) ∧ Below w.heap.size w w':=by
 rw [← hr.out]
 exact (within_any lo hi [n] v w hs).mono fun e w' ⟨h,hb⟩ => ⟨by rw [h,out_one],hb⟩
def placeI (n : Int) : Int:=if n = 25 then 6 else n - 15
def placeB (n : Int) : Bool:=n == 25 || isIn n 15 20
set_option maxRecDepth 100000 in
theorem place_any (n : Int) (hn : -1000 ≤ n ∧ n ≤ 1000) (w : World) :
  Calls Tryz.prog 114 #[.int .i64 n] w fun e w' => e = .returned (.tuple #[.int .i64 (placeI n),.bool (placeB n)]) ∧ Below w.heap.size w w':=by
 by_cases h : n = 25
 ·have e1 : (n == 25) = true:=by simp [h]
  have E1 : Hid (placeI n = 6):=Lib.hid (by unfold placeI; rw [if_pos h])
  have E2 : Hid (placeB n = true):=Lib.hid (by unfold placeB; rw [e1]; rfl)
  rw [E1.out,E2.out]
  clear h
  go_enter Tryz.func114,Tryz.ntmps114
  go_wp2
  go_ret2
  exact ⟨rfl,Below.refl _ _⟩
 ·have e1 : (n == 25) = false:=by simp [h]
  obtain ⟨b,hb⟩ : ∃ b,isIn n 15 20 = b:=⟨_,rfl⟩
  have E1 : Hid (placeI n = n - 15):=Lib.hid (by unfold placeI; rw [if_neg h])
  have E2 : Hid (placeB n = b):=Lib.hid (by unfold placeB; rw [e1,hb]; rfl)
  rw [E1.out,E2.out]
  have H:=Lib.hid hb
  clear h hb
  go_enter Tryz.func114,Tryz.ntmps114
  go_wp2_with fail
  refine (within_one' 15 20 n b H _ _ (Sl.new1 (fun _ => True) w trivial 3 (.int .i64 n))).mono ?_
  rintro e w2 ⟨rfl,hb2⟩
  have HB:=Lib.hid (bThen (aB _ _) hb2)
  clear hb2
  go_wp2
  go_ret2
  exact ⟨rfl,HB.out⟩
set_option maxRecDepth 100000 in
theorem points_any (r : Rul) (nv : Value) (x y : Plr) (h7 : x.mks.length = 7) (h7' : y.mks.length = 7) (w : World) :
  Calls Tryz.prog 112 #[.agg (rulA r nv),plrV x,plrV y] w fun e w' => e = .returned (.int .i64 (if r.cut = true then cmp3 x.pts y.pts else cmp3 y.pts x.pts)) ∧ Below w.heap.size w w':=by
 obtain ⟨xp,xm,xk⟩ := x
 obtain ⟨yp,ym,yk⟩ := y
 obtain ⟨a,b,c,d,e,f,g,rfl⟩ := list_seven h7
 obtain ⟨a',b',c',d',e',f',g',rfl⟩ := list_seven h7'
 clear h7 h7'
 unfold plrV plrRow rulA
 simp only [List.map_cons,List.map_nil,List.cons_append,List.nil_append]
 cases r.cut
 ·go_enter Tryz.func112,Tryz.ntmps112
  go_wp2_with (first | (go_at_call 103; refine (more_any _ _ _).mono ?_; rintro e w' ⟨rfl,rfl⟩) | (go_at_call 105; refine (compare_any _ _ _).mono ?_; rintro e w' ⟨rfl,rfl⟩))
  go_ret
  exact ⟨by simp,((aB _ _).alloc (by simp) _).alloc (by simp; omega) _⟩
 ·go_enter Tryz.func112,Tryz.ntmps112
  go_wp2_with (first | (go_at_call 103; refine (more_any _ _ _).mono ?_; rintro e w' ⟨rfl,rfl⟩) | (go_at_call 105; refine (compare_any _ _ _).mono ?_; rintro e w' ⟨rfl,rfl⟩))
  go_ret
  exact ⟨by simp,((aB _ _).alloc (by simp) _).alloc (by simp; omega) _⟩
set_option maxRecDepth 100000 in
set_option maxHeartbeats 1000000 in
theorem or_any (q : Nat) (x y : Int) (w : World) (h0 : w.cell? ⟨q,0,none⟩ = some (.int .i64 x)) (h1 : w.cell? ⟨q,1,none⟩ = some (.int .i64 y)) :
  Calls Tryz.prog 111 #[.slice (some ⟨q,0,none⟩) 2 2] w fun e w' => e = .returned (.int .i64 (if x = 0 then y else x)) ∧ w = w':=by
 obtain ⟨z,hz⟩ : ∃ z,(if x = 0 then y else x) = z:=⟨_,rfl⟩
 have HZ : Hid ((if x = 0 then y else x) = z):=Lib.hid hz
 rw [hz]
 clear hz
 go_enter Tryz.func111,Tryz.ntmps111
 go_wp2
 go_loop [5,8] (fun _ i => ∃ k : Nat,k ≤ 2 ∧ i = .int .i64 k ∧ Hid (1 ≤ k → x = 0) ∧ Hid (k = 2 → y = 0)) (fun _ i => 2 - (intOf i).toNat)
 case atStart => exact ⟨0,by omega,rfl,Lib.hid (fun h => by omega),Lib.hid (fun h => by omega)⟩
 case round =>
  obtain ⟨k,hk,rfl,H1,H2⟩ := hrel
  by_cases k0 : k = 0
  ·subst k0
   by_cases hx : x = 0
   ·have ex : (x != 0) = false:=by simp [hx]
    have HX:=Lib.hid hx
    clear hx
    go_wp2
    go_round
    case rel => exact ⟨1,by omega,rfl,Lib.hid (fun _ => HX.out),Lib.hid (fun h => by omega)⟩
    case measure => simp [intOf]
   ·have ex : (x != 0) = true:=by simp [hx]
    have HX:=Lib.hid hx
    clear hx
    go_wp2
    go_ret
    exact ⟨ret_int (by rw [← HZ.out,if_neg HX.out]),rfl⟩
  ·by_cases k1 : k = 1
   ·subst k1
    by_cases hy : y = 0
    ·have ey : (y != 0) = false:=by simp [hy]
     have HY:=Lib.hid hy
     clear hy k0
     go_wp2
     go_round
     case rel => exact ⟨2,by omega,rfl,Lib.hid (fun _ => H1.out (by omega)),Lib.hid (fun _ => HY.out)⟩
     case measure => simp [intOf]
    ·have ey : (y != 0) = true:=by simp [hy]
     clear hy k0
     go_wp2
     go_ret
     exact ⟨ret_int (by rw [← HZ.out,if_pos (H1.out (by omega))]),rfl⟩
   ·obtain rfl : k = 2:=by omega
    clear k0 k1
    go_wp2
    go_ret
    exact ⟨ret_int (by have h2:=H2.out; simp at h2; rw [← HZ.out,if_pos (H1.out (by omega)),h2]),rfl⟩
end Go.Proofs.YtnhggfnnolfcdaaGreat
