/- The texts HV, HX, VN, TQ, TS, in build order. -/
import Derived.Test.YtnbmgkmcaoafnaaGreatDoorZar
import Derived.Lib.MinMax
import Derived.Laws.MakeOwn

/- Chapter 5: widen. -/
namespace Go.Proofs.YtnbmgkmcaoafnaaGreatDoor
open Go Go.RowKit Go.Oche Go.Proofs

set_option maxRecDepth 100000 in
set_option maxHeartbeats 4000000 in
theorem widen_any (g o : Nat) (x y lo hi : Int) (cs : Array Value) (only : Bool) (w : World) (hg : w.heap[g]? = some (.cells cs 65 (0,0))) (h0 : cs[o]? = some (.int .i64 x)) (h1 : cs[o + 1]? = some (.int .i64 y)) :
  Calls Tryz.prog 28 #[.pointer (some ⟨g,o,none⟩),.bool only,.agg #[.int .i64 lo,.int .i64 hi]] w fun e w' => (∃ v,e = .returned v) ∧ w.grownBy w' (some g) ∧ w'.heap[g]? = some (.cells ((cs.setIfInBounds o (.int .i64 (if only = true then lo else min x lo))).setIfInBounds (o + 1) (.int .i64 (if only = true then hi else max y hi))) 65 (0,0)):=by
 obtain ⟨w1,hw1⟩ : ∃ z,w.alloc (.cells #[.int .i64 lo,.int .i64 hi] 65) = z:=⟨_,rfl⟩;have hb1 : Below w.heap.size w w1:=by rw [← hw1]; exact aB _ _
 have k : w1.heap[w.heap.size]? = some (.cells #[.int .i64 lo,.int .i64 hi] 65 (0,0)):=by rw [← hw1]; exact World.alloc_heap_new _ _
 have hgl : g < w.heap.size:=(Array.getElem?_eq_some_iff.1 hg).1
 have hg1:=(hb1.block g hgl).trans hg;have c0 : w1.cell? ⟨w.heap.size,0,none⟩ = some (.int .i64 lo):=by rw [cell_of_heap k]; rfl
 have c1 : w1.cell? ⟨w.heap.size,1,none⟩ = some (.int .i64 hi):=by rw [cell_of_heap k]; rfl
 have g0 : w1.cell? ⟨g,o,none⟩ = some (.int .i64 x):=by rw [cell_of_heap hg1]; exact h0
 have g1 : w1.cell? ⟨g,o + 1,none⟩ = some (.int .i64 y):=by rw [cell_of_heap hg1]; exact h1
 have f0 : w1.frozen? ⟨g,o,none⟩ = false:=frozen_of_heap hg1;have f1 : w1.frozen? ⟨g,o + 1,none⟩ = false:=frozen_of_heap hg1;have key : ∀ (u : World) (a b : Int),Below w1.heap.size w1 u → w.grownBy ((u.setCell ⟨g,o,none⟩ (.int .i64 a)).setCell ⟨g,o + 1,none⟩ (.int .i64 b)) (some g) ∧ ((u.setCell ⟨g,o,none⟩ (.int .i64 a)).setCell ⟨g,o + 1,none⟩ (.int .i64 b)).heap[g]? = some (.cells ((cs.setIfInBounds o (.int .i64 a)).setIfInBounds (o + 1) (.int .i64 b)) 65 (0,0)):=fun u a b hu => by
  have hgu:=(hu.block g (Array.getElem?_eq_some_iff.1 hg1).1).trans hg1
  have hwu:=bThen hb1 hu;refine ⟨⟨hwu.os,hwu.tape,hwu.output,by simpa using hwu.size,fun q hq hn => ?_⟩,heap_setCell_at (heap_setCell_at hgu _) _⟩
  have hne : q ≠ g:=fun e => hn (by rw [e])
  rw [Below.heap_setCell _ _ _ _ hne,Below.heap_setCell _ _ _ _ hne];exact hwu.block q hq
 have HKEY:=Lib.hid key;have HW:=Lib.hid hw1;clear hw1 hb1 k hg hg1 h0 h1 key
 go_enter Tryz.func28,Tryz.ntmps28
 cases only
 ·go_upto_region 3 with fail
  rw [HW.out];refine wp_region_seq 17 [.is (.pointer (some ⟨g,o,none⟩)),.is (.pointer (some ⟨g,o,none⟩)),.is (.pointer (some ⟨g,o,none⟩)),.is (.pointer (some ⟨g,o,none⟩)),.is (.int .i64 x),.is (.pointer (some ⟨w.heap.size,0,none⟩)),.is (.int .i64 lo),.is (.int .i64 (min x lo)),.is (.pointer (some ⟨g,o,none⟩)),.is (.pointer (some ⟨g,o,none⟩)),.is (.pointer (some ⟨g,o + 1,none⟩)),.is (.int .i64 y),.is (.pointer (some ⟨w.heap.size,1,none⟩)),.is (.int .i64 hi),.is (.int .i64 (max y hi)),.is (.agg #[.int .i64 (min x lo),.int .i64 (max y hi)]),.is (.pointer (some ⟨g,o,none⟩))] rfl mix (by kernel_rfl) (by kernel_rfl) ?seqm
  case seqm =>
   simp only [List.take_succ_cons,List.take_zero]
   iterate 17
    refine seq_on (by rfl) (fun w3 hb3 _ => ?_) ?_
    ·have g0':=bAt hb3 g0
     have g1':=bAt hb3 g1;have c0':=bAt hb3 c0;have c1':=bAt hb3 c1;simp [opOK,go_sem,g0',g1',c0',c1',Below.refl]
     try exact rfl
    simp only [Act.put,List.setIfInBounds_toArray,List.set_cons_succ,List.set_cons_zero]
   refine seq_end fun w3 hb3 _ => ?_
   simp only [List.drop_succ_cons,List.drop_zero];have g0':=bAt hb3 g0;have g1':=bAt hb3 g1;have hkk:=HKEY.out w3 (min x lo) (max y hi) hb3;have hgl3:=hb3.block g (World.block_lt_of_cell? w1 _ g0);have f0' : w3.frozen? ⟨g,o,none⟩ = false:=by unfold World.frozen? at f0 ⊢; rw [hgl3]; exact f0
   have f1' : w3.frozen? ⟨g,o + 1,none⟩ = false:=by unfold World.frozen? at f1 ⊢; rw [hgl3]; exact f1
   have HKK:=Lib.hid hkk;clear hb3 hkk hgl3 g0 g1 f0 f1 c0 c1;go_wp2;go_returns;exact ⟨⟨_,rfl⟩,HKK.out.1,HKK.out.2⟩
 ·go_upto_region 2 with fail
  rw [HW.out];have hkk:=HKEY.out w1 lo hi (Below.refl _ _);have HKK:=Lib.hid hkk;clear hkk;go_wp2;go_returns;exact ⟨⟨_,rfl⟩,HKK.out.1,HKK.out.2⟩
open Go Go.RowKit Go.Oche Go.Proofs

def spFlat : List (Int × Int) → List Value
 | [] => []
 | p :: L => .int .i64 p.1 :: .int .i64 p.2 :: spFlat L
theorem spFlat_at : ∀ {L : List (Int × Int)} {k : Nat} (h : k < L.length),(spFlat L)[k * 2]? = some (.int .i64 L[k].1) ∧ (spFlat L)[k * 2 + 1]? = some (.int .i64 L[k].2)
 | p :: L,0,_ => ⟨rfl,rfl⟩
 | p :: L,k + 1,h => by
  have ih:=spFlat_at (L:=L) (k:=k) (by simpa using h)
  rw [show (k + 1) * 2 = k * 2 + 1 + 1 by omega,spFlat]
  exact ih
theorem spFlat_set : ∀ {L : List (Int × Int)} {k : Nat} (a b : Int),k < L.length → ((spFlat L).set (k * 2) (.int .i64 a)).set (k * 2 + 1) (.int .i64 b) = spFlat (L.set k (a,b))
 | p :: L,0,a,b,_ => rfl
 | p :: L,k + 1,a,b,h => by
  have ih:=spFlat_set (L:=L) (k:=k) a b (by simpa using h)
  rw [show (k + 1) * 2 = k * 2 + 1 + 1 by omega,spFlat,List.set_cons_succ,List.set_cons_succ,List.set_cons_succ,List.set_cons_succ,ih]
  rfl
theorem spFlat_rep : ∀ n : Nat,spFlat (List.replicate n (0,0)) = List.replicate (n * 2) (.int .i64 0)
 | 0 => rfl
 | n + 1 => by rw [List.replicate_succ,spFlat,spFlat_rep n,show (n + 1) * 2 = n * 2 + 1 + 1 by omega,List.replicate_succ,List.replicate_succ]
theorem info_sp5 : (Tryz.prog.info? 65).map (fun i => (i.zero,i.size,i.bytes)) = some (some (.agg #[.int .i64 0,.int .i64 0]),2,16):=by kernel_rfl
theorem made_two (a : Value) (m : Nat) : madeCells #[a,a] m = (List.replicate m a).toArray:=by
 refine Array.ext (by simp [madeCells]) fun i h1 h2 => ?_
 have : i % 2 = 0 ∨ i % 2 = 1:=by omega
 rcases this with h | h <;> simp [madeCells,h]
theorem make_spans (n : Nat) (hn : n ≤ 1000) (w : World) : (Instr.makeSlice 60 (.int .i64 n) (.int .i64 n)).run Tryz.prog w = .ok (.slice (some ⟨w.heap.size,0,none⟩) n n) (w.alloc (.cells (spFlat (List.replicate n (0,0))).toArray 65)):=by
 obtain ⟨i,hi,hz,hs,hb⟩ := info_parts info_sp5;have:=run_make (P:=Tryz.prog) w 60 65 i _ Tryz.underlying60 hi hz .i64 .i64 (n : Int) (n : Int) (by omega) (by omega) (by rw [hb]; omega) (by omega)
 rw [hs] at this;have e : madeCells (Value.agg #[.int .i64 0,.int .i64 0]).cells (n * 2) = (spFlat (List.replicate n (0,0))).toArray:=by rw [spFlat_rep,← made_two]; rfl
 simpa [e] using this
structure JG (w0 : World) (n : Nat) (L : Nat → Bool) (vs : Nat → Value) (W : World) : Prop where
 below : Below w0.heap.size w0 W
 made : ∀ i,i = 2 ∨ i = 5 ∨ i = 8 → L i = true → ∃ b,vs i = .slice (some ⟨b,0,none⟩) n n ∧ w0.heap.size ≤ b ∧ W.heap[b]? = some (.cells (spFlat (List.replicate n (0,0))).toArray 65 (0,0))
 ne : ∀ i j,(i = 2 ∨ i = 5 ∨ i = 8) → (j = 2 ∨ j = 5 ∨ j = 8) → i ≠ j → L i = true → L j = true → vs i ≠ vs j
 asg : ∀ i j,(i = 9 ∧ j = 2) ∨ (i = 10 ∧ j = 5) ∨ (i = 11 ∧ j = 8) → L i = true → L j = true ∧ vs i = vs j
section
variable {w0 W : World} {n : Nat} {L : Nat → Bool} {vs vs' : Nat → Value}
theorem JG.congr (hc : ∀ j,L j = true → vs j = vs' j) (h : JG w0 n L vs W) : JG w0 n L vs' W :=
 ⟨h.below,fun i hi e => by rw [← hc _ e]; exact h.made i hi e,fun i j hi hj hn e1 e2 => by rw [← hc _ e1,← hc _ e2]; exact h.ne i j hi hj hn e1 e2,fun i j hij e => ⟨(h.asg i j hij e).1,by rw [← hc _ e,← hc _ (h.asg i j hij e).1]; exact (h.asg i j hij e).2⟩⟩
theorem JG.start (vs : Nat → Value) : JG w0 n (fun _ => false) vs w0.drew :=
 ⟨⟨rfl,rfl,rfl,Nat.le_refl _,fun _ _ => rfl⟩,fun _ _ h => (by cases h),fun _ _ _ _ _ h => (by cases h),fun _ _ _ h => (by cases h)⟩
theorem JG.read (h : JG w0 n L vs W) {i : Nat} {v : Value} (hi : i ≠ 2 ∧ i ≠ 5 ∧ i ≠ 8 ∧ i ≠ 9 ∧ i ≠ 10 ∧ i ≠ 11) : JG w0 n (setB L i) (updV vs i v) W:=by
 refine ⟨h.below,fun j hj e => ?_,fun j k hj hk hn e1 e2 => ?_,fun j k hjk e => ?_⟩
 ·have : j ≠ i:=by omega
  rw [setB_ne this] at e; rw [updV_ne this]; exact h.made j hj e
 ·have h1 : j ≠ i:=by omega
  have h2 : k ≠ i:=by omega
  rw [setB_ne h1] at e1; rw [setB_ne h2] at e2; rw [updV_ne h1,updV_ne h2]; exact h.ne j k hj hk hn e1 e2
 ·have h1 : j ≠ i:=by omega
  have h2 : k ≠ i:=by omega
  rw [setB_ne h1] at e; rw [setB_ne h2,updV_ne h1,updV_ne h2]; exact h.asg j k hjk e
theorem JG.make (h : JG w0 n L vs W) {i : Nat} (hi : i = 2 ∨ i = 5 ∨ i = 8) (hL : L i = false) : JG w0 n (setB L i) (updV vs i (.slice (some ⟨W.heap.size,0,none⟩) n n)) (W.alloc (.cells (spFlat (List.replicate n (0,0))).toArray 65)):=by
 have hb:=aB W (.cells (spFlat (List.replicate n (0,0))).toArray 65);have old : ∀ j,(j = 2 ∨ j = 5 ∨ j = 8) → L j = true → ∀ v,v = Value.slice (some ⟨W.heap.size,0,none⟩) n n → vs j ≠ v:=fun j hj e v hv q => by
  obtain ⟨b,e1,_,e3⟩ := h.made j hj e;rw [q,hv] at e1;have:=(Array.getElem?_eq_some_iff.1 e3).1
  cases e1; omega
 refine ⟨bThen h.below hb,fun j hj e => ?_,fun j k hj hk hn e1 e2 => ?_,fun j k hjk e => ?_⟩
 ·by_cases c : j = i
  ·subst c; rw [updV_eq]; exact ⟨_,rfl,h.below.size,World.alloc_heap_new _ _⟩
  ·rw [setB_ne c] at e; rw [updV_ne c]
   obtain ⟨b,e1,e2,e3⟩ := h.made j hj e;exact ⟨b,e1,e2,(hb.block b (Array.getElem?_eq_some_iff.1 e3).1).trans e3⟩
 ·by_cases c : j = i
  ·subst c
   have c2 : k ≠ j:=fun q => hn q.symm
   rw [setB_ne c2] at e2; rw [updV_eq,updV_ne c2];exact fun q => old k hk e2 _ rfl q.symm
  ·rw [setB_ne c] at e1; rw [updV_ne c]
   by_cases c2 : k = i
   ·subst c2; rw [updV_eq]; exact old j hj e1 _ rfl
   ·rw [setB_ne c2] at e2; rw [updV_ne c2]; exact h.ne j k hj hk hn e1 e2
 ·have h1 : j ≠ i:=by omega
  rw [setB_ne h1] at e;have h2:=h.asg j k hjk e;have h3 : k ≠ i:=fun q => by rw [q,hL] at h2; cases h2.1
  rw [setB_ne h3,updV_ne h1,updV_ne h3]; exact h2
theorem JG.assign (h : JG w0 n L vs W) {i j : Nat} (hij : (i = 9 ∧ j = 2) ∨ (i = 10 ∧ j = 5) ∨ (i = 11 ∧ j = 8)) (hj : L j = true) : JG w0 n (setB L i) (updV vs i (vs j)) W:=by
 refine ⟨h.below,fun k hk e => ?_,fun k m hk hm hn e1 e2 => ?_,fun k m hkm e => ?_⟩
 ·have : k ≠ i:=by omega
  rw [setB_ne this] at e; rw [updV_ne this]; exact h.made k hk e
 ·have h1 : k ≠ i:=by omega
  have h2 : m ≠ i:=by omega
  rw [setB_ne h1] at e1; rw [setB_ne h2] at e2; rw [updV_ne h1,updV_ne h2]; exact h.ne k m hk hm hn e1 e2
 ·have h2 : m ≠ i:=by omega
  rw [setB_ne h2,updV_ne h2];by_cases c : k = i
  ·subst c
   have : m = j:=by omega
   subst this;rw [updV_eq]; exact ⟨hj,rfl⟩
  ·rw [setB_ne c] at e; rw [updV_ne c]; exact h.asg k m hkm e
end
open Go.RowKit Go.Oche Go.Proofs

theorem spanL_snoc (xs : List Int) (n : Int) : spanL (xs ++ [n]) = if xs = [] then (n,n) else wideI (spanL xs) n:=by
 cases xs with
 | nil => rfl
 | cons x xs => rw [if_neg (by simp),List.cons_append,spanL,List.foldl_append]; rfl
def dSpan : List (Int × Int) → Int × Int
 | [] => (0,0)
 | p :: ps => ps.foldl joinS p
theorem dSpan_snoc (ps : List (Int × Int)) (q : Int × Int) : dSpan (ps ++ [q]) = if ps = [] then q else joinS (dSpan ps) q:=by
 cases ps with
 | nil => rfl
 | cons p ps => rw [if_neg (by simp),List.cons_append,dSpan,List.foldl_append]; rfl
theorem foldl_join : ∀ (ps : List (Int × Int)) (p : Int × Int),((ps.foldl joinS p).1 = p.1 ∨ ∃ q ∈ ps,(ps.foldl joinS p).1 = q.1) ∧ ((ps.foldl joinS p).2 = p.2 ∨ ∃ q ∈ ps,(ps.foldl joinS p).2 = q.2) ∧ (ps.foldl joinS p).1 ≤ p.1 ∧ p.2 ≤ (ps.foldl joinS p).2 ∧ ∀ q ∈ ps,(ps.foldl joinS p).1 ≤ q.1 ∧ q.2 ≤ (ps.foldl joinS p).2
 | [],p => ⟨.inl rfl,.inl rfl,Int.le_refl _,Int.le_refl _,by simp⟩
 | r :: ps,p => by
  obtain ⟨h1,h2,h3,h4,h5⟩ := foldl_join ps (joinS p r);rw [List.foldl_cons];have e1 : (joinS p r).1 = min p.1 r.1:=rfl;have e2 : (joinS p r).2 = max p.2 r.2:=rfl;rw [e1] at h1 h3;rw [e2] at h2 h4;refine ⟨?_, ?_,by omega,by omega,fun q hq => ?_⟩
  ·rcases h1 with h | ⟨q,hq,h⟩
   ·by_cases c : p.1 ≤ r.1
    ·left; omega
    ·right; exact ⟨r,by simp,by omega⟩
   ·right; exact ⟨q,by simp [hq],h⟩
  ·rcases h2 with h | ⟨q,hq,h⟩
   ·by_cases c : r.2 ≤ p.2
    ·left; omega
    ·right; exact ⟨r,by simp,by omega⟩
   ·right; exact ⟨q,by simp [hq],h⟩
  ·rcases List.mem_cons.1 hq with rfl | hq
   ·omega
   ·exact h5 q hq
def loHi (st : List Sp) (k : Std × Std) : Int × Int:=match aggP st k with
 | some s => ((s.lo : Int),(s.hi : Int))
 | none => (0,0)
theorem loHi_some {st : List Sp} {k : Std × Std} {s : Sm} (h : aggP st k = some s) : loHi st k = ((s.lo : Int),(s.hi : Int)):=by unfold loHi; rw [h]
theorem trL_rows {st : List Sp} {ks : List (Std × Std)} (hk : ∀ k,k ∈ ks ↔ (aggP st k).isSome = true) :
  (trL st).score = spanL (ks.map fun k => k.1.left - k.2.left) ∧ (trL st).left = spanL (ks.map fun k => k.2.left) ∧ (trL st).darts = dSpan (ks.map (loHi st)):=by
 cases ks with
 | nil =>
  have hst : st = []:=by
   cases st with
   | nil => rfl
   | cons s st =>
    have:=(hk (s.bef,s.aft)).2 (aggP_some.2 ⟨s,by simp,rfl,rfl⟩)
    cases this
  subst hst;exact ⟨rfl,rfl,rfl⟩
 | cons k0 ks =>
  have h1:=spanL_is (xs:=(k0 :: ks).map fun k => k.1.left - k.2.left) (by simp)
  have h2:=spanL_is (xs:=(k0 :: ks).map fun k => k.2.left) (by simp)
  obtain ⟨e1,e2⟩ := trL_keys hk h1 h2;refine ⟨e1,e2,trL_darts hk ?_ ?_ ?_⟩
  all_goals
   obtain ⟨f1,f2,f3,f4,f5⟩ := foldl_join (ks.map (loHi st)) (loHi st k0);have hd : dSpan ((k0 :: ks).map (loHi st)) = (ks.map (loHi st)).foldl joinS (loHi st k0):=rfl;rw [hd]
  ·rcases f1 with f | ⟨q,hq,f⟩
   ·obtain ⟨s,hs⟩ := Option.isSome_iff_exists.1 ((hk k0).1 (by simp))
    exact ⟨k0,by simp,s,hs,by rw [f,loHi_some hs]⟩
   ·obtain ⟨k,hk',rfl⟩ := List.mem_map.1 hq
    obtain ⟨s,hs⟩ := Option.isSome_iff_exists.1 ((hk k).1 (by simp [hk']))
    exact ⟨k,by simp [hk'],s,hs,by rw [f,loHi_some hs]⟩
  ·rcases f2 with f | ⟨q,hq,f⟩
   ·obtain ⟨s,hs⟩ := Option.isSome_iff_exists.1 ((hk k0).1 (by simp))
    exact ⟨k0,by simp,s,hs,by rw [f,loHi_some hs]⟩
   ·obtain ⟨k,hk',rfl⟩ := List.mem_map.1 hq
    obtain ⟨s,hs⟩ := Option.isSome_iff_exists.1 ((hk k).1 (by simp [hk']))
    exact ⟨k,by simp [hk'],s,hs,by rw [f,loHi_some hs]⟩
  ·intro k hkm s hs
   have e:=loHi_some hs;have e1 : (loHi st k).1 = (s.lo : Int):=by rw [e]
   have e2 : (loHi st k).2 = (s.hi : Int):=by rw [e]
   rcases List.mem_cons.1 hkm with rfl | hkm
   ·exact ⟨by omega,by omega⟩
   ·have:=f5 (loHi st k) (List.mem_map_of_mem hkm)
    exact ⟨by omega,by omega⟩
def dnT (P p i t : Nat) : Bool:=decide (t % P < p ∨ t % P = p ∧ t / P < i)
def spT (l : Lg) (list : List Rp) (f : Tr → Int × Int) (P p i : Nat) : List (Int × Int):=(List.range l.turns.toNat).map fun t => if dnT P p i t = true then f (trL (keptL l (allS list) t)) else (0,0)
section
variable {l : Lg} {list : List Rp} {f : Tr → Int × Int} {P p i : Nat}
theorem spT_len : (spT l list f P p i).length = l.turns.toNat:=by simp [spT]
theorem spT_start : spT l list f P 0 0 = List.replicate l.turns.toNat (0,0):=by
 refine List.ext_getElem (by simp [spT]) fun t h1 h2 => ?_
 simp [spT,dnT]
theorem spT_done (h : ∀ t,t % P < p) : spT l list f P p 0 = (List.range l.turns.toNat).map fun t => f (trL (keptL l (allS list) t)):=by
 refine List.map_congr_left fun t _ => ?_
 rw [if_pos (show dnT P p 0 t = true from decide_eq_true (.inl (h t)))]
theorem spT_set (hp : p < P) : (spT l list f P p i).set (p + i * P) (f (trL (keptL l (allS list) (p + i * P)))) = spT l list f P p (i + 1):=by
 have hP : 0 < P:=by omega
 have m0 : (p + i * P) % P = p:=by rw [Nat.add_mul_mod_self_right,Nat.mod_eq_of_lt hp]
 have d0 : (p + i * P) / P = i:=by rw [Nat.add_mul_div_right _ _ hP,Nat.div_eq_of_lt hp,Nat.zero_add]
 refine List.ext_getElem (by simp [spT]) fun t h1 h2 => ?_
 rw [List.getElem_set];by_cases e : p + i * P = t
 ·subst e
  rw [if_pos rfl];simp only [spT,List.getElem_map,List.getElem_range];rw [if_pos (show dnT P p (i + 1) (p + i * P) = true from decide_eq_true (.inr ⟨m0,by rw [d0]; omega⟩))]
 ·rw [if_neg e]
  simp only [spT,List.getElem_map,List.getElem_range];have : dnT P p i t = dnT P p (i + 1) t:=by
   unfold dnT;have hdm:=Nat.div_add_mod t P;by_cases c : t % P = p
   ·have c2 : t / P ≠ i:=fun q => e (by rw [q,c,Nat.mul_comm] at hdm; omega)
    have : t / P < i ↔ t / P < i + 1:=by omega
    simp [c,this]
   ·simp [c]
  rw [this]
theorem spT_at (hp : p < P) (h : p + i * P < (spT l list f P p i).length) : (spT l list f P p i)[p + i * P] = (0,0):=by
 have hP : 0 < P:=by omega
 have m0 : (p + i * P) % P = p:=by rw [Nat.add_mul_mod_self_right,Nat.mod_eq_of_lt hp]
 have d0 : (p + i * P) / P = i:=by rw [Nat.add_mul_div_right _ _ hP,Nat.div_eq_of_lt hp,Nat.zero_add]
 simp only [spT,List.getElem_map,List.getElem_range];rw [if_neg];unfold dnT;rw [m0,d0];simp
theorem spT_next (hi : l.turns.toNat ≤ p + i * P) : spT l list f P p i = spT l list f P (p + 1) 0:=by
 refine List.map_congr_left fun t ht => ?_
 rw [List.mem_range] at ht;have : dnT P p i t = dnT P (p + 1) 0 t:=by
  unfold dnT;have hdm:=Nat.div_add_mod t P;have : (t % P < p ∨ t % P = p ∧ t / P < i) ↔ (t % P < p + 1 ∨ t % P = p + 1 ∧ t / P < 0):=by
   constructor
   ·rintro (h | ⟨h,_⟩) <;> left <;> omega
   ·rintro (h | ⟨_,h⟩)
    ·by_cases c : t % P < p
     ·exact .inl c
     ·have c2 : t % P = p:=by omega
      refine .inr ⟨c2, ?_⟩
      refine Nat.lt_of_not_le fun q => ?_
      have hb : i * P ≤ P * (t / P):=by rw [Nat.mul_comm i P]; exact Nat.mul_le_mul_left P q
      omega
    ·exact absurd h (Nat.not_lt_zero _)
  exact decide_eq_decide.2 this
 rw [this]
end
open Go Go.RowKit Go.Oche Go.Proofs

def FTr (gb hb kb b1 b2 b3 : Nat) : Nat → Prop:=fun q => (q = gb ∨ q = hb ∨ q = kb) ∨ q = b1 ∨ q = b2 ∨ q = b3
structure TrSt (l : Lg) (w5 : World) (gb hb kb b1 b2 b3 : Nat) (F : Nat → Prop) (L1 L2 L3 : List (Int × Int)) (wr : World) : Prop where
 game : GameAt l F wr gb hb kb
 chg : Chg (fun q => q = kb ∨ q = b1 ∨ q = b2 ∨ q = b3) w5 wr
 r1 : wr.heap[b1]? = some (.cells (spFlat L1).toArray 65 (0,0))
 r2 : wr.heap[b2]? = some (.cells (spFlat L2).toArray 65 (0,0))
 r3 : wr.heap[b3]? = some (.cells (spFlat L3).toArray 65 (0,0))
 own : F b1 ∧ F b2 ∧ F b3
 ne : b1 ≠ b2 ∧ b1 ≠ b3 ∧ b2 ≠ b3 ∧ b1 ≠ kb ∧ b2 ≠ kb ∧ b3 ≠ kb ∧ b1 ≠ gb ∧ b2 ≠ gb ∧ b3 ≠ gb ∧ b1 ≠ hb ∧ b2 ≠ hb ∧ b3 ≠ hb
section
variable {l : Lg} {w5 wr wr' : World} {gb hb kb b1 b2 b3 : Nat} {F F' : Nat → Prop} {L1 L2 L3 L1' L2' L3' : List (Int × Int)}
theorem TrSt.lt (h : TrSt l w5 gb hb kb b1 b2 b3 F L1 L2 L3 wr) : b1 < wr.heap.size ∧ b2 < wr.heap.size ∧ b3 < wr.heap.size :=
 ⟨(Array.getElem?_eq_some_iff.1 h.r1).1,(Array.getElem?_eq_some_iff.1 h.r2).1,(Array.getElem?_eq_some_iff.1 h.r3).1⟩
theorem TrSt.below (h : TrSt l w5 gb hb kb b1 b2 b3 F L1 L2 L3 wr) (hb' : Below wr.heap.size wr wr') : TrSt l w5 gb hb kb b1 b2 b3 F L1 L2 L3 wr' :=
 ⟨h.game.below hb',h.chg.thenB hb',(hb'.block _ h.lt.1).trans h.r1,(hb'.block _ h.lt.2.1).trans h.r2,(hb'.block _ h.lt.2.2).trans h.r3,h.own,h.ne⟩
theorem TrSt.learn (h : TrSt l w5 gb hb kb b1 b2 b3 F L1 L2 L3 wr) (hc : Chg (fun q => q = kb) wr wr') (hG : GameAt l F' wr' gb hb kb) (hF : ∀ q,F q → F' q) : TrSt l w5 gb hb kb b1 b2 b3 F' L1 L2 L3 wr':=by
 have hn:=h.ne;exact ⟨hG,⟨hc.os.trans h.chg.os,hc.tape.trans h.chg.tape,hc.output.trans h.chg.output,Nat.le_trans h.chg.size hc.size,fun q hq hn => (hc.block q (Nat.lt_of_lt_of_le hq h.chg.size) (fun e => hn (.inl e))).trans (h.chg.block q hq hn)⟩,
  (hc.block _ h.lt.1 (by omega)).trans h.r1,(hc.block _ h.lt.2.1 (by omega)).trans h.r2,(hc.block _ h.lt.2.2 (by omega)).trans h.r3,⟨hF _ h.own.1,hF _ h.own.2.1,hF _ h.own.2.2⟩,h.ne⟩
theorem TrSt.other {O : Nat → Prop} (h : TrSt l w5 gb hb kb b1 b2 b3 F L1 L2 L3 wr) (hc : Chg O wr wr') (hO : ∀ x,O x → w5.heap.size ≤ x ∧ F x ∧ x ≠ b1 ∧ x ≠ b2 ∧ x ≠ b3 ∧ x ≠ kb ∧ x ≠ gb ∧ x ≠ hb) : TrSt l w5 gb hb kb b1 b2 b3 F L1 L2 L3 wr' :=
 ⟨h.game.chg hc (fun x hx => ⟨(hO x hx).2.2.2.2.2.1,(hO x hx).2.2.2.2.2.2.1,(hO x hx).2.2.2.2.2.2.2,(hO x hx).2.1⟩),⟨hc.os.trans h.chg.os,hc.tape.trans h.chg.tape,hc.output.trans h.chg.output,Nat.le_trans h.chg.size hc.size,fun q hq hn => (hc.block q (Nat.lt_of_lt_of_le hq h.chg.size) (fun e => by have:=(hO q e).1; omega)).trans (h.chg.block q hq hn)⟩,
  (hc.block _ h.lt.1 (fun e => (hO _ e).2.2.1 rfl)).trans h.r1,(hc.block _ h.lt.2.1 (fun e => (hO _ e).2.2.2.1 rfl)).trans h.r2,(hc.block _ h.lt.2.2 (fun e => (hO _ e).2.2.2.2.1 rfl)).trans h.r3,h.own,h.ne⟩
theorem TrSt.more (h : TrSt l w5 gb hb kb b1 b2 b3 F L1 L2 L3 wr) (h1 : ∀ q,F' q → F q ∨ wr.heap.size ≤ q) (h2 : ∀ q,F q → F' q) : TrSt l w5 gb hb kb b1 b2 b3 F' L1 L2 L3 wr :=
 ⟨h.game.more h1 h2,h.chg,h.r1,h.r2,h.r3,⟨h2 _ h.own.1,h2 _ h.own.2.1,h2 _ h.own.2.2⟩,h.ne⟩
theorem TrSt.less (h : TrSt l w5 gb hb kb b1 b2 b3 F L1 L2 L3 wr) (h1 : ∀ q,F' q → F q) (h2 : F' gb ∧ F' hb ∧ F' kb ∧ F' b1 ∧ F' b2 ∧ F' b3) : TrSt l w5 gb hb kb b1 b2 b3 F' L1 L2 L3 wr :=
 ⟨h.game.less h1 h2.1 h2.2.1 h2.2.2.1,h.chg,h.r1,h.r2,h.r3,⟨h2.2.2.2.1,h2.2.2.2.2.1,h2.2.2.2.2.2⟩,h.ne⟩
theorem TrSt.set1 (h : TrSt l w5 gb hb kb b1 b2 b3 F L1 L2 L3 wr) (hg : wr.grownBy wr' (some b1)) (hr : wr'.heap[b1]? = some (.cells (spFlat L1').toArray 65 (0,0))) : TrSt l w5 gb hb kb b1 b2 b3 F L1' L2 L3 wr':=by
 have hn:=h.ne;exact ⟨h.game.grown hg (fun x hx => by cases hx; exact ⟨by omega,by omega,by omega,.inl h.own.1⟩),h.chg.thenG hg (fun x hx _ => .inr (.inl (Option.some.inj hx).symm)),hr,(hg.block _ h.lt.2.1 (fun e => by cases e; omega)).trans h.r2,(hg.block _ h.lt.2.2 (fun e => by cases e; omega)).trans h.r3,h.own,h.ne⟩
theorem TrSt.set2 (h : TrSt l w5 gb hb kb b1 b2 b3 F L1 L2 L3 wr) (hg : wr.grownBy wr' (some b2)) (hr : wr'.heap[b2]? = some (.cells (spFlat L2').toArray 65 (0,0))) : TrSt l w5 gb hb kb b1 b2 b3 F L1 L2' L3 wr':=by
 have hn:=h.ne;exact ⟨h.game.grown hg (fun x hx => by cases hx; exact ⟨by omega,by omega,by omega,.inl h.own.2.1⟩),h.chg.thenG hg (fun x hx _ => .inr (.inr (.inl (Option.some.inj hx).symm))),(hg.block _ h.lt.1 (fun e => by cases e; omega)).trans h.r1,hr,(hg.block _ h.lt.2.2 (fun e => by cases e; omega)).trans h.r3,h.own,h.ne⟩
theorem TrSt.set3 (h : TrSt l w5 gb hb kb b1 b2 b3 F L1 L2 L3 wr) (hg : wr.grownBy wr' (some b3)) (hr : wr'.heap[b3]? = some (.cells (spFlat L3').toArray 65 (0,0))) : TrSt l w5 gb hb kb b1 b2 b3 F L1 L2 L3' wr':=by
 have hn:=h.ne;exact ⟨h.game.grown hg (fun x hx => by cases hx; exact ⟨by omega,by omega,by omega,.inl h.own.2.2⟩),h.chg.thenG hg (fun x hx _ => .inr (.inr (.inr (Option.some.inj hx).symm))),(hg.block _ h.lt.1 (fun e => by cases e; omega)).trans h.r1,(hg.block _ h.lt.2.1 (fun e => by cases e; omega)).trans h.r2,hr,h.own,h.ne⟩
theorem spFlat_widen {L : List (Int × Int)} {k : Nat} (h : k < L.length) (a b : Int) : ((spFlat L).toArray.setIfInBounds (k * 2) (.int .i64 a)).setIfInBounds (k * 2 + 1) (.int .i64 b) = (spFlat (L.set k (a,b))).toArray:=by
 rw [← spFlat_set a b h]; simp
end
open Go Go.RowKit Go.Oche Go.Proofs

theorem turnsF_get {P T : Int} : ∀ (k : Nat) (t : Int) (i : Nat) {x : Int},(turnsF P T k t)[i]? = some x → x = t + i * P ∧ x < T
 | 0,t,i,x,h => by simp [turnsF] at h
 | k + 1,t,i,x,h => by
  rw [turnsF] at h;split at h
  ·rename_i ht
   cases i with
   | zero => simp at h; subst h; simpa using ht
   | succ i =>
    rw [List.getElem?_cons_succ] at h
    have ih:=turnsF_get k (t + P) i h;refine ⟨?_,ih.2⟩
    rw [ih.1]; push_cast;rw [Int.add_mul]; omega
  ·simp at h
theorem kept_bd {l : Lg} (hv : Valid l) {said : Int → List Rp} {p : Int} {ks : List (List Sp)} (h : playerL l said p = some ks) {i : Nat} {st : List Sp} (hi : ks[i]? = some st) {k : Std × Std} (hk : (aggP st k).isSome = true) :
  0 ≤ k.2.left ∧ k.2.left ≤ k.1.left ∧ k.1.left ≤ 1001:=by
 obtain ⟨sp,hs,e1,e2⟩ := aggP_some.1 hk;obtain ⟨r,hr,hri⟩ := ((player_kept h).2 i sp).1 ⟨st,hi,hs⟩;have h0 : (start5 l).left = l.start:=rfl;have hst:=hv.start;have:=Run.left hv.good (s:=start5 l) (by rw [h0]; omega) hr sp (List.mem_of_getElem? hri)
 rw [← e1,← e2];show 0 ≤ sp.en.left ∧ sp.en.left ≤ sp.bef.left ∧ sp.bef.left ≤ 1001;omega
theorem Sl.at_ {S : Nat → Prop} {w : World} {a : Option Addr} {n cap i : Nat} {x : Value} {xs : List Value} (h : Sl S w (.slice a n cap) xs) (hx : xs[i]? = some x) : ∃ b off,a = some ⟨b,off,none⟩ ∧ S b ∧ w.cell? ⟨b,off + i,none⟩ = some x:=by
 obtain ⟨a',cap',e,_,_,h4⟩ := h;cases e;exact h4 i x hx
structure JWd (w0 : World) (b i : Nat) (c c' : Obj) (L : Nat → Bool) (W : World) : Prop where
 chg : Chg (fun q => q = b) w0 W
 at_ : W.heap[b]? = some (if L i = true then c' else c)
section
variable {w0 W W' : World} {b i : Nat} {c c' : Obj} {L : Nat → Bool}
theorem JWd.start (h : w0.heap[b]? = some c) : JWd w0 b i c c' (fun _ => false) w0.drew:=⟨⟨rfl,rfl,rfl,Nat.le_refl _,fun _ _ _ => rfl⟩,h⟩
theorem JWd.read (h : JWd w0 b i c c' L W) {k : Nat} (hn : i ≠ k) : JWd w0 b i c c' (setB L k) W:=⟨h.chg,by rw [setB_ne hn]; exact h.at_⟩
theorem JWd.cell (h : JWd w0 b i c c' L W) {q o : Nat} {x : Value} (hv : w0.cell? ⟨q,o,none⟩ = some x) (hq : q ≠ b) : W.cell? ⟨q,o,none⟩ = some x :=
 (World.cell?_of_block (w:=w0) (h.chg.block q (World.block_lt_of_cell? w0 _ hv) hq)).trans hv
theorem JWd.call (h : JWd w0 b i c c' L W) (hg : W.grownBy W' (some b)) (hc : W'.heap[b]? = some c') : JWd w0 b i c c' (setB L i) W' :=
 ⟨h.chg.thenG hg fun x hx _ => (Option.some.inj hx).symm,by rw [setB_eq,if_pos rfl]; exact hc⟩
theorem JWd.grown (h : JWd w0 b i c c' L W) : w0.grownBy W (some b):=h.chg.toGrown fun _ _ h => h
end
theorem span_next {xs : List Int} {n : Int} {f : Bool} (hf : f = decide (xs = [])) : spanL (xs ++ [n]) = (if f = true then n else min (spanL xs).1 n,if f = true then n else max (spanL xs).2 n):=by
 rw [spanL_snoc,hf];by_cases c : xs = []
 ·simp [c]
 ·simp [c,wideI]
theorem dspan_next {xs : List (Int × Int)} {q : Int × Int} {f : Bool} (hf : f = decide (xs = [])) : dSpan (xs ++ [q]) = (if f = true then q.1 else min (dSpan xs).1 q.1,if f = true then q.2 else max (dSpan xs).2 q.2):=by
 rw [dSpan_snoc,hf];by_cases c : xs = []
 ·simp [c]
 ·simp [c,joinS]
theorem row_next {L : List (Int × Int)} {k : Nat} (hk : k < L.length) (p q : Int × Int) : (((spFlat (L.set k p)).toArray.setIfInBounds (k * 2) (.int .i64 q.1)).setIfInBounds (k * 2 + 1) (.int .i64 q.2)) = (spFlat (L.set k q)).toArray:=by
 rw [spFlat_widen (by simpa using hk),List.set_set]
theorem row_at {L : List (Int × Int)} {k : Nat} (hk : k < L.length) (p : Int × Int) : (spFlat (L.set k p)).toArray[k * 2]? = some (.int .i64 p.1) ∧ (spFlat (L.set k p)).toArray[k * 2 + 1]? = some (.int .i64 p.2):=by
 have:=spFlat_at (L:=L.set k p) (k:=k) (by simpa using hk)
 simpa using this
theorem widen_row {L : List (Int × Int)} {k : Nat} (hk : k < L.length) (p : Int × Int) (lo hi : Int) (fs : Bool) (g : Nat) (w : World) (hg : w.heap[g]? = some (.cells (spFlat (L.set k p)).toArray 65 (0,0))) :
  Calls Tryz.prog 28 #[.pointer (some ⟨g,k * 2,none⟩),.bool fs,.agg #[.int .i64 lo,.int .i64 hi]] w fun e w' => (∃ v,e = .returned v) ∧ w.grownBy w' (some g) ∧ w'.heap[g]? = some (.cells (spFlat (L.set k (if fs = true then lo else min p.1 lo,if fs = true then hi else max p.2 hi))).toArray 65 (0,0)):=by
 obtain ⟨r0,r1⟩ := row_at hk p;refine (widen_any g (k * 2) p.1 p.2 lo hi _ fs w hg r0 r1).mono ?_
 rintro e w' ⟨he,h1,h2⟩;refine ⟨he,h1, ?_⟩
 rw [h2,← row_next hk p (if fs = true then lo else min p.1 lo,if fs = true then hi else max p.2 hi)]
theorem span_row {L : List (Int × Int)} {k : Nat} (hk : k < L.length) (xs : List Int) (n : Int) (fs : Bool) (hf : fs = decide (xs = [])) (g : Nat) (w : World) (hg : w.heap[g]? = some (.cells (spFlat (L.set k (spanL xs))).toArray 65 (0,0))) :
  Calls Tryz.prog 28 #[.pointer (some ⟨g,k * 2,none⟩),.bool fs,.agg #[.int .i64 n,.int .i64 n]] w fun e w' => (∃ v,e = .returned v) ∧ w.grownBy w' (some g) ∧ w'.heap[g]? = some (.cells (spFlat (L.set k (spanL (xs ++ [n])))).toArray 65 (0,0)):=by
 rw [span_next hf];exact widen_row hk (spanL xs) n n fs g w hg
theorem dspan_row {L : List (Int × Int)} {k : Nat} (hk : k < L.length) (xs : List (Int × Int)) (lo hi : Int) (fs : Bool) (hf : fs = decide (xs = [])) (g : Nat) (w : World) (hg : w.heap[g]? = some (.cells (spFlat (L.set k (dSpan xs))).toArray 65 (0,0))) :
  Calls Tryz.prog 28 #[.pointer (some ⟨g,k * 2,none⟩),.bool fs,.agg #[.int .i64 lo,.int .i64 hi]] w fun e w' => (∃ v,e = .returned v) ∧ w.grownBy w' (some g) ∧ w'.heap[g]? = some (.cells (spFlat (L.set k (dSpan (xs ++ [(lo,hi)])))).toArray 65 (0,0)):=by
 rw [dspan_next hf];exact widen_row hk (dSpan xs) lo hi fs g w hg
end Go.Proofs.YtnbmgkmcaoafnaaGreatDoor
