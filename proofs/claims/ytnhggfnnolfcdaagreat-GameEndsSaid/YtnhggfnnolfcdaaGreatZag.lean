/- The texts HE, LibS, in build order. -/
import Derived.Test.YtnhggfnnolfcdaaGreatZaf
import Derived.Laws.CopyRow

/- Chapter 4: a bed's parts (newHit). -/
namespace Go.Proofs.YtnhggfnnolfcdaaGreat
open Go.RowKit Go.Oche Go.Proofs
def hitA (f n : Int) : Array Value:=#[.int .i64 f,.int .i64 n]
set_option maxRecDepth 100000 in
set_option maxHeartbeats 1000000 in
theorem newHit_a (b f n : Int) (e0 : (b == 0) = true) (hf : b.tdiv 100 = f) (hn : b.tmod 100 = n) (hw : IntKind.i64.wrap (b.tdiv 100) = b.tdiv 100 ∧ IntKind.i64.wrap (b.tmod 100) = b.tmod 100) (w : World) :
  Calls Tryz.prog 18 #[.int .i64 b] w fun e w' => e = .returned (.tuple #[.agg #[.int .i64 f,.int .i64 n],.bool true]) ∧ Below w.heap.size w w':=by
 obtain ⟨w0,hw0⟩ : ∃ w0,w.alloc (.cells #[.int .i64 f,.int .i64 n] 61) = w0:=⟨_,rfl⟩
 have k0 : w0.heap[w.heap.size]? = some (.cells #[.int .i64 f,.int .i64 n] 61 (0,0)):=by rw [← hw0]; exact World.alloc_heap_new _ _
 have hb0 : Below w.heap.size w w0:=by rw [← hw0]; exact aB _ _
 obtain ⟨q,hq⟩ : ∃ q,w.heap.size = q:=⟨_,rfl⟩
 have hwr1 : IntKind.i64.wrap (b.tdiv 100) = f:=by rw [hw.1]; exact hf
 have hwr2 : IntKind.i64.wrap (b.tmod 100) = n:=by rw [hw.2]; exact hn
 have HB0:=Lib.hid hb0
 have HW0:=Lib.hid hw0
 have HF:=Lib.hid hf
 have HN:=Lib.hid hn
 have K0:=Lib.hid (hq ▸ k0)
 have HQ:=Lib.hid hq
 clear hb0 hw0 k0 hq hf hn hw
 go_enter Tryz.func18,Tryz.ntmps18
 go_wp2_with fail
 simp only [HN.out]
 rw [HW0.out,HQ.out]
 refine wp_region_seq 25 [.is (.agg #[.int .i64 f,.int .i64 n]),.is (.int .i64 b),.is (.bool true),.is (.bool true),.is undef,.is undef,.is (.bool true),.is (.bool true),.is undef,.is undef,.is (.bool true),.is (.bool true),.is undef,.is undef,.is undef,.is undef,.is undef,.is undef,.is undef,.is undef,.is undef,.is undef,.is (.bool true),.is undef,.is (.bool true)] rfl mix (by kernel_rfl) (by kernel_rfl) ?seqm
 case seqm =>
  simp only [List.take_succ_cons,List.take_zero]
  refine seq_on (by rfl) (fun w3 hb3 _ => ?_) ?_
  ·have c0 : ∀ j,w3.cell? ⟨q,j,none⟩ = _:=fun j => cell_of_heap (o:=j) ((hb3.block _ (Array.getElem?_eq_some_iff.1 K0.out).1).trans K0.out)
   simp [opOK,go_sem,c0,Below.refl]
   try exact rfl
  simp only [Act.put,List.setIfInBounds_toArray,List.set_cons_succ,List.set_cons_zero]
  refine seq_on (by rfl) (fun w3 hb3 _ => ?_) ?_
  ·have c0 : ∀ j,w3.cell? ⟨q,j,none⟩ = _:=fun j => cell_of_heap (o:=j) ((hb3.block _ (Array.getElem?_eq_some_iff.1 K0.out).1).trans K0.out)
   simp [opOK,go_sem,Below.refl]
   try exact rfl
  simp only [Act.put,List.setIfInBounds_toArray,List.set_cons_succ,List.set_cons_zero]
  refine seq_on (by rfl) (fun w3 hb3 _ => ?_) ?_
  ·have c0 : ∀ j,w3.cell? ⟨q,j,none⟩ = _:=fun j => cell_of_heap (o:=j) ((hb3.block _ (Array.getElem?_eq_some_iff.1 K0.out).1).trans K0.out)
   simp [opOK,go_sem,e0,Below.refl]
   try exact rfl
  simp only [Act.put,List.setIfInBounds_toArray,List.set_cons_succ,List.set_cons_zero]
  refine seq_on (by rfl) (fun w3 hb3 _ => ?_) ?_
  ·have c0 : ∀ j,w3.cell? ⟨q,j,none⟩ = _:=fun j => cell_of_heap (o:=j) ((hb3.block _ (Array.getElem?_eq_some_iff.1 K0.out).1).trans K0.out)
   simp [opOK,go_sem,Below.refl]
   try exact rfl
  simp only [Act.put,List.setIfInBounds_toArray,List.set_cons_succ,List.set_cons_zero]
  refine seq_off (by rfl) ?_
  simp only [Act.put,List.setIfInBounds_toArray,List.set_cons_succ,List.set_cons_zero]
  refine seq_off (by rfl) ?_
  simp only [Act.put,List.setIfInBounds_toArray,List.set_cons_succ,List.set_cons_zero]
  refine seq_on (by rfl) (fun w3 hb3 _ => ?_) ?_
  ·have c0 : ∀ j,w3.cell? ⟨q,j,none⟩ = _:=fun j => cell_of_heap (o:=j) ((hb3.block _ (Array.getElem?_eq_some_iff.1 K0.out).1).trans K0.out)
   simp [opOK,go_sem,Below.refl]
   try exact rfl
  simp only [Act.put,List.setIfInBounds_toArray,List.set_cons_succ,List.set_cons_zero]
  refine seq_on (by rfl) (fun w3 hb3 _ => ?_) ?_
  ·have c0 : ∀ j,w3.cell? ⟨q,j,none⟩ = _:=fun j => cell_of_heap (o:=j) ((hb3.block _ (Array.getElem?_eq_some_iff.1 K0.out).1).trans K0.out)
   simp [opOK,go_sem,Below.refl]
   try exact rfl
  simp only [Act.put,List.setIfInBounds_toArray,List.set_cons_succ,List.set_cons_zero]
  refine seq_off (by rfl) ?_
  simp only [Act.put,List.setIfInBounds_toArray,List.set_cons_succ,List.set_cons_zero]
  refine seq_off (by rfl) ?_
  simp only [Act.put,List.setIfInBounds_toArray,List.set_cons_succ,List.set_cons_zero]
  refine seq_on (by rfl) (fun w3 hb3 _ => ?_) ?_
  ·have c0 : ∀ j,w3.cell? ⟨q,j,none⟩ = _:=fun j => cell_of_heap (o:=j) ((hb3.block _ (Array.getElem?_eq_some_iff.1 K0.out).1).trans K0.out)
   simp [opOK,go_sem,Below.refl]
   try exact rfl
  simp only [Act.put,List.setIfInBounds_toArray,List.set_cons_succ,List.set_cons_zero]
  refine seq_on (by rfl) (fun w3 hb3 _ => ?_) ?_
  ·have c0 : ∀ j,w3.cell? ⟨q,j,none⟩ = _:=fun j => cell_of_heap (o:=j) ((hb3.block _ (Array.getElem?_eq_some_iff.1 K0.out).1).trans K0.out)
   simp [opOK,go_sem,Below.refl]
   try exact rfl
  simp only [Act.put,List.setIfInBounds_toArray,List.set_cons_succ,List.set_cons_zero]
  refine seq_off (by rfl) ?_
  simp only [Act.put,List.setIfInBounds_toArray,List.set_cons_succ,List.set_cons_zero]
  refine seq_off (by rfl) ?_
  simp only [Act.put,List.setIfInBounds_toArray,List.set_cons_succ,List.set_cons_zero]
  refine seq_off (by rfl) ?_
  simp only [Act.put,List.setIfInBounds_toArray,List.set_cons_succ,List.set_cons_zero]
  refine seq_off (by rfl) ?_
  simp only [Act.put,List.setIfInBounds_toArray,List.set_cons_succ,List.set_cons_zero]
  refine seq_off (by rfl) ?_
  simp only [Act.put,List.setIfInBounds_toArray,List.set_cons_succ,List.set_cons_zero]
  refine seq_off (by rfl) ?_
  simp only [Act.put,List.setIfInBounds_toArray,List.set_cons_succ,List.set_cons_zero]
  refine seq_off (by rfl) ?_
  simp only [Act.put,List.setIfInBounds_toArray,List.set_cons_succ,List.set_cons_zero]
  refine seq_off (by rfl) ?_
  simp only [Act.put,List.setIfInBounds_toArray,List.set_cons_succ,List.set_cons_zero]
  refine seq_off (by rfl) ?_
  simp only [Act.put,List.setIfInBounds_toArray,List.set_cons_succ,List.set_cons_zero]
  refine seq_off (by rfl) ?_
  simp only [Act.put,List.setIfInBounds_toArray,List.set_cons_succ,List.set_cons_zero]
  refine seq_on (by rfl) (fun w3 hb3 _ => ?_) ?_
  ·have c0 : ∀ j,w3.cell? ⟨q,j,none⟩ = _:=fun j => cell_of_heap (o:=j) ((hb3.block _ (Array.getElem?_eq_some_iff.1 K0.out).1).trans K0.out)
   simp [opOK,go_sem,Below.refl]
   try exact rfl
  simp only [Act.put,List.setIfInBounds_toArray,List.set_cons_succ,List.set_cons_zero]
  refine seq_on (by rfl) (fun w3 hb3 _ => ?_) ?_
  ·have k3:=(hb3.block _ (Array.getElem?_eq_some_iff.1 K0.out).1).trans K0.out
   exact opOK_store_row 61 (.tmp 2) (.tmp 9) rfl q #[.int .i64 f,.int .i64 n] (by simp [Act.eval]) (by simp [Act.eval]) 61 _ k3 (by kernel_rfl) rfl (by simp [Value.oneCell']) ⟨rfl,by rw [setRow_self w3 q _ _ _ k3]; exact Below.refl _ _⟩
  simp only [Act.put]
  refine seq_on (by rfl) (fun w3 hb3 _ => ?_) ?_
  ·have c0 : ∀ j,w3.cell? ⟨q,j,none⟩ = _:=fun j => cell_of_heap (o:=j) ((hb3.block _ (Array.getElem?_eq_some_iff.1 K0.out).1).trans K0.out)
   simp [opOK,go_sem,Below.refl]
   try exact rfl
  simp only [Act.put,List.setIfInBounds_toArray,List.set_cons_succ,List.set_cons_zero]
  refine seq_end fun w3 hb3 _ => ?_
  have HB3:=Lib.hid (bThen HB0.out hb3)
  have k3:=(hb3.block _ (Array.getElem?_eq_some_iff.1 K0.out).1).trans K0.out
  have c0 : w3.cell? ⟨q,0,none⟩ = some (.int .i64 f):=by rw [cell_of_heap k3]; rfl
  have c1 : w3.cell? ⟨q,1,none⟩ = some (.int .i64 n):=by rw [cell_of_heap k3]; rfl
  clear hb3
  simp only [List.drop_succ_cons,List.drop_zero]
  go_wp2
  exact bodyPost_ret (v:=.tuple #[.agg #[.int .i64 f,.int .i64 n],.bool true]) (by simp [results,Tryz.results18,go_sem,c0,c1]) rfl ⟨rfl,HB3.out⟩
set_option maxRecDepth 100000 in
set_option maxHeartbeats 1000000 in
theorem newHit_b (b f n : Int) (e0 : (b == 0) = false) (e1 : (b == 125) = true) (hf : b.tdiv 100 = f) (hn : b.tmod 100 = n) (hw : IntKind.i64.wrap (b.tdiv 100) = b.tdiv 100 ∧ IntKind.i64.wrap (b.tmod 100) = b.tmod 100) (w : World) :
  Calls Tryz.prog 18 #[.int .i64 b] w fun e w' => e = .returned (.tuple #[.agg #[.int .i64 f,.int .i64 n],.bool true]) ∧ Below w.heap.size w w':=by
 obtain ⟨w0,hw0⟩ : ∃ w0,w.alloc (.cells #[.int .i64 f,.int .i64 n] 61) = w0:=⟨_,rfl⟩
 have k0 : w0.heap[w.heap.size]? = some (.cells #[.int .i64 f,.int .i64 n] 61 (0,0)):=by rw [← hw0]; exact World.alloc_heap_new _ _
 have hb0 : Below w.heap.size w w0:=by rw [← hw0]; exact aB _ _
 obtain ⟨q,hq⟩ : ∃ q,w.heap.size = q:=⟨_,rfl⟩
 have hwr1 : IntKind.i64.wrap (b.tdiv 100) = f:=by rw [hw.1]; exact hf
 have hwr2 : IntKind.i64.wrap (b.tmod 100) = n:=by rw [hw.2]; exact hn
 have HB0:=Lib.hid hb0
 have HW0:=Lib.hid hw0
 have HF:=Lib.hid hf
 have HN:=Lib.hid hn
 have K0:=Lib.hid (hq ▸ k0)
 have HQ:=Lib.hid hq
 clear hb0 hw0 k0 hq hf hn hw
 go_enter Tryz.func18,Tryz.ntmps18
 go_wp2_with fail
 simp only [HN.out]
 rw [HW0.out,HQ.out]
 refine wp_region_seq 25 [.is (.agg #[.int .i64 f,.int .i64 n]),.is (.int .i64 b),.is (.bool false),.is (.bool false),.is (.int .i64 b),.is (.bool true),.is (.bool true),.is (.bool true),.is undef,.is undef,.is (.bool true),.is (.bool true),.is undef,.is undef,.is undef,.is undef,.is undef,.is undef,.is undef,.is undef,.is undef,.is undef,.is (.bool true),.is undef,.is (.bool true)] rfl mix (by kernel_rfl) (by kernel_rfl) ?seqm
 case seqm =>
  simp only [List.take_succ_cons,List.take_zero]
  refine seq_on (by rfl) (fun w3 hb3 _ => ?_) ?_
  ·have c0 : ∀ j,w3.cell? ⟨q,j,none⟩ = _:=fun j => cell_of_heap (o:=j) ((hb3.block _ (Array.getElem?_eq_some_iff.1 K0.out).1).trans K0.out)
   simp [opOK,go_sem,c0,Below.refl]
   try exact rfl
  simp only [Act.put,List.setIfInBounds_toArray,List.set_cons_succ,List.set_cons_zero]
  refine seq_on (by rfl) (fun w3 hb3 _ => ?_) ?_
  ·have c0 : ∀ j,w3.cell? ⟨q,j,none⟩ = _:=fun j => cell_of_heap (o:=j) ((hb3.block _ (Array.getElem?_eq_some_iff.1 K0.out).1).trans K0.out)
   simp [opOK,go_sem,Below.refl]
   try exact rfl
  simp only [Act.put,List.setIfInBounds_toArray,List.set_cons_succ,List.set_cons_zero]
  refine seq_on (by rfl) (fun w3 hb3 _ => ?_) ?_
  ·have c0 : ∀ j,w3.cell? ⟨q,j,none⟩ = _:=fun j => cell_of_heap (o:=j) ((hb3.block _ (Array.getElem?_eq_some_iff.1 K0.out).1).trans K0.out)
   simp [opOK,go_sem,e0,Below.refl]
   try exact rfl
  simp only [Act.put,List.setIfInBounds_toArray,List.set_cons_succ,List.set_cons_zero]
  refine seq_on (by rfl) (fun w3 hb3 _ => ?_) ?_
  ·have c0 : ∀ j,w3.cell? ⟨q,j,none⟩ = _:=fun j => cell_of_heap (o:=j) ((hb3.block _ (Array.getElem?_eq_some_iff.1 K0.out).1).trans K0.out)
   simp [opOK,go_sem,Below.refl]
   try exact rfl
  simp only [Act.put,List.setIfInBounds_toArray,List.set_cons_succ,List.set_cons_zero]
  refine seq_on (by rfl) (fun w3 hb3 _ => ?_) ?_
  ·have c0 : ∀ j,w3.cell? ⟨q,j,none⟩ = _:=fun j => cell_of_heap (o:=j) ((hb3.block _ (Array.getElem?_eq_some_iff.1 K0.out).1).trans K0.out)
   simp [opOK,go_sem,Below.refl]
   try exact rfl
  simp only [Act.put,List.setIfInBounds_toArray,List.set_cons_succ,List.set_cons_zero]
  refine seq_on (by rfl) (fun w3 hb3 _ => ?_) ?_
  ·have c0 : ∀ j,w3.cell? ⟨q,j,none⟩ = _:=fun j => cell_of_heap (o:=j) ((hb3.block _ (Array.getElem?_eq_some_iff.1 K0.out).1).trans K0.out)
   simp [opOK,go_sem,e1,Below.refl]
   try exact rfl
  simp only [Act.put,List.setIfInBounds_toArray,List.set_cons_succ,List.set_cons_zero]
  refine seq_on (by rfl) (fun w3 hb3 _ => ?_) ?_
  ·have c0 : ∀ j,w3.cell? ⟨q,j,none⟩ = _:=fun j => cell_of_heap (o:=j) ((hb3.block _ (Array.getElem?_eq_some_iff.1 K0.out).1).trans K0.out)
   simp [opOK,go_sem,Below.refl]
   try exact rfl
  simp only [Act.put,List.setIfInBounds_toArray,List.set_cons_succ,List.set_cons_zero]
  refine seq_on (by rfl) (fun w3 hb3 _ => ?_) ?_
  ·have c0 : ∀ j,w3.cell? ⟨q,j,none⟩ = _:=fun j => cell_of_heap (o:=j) ((hb3.block _ (Array.getElem?_eq_some_iff.1 K0.out).1).trans K0.out)
   simp [opOK,go_sem,Below.refl]
   try exact rfl
  simp only [Act.put,List.setIfInBounds_toArray,List.set_cons_succ,List.set_cons_zero]
  refine seq_off (by rfl) ?_
  simp only [Act.put,List.setIfInBounds_toArray,List.set_cons_succ,List.set_cons_zero]
  refine seq_off (by rfl) ?_
  simp only [Act.put,List.setIfInBounds_toArray,List.set_cons_succ,List.set_cons_zero]
  refine seq_on (by rfl) (fun w3 hb3 _ => ?_) ?_
  ·have c0 : ∀ j,w3.cell? ⟨q,j,none⟩ = _:=fun j => cell_of_heap (o:=j) ((hb3.block _ (Array.getElem?_eq_some_iff.1 K0.out).1).trans K0.out)
   simp [opOK,go_sem,Below.refl]
   try exact rfl
  simp only [Act.put,List.setIfInBounds_toArray,List.set_cons_succ,List.set_cons_zero]
  refine seq_on (by rfl) (fun w3 hb3 _ => ?_) ?_
  ·have c0 : ∀ j,w3.cell? ⟨q,j,none⟩ = _:=fun j => cell_of_heap (o:=j) ((hb3.block _ (Array.getElem?_eq_some_iff.1 K0.out).1).trans K0.out)
   simp [opOK,go_sem,Below.refl]
   try exact rfl
  simp only [Act.put,List.setIfInBounds_toArray,List.set_cons_succ,List.set_cons_zero]
  refine seq_off (by rfl) ?_
  simp only [Act.put,List.setIfInBounds_toArray,List.set_cons_succ,List.set_cons_zero]
  refine seq_off (by rfl) ?_
  simp only [Act.put,List.setIfInBounds_toArray,List.set_cons_succ,List.set_cons_zero]
  refine seq_off (by rfl) ?_
  simp only [Act.put,List.setIfInBounds_toArray,List.set_cons_succ,List.set_cons_zero]
  refine seq_off (by rfl) ?_
  simp only [Act.put,List.setIfInBounds_toArray,List.set_cons_succ,List.set_cons_zero]
  refine seq_off (by rfl) ?_
  simp only [Act.put,List.setIfInBounds_toArray,List.set_cons_succ,List.set_cons_zero]
  refine seq_off (by rfl) ?_
  simp only [Act.put,List.setIfInBounds_toArray,List.set_cons_succ,List.set_cons_zero]
  refine seq_off (by rfl) ?_
  simp only [Act.put,List.setIfInBounds_toArray,List.set_cons_succ,List.set_cons_zero]
  refine seq_off (by rfl) ?_
  simp only [Act.put,List.setIfInBounds_toArray,List.set_cons_succ,List.set_cons_zero]
  refine seq_off (by rfl) ?_
  simp only [Act.put,List.setIfInBounds_toArray,List.set_cons_succ,List.set_cons_zero]
  refine seq_off (by rfl) ?_
  simp only [Act.put,List.setIfInBounds_toArray,List.set_cons_succ,List.set_cons_zero]
  refine seq_on (by rfl) (fun w3 hb3 _ => ?_) ?_
  ·have c0 : ∀ j,w3.cell? ⟨q,j,none⟩ = _:=fun j => cell_of_heap (o:=j) ((hb3.block _ (Array.getElem?_eq_some_iff.1 K0.out).1).trans K0.out)
   simp [opOK,go_sem,Below.refl]
   try exact rfl
  simp only [Act.put,List.setIfInBounds_toArray,List.set_cons_succ,List.set_cons_zero]
  refine seq_on (by rfl) (fun w3 hb3 _ => ?_) ?_
  ·have k3:=(hb3.block _ (Array.getElem?_eq_some_iff.1 K0.out).1).trans K0.out
   exact opOK_store_row 61 (.tmp 2) (.tmp 9) rfl q #[.int .i64 f,.int .i64 n] (by simp [Act.eval]) (by simp [Act.eval]) 61 _ k3 (by kernel_rfl) rfl (by simp [Value.oneCell']) ⟨rfl,by rw [setRow_self w3 q _ _ _ k3]; exact Below.refl _ _⟩
  simp only [Act.put]
  refine seq_on (by rfl) (fun w3 hb3 _ => ?_) ?_
  ·have c0 : ∀ j,w3.cell? ⟨q,j,none⟩ = _:=fun j => cell_of_heap (o:=j) ((hb3.block _ (Array.getElem?_eq_some_iff.1 K0.out).1).trans K0.out)
   simp [opOK,go_sem,Below.refl]
   try exact rfl
  simp only [Act.put,List.setIfInBounds_toArray,List.set_cons_succ,List.set_cons_zero]
  refine seq_end fun w3 hb3 _ => ?_
  have HB3:=Lib.hid (bThen HB0.out hb3)
  have k3:=(hb3.block _ (Array.getElem?_eq_some_iff.1 K0.out).1).trans K0.out
  have c0 : w3.cell? ⟨q,0,none⟩ = some (.int .i64 f):=by rw [cell_of_heap k3]; rfl
  have c1 : w3.cell? ⟨q,1,none⟩ = some (.int .i64 n):=by rw [cell_of_heap k3]; rfl
  clear hb3
  simp only [List.drop_succ_cons,List.drop_zero]
  go_wp2
  exact bodyPost_ret (v:=.tuple #[.agg #[.int .i64 f,.int .i64 n],.bool true]) (by simp [results,Tryz.results18,go_sem,c0,c1]) rfl ⟨rfl,HB3.out⟩
set_option maxRecDepth 100000 in
set_option maxHeartbeats 1000000 in
theorem newHit_c (b f n : Int) (e0 : (b == 0) = false) (e1 : (b == 125) = false) (e2 : (b == 225) = true) (hf : b.tdiv 100 = f) (hn : b.tmod 100 = n) (hw : IntKind.i64.wrap (b.tdiv 100) = b.tdiv 100 ∧ IntKind.i64.wrap (b.tmod 100) = b.tmod 100) (w : World) :
  Calls Tryz.prog 18 #[.int .i64 b] w fun e w' => e = .returned (.tuple #[.agg #[.int .i64 f,.int .i64 n],.bool true]) ∧ Below w.heap.size w w':=by
 obtain ⟨w0,hw0⟩ : ∃ w0,w.alloc (.cells #[.int .i64 f,.int .i64 n] 61) = w0:=⟨_,rfl⟩
 have k0 : w0.heap[w.heap.size]? = some (.cells #[.int .i64 f,.int .i64 n] 61 (0,0)):=by rw [← hw0]; exact World.alloc_heap_new _ _
 have hb0 : Below w.heap.size w w0:=by rw [← hw0]; exact aB _ _
 obtain ⟨q,hq⟩ : ∃ q,w.heap.size = q:=⟨_,rfl⟩
 have hwr1 : IntKind.i64.wrap (b.tdiv 100) = f:=by rw [hw.1]; exact hf
 have hwr2 : IntKind.i64.wrap (b.tmod 100) = n:=by rw [hw.2]; exact hn
 have HB0:=Lib.hid hb0
 have HW0:=Lib.hid hw0
 have HF:=Lib.hid hf
 have HN:=Lib.hid hn
 have K0:=Lib.hid (hq ▸ k0)
 have HQ:=Lib.hid hq
 clear hb0 hw0 k0 hq hf hn hw
 go_enter Tryz.func18,Tryz.ntmps18
 go_wp2_with fail
 simp only [HN.out]
 rw [HW0.out,HQ.out]
 refine wp_region_seq 25 [.is (.agg #[.int .i64 f,.int .i64 n]),.is (.int .i64 b),.is (.bool false),.is (.bool false),.is (.int .i64 b),.is (.bool false),.is (.bool false),.is (.bool false),.is (.int .i64 b),.is (.bool true),.is (.bool true),.is (.bool true),.is undef,.is undef,.is undef,.is undef,.is undef,.is undef,.is undef,.is undef,.is undef,.is undef,.is (.bool true),.is undef,.is (.bool true)] rfl mix (by kernel_rfl) (by kernel_rfl) ?seqm
 case seqm =>
  simp only [List.take_succ_cons,List.take_zero]
  refine seq_on (by rfl) (fun w3 hb3 _ => ?_) ?_
  ·have c0 : ∀ j,w3.cell? ⟨q,j,none⟩ = _:=fun j => cell_of_heap (o:=j) ((hb3.block _ (Array.getElem?_eq_some_iff.1 K0.out).1).trans K0.out)
   simp [opOK,go_sem,c0,Below.refl]
   try exact rfl
  simp only [Act.put,List.setIfInBounds_toArray,List.set_cons_succ,List.set_cons_zero]
  refine seq_on (by rfl) (fun w3 hb3 _ => ?_) ?_
  ·have c0 : ∀ j,w3.cell? ⟨q,j,none⟩ = _:=fun j => cell_of_heap (o:=j) ((hb3.block _ (Array.getElem?_eq_some_iff.1 K0.out).1).trans K0.out)
   simp [opOK,go_sem,Below.refl]
   try exact rfl
  simp only [Act.put,List.setIfInBounds_toArray,List.set_cons_succ,List.set_cons_zero]
  refine seq_on (by rfl) (fun w3 hb3 _ => ?_) ?_
  ·have c0 : ∀ j,w3.cell? ⟨q,j,none⟩ = _:=fun j => cell_of_heap (o:=j) ((hb3.block _ (Array.getElem?_eq_some_iff.1 K0.out).1).trans K0.out)
   simp [opOK,go_sem,e0,Below.refl]
   try exact rfl
  simp only [Act.put,List.setIfInBounds_toArray,List.set_cons_succ,List.set_cons_zero]
  refine seq_on (by rfl) (fun w3 hb3 _ => ?_) ?_
  ·have c0 : ∀ j,w3.cell? ⟨q,j,none⟩ = _:=fun j => cell_of_heap (o:=j) ((hb3.block _ (Array.getElem?_eq_some_iff.1 K0.out).1).trans K0.out)
   simp [opOK,go_sem,Below.refl]
   try exact rfl
  simp only [Act.put,List.setIfInBounds_toArray,List.set_cons_succ,List.set_cons_zero]
  refine seq_on (by rfl) (fun w3 hb3 _ => ?_) ?_
  ·have c0 : ∀ j,w3.cell? ⟨q,j,none⟩ = _:=fun j => cell_of_heap (o:=j) ((hb3.block _ (Array.getElem?_eq_some_iff.1 K0.out).1).trans K0.out)
   simp [opOK,go_sem,Below.refl]
   try exact rfl
  simp only [Act.put,List.setIfInBounds_toArray,List.set_cons_succ,List.set_cons_zero]
  refine seq_on (by rfl) (fun w3 hb3 _ => ?_) ?_
  ·have c0 : ∀ j,w3.cell? ⟨q,j,none⟩ = _:=fun j => cell_of_heap (o:=j) ((hb3.block _ (Array.getElem?_eq_some_iff.1 K0.out).1).trans K0.out)
   simp [opOK,go_sem,e1,Below.refl]
   try exact rfl
  simp only [Act.put,List.setIfInBounds_toArray,List.set_cons_succ,List.set_cons_zero]
  refine seq_on (by rfl) (fun w3 hb3 _ => ?_) ?_
  ·have c0 : ∀ j,w3.cell? ⟨q,j,none⟩ = _:=fun j => cell_of_heap (o:=j) ((hb3.block _ (Array.getElem?_eq_some_iff.1 K0.out).1).trans K0.out)
   simp [opOK,go_sem,Below.refl]
   try exact rfl
  simp only [Act.put,List.setIfInBounds_toArray,List.set_cons_succ,List.set_cons_zero]
  refine seq_on (by rfl) (fun w3 hb3 _ => ?_) ?_
  ·have c0 : ∀ j,w3.cell? ⟨q,j,none⟩ = _:=fun j => cell_of_heap (o:=j) ((hb3.block _ (Array.getElem?_eq_some_iff.1 K0.out).1).trans K0.out)
   simp [opOK,go_sem,Below.refl]
   try exact rfl
  simp only [Act.put,List.setIfInBounds_toArray,List.set_cons_succ,List.set_cons_zero]
  refine seq_on (by rfl) (fun w3 hb3 _ => ?_) ?_
  ·have c0 : ∀ j,w3.cell? ⟨q,j,none⟩ = _:=fun j => cell_of_heap (o:=j) ((hb3.block _ (Array.getElem?_eq_some_iff.1 K0.out).1).trans K0.out)
   simp [opOK,go_sem,Below.refl]
   try exact rfl
  simp only [Act.put,List.setIfInBounds_toArray,List.set_cons_succ,List.set_cons_zero]
  refine seq_on (by rfl) (fun w3 hb3 _ => ?_) ?_
  ·have c0 : ∀ j,w3.cell? ⟨q,j,none⟩ = _:=fun j => cell_of_heap (o:=j) ((hb3.block _ (Array.getElem?_eq_some_iff.1 K0.out).1).trans K0.out)
   simp [opOK,go_sem,e2,Below.refl]
   try exact rfl
  simp only [Act.put,List.setIfInBounds_toArray,List.set_cons_succ,List.set_cons_zero]
  refine seq_on (by rfl) (fun w3 hb3 _ => ?_) ?_
  ·have c0 : ∀ j,w3.cell? ⟨q,j,none⟩ = _:=fun j => cell_of_heap (o:=j) ((hb3.block _ (Array.getElem?_eq_some_iff.1 K0.out).1).trans K0.out)
   simp [opOK,go_sem,Below.refl]
   try exact rfl
  simp only [Act.put,List.setIfInBounds_toArray,List.set_cons_succ,List.set_cons_zero]
  refine seq_on (by rfl) (fun w3 hb3 _ => ?_) ?_
  ·have c0 : ∀ j,w3.cell? ⟨q,j,none⟩ = _:=fun j => cell_of_heap (o:=j) ((hb3.block _ (Array.getElem?_eq_some_iff.1 K0.out).1).trans K0.out)
   simp [opOK,go_sem,Below.refl]
   try exact rfl
  simp only [Act.put,List.setIfInBounds_toArray,List.set_cons_succ,List.set_cons_zero]
  refine seq_off (by rfl) ?_
  simp only [Act.put,List.setIfInBounds_toArray,List.set_cons_succ,List.set_cons_zero]
  refine seq_off (by rfl) ?_
  simp only [Act.put,List.setIfInBounds_toArray,List.set_cons_succ,List.set_cons_zero]
  refine seq_off (by rfl) ?_
  simp only [Act.put,List.setIfInBounds_toArray,List.set_cons_succ,List.set_cons_zero]
  refine seq_off (by rfl) ?_
  simp only [Act.put,List.setIfInBounds_toArray,List.set_cons_succ,List.set_cons_zero]
  refine seq_off (by rfl) ?_
  simp only [Act.put,List.setIfInBounds_toArray,List.set_cons_succ,List.set_cons_zero]
  refine seq_off (by rfl) ?_
  simp only [Act.put,List.setIfInBounds_toArray,List.set_cons_succ,List.set_cons_zero]
  refine seq_off (by rfl) ?_
  simp only [Act.put,List.setIfInBounds_toArray,List.set_cons_succ,List.set_cons_zero]
  refine seq_off (by rfl) ?_
  simp only [Act.put,List.setIfInBounds_toArray,List.set_cons_succ,List.set_cons_zero]
  refine seq_off (by rfl) ?_
  simp only [Act.put,List.setIfInBounds_toArray,List.set_cons_succ,List.set_cons_zero]
  refine seq_off (by rfl) ?_
  simp only [Act.put,List.setIfInBounds_toArray,List.set_cons_succ,List.set_cons_zero]
  refine seq_on (by rfl) (fun w3 hb3 _ => ?_) ?_
  ·have c0 : ∀ j,w3.cell? ⟨q,j,none⟩ = _:=fun j => cell_of_heap (o:=j) ((hb3.block _ (Array.getElem?_eq_some_iff.1 K0.out).1).trans K0.out)
   simp [opOK,go_sem,Below.refl]
   try exact rfl
  simp only [Act.put,List.setIfInBounds_toArray,List.set_cons_succ,List.set_cons_zero]
  refine seq_on (by rfl) (fun w3 hb3 _ => ?_) ?_
  ·have k3:=(hb3.block _ (Array.getElem?_eq_some_iff.1 K0.out).1).trans K0.out
   exact opOK_store_row 61 (.tmp 2) (.tmp 9) rfl q #[.int .i64 f,.int .i64 n] (by simp [Act.eval]) (by simp [Act.eval]) 61 _ k3 (by kernel_rfl) rfl (by simp [Value.oneCell']) ⟨rfl,by rw [setRow_self w3 q _ _ _ k3]; exact Below.refl _ _⟩
  simp only [Act.put]
  refine seq_on (by rfl) (fun w3 hb3 _ => ?_) ?_
  ·have c0 : ∀ j,w3.cell? ⟨q,j,none⟩ = _:=fun j => cell_of_heap (o:=j) ((hb3.block _ (Array.getElem?_eq_some_iff.1 K0.out).1).trans K0.out)
   simp [opOK,go_sem,Below.refl]
   try exact rfl
  simp only [Act.put,List.setIfInBounds_toArray,List.set_cons_succ,List.set_cons_zero]
  refine seq_end fun w3 hb3 _ => ?_
  have HB3:=Lib.hid (bThen HB0.out hb3)
  have k3:=(hb3.block _ (Array.getElem?_eq_some_iff.1 K0.out).1).trans K0.out
  have c0 : w3.cell? ⟨q,0,none⟩ = some (.int .i64 f):=by rw [cell_of_heap k3]; rfl
  have c1 : w3.cell? ⟨q,1,none⟩ = some (.int .i64 n):=by rw [cell_of_heap k3]; rfl
  clear hb3
  simp only [List.drop_succ_cons,List.drop_zero]
  go_wp2
  exact bodyPost_ret (v:=.tuple #[.agg #[.int .i64 f,.int .i64 n],.bool true]) (by simp [results,Tryz.results18,go_sem,c0,c1]) rfl ⟨rfl,HB3.out⟩
set_option maxRecDepth 100000 in
set_option maxHeartbeats 1000000 in
theorem newHit_d (b f n : Int) (e0 : (b == 0) = false) (e1 : (b == 125) = false) (e2 : (b == 225) = false) (H1 : Hid (isIn f 1 4 = false)) (hf : b.tdiv 100 = f) (hn : b.tmod 100 = n) (hw : IntKind.i64.wrap (b.tdiv 100) = b.tdiv 100 ∧ IntKind.i64.wrap (b.tmod 100) = b.tmod 100) (w : World) :
  Calls Tryz.prog 18 #[.int .i64 b] w fun e w' => e = .returned (.tuple #[.agg #[.int .i64 f,.int .i64 n],.bool false]) ∧ Below w.heap.size w w':=by
 obtain ⟨w0,hw0⟩ : ∃ w0,w.alloc (.cells #[.int .i64 f,.int .i64 n] 61) = w0:=⟨_,rfl⟩
 have k0 : w0.heap[w.heap.size]? = some (.cells #[.int .i64 f,.int .i64 n] 61 (0,0)):=by rw [← hw0]; exact World.alloc_heap_new _ _
 have hb0 : Below w.heap.size w w0:=by rw [← hw0]; exact aB _ _
 obtain ⟨q,hq⟩ : ∃ q,w.heap.size = q:=⟨_,rfl⟩
 have hwr1 : IntKind.i64.wrap (b.tdiv 100) = f:=by rw [hw.1]; exact hf
 have hwr2 : IntKind.i64.wrap (b.tmod 100) = n:=by rw [hw.2]; exact hn
 have HB0:=Lib.hid hb0
 have HW0:=Lib.hid hw0
 have HF:=Lib.hid hf
 have HN:=Lib.hid hn
 have K0:=Lib.hid (hq ▸ k0)
 have HQ:=Lib.hid hq
 clear hb0 hw0 k0 hq hf hn hw
 go_enter Tryz.func18,Tryz.ntmps18
 go_wp2_with fail
 simp only [HN.out]
 rw [HW0.out,HQ.out]
 refine wp_region_seq 25 [.is (.agg #[.int .i64 f,.int .i64 n]),.is (.int .i64 b),.is (.bool false),.is (.bool false),.is (.int .i64 b),.is (.bool false),.is (.bool false),.is (.bool false),.is (.int .i64 b),.is (.bool false),.is (.bool false),.is (.bool false),.is (.pointer (some ⟨q,0,none⟩)),.is (.int .i64 f),kSl 3 [.int .i64 f],.is (.bool false),.is (.bool false),.is undef,.is undef,.is undef,.is undef,.is (.bool false),.is (.bool false),.is undef,.is (.bool false)] rfl mix (by kernel_rfl) (by kernel_rfl) ?seqm
 case seqm =>
  simp only [List.take_succ_cons,List.take_zero]
  refine seq_on (by rfl) (fun w3 hb3 _ => ?_) ?_
  ·have c0 : ∀ j,w3.cell? ⟨q,j,none⟩ = _:=fun j => cell_of_heap (o:=j) ((hb3.block _ (Array.getElem?_eq_some_iff.1 K0.out).1).trans K0.out)
   simp [opOK,go_sem,c0,Below.refl]
   try exact rfl
  simp only [Act.put,List.setIfInBounds_toArray,List.set_cons_succ,List.set_cons_zero]
  refine seq_on (by rfl) (fun w3 hb3 _ => ?_) ?_
  ·have c0 : ∀ j,w3.cell? ⟨q,j,none⟩ = _:=fun j => cell_of_heap (o:=j) ((hb3.block _ (Array.getElem?_eq_some_iff.1 K0.out).1).trans K0.out)
   simp [opOK,go_sem,Below.refl]
   try exact rfl
  simp only [Act.put,List.setIfInBounds_toArray,List.set_cons_succ,List.set_cons_zero]
  refine seq_on (by rfl) (fun w3 hb3 _ => ?_) ?_
  ·have c0 : ∀ j,w3.cell? ⟨q,j,none⟩ = _:=fun j => cell_of_heap (o:=j) ((hb3.block _ (Array.getElem?_eq_some_iff.1 K0.out).1).trans K0.out)
   simp [opOK,go_sem,e0,Below.refl]
   try exact rfl
  simp only [Act.put,List.setIfInBounds_toArray,List.set_cons_succ,List.set_cons_zero]
  refine seq_on (by rfl) (fun w3 hb3 _ => ?_) ?_
  ·have c0 : ∀ j,w3.cell? ⟨q,j,none⟩ = _:=fun j => cell_of_heap (o:=j) ((hb3.block _ (Array.getElem?_eq_some_iff.1 K0.out).1).trans K0.out)
   simp [opOK,go_sem,Below.refl]
   try exact rfl
  simp only [Act.put,List.setIfInBounds_toArray,List.set_cons_succ,List.set_cons_zero]
  refine seq_on (by rfl) (fun w3 hb3 _ => ?_) ?_
  ·have c0 : ∀ j,w3.cell? ⟨q,j,none⟩ = _:=fun j => cell_of_heap (o:=j) ((hb3.block _ (Array.getElem?_eq_some_iff.1 K0.out).1).trans K0.out)
   simp [opOK,go_sem,Below.refl]
   try exact rfl
  simp only [Act.put,List.setIfInBounds_toArray,List.set_cons_succ,List.set_cons_zero]
  refine seq_on (by rfl) (fun w3 hb3 _ => ?_) ?_
  ·have c0 : ∀ j,w3.cell? ⟨q,j,none⟩ = _:=fun j => cell_of_heap (o:=j) ((hb3.block _ (Array.getElem?_eq_some_iff.1 K0.out).1).trans K0.out)
   simp [opOK,go_sem,e1,Below.refl]
   try exact rfl
  simp only [Act.put,List.setIfInBounds_toArray,List.set_cons_succ,List.set_cons_zero]
  refine seq_on (by rfl) (fun w3 hb3 _ => ?_) ?_
  ·have c0 : ∀ j,w3.cell? ⟨q,j,none⟩ = _:=fun j => cell_of_heap (o:=j) ((hb3.block _ (Array.getElem?_eq_some_iff.1 K0.out).1).trans K0.out)
   simp [opOK,go_sem,Below.refl]
   try exact rfl
  simp only [Act.put,List.setIfInBounds_toArray,List.set_cons_succ,List.set_cons_zero]
  refine seq_on (by rfl) (fun w3 hb3 _ => ?_) ?_
  ·have c0 : ∀ j,w3.cell? ⟨q,j,none⟩ = _:=fun j => cell_of_heap (o:=j) ((hb3.block _ (Array.getElem?_eq_some_iff.1 K0.out).1).trans K0.out)
   simp [opOK,go_sem,Below.refl]
   try exact rfl
  simp only [Act.put,List.setIfInBounds_toArray,List.set_cons_succ,List.set_cons_zero]
  refine seq_on (by rfl) (fun w3 hb3 _ => ?_) ?_
  ·have c0 : ∀ j,w3.cell? ⟨q,j,none⟩ = _:=fun j => cell_of_heap (o:=j) ((hb3.block _ (Array.getElem?_eq_some_iff.1 K0.out).1).trans K0.out)
   simp [opOK,go_sem,Below.refl]
   try exact rfl
  simp only [Act.put,List.setIfInBounds_toArray,List.set_cons_succ,List.set_cons_zero]
  refine seq_on (by rfl) (fun w3 hb3 _ => ?_) ?_
  ·have c0 : ∀ j,w3.cell? ⟨q,j,none⟩ = _:=fun j => cell_of_heap (o:=j) ((hb3.block _ (Array.getElem?_eq_some_iff.1 K0.out).1).trans K0.out)
   simp [opOK,go_sem,e2,Below.refl]
   try exact rfl
  simp only [Act.put,List.setIfInBounds_toArray,List.set_cons_succ,List.set_cons_zero]
  refine seq_on (by rfl) (fun w3 hb3 _ => ?_) ?_
  ·have c0 : ∀ j,w3.cell? ⟨q,j,none⟩ = _:=fun j => cell_of_heap (o:=j) ((hb3.block _ (Array.getElem?_eq_some_iff.1 K0.out).1).trans K0.out)
   simp [opOK,go_sem,Below.refl]
   try exact rfl
  simp only [Act.put,List.setIfInBounds_toArray,List.set_cons_succ,List.set_cons_zero]
  refine seq_on (by rfl) (fun w3 hb3 _ => ?_) ?_
  ·have c0 : ∀ j,w3.cell? ⟨q,j,none⟩ = _:=fun j => cell_of_heap (o:=j) ((hb3.block _ (Array.getElem?_eq_some_iff.1 K0.out).1).trans K0.out)
   simp [opOK,go_sem,Below.refl]
   try exact rfl
  simp only [Act.put,List.setIfInBounds_toArray,List.set_cons_succ,List.set_cons_zero]
  refine seq_on (by rfl) (fun w3 hb3 _ => ?_) ?_
  ·have c0 : ∀ j,w3.cell? ⟨q,j,none⟩ = _:=fun j => cell_of_heap (o:=j) ((hb3.block _ (Array.getElem?_eq_some_iff.1 K0.out).1).trans K0.out)
   simp [opOK,go_sem,Below.refl]
   try exact rfl
  simp only [Act.put,List.setIfInBounds_toArray,List.set_cons_succ,List.set_cons_zero]
  refine seq_on (by rfl) (fun w3 hb3 _ => ?_) ?_
  ·have c0 : ∀ j,w3.cell? ⟨q,j,none⟩ = _:=fun j => cell_of_heap (o:=j) ((hb3.block _ (Array.getElem?_eq_some_iff.1 K0.out).1).trans K0.out)
   simp [opOK,go_sem,c0,Below.refl]
   try exact rfl
  simp only [Act.put,List.setIfInBounds_toArray,List.set_cons_succ,List.set_cons_zero]
  refine seq_new ⟨_,0,rfl⟩ (by rfl) (fun w3 hb3 _ => ?_) ?_
  ·refine opOK_val (v:=.slice (some ⟨w3.heap.size,0,none⟩) 1 1) (w':=w3.alloc (.cells #[.int .i64 f] 3)) (by simp [go_sem,execOp]) ⟨aB _ _,⟨_,rfl⟩,_,rfl,World.alloc_heap_new _ _⟩
  rintro v ⟨bs,rfl⟩
  simp only [Act.put,List.setIfInBounds_toArray,List.set_cons_succ,List.set_cons_zero]
  refine seq_on (by rfl) (fun w3 hb3 hH => ?_) ?_
  ·have hs:=hH ⟨14,.data⟩ (by simp) rfl
   simp [addH,kSl] at hs
   refine opOK_call (f:=35) (args:=#[.int .i64 1,.int .i64 4,.slice (some ⟨bs,0,none⟩) 1 1]) (by simp [go_sem]) ?_
   exact (within_one' 1 4 f false H1 _ w3 (sl_blk (t:=3) (xs:=[.int .i64 f]) hs (by simp [maxLen]))).mono fun e W' ⟨he,hb⟩ => ⟨_,he,rfl,hb⟩
  simp only [Act.put,List.setIfInBounds_toArray,List.set_cons_succ,List.set_cons_zero]
  refine seq_on (by rfl) (fun w3 hb3 _ => ?_) ?_
  ·have c0 : ∀ j,w3.cell? ⟨q,j,none⟩ = _:=fun j => cell_of_heap (o:=j) ((hb3.block _ (Array.getElem?_eq_some_iff.1 K0.out).1).trans K0.out)
   simp [opOK,go_sem,Below.refl]
   try exact rfl
  simp only [Act.put,List.setIfInBounds_toArray,List.set_cons_succ,List.set_cons_zero]
  refine seq_off (by rfl) ?_
  simp only [Act.put,List.setIfInBounds_toArray,List.set_cons_succ,List.set_cons_zero]
  refine seq_off (by rfl) ?_
  simp only [Act.put,List.setIfInBounds_toArray,List.set_cons_succ,List.set_cons_zero]
  refine seq_off (by rfl) ?_
  simp only [Act.put,List.setIfInBounds_toArray,List.set_cons_succ,List.set_cons_zero]
  refine seq_off (by rfl) ?_
  simp only [Act.put,List.setIfInBounds_toArray,List.set_cons_succ,List.set_cons_zero]
  refine seq_on (by rfl) (fun w3 hb3 _ => ?_) ?_
  ·have c0 : ∀ j,w3.cell? ⟨q,j,none⟩ = _:=fun j => cell_of_heap (o:=j) ((hb3.block _ (Array.getElem?_eq_some_iff.1 K0.out).1).trans K0.out)
   simp [opOK,go_sem,Below.refl]
   try exact rfl
  simp only [Act.put,List.setIfInBounds_toArray,List.set_cons_succ,List.set_cons_zero]
  refine seq_on (by rfl) (fun w3 hb3 _ => ?_) ?_
  ·have c0 : ∀ j,w3.cell? ⟨q,j,none⟩ = _:=fun j => cell_of_heap (o:=j) ((hb3.block _ (Array.getElem?_eq_some_iff.1 K0.out).1).trans K0.out)
   simp [opOK,go_sem,Below.refl]
   try exact rfl
  simp only [Act.put,List.setIfInBounds_toArray,List.set_cons_succ,List.set_cons_zero]
  refine seq_on (by rfl) (fun w3 hb3 _ => ?_) ?_
  ·have k3:=(hb3.block _ (Array.getElem?_eq_some_iff.1 K0.out).1).trans K0.out
   exact opOK_store_row 61 (.tmp 2) (.tmp 9) rfl q #[.int .i64 f,.int .i64 n] (by simp [Act.eval]) (by simp [Act.eval]) 61 _ k3 (by kernel_rfl) rfl (by simp [Value.oneCell']) ⟨rfl,by rw [setRow_self w3 q _ _ _ k3]; exact Below.refl _ _⟩
  simp only [Act.put]
  refine seq_on (by rfl) (fun w3 hb3 _ => ?_) ?_
  ·have c0 : ∀ j,w3.cell? ⟨q,j,none⟩ = _:=fun j => cell_of_heap (o:=j) ((hb3.block _ (Array.getElem?_eq_some_iff.1 K0.out).1).trans K0.out)
   simp [opOK,go_sem,Below.refl]
   try exact rfl
  simp only [Act.put,List.setIfInBounds_toArray,List.set_cons_succ,List.set_cons_zero]
  refine seq_end fun w3 hb3 _ => ?_
  have HB3:=Lib.hid (bThen HB0.out hb3)
  have k3:=(hb3.block _ (Array.getElem?_eq_some_iff.1 K0.out).1).trans K0.out
  have c0 : w3.cell? ⟨q,0,none⟩ = some (.int .i64 f):=by rw [cell_of_heap k3]; rfl
  have c1 : w3.cell? ⟨q,1,none⟩ = some (.int .i64 n):=by rw [cell_of_heap k3]; rfl
  clear hb3
  simp only [List.drop_succ_cons,List.drop_zero]
  go_wp2
  exact bodyPost_ret (v:=.tuple #[.agg #[.int .i64 f,.int .i64 n],.bool false]) (by simp [results,Tryz.results18,go_sem,c0,c1]) rfl ⟨rfl,HB3.out⟩
set_option maxRecDepth 100000 in
set_option maxHeartbeats 1000000 in
theorem newHit_e (b f n : Int) (e0 : (b == 0) = false) (e1 : (b == 125) = false) (e2 : (b == 225) = false) (H1 : Hid (isIn f 1 4 = true)) (b2 : Bool) (H2 : Hid (isIn n 1 20 = b2)) (hf : b.tdiv 100 = f) (hn : b.tmod 100 = n) (hw : IntKind.i64.wrap (b.tdiv 100) = b.tdiv 100 ∧ IntKind.i64.wrap (b.tmod 100) = b.tmod 100) (w : World) :
  Calls Tryz.prog 18 #[.int .i64 b] w fun e w' => e = .returned (.tuple #[.agg #[.int .i64 f,.int .i64 n],.bool b2]) ∧ Below w.heap.size w w':=by
 obtain ⟨w0,hw0⟩ : ∃ w0,w.alloc (.cells #[.int .i64 f,.int .i64 n] 61) = w0:=⟨_,rfl⟩
 have k0 : w0.heap[w.heap.size]? = some (.cells #[.int .i64 f,.int .i64 n] 61 (0,0)):=by rw [← hw0]; exact World.alloc_heap_new _ _
 have hb0 : Below w.heap.size w w0:=by rw [← hw0]; exact aB _ _
 obtain ⟨q,hq⟩ : ∃ q,w.heap.size = q:=⟨_,rfl⟩
 have hwr1 : IntKind.i64.wrap (b.tdiv 100) = f:=by rw [hw.1]; exact hf
 have hwr2 : IntKind.i64.wrap (b.tmod 100) = n:=by rw [hw.2]; exact hn
 have HB0:=Lib.hid hb0
 have HW0:=Lib.hid hw0
 have HF:=Lib.hid hf
 have HN:=Lib.hid hn
 have K0:=Lib.hid (hq ▸ k0)
 have HQ:=Lib.hid hq
 clear hb0 hw0 k0 hq hf hn hw
 go_enter Tryz.func18,Tryz.ntmps18
 go_wp2_with fail
 simp only [HN.out]
 rw [HW0.out,HQ.out]
 refine wp_region_seq 25 [.is (.agg #[.int .i64 f,.int .i64 n]),.is (.int .i64 b),.is (.bool false),.is (.bool false),.is (.int .i64 b),.is (.bool false),.is (.bool false),.is (.bool false),.is (.int .i64 b),.is (.bool false),.is (.bool false),.is (.bool false),.is (.pointer (some ⟨q,0,none⟩)),.is (.int .i64 f),kSl 3 [.int .i64 f],.is (.bool true),.is (.bool true),.is (.pointer (some ⟨q,1,none⟩)),.is (.int .i64 n),kSl 3 [.int .i64 n],.is (.bool b2),.is (.bool b2),.is (.bool b2),.is undef,.is (.bool b2)] rfl mix (by kernel_rfl) (by kernel_rfl) ?seqm
 case seqm =>
  simp only [List.take_succ_cons,List.take_zero]
  refine seq_on (by rfl) (fun w3 hb3 _ => ?_) ?_
  ·have c0 : ∀ j,w3.cell? ⟨q,j,none⟩ = _:=fun j => cell_of_heap (o:=j) ((hb3.block _ (Array.getElem?_eq_some_iff.1 K0.out).1).trans K0.out)
   simp [opOK,go_sem,c0,Below.refl]
   try exact rfl
  simp only [Act.put,List.setIfInBounds_toArray,List.set_cons_succ,List.set_cons_zero]
  refine seq_on (by rfl) (fun w3 hb3 _ => ?_) ?_
  ·have c0 : ∀ j,w3.cell? ⟨q,j,none⟩ = _:=fun j => cell_of_heap (o:=j) ((hb3.block _ (Array.getElem?_eq_some_iff.1 K0.out).1).trans K0.out)
   simp [opOK,go_sem,Below.refl]
   try exact rfl
  simp only [Act.put,List.setIfInBounds_toArray,List.set_cons_succ,List.set_cons_zero]
  refine seq_on (by rfl) (fun w3 hb3 _ => ?_) ?_
  ·have c0 : ∀ j,w3.cell? ⟨q,j,none⟩ = _:=fun j => cell_of_heap (o:=j) ((hb3.block _ (Array.getElem?_eq_some_iff.1 K0.out).1).trans K0.out)
   simp [opOK,go_sem,e0,Below.refl]
   try exact rfl
  simp only [Act.put,List.setIfInBounds_toArray,List.set_cons_succ,List.set_cons_zero]
  refine seq_on (by rfl) (fun w3 hb3 _ => ?_) ?_
  ·have c0 : ∀ j,w3.cell? ⟨q,j,none⟩ = _:=fun j => cell_of_heap (o:=j) ((hb3.block _ (Array.getElem?_eq_some_iff.1 K0.out).1).trans K0.out)
   simp [opOK,go_sem,Below.refl]
   try exact rfl
  simp only [Act.put,List.setIfInBounds_toArray,List.set_cons_succ,List.set_cons_zero]
  refine seq_on (by rfl) (fun w3 hb3 _ => ?_) ?_
  ·have c0 : ∀ j,w3.cell? ⟨q,j,none⟩ = _:=fun j => cell_of_heap (o:=j) ((hb3.block _ (Array.getElem?_eq_some_iff.1 K0.out).1).trans K0.out)
   simp [opOK,go_sem,Below.refl]
   try exact rfl
  simp only [Act.put,List.setIfInBounds_toArray,List.set_cons_succ,List.set_cons_zero]
  refine seq_on (by rfl) (fun w3 hb3 _ => ?_) ?_
  ·have c0 : ∀ j,w3.cell? ⟨q,j,none⟩ = _:=fun j => cell_of_heap (o:=j) ((hb3.block _ (Array.getElem?_eq_some_iff.1 K0.out).1).trans K0.out)
   simp [opOK,go_sem,e1,Below.refl]
   try exact rfl
  simp only [Act.put,List.setIfInBounds_toArray,List.set_cons_succ,List.set_cons_zero]
  refine seq_on (by rfl) (fun w3 hb3 _ => ?_) ?_
  ·have c0 : ∀ j,w3.cell? ⟨q,j,none⟩ = _:=fun j => cell_of_heap (o:=j) ((hb3.block _ (Array.getElem?_eq_some_iff.1 K0.out).1).trans K0.out)
   simp [opOK,go_sem,Below.refl]
   try exact rfl
  simp only [Act.put,List.setIfInBounds_toArray,List.set_cons_succ,List.set_cons_zero]
  refine seq_on (by rfl) (fun w3 hb3 _ => ?_) ?_
  ·have c0 : ∀ j,w3.cell? ⟨q,j,none⟩ = _:=fun j => cell_of_heap (o:=j) ((hb3.block _ (Array.getElem?_eq_some_iff.1 K0.out).1).trans K0.out)
   simp [opOK,go_sem,Below.refl]
   try exact rfl
  simp only [Act.put,List.setIfInBounds_toArray,List.set_cons_succ,List.set_cons_zero]
  refine seq_on (by rfl) (fun w3 hb3 _ => ?_) ?_
  ·have c0 : ∀ j,w3.cell? ⟨q,j,none⟩ = _:=fun j => cell_of_heap (o:=j) ((hb3.block _ (Array.getElem?_eq_some_iff.1 K0.out).1).trans K0.out)
   simp [opOK,go_sem,Below.refl]
   try exact rfl
  simp only [Act.put,List.setIfInBounds_toArray,List.set_cons_succ,List.set_cons_zero]
  refine seq_on (by rfl) (fun w3 hb3 _ => ?_) ?_
  ·have c0 : ∀ j,w3.cell? ⟨q,j,none⟩ = _:=fun j => cell_of_heap (o:=j) ((hb3.block _ (Array.getElem?_eq_some_iff.1 K0.out).1).trans K0.out)
   simp [opOK,go_sem,e2,Below.refl]
   try exact rfl
  simp only [Act.put,List.setIfInBounds_toArray,List.set_cons_succ,List.set_cons_zero]
  refine seq_on (by rfl) (fun w3 hb3 _ => ?_) ?_
  ·have c0 : ∀ j,w3.cell? ⟨q,j,none⟩ = _:=fun j => cell_of_heap (o:=j) ((hb3.block _ (Array.getElem?_eq_some_iff.1 K0.out).1).trans K0.out)
   simp [opOK,go_sem,Below.refl]
   try exact rfl
  simp only [Act.put,List.setIfInBounds_toArray,List.set_cons_succ,List.set_cons_zero]
  refine seq_on (by rfl) (fun w3 hb3 _ => ?_) ?_
  ·have c0 : ∀ j,w3.cell? ⟨q,j,none⟩ = _:=fun j => cell_of_heap (o:=j) ((hb3.block _ (Array.getElem?_eq_some_iff.1 K0.out).1).trans K0.out)
   simp [opOK,go_sem,Below.refl]
   try exact rfl
  simp only [Act.put,List.setIfInBounds_toArray,List.set_cons_succ,List.set_cons_zero]
  refine seq_on (by rfl) (fun w3 hb3 _ => ?_) ?_
  ·have c0 : ∀ j,w3.cell? ⟨q,j,none⟩ = _:=fun j => cell_of_heap (o:=j) ((hb3.block _ (Array.getElem?_eq_some_iff.1 K0.out).1).trans K0.out)
   simp [opOK,go_sem,Below.refl]
   try exact rfl
  simp only [Act.put,List.setIfInBounds_toArray,List.set_cons_succ,List.set_cons_zero]
  refine seq_on (by rfl) (fun w3 hb3 _ => ?_) ?_
  ·have c0 : ∀ j,w3.cell? ⟨q,j,none⟩ = _:=fun j => cell_of_heap (o:=j) ((hb3.block _ (Array.getElem?_eq_some_iff.1 K0.out).1).trans K0.out)
   simp [opOK,go_sem,c0,Below.refl]
   try exact rfl
  simp only [Act.put,List.setIfInBounds_toArray,List.set_cons_succ,List.set_cons_zero]
  refine seq_new ⟨_,0,rfl⟩ (by rfl) (fun w3 hb3 _ => ?_) ?_
  ·refine opOK_val (v:=.slice (some ⟨w3.heap.size,0,none⟩) 1 1) (w':=w3.alloc (.cells #[.int .i64 f] 3)) (by simp [go_sem,execOp]) ⟨aB _ _,⟨_,rfl⟩,_,rfl,World.alloc_heap_new _ _⟩
  rintro v ⟨bs,rfl⟩
  simp only [Act.put,List.setIfInBounds_toArray,List.set_cons_succ,List.set_cons_zero]
  refine seq_on (by rfl) (fun w3 hb3 hH => ?_) ?_
  ·have hs:=hH ⟨14,.data⟩ (by simp) rfl
   simp [addH,kSl] at hs
   refine opOK_call (f:=35) (args:=#[.int .i64 1,.int .i64 4,.slice (some ⟨bs,0,none⟩) 1 1]) (by simp [go_sem]) ?_
   exact (within_one' 1 4 f true H1 _ w3 (sl_blk (t:=3) (xs:=[.int .i64 f]) hs (by simp [maxLen]))).mono fun e W' ⟨he,hb⟩ => ⟨_,he,rfl,hb⟩
  simp only [Act.put,List.setIfInBounds_toArray,List.set_cons_succ,List.set_cons_zero]
  refine seq_on (by rfl) (fun w3 hb3 _ => ?_) ?_
  ·have c0 : ∀ j,w3.cell? ⟨q,j,none⟩ = _:=fun j => cell_of_heap (o:=j) ((hb3.block _ (Array.getElem?_eq_some_iff.1 K0.out).1).trans K0.out)
   simp [opOK,go_sem,Below.refl]
   try exact rfl
  simp only [Act.put,List.setIfInBounds_toArray,List.set_cons_succ,List.set_cons_zero]
  refine seq_on (by rfl) (fun w3 hb3 _ => ?_) ?_
  ·have c0 : ∀ j,w3.cell? ⟨q,j,none⟩ = _:=fun j => cell_of_heap (o:=j) ((hb3.block _ (Array.getElem?_eq_some_iff.1 K0.out).1).trans K0.out)
   simp [opOK,go_sem,Below.refl]
   try exact rfl
  simp only [Act.put,List.setIfInBounds_toArray,List.set_cons_succ,List.set_cons_zero]
  refine seq_on (by rfl) (fun w3 hb3 _ => ?_) ?_
  ·have c0 : ∀ j,w3.cell? ⟨q,j,none⟩ = _:=fun j => cell_of_heap (o:=j) ((hb3.block _ (Array.getElem?_eq_some_iff.1 K0.out).1).trans K0.out)
   simp [opOK,go_sem,c0,Below.refl]
   try exact rfl
  simp only [Act.put,List.setIfInBounds_toArray,List.set_cons_succ,List.set_cons_zero]
  refine seq_new ⟨_,0,rfl⟩ (by rfl) (fun w3 hb3 _ => ?_) ?_
  ·refine opOK_val (v:=.slice (some ⟨w3.heap.size,0,none⟩) 1 1) (w':=w3.alloc (.cells #[.int .i64 n] 3)) (by simp [go_sem,execOp]) ⟨aB _ _,⟨_,rfl⟩,_,rfl,World.alloc_heap_new _ _⟩
  rintro v ⟨bt,rfl⟩
  simp only [Act.put,List.setIfInBounds_toArray,List.set_cons_succ,List.set_cons_zero]
  refine seq_on (by rfl) (fun w3 hb3 hH => ?_) ?_
  ·have hs:=hH ⟨19,.data⟩ (by simp) rfl
   simp [addH,kSl] at hs
   refine opOK_call (f:=35) (args:=#[.int .i64 1,.int .i64 20,.slice (some ⟨bt,0,none⟩) 1 1]) (by simp [go_sem]) ?_
   exact (within_one' 1 20 n b2 H2 _ w3 (sl_blk (t:=3) (xs:=[.int .i64 n]) hs (by simp [maxLen]))).mono fun e W' ⟨he,hb⟩ => ⟨_,he,rfl,hb⟩
  simp only [Act.put,List.setIfInBounds_toArray,List.set_cons_succ,List.set_cons_zero]
  refine seq_on (by rfl) (fun w3 hb3 _ => ?_) ?_
  ·have c0 : ∀ j,w3.cell? ⟨q,j,none⟩ = _:=fun j => cell_of_heap (o:=j) ((hb3.block _ (Array.getElem?_eq_some_iff.1 K0.out).1).trans K0.out)
   simp [opOK,go_sem,Below.refl]
   try exact rfl
  simp only [Act.put,List.setIfInBounds_toArray,List.set_cons_succ,List.set_cons_zero]
  refine seq_on (by rfl) (fun w3 hb3 _ => ?_) ?_
  ·have c0 : ∀ j,w3.cell? ⟨q,j,none⟩ = _:=fun j => cell_of_heap (o:=j) ((hb3.block _ (Array.getElem?_eq_some_iff.1 K0.out).1).trans K0.out)
   simp [opOK,go_sem,Below.refl]
   try exact rfl
  simp only [Act.put,List.setIfInBounds_toArray,List.set_cons_succ,List.set_cons_zero]
  refine seq_on (by rfl) (fun w3 hb3 _ => ?_) ?_
  ·have k3:=(hb3.block _ (Array.getElem?_eq_some_iff.1 K0.out).1).trans K0.out
   exact opOK_store_row 61 (.tmp 2) (.tmp 9) rfl q #[.int .i64 f,.int .i64 n] (by simp [Act.eval]) (by simp [Act.eval]) 61 _ k3 (by kernel_rfl) rfl (by simp [Value.oneCell']) ⟨rfl,by rw [setRow_self w3 q _ _ _ k3]; exact Below.refl _ _⟩
  simp only [Act.put]
  refine seq_on (by rfl) (fun w3 hb3 _ => ?_) ?_
  ·have c0 : ∀ j,w3.cell? ⟨q,j,none⟩ = _:=fun j => cell_of_heap (o:=j) ((hb3.block _ (Array.getElem?_eq_some_iff.1 K0.out).1).trans K0.out)
   simp [opOK,go_sem,Below.refl]
   try exact rfl
  simp only [Act.put,List.setIfInBounds_toArray,List.set_cons_succ,List.set_cons_zero]
  refine seq_end fun w3 hb3 _ => ?_
  have HB3:=Lib.hid (bThen HB0.out hb3)
  have k3:=(hb3.block _ (Array.getElem?_eq_some_iff.1 K0.out).1).trans K0.out
  have c0 : w3.cell? ⟨q,0,none⟩ = some (.int .i64 f):=by rw [cell_of_heap k3]; rfl
  have c1 : w3.cell? ⟨q,1,none⟩ = some (.int .i64 n):=by rw [cell_of_heap k3]; rfl
  clear hb3
  simp only [List.drop_succ_cons,List.drop_zero]
  go_wp2
  exact bodyPost_ret (v:=.tuple #[.agg #[.int .i64 f,.int .i64 n],.bool b2]) (by simp [results,Tryz.results18,go_sem,c0,c1]) rfl ⟨rfl,HB3.out⟩
theorem newHit_any (b : Int) (hb : -9223372036854775808 ≤ b ∧ b ≤ 9223372036854775807) (w : World) :
  Calls Tryz.prog 18 #[.int .i64 b] w fun e w' => e = .returned (.tuple #[.agg #[.int .i64 (b.tdiv 100),.int .i64 (b.tmod 100)],.bool (okBed b)]) ∧ Below w.heap.size w w':=by
 have m1:=Int.tmod_add_mul_tdiv b 100
 have m2:=Int.tmod_lt_of_pos b (show (0 : Int) < 100 by decide)
 have m3:=Int.lt_tmod_of_pos b (show (0 : Int) < 100 by decide)
 have hw : IntKind.i64.wrap (b.tdiv 100) = b.tdiv 100 ∧ IntKind.i64.wrap (b.tmod 100) = b.tmod 100:=⟨wrap_small _ (by omega) (by omega),wrap_small _ (by omega) (by omega)⟩
 unfold okBed
 cases e0 : (b == 0)
 ·cases e1 : (b == 125)
  ·cases e2 : (b == 225)
   ·cases h1 : isIn (b.tdiv 100) 1 4
    ·exact newHit_d b _ _ e0 e1 e2 (Lib.hid h1) rfl rfl hw w
    ·exact newHit_e b _ _ e0 e1 e2 (Lib.hid h1) _ (Lib.hid rfl) rfl rfl hw w
   ·exact newHit_c b _ _ e0 e1 e2 rfl rfl hw w
  ·exact newHit_b b _ _ e0 e1 rfl rfl hw w
 ·exact newHit_a b _ _ e0 rfl rfl hw w
end Go.Proofs.YtnhggfnnolfcdaaGreat

/- Comparing lists of integers (SAME: the function's name). -/
namespace Go.Oche
open Go Go.RowKit
theorem Sl.cell {S : Nat → Prop} {w : World} {a : Option Addr} {n cap : Nat} {xs : List Int} (h : Sl S w (.slice a n cap) (ints xs)) {k : Nat} (hk : k < xs.length) : ∃ b off,a = some ⟨b,off,none⟩ ∧ S b ∧ w.cell? ⟨b,off + k,none⟩ = some (.int .i64 xs[k]):=by
 obtain ⟨a',cap',e,_,_,h4⟩ := h
 cases e
 exact h4 k _ (intsAt hk)
end Go.Oche
namespace Go.Proofs.YtnhggfnnolfcdaaGreat
open Go.RowKit Go.Oche Go.Proofs
theorem list_diff {xs ys : List Int} {k : Nat} (h1 : k < xs.length) (h2 : k < ys.length) (h : xs[k] ≠ ys[k]) : xs ≠ ys:=fun e => by subst e; exact h rfl
theorem list_same {xs ys : List Int} (hl : xs.length = ys.length) (h : ∀ j, ∀ h1 : j < xs.length, ∀ h2 : j < ys.length,xs[j] = ys[j]) : xs = ys:=List.ext_getElem hl fun j h1 h2 => h j h1 h2

set_option maxRecDepth 100000 in
set_option maxHeartbeats 1000000 in
theorem ints_any {S S' : Nat → Prop} (xs ys : List Int) (va vb : Value) (w : World) (hs : Sl S w va (ints xs)) (hs' : Sl S' w vb (ints ys)) :
  Calls Tryz.prog 27 #[va,vb] w fun e w' => e = .returned (.bool (decide (xs = ys))) ∧ Below w.heap.size w w':=by
 obtain ⟨a,ca,rfl,_,h3⟩ := hs.form
 obtain ⟨b,cb,rfl,_,h3'⟩ := hs'.form
 simp only [ints_length] at *
 unfold maxLen at h3 h3'
 have HS:=Lib.hid hs
 have HS':=Lib.hid hs'
 clear hs hs'
 by_cases hl : xs.length = ys.length
 ·have f0 : ((xs.length : Int) != (ys.length : Int)) = false:=by simp [hl]
  have f1 : (xs.length != ys.length) = false:=by simp [hl]
  have HL:=Lib.hid hl
  have hle : xs.length ≤ ys.length:=by omega
  clear hl
  go_enter Tryz.func27,Tryz.ntmps27
  go_wp2
  clear f0 f1
  go_loopw [5] (fun i wr => ∃ k : Nat,k ≤ xs.length ∧ i = .int .i64 k ∧ (∀ j,j < k → ∀ h1 : j < xs.length, ∀ h2 : j < ys.length,xs[j] = ys[j]) ∧ Below w.heap.size w wr) (fun i _ => xs.length - (intOf i).toNat)
  case atStart => exact ⟨0,Nat.zero_le _,rfl,fun j hj => by omega,Below.refl _ _⟩
  case round =>
   obtain ⟨k,hk,rfl,hp,hb⟩ := hrel
   have HP:=Lib.hid hp
   clear hp
   by_cases hlt : k < xs.length
   ·have hlt' : k < ys.length:=by omega
    obtain ⟨b1,o1,rfl,_,c1⟩ := HS.out.cell hlt
    obtain ⟨b2,o2,rfl,_,c2⟩ := HS'.out.cell hlt'
    obtain ⟨x,hx⟩ : ∃ x,xs[k] = x:=⟨_,rfl⟩
    obtain ⟨y,hy⟩ : ∃ y,ys[k] = y:=⟨_,rfl⟩
    rw [hx] at c1
    rw [hy] at c2
    replace c1:=bAt hb c1
    replace c2:=bAt hb c2
    have HX:=Lib.hid hx
    have HY:=Lib.hid hy
    clear hx hy
    by_cases hxy : x = y
    ·have g0 : (x != y) = false:=by simp [hxy]
     have HXY:=Lib.hid hxy
     clear hxy
     go_wp2_with fail
     go_quiet (fail)
     go_wp2
     go_roundw
     case rel => exact ⟨k + 1,by omega,by go_num,fun j hj h1 h2 => by
      by_cases e : j = k
      ·subst e; rw [HX.out,HY.out,HXY.out]
      ·exact HP.out j (by omega) h1 h2,⟨hb.os,hb.tape,hb.output,hb.size,hb.block⟩⟩
     case measure => simp [intOf]; omega
    ·have g0 : (x != y) = true:=by simp [hxy]
     have HXY:=Lib.hid hxy
     clear hxy
     go_wp2_with fail
     go_quiet (fail)
     go_wp2
     go_ret
     refine ⟨ret_bool ?_,⟨hb.os,hb.tape,hb.output,hb.size,hb.block⟩⟩
     rw [decide_eq_false (list_diff hlt hlt' (by rw [HX.out,HY.out]; exact HXY.out))]
   ·obtain rfl : k = xs.length:=by omega
    go_wp2
    go_ret
    refine ⟨ret_bool ?_,hb⟩
    rw [decide_eq_true (list_same HL.out fun j h1 h2 => HP.out j h1 h1 h2)]
 ·have f0 : ((xs.length : Int) != (ys.length : Int)) = true:=by simp; omega
  have f1 : (xs.length != ys.length) = true:=by simp [hl]
  have hne : xs ≠ ys:=fun e => hl (by rw [e])
  have HNE:=Lib.hid hne
  clear hl hne
  go_enter Tryz.func27,Tryz.ntmps27
  go_wp2
  go_ret
  exact ⟨ret_bool (by rw [decide_eq_false HNE.out]),Below.refl _ _⟩
end Go.Proofs.YtnhggfnnolfcdaaGreat
