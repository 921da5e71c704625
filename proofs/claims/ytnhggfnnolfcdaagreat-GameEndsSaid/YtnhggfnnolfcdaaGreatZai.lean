/- The texts HR, in build order. -/
import Derived.Test.YtnhggfnnolfcdaaGreatZah
import Derived.Laws.CopyRow

/- Chapter 4: which fields a kind uses (isUsed). -/
namespace Go.Proofs.YtnhggfnnolfcdaaGreat
open Go.RowKit Go.Oche Go.Proofs
def restA (r : Rul) (nv : Value) : Array Value :=
 if r.kind = 1 then #[.int .i64 r.kind,.int .i64 r.players,.int .i64 0,.bool false,.bool false,.int .i64 r.rounds,.bool r.cut,nv,.int .i64 r.lives,.bool r.own] else if r.kind = 2 then #[.int .i64 r.kind,.int .i64 r.players,.int .i64 r.last,.bool r.bull,.bool r.jump,.int .i64 0,.bool false,nv,.int .i64 r.lives,.bool r.own] else if r.kind = 3 then #[.int .i64 r.kind,.int .i64 r.players,.int .i64 r.last,.bool r.bull,.bool r.jump,.int .i64 0,.bool r.cut,nv,.int .i64 r.lives,.bool r.own] else if r.kind = 4 then #[.int .i64 r.kind,.int .i64 r.players,.int .i64 r.last,.bool r.bull,.bool r.jump,.int .i64 r.rounds,.bool r.cut,.slice none 0 0,.int .i64 0,.bool false] else #[.int .i64 r.kind,.int .i64 r.players,.int .i64 r.last,.bool r.bull,.bool r.jump,.int .i64 r.rounds,.bool r.cut,nv,.int .i64 r.lives,.bool r.own]
def okUs (r : Rul) : Bool :=
 if r.kind = 1 then isIn r.last 1 20 && isIn r.players 1 8 else if r.kind = 2 then isIn r.rounds 1 20 && isIn r.players 2 8 else if r.kind = 3 then isIn r.rounds 1 20 && isIn r.players 2 8
 else if r.kind = 4 then (areB r.nums && ((r.nums.length : Int) == r.players) && isIn r.lives 1 9) && isIn r.players 2 8 else false
set_option maxRecDepth 100000 in
set_option maxHeartbeats 4000000 in
theorem isUsed1_any {S : Nat → Prop} (r : Rul) (va : Option Addr) (nl vc : Nat)  (hnl : r.nums.length = nl) (w : World) (hs : Sl S w (.slice va nl vc) (ints r.nums)) :
  Calls Tryz.prog 72 #[.agg #[.int .i64 1,.int .i64 r.players,.int .i64 r.last,.bool r.bull,.bool r.jump,.int .i64 r.rounds,.bool r.cut,.slice va nl vc,.int .i64 r.lives,.bool r.own]] w fun e w' => e = .returned (.tuple #[.agg #[.int .i64 1,.int .i64 r.players,.int .i64 0,.bool false,.bool false,.int .i64 r.rounds,.bool r.cut,.slice va nl vc,.int .i64 r.lives,.bool r.own],.bool (isIn r.last 1 20 && isIn r.players 1 8)]) ∧ Below w.heap.size w w':=by
 have HSL:=Lib.hid hs
 have HNL:=Lib.hid hnl
 have hl : nl ≤ vc ∧ vc ≤ maxLen:=by obtain ⟨x,y,e,h1,h2⟩ := hs.form; simp only [Value.slice.injEq] at e; rw [ints_length,hnl] at h1; omega
 unfold maxLen at hl
 obtain ⟨q,hq⟩ : ∃ q,w.heap.size = q:=⟨_,rfl⟩
 have HQ:=Lib.hid hq
 obtain ⟨pb,hpb⟩ : ∃ pb,isIn r.players 1 8 = pb:=⟨_,rfl⟩
 have HPB:=Lib.hid hpb
 rw [hpb]
 clear hs hq hpb hnl
 obtain ⟨ob,hob⟩ : ∃ ob,isIn r.last 1 20 = ob:=⟨_,rfl⟩
 have HOB:=Lib.hid hob
 rw [hob]
 clear hob
 have HOK : Hid ((ob && pb) = (ob && pb)):=Lib.hid rfl
 obtain ⟨w0,hw0⟩ : ∃ w0,(w.alloc (.cells #[.int .i64 1,.int .i64 r.players,.int .i64 r.last,.bool r.bull,.bool r.jump,.int .i64 r.rounds,.bool r.cut,.slice va nl vc,.int .i64 r.lives,.bool r.own] 29)).alloc (.cells #[.int .i64 1,.int .i64 r.players,.int .i64 r.last,.bool r.bull,.bool r.jump,.int .i64 r.rounds,.bool r.cut,.slice va nl vc,.int .i64 r.lives,.bool r.own] 29) = w0:=⟨_,rfl⟩
 have hb0 : Below w.heap.size w w0:=by rw [← hw0]; exact (aB _ _).alloc (by simp) _
 have KQ : Hid (w0.heap[q]? = some (.cells #[.int .i64 1,.int .i64 r.players,.int .i64 r.last,.bool r.bull,.bool r.jump,.int .i64 r.rounds,.bool r.cut,.slice va nl vc,.int .i64 r.lives,.bool r.own] 29 (0,0))):=Lib.hid (by rw [← hw0,← HQ.out]; exact heap_old (World.alloc_heap_new _ _))
 have KR : Hid (w0.heap[q + 1]? = some (.cells #[.int .i64 1,.int .i64 r.players,.int .i64 r.last,.bool r.bull,.bool r.jump,.int .i64 r.rounds,.bool r.cut,.slice va nl vc,.int .i64 r.lives,.bool r.own] 29 (0,0))):=Lib.hid (by rw [← hw0,← HQ.out]; exact heap_two _ _ _)
 have HZ0 : Hid (w0.heap.size = q + 1 + 1):=Lib.hid (by rw [← hw0,← HQ.out]; simp)
 have HB0:=Lib.hid hb0
 have HW0:=Lib.hid hw0
 clear hw0 hb0
 go_enter Tryz.func72,Tryz.ntmps72
 go_wp2_with fail
 rw [HW0.out,HQ.out]
 have hs1:=Sl.new1 (fun _ => True) w0 trivial 3 (.int .i64 r.last)
 rw [HZ0.out] at hs1
 (with_reducible refine (within_one' 1 20 r.last ob HOB _ _ hs1).mono ?_)
 clear hs1
 rintro e w2 ⟨rfl,hb2⟩
 replace hb2:=bThen (aB w0 _) hb2
 have HBW:=Lib.hid (bThen HB0.out hb2)
 replace KQ:=Lib.hid ((hb2.block _ (Array.getElem?_eq_some_iff.1 KQ.out).1).trans KQ.out)
 replace KR:=Lib.hid ((hb2.block _ (Array.getElem?_eq_some_iff.1 KR.out).1).trans KR.out)
 clear hb2 HB0
 cases ob
 ·have hr0 : ∀ j,w2.cell? ⟨q + 1,j,none⟩ = (#[.int .i64 1,.int .i64 r.players,.int .i64 r.last,.bool r.bull,.bool r.jump,.int .i64 r.rounds,.bool r.cut,.slice va nl vc,.int .i64 r.lives,.bool r.own] : Array Value)[j]? := fun j => cell_of_heap (o:=j) KR.out
  have s2:=hr0 2
  have sf2 : w2.frozen? ⟨q + 1,2,none⟩ = false:=frozen_of_heap KR.out
  have s3:=hr0 3
  have sf3 : w2.frozen? ⟨q + 1,3,none⟩ = false:=frozen_of_heap KR.out
  have s4:=hr0 4
  have sf4 : w2.frozen? ⟨q + 1,4,none⟩ = false:=frozen_of_heap KR.out
  clear hr0
  simp at s2 s3 s4
  go_wp2_with fail
  obtain ⟨wz,hwz⟩ : ∃ wz,(((w2.setCell ⟨q + 1,2,none⟩ (.int .i64 0)).setCell ⟨q + 1,3,none⟩ (.bool false)).setCell ⟨q + 1,4,none⟩ (.bool false)) = wz:=⟨_,rfl⟩
  rw [hwz]
  have KR2 : Hid (wz.heap[q + 1]? = some (.cells #[.int .i64 1,.int .i64 r.players,.int .i64 0,.bool false,.bool false,.int .i64 r.rounds,.bool r.cut,.slice va nl vc,.int .i64 r.lives,.bool r.own] 29 (0,0))):=Lib.hid (by rw [← hwz]; exact (heap_setCell_at (o:=4) (heap_setCell_at (o:=3) (heap_setCell_at (o:=2) KR.out (.int .i64 0)) (.bool false)) (.bool false)))
  have KQ2 : Hid (wz.heap[q]? = some (.cells #[.int .i64 1,.int .i64 r.players,.int .i64 r.last,.bool r.bull,.bool r.jump,.int .i64 r.rounds,.bool r.cut,.slice va nl vc,.int .i64 r.lives,.bool r.own] 29 (0,0))):=Lib.hid (by rw [← hwz]; exact ((Below.heap_setCell _ _ _ _ (by dsimp only; omega)).trans ((Below.heap_setCell _ _ _ _ (by dsimp only; omega)).trans ((Below.heap_setCell _ _ _ _ (by dsimp only; omega)).trans KQ.out))))
  have HBW2 : Hid (Below w.heap.size w wz):=Lib.hid (by rw [← hwz]; exact (((HBW.out.setCell (by dsimp only; have:=HQ.out; omega) (.int .i64 0)).setCell (by dsimp only; have:=HQ.out; omega) (.bool false)).setCell (by dsimp only; have:=HQ.out; omega) (.bool false)))
  clear hwz KR KQ HBW s2 sf2 s3 sf3 s4 sf4
  have KR:=KR2
  have KQ:=KQ2
  have HBW:=HBW2
  refine wp_region_seq 11 [.is (.agg #[.int .i64 1,.int .i64 r.players,.int .i64 0,.bool false,.bool false,.int .i64 r.rounds,.bool r.cut,.slice va nl vc,.int .i64 r.lives,.bool r.own]),.is (.bool false),.is (.bool false),.is undef,.is undef,.is undef,.is undef,.is undef,.is (.bool false),.is undef,.is (.bool false)] rfl mix (by kernel_rfl) (by kernel_rfl) ?seqm
  case seqm =>
   simp only [List.take_succ_cons,List.take_zero]
   iterate 3
    refine seq_on (by rfl) (fun w3 hb3 _ => ?_) ?_
    ·have hq3:=(hb3.block _ (Array.getElem?_eq_some_iff.1 KQ.out).1).trans KQ.out
     have hr3:=(hb3.block _ (Array.getElem?_eq_some_iff.1 KR.out).1).trans KR.out
     have a0 : w3.cell? ⟨q + 1,0,none⟩ = _:=cell_of_heap (o:=0) hr3
     have a1 : w3.cell? ⟨q + 1,1,none⟩ = _:=cell_of_heap (o:=1) hr3
     have a2 : w3.cell? ⟨q + 1,2,none⟩ = _:=cell_of_heap (o:=2) hr3
     have a3 : w3.cell? ⟨q + 1,3,none⟩ = _:=cell_of_heap (o:=3) hr3
     have a4 : w3.cell? ⟨q + 1,4,none⟩ = _:=cell_of_heap (o:=4) hr3
     have a5 : w3.cell? ⟨q + 1,5,none⟩ = _:=cell_of_heap (o:=5) hr3
     have a6 : w3.cell? ⟨q + 1,6,none⟩ = _:=cell_of_heap (o:=6) hr3
     have a7 : w3.cell? ⟨q + 1,7,none⟩ = _:=cell_of_heap (o:=7) hr3
     have a8 : w3.cell? ⟨q + 1,8,none⟩ = _:=cell_of_heap (o:=8) hr3
     have a9 : w3.cell? ⟨q + 1,9,none⟩ = _:=cell_of_heap (o:=9) hr3
     have b1 : w3.cell? ⟨q,1,none⟩ = _:=cell_of_heap (o:=1) hq3
     simp [opOK,go_sem,a0,a1,a2,a3,a4,a5,a6,a7,a8,a9,Below.refl]
     try exact rfl
    simp only [Act.put,List.setIfInBounds_toArray,List.set_cons_succ,List.set_cons_zero]
   iterate 5
    refine seq_off (by rfl) ?_
    simp only [Act.put,List.setIfInBounds_toArray,List.set_cons_succ,List.set_cons_zero]
   refine seq_on (by rfl) (fun w3 hb3 _ => ?_) ?_
   ·have hq3:=(hb3.block _ (Array.getElem?_eq_some_iff.1 KQ.out).1).trans KQ.out
    have hr3:=(hb3.block _ (Array.getElem?_eq_some_iff.1 KR.out).1).trans KR.out
    have a0 : w3.cell? ⟨q + 1,0,none⟩ = _:=cell_of_heap (o:=0) hr3
    have a1 : w3.cell? ⟨q + 1,1,none⟩ = _:=cell_of_heap (o:=1) hr3
    have a2 : w3.cell? ⟨q + 1,2,none⟩ = _:=cell_of_heap (o:=2) hr3
    have a3 : w3.cell? ⟨q + 1,3,none⟩ = _:=cell_of_heap (o:=3) hr3
    have a4 : w3.cell? ⟨q + 1,4,none⟩ = _:=cell_of_heap (o:=4) hr3
    have a5 : w3.cell? ⟨q + 1,5,none⟩ = _:=cell_of_heap (o:=5) hr3
    have a6 : w3.cell? ⟨q + 1,6,none⟩ = _:=cell_of_heap (o:=6) hr3
    have a7 : w3.cell? ⟨q + 1,7,none⟩ = _:=cell_of_heap (o:=7) hr3
    have a8 : w3.cell? ⟨q + 1,8,none⟩ = _:=cell_of_heap (o:=8) hr3
    have a9 : w3.cell? ⟨q + 1,9,none⟩ = _:=cell_of_heap (o:=9) hr3
    have b1 : w3.cell? ⟨q,1,none⟩ = _:=cell_of_heap (o:=1) hq3
    simp [opOK,go_sem,Below.refl]
    try exact rfl
   simp only [Act.put,List.setIfInBounds_toArray,List.set_cons_succ,List.set_cons_zero]
   refine seq_on (by rfl) (fun w3 hb3 hH => ?_) ?_
   ·have hq3:=(hb3.block _ (Array.getElem?_eq_some_iff.1 KQ.out).1).trans KQ.out
    have hr3:=(hb3.block _ (Array.getElem?_eq_some_iff.1 KR.out).1).trans KR.out
    have a0 : w3.cell? ⟨q + 1,0,none⟩ = _:=cell_of_heap (o:=0) hr3
    have a1 : w3.cell? ⟨q + 1,1,none⟩ = _:=cell_of_heap (o:=1) hr3
    have a2 : w3.cell? ⟨q + 1,2,none⟩ = _:=cell_of_heap (o:=2) hr3
    have a3 : w3.cell? ⟨q + 1,3,none⟩ = _:=cell_of_heap (o:=3) hr3
    have a4 : w3.cell? ⟨q + 1,4,none⟩ = _:=cell_of_heap (o:=4) hr3
    have a5 : w3.cell? ⟨q + 1,5,none⟩ = _:=cell_of_heap (o:=5) hr3
    have a6 : w3.cell? ⟨q + 1,6,none⟩ = _:=cell_of_heap (o:=6) hr3
    have a7 : w3.cell? ⟨q + 1,7,none⟩ = _:=cell_of_heap (o:=7) hr3
    have a8 : w3.cell? ⟨q + 1,8,none⟩ = _:=cell_of_heap (o:=8) hr3
    have a9 : w3.cell? ⟨q + 1,9,none⟩ = _:=cell_of_heap (o:=9) hr3
    have b1 : w3.cell? ⟨q,1,none⟩ = _:=cell_of_heap (o:=1) hq3
    exact opOK_store_row 29 (.tmp 2) (.tmp 54) rfl (q + 1) #[.int .i64 1,.int .i64 r.players,.int .i64 0,.bool false,.bool false,.int .i64 r.rounds,.bool r.cut,.slice va nl vc,.int .i64 r.lives,.bool r.own] (by simp [Act.eval]) (by simp [Act.eval]) 29 _ hr3 (by kernel_rfl) rfl (by simp [Value.oneCell']) ⟨rfl,by rw [setRow_self w3 (q + 1) _ _ _ hr3]; exact Below.refl _ _⟩
   simp only [Act.put]
   refine seq_on (by rfl) (fun w3 hb3 _ => ?_) ?_
   ·have hq3:=(hb3.block _ (Array.getElem?_eq_some_iff.1 KQ.out).1).trans KQ.out
    have hr3:=(hb3.block _ (Array.getElem?_eq_some_iff.1 KR.out).1).trans KR.out
    have a0 : w3.cell? ⟨q + 1,0,none⟩ = _:=cell_of_heap (o:=0) hr3
    have a1 : w3.cell? ⟨q + 1,1,none⟩ = _:=cell_of_heap (o:=1) hr3
    have a2 : w3.cell? ⟨q + 1,2,none⟩ = _:=cell_of_heap (o:=2) hr3
    have a3 : w3.cell? ⟨q + 1,3,none⟩ = _:=cell_of_heap (o:=3) hr3
    have a4 : w3.cell? ⟨q + 1,4,none⟩ = _:=cell_of_heap (o:=4) hr3
    have a5 : w3.cell? ⟨q + 1,5,none⟩ = _:=cell_of_heap (o:=5) hr3
    have a6 : w3.cell? ⟨q + 1,6,none⟩ = _:=cell_of_heap (o:=6) hr3
    have a7 : w3.cell? ⟨q + 1,7,none⟩ = _:=cell_of_heap (o:=7) hr3
    have a8 : w3.cell? ⟨q + 1,8,none⟩ = _:=cell_of_heap (o:=8) hr3
    have a9 : w3.cell? ⟨q + 1,9,none⟩ = _:=cell_of_heap (o:=9) hr3
    have b1 : w3.cell? ⟨q,1,none⟩ = _:=cell_of_heap (o:=1) hq3
    simp [opOK,go_sem,Below.refl]
    try exact rfl
   simp only [Act.put,List.setIfInBounds_toArray,List.set_cons_succ,List.set_cons_zero]
   refine seq_end fun w3 hb3 _ => ?_
   simp only [List.drop_succ_cons,List.drop_zero]
   have HB3:=Lib.hid (HBW.out.trans (hb3.mono HBW.out.size))
   have hr3:=(hb3.block _ (Array.getElem?_eq_some_iff.1 KR.out).1).trans KR.out
   have a0 : w3.cell? ⟨q + 1,0,none⟩ = _:=cell_of_heap (o:=0) hr3
   have a1 : w3.cell? ⟨q + 1,1,none⟩ = _:=cell_of_heap (o:=1) hr3
   have a2 : w3.cell? ⟨q + 1,2,none⟩ = _:=cell_of_heap (o:=2) hr3
   have a3 : w3.cell? ⟨q + 1,3,none⟩ = _:=cell_of_heap (o:=3) hr3
   have a4 : w3.cell? ⟨q + 1,4,none⟩ = _:=cell_of_heap (o:=4) hr3
   have a5 : w3.cell? ⟨q + 1,5,none⟩ = _:=cell_of_heap (o:=5) hr3
   have a6 : w3.cell? ⟨q + 1,6,none⟩ = _:=cell_of_heap (o:=6) hr3
   have a7 : w3.cell? ⟨q + 1,7,none⟩ = _:=cell_of_heap (o:=7) hr3
   have a8 : w3.cell? ⟨q + 1,8,none⟩ = _:=cell_of_heap (o:=8) hr3
   have a9 : w3.cell? ⟨q + 1,9,none⟩ = _:=cell_of_heap (o:=9) hr3
   simp at a0 a1 a2 a3 a4 a5 a6 a7 a8 a9
   clear hb3 hr3
   go_wp2
   exact bodyPost_ret (v:=.tuple #[.agg #[.int .i64 1,.int .i64 r.players,.int .i64 0,.bool false,.bool false,.int .i64 r.rounds,.bool r.cut,.slice va nl vc,.int .i64 r.lives,.bool r.own],.bool false]) (by simp [results,Tryz.results72,go_sem,a0,a1,a2,a3,a4,a5,a6,a7,a8,a9]) rfl ⟨by simp,HB3.out⟩
 ·have hr0 : ∀ j,w2.cell? ⟨q + 1,j,none⟩ = (#[.int .i64 1,.int .i64 r.players,.int .i64 r.last,.bool r.bull,.bool r.jump,.int .i64 r.rounds,.bool r.cut,.slice va nl vc,.int .i64 r.lives,.bool r.own] : Array Value)[j]? := fun j => cell_of_heap (o:=j) KR.out
  have s2:=hr0 2
  have sf2 : w2.frozen? ⟨q + 1,2,none⟩ = false:=frozen_of_heap KR.out
  have s3:=hr0 3
  have sf3 : w2.frozen? ⟨q + 1,3,none⟩ = false:=frozen_of_heap KR.out
  have s4:=hr0 4
  have sf4 : w2.frozen? ⟨q + 1,4,none⟩ = false:=frozen_of_heap KR.out
  clear hr0
  simp at s2 s3 s4
  go_wp2_with fail
  obtain ⟨wz,hwz⟩ : ∃ wz,(((w2.setCell ⟨q + 1,2,none⟩ (.int .i64 0)).setCell ⟨q + 1,3,none⟩ (.bool false)).setCell ⟨q + 1,4,none⟩ (.bool false)) = wz:=⟨_,rfl⟩
  rw [hwz]
  have KR2 : Hid (wz.heap[q + 1]? = some (.cells #[.int .i64 1,.int .i64 r.players,.int .i64 0,.bool false,.bool false,.int .i64 r.rounds,.bool r.cut,.slice va nl vc,.int .i64 r.lives,.bool r.own] 29 (0,0))):=Lib.hid (by rw [← hwz]; exact (heap_setCell_at (o:=4) (heap_setCell_at (o:=3) (heap_setCell_at (o:=2) KR.out (.int .i64 0)) (.bool false)) (.bool false)))
  have KQ2 : Hid (wz.heap[q]? = some (.cells #[.int .i64 1,.int .i64 r.players,.int .i64 r.last,.bool r.bull,.bool r.jump,.int .i64 r.rounds,.bool r.cut,.slice va nl vc,.int .i64 r.lives,.bool r.own] 29 (0,0))):=Lib.hid (by rw [← hwz]; exact ((Below.heap_setCell _ _ _ _ (by dsimp only; omega)).trans ((Below.heap_setCell _ _ _ _ (by dsimp only; omega)).trans ((Below.heap_setCell _ _ _ _ (by dsimp only; omega)).trans KQ.out))))
  have HBW2 : Hid (Below w.heap.size w wz):=Lib.hid (by rw [← hwz]; exact (((HBW.out.setCell (by dsimp only; have:=HQ.out; omega) (.int .i64 0)).setCell (by dsimp only; have:=HQ.out; omega) (.bool false)).setCell (by dsimp only; have:=HQ.out; omega) (.bool false)))
  clear hwz KR KQ HBW s2 sf2 s3 sf3 s4 sf4
  have KR:=KR2
  have KQ:=KQ2
  have HBW:=HBW2
  refine wp_region_seq 11 [.is (.agg #[.int .i64 1,.int .i64 r.players,.int .i64 0,.bool false,.bool false,.int .i64 r.rounds,.bool r.cut,.slice va nl vc,.int .i64 r.lives,.bool r.own]),.is (.bool true),.is (.bool true),.is (.int .i64 1),.is (.pointer (some ⟨q,1,none⟩)),.is (.int .i64 r.players),kSl 3 [.int .i64 r.players],.is (.bool pb),.is (.bool pb),.is undef,.is (.bool pb)] rfl mix (by kernel_rfl) (by kernel_rfl) ?seqm
  case seqm =>
   simp only [List.take_succ_cons,List.take_zero]
   iterate 6
    refine seq_on (by rfl) (fun w3 hb3 _ => ?_) ?_
    ·have hq3:=(hb3.block _ (Array.getElem?_eq_some_iff.1 KQ.out).1).trans KQ.out
     have hr3:=(hb3.block _ (Array.getElem?_eq_some_iff.1 KR.out).1).trans KR.out
     have a0 : w3.cell? ⟨q + 1,0,none⟩ = _:=cell_of_heap (o:=0) hr3
     have a1 : w3.cell? ⟨q + 1,1,none⟩ = _:=cell_of_heap (o:=1) hr3
     have a2 : w3.cell? ⟨q + 1,2,none⟩ = _:=cell_of_heap (o:=2) hr3
     have a3 : w3.cell? ⟨q + 1,3,none⟩ = _:=cell_of_heap (o:=3) hr3
     have a4 : w3.cell? ⟨q + 1,4,none⟩ = _:=cell_of_heap (o:=4) hr3
     have a5 : w3.cell? ⟨q + 1,5,none⟩ = _:=cell_of_heap (o:=5) hr3
     have a6 : w3.cell? ⟨q + 1,6,none⟩ = _:=cell_of_heap (o:=6) hr3
     have a7 : w3.cell? ⟨q + 1,7,none⟩ = _:=cell_of_heap (o:=7) hr3
     have a8 : w3.cell? ⟨q + 1,8,none⟩ = _:=cell_of_heap (o:=8) hr3
     have a9 : w3.cell? ⟨q + 1,9,none⟩ = _:=cell_of_heap (o:=9) hr3
     have b1 : w3.cell? ⟨q,1,none⟩ = _:=cell_of_heap (o:=1) hq3
     simp [opOK,go_sem,a0,a1,a2,a3,a4,a5,a6,a7,a8,a9,b1,Below.refl]
     try exact rfl
    simp only [Act.put,List.setIfInBounds_toArray,List.set_cons_succ,List.set_cons_zero]
   refine seq_new ⟨_,0,rfl⟩ (by rfl) (fun w3 hb3 hH => ?_) ?_
   ·have hq3:=(hb3.block _ (Array.getElem?_eq_some_iff.1 KQ.out).1).trans KQ.out
    have hr3:=(hb3.block _ (Array.getElem?_eq_some_iff.1 KR.out).1).trans KR.out
    have a0 : w3.cell? ⟨q + 1,0,none⟩ = _:=cell_of_heap (o:=0) hr3
    have a1 : w3.cell? ⟨q + 1,1,none⟩ = _:=cell_of_heap (o:=1) hr3
    have a2 : w3.cell? ⟨q + 1,2,none⟩ = _:=cell_of_heap (o:=2) hr3
    have a3 : w3.cell? ⟨q + 1,3,none⟩ = _:=cell_of_heap (o:=3) hr3
    have a4 : w3.cell? ⟨q + 1,4,none⟩ = _:=cell_of_heap (o:=4) hr3
    have a5 : w3.cell? ⟨q + 1,5,none⟩ = _:=cell_of_heap (o:=5) hr3
    have a6 : w3.cell? ⟨q + 1,6,none⟩ = _:=cell_of_heap (o:=6) hr3
    have a7 : w3.cell? ⟨q + 1,7,none⟩ = _:=cell_of_heap (o:=7) hr3
    have a8 : w3.cell? ⟨q + 1,8,none⟩ = _:=cell_of_heap (o:=8) hr3
    have a9 : w3.cell? ⟨q + 1,9,none⟩ = _:=cell_of_heap (o:=9) hr3
    have b1 : w3.cell? ⟨q,1,none⟩ = _:=cell_of_heap (o:=1) hq3
    refine opOK_val (v:=.slice (some ⟨w3.heap.size,0,none⟩) 1 1) (w':=w3.alloc (.cells #[.int .i64 r.players] 3)) (by simp [go_sem,execOp]) ⟨aB _ _,⟨_,rfl⟩,_,rfl,World.alloc_heap_new _ _⟩
   rintro v ⟨bs,rfl⟩
   simp only [Act.put,List.setIfInBounds_toArray,List.set_cons_succ,List.set_cons_zero]
   refine seq_on (by rfl) (fun w3 hb3 hH => ?_) ?_
   ·have hq3:=(hb3.block _ (Array.getElem?_eq_some_iff.1 KQ.out).1).trans KQ.out
    have hr3:=(hb3.block _ (Array.getElem?_eq_some_iff.1 KR.out).1).trans KR.out
    have a0 : w3.cell? ⟨q + 1,0,none⟩ = _:=cell_of_heap (o:=0) hr3
    have a1 : w3.cell? ⟨q + 1,1,none⟩ = _:=cell_of_heap (o:=1) hr3
    have a2 : w3.cell? ⟨q + 1,2,none⟩ = _:=cell_of_heap (o:=2) hr3
    have a3 : w3.cell? ⟨q + 1,3,none⟩ = _:=cell_of_heap (o:=3) hr3
    have a4 : w3.cell? ⟨q + 1,4,none⟩ = _:=cell_of_heap (o:=4) hr3
    have a5 : w3.cell? ⟨q + 1,5,none⟩ = _:=cell_of_heap (o:=5) hr3
    have a6 : w3.cell? ⟨q + 1,6,none⟩ = _:=cell_of_heap (o:=6) hr3
    have a7 : w3.cell? ⟨q + 1,7,none⟩ = _:=cell_of_heap (o:=7) hr3
    have a8 : w3.cell? ⟨q + 1,8,none⟩ = _:=cell_of_heap (o:=8) hr3
    have a9 : w3.cell? ⟨q + 1,9,none⟩ = _:=cell_of_heap (o:=9) hr3
    have b1 : w3.cell? ⟨q,1,none⟩ = _:=cell_of_heap (o:=1) hq3
    have hs:=hH ⟨6,.data⟩ (by simp) rfl
    simp [addH,kSl] at hs
    refine opOK_call (f:=35) (args:=#[.int .i64 1,.int .i64 8,.slice (some ⟨bs,0,none⟩) 1 1]) (by simp [go_sem]) ?_
    exact (within_one' 1 8 r.players pb HPB _ w3 (sl_blk (t:=3) (xs:=[.int .i64 r.players]) hs (by simp [maxLen]))).mono fun e W' ⟨he,hb⟩ => ⟨_,he,rfl,hb⟩
   simp only [Act.put,List.setIfInBounds_toArray,List.set_cons_succ,List.set_cons_zero]
   refine seq_on (by rfl) (fun w3 hb3 _ => ?_) ?_
   ·have hq3:=(hb3.block _ (Array.getElem?_eq_some_iff.1 KQ.out).1).trans KQ.out
    have hr3:=(hb3.block _ (Array.getElem?_eq_some_iff.1 KR.out).1).trans KR.out
    have a0 : w3.cell? ⟨q + 1,0,none⟩ = _:=cell_of_heap (o:=0) hr3
    have a1 : w3.cell? ⟨q + 1,1,none⟩ = _:=cell_of_heap (o:=1) hr3
    have a2 : w3.cell? ⟨q + 1,2,none⟩ = _:=cell_of_heap (o:=2) hr3
    have a3 : w3.cell? ⟨q + 1,3,none⟩ = _:=cell_of_heap (o:=3) hr3
    have a4 : w3.cell? ⟨q + 1,4,none⟩ = _:=cell_of_heap (o:=4) hr3
    have a5 : w3.cell? ⟨q + 1,5,none⟩ = _:=cell_of_heap (o:=5) hr3
    have a6 : w3.cell? ⟨q + 1,6,none⟩ = _:=cell_of_heap (o:=6) hr3
    have a7 : w3.cell? ⟨q + 1,7,none⟩ = _:=cell_of_heap (o:=7) hr3
    have a8 : w3.cell? ⟨q + 1,8,none⟩ = _:=cell_of_heap (o:=8) hr3
    have a9 : w3.cell? ⟨q + 1,9,none⟩ = _:=cell_of_heap (o:=9) hr3
    have b1 : w3.cell? ⟨q,1,none⟩ = _:=cell_of_heap (o:=1) hq3
    simp [opOK,go_sem,Below.refl]
    try exact rfl
   simp only [Act.put,List.setIfInBounds_toArray,List.set_cons_succ,List.set_cons_zero]
   refine seq_on (by rfl) (fun w3 hb3 hH => ?_) ?_
   ·have hq3:=(hb3.block _ (Array.getElem?_eq_some_iff.1 KQ.out).1).trans KQ.out
    have hr3:=(hb3.block _ (Array.getElem?_eq_some_iff.1 KR.out).1).trans KR.out
    have a0 : w3.cell? ⟨q + 1,0,none⟩ = _:=cell_of_heap (o:=0) hr3
    have a1 : w3.cell? ⟨q + 1,1,none⟩ = _:=cell_of_heap (o:=1) hr3
    have a2 : w3.cell? ⟨q + 1,2,none⟩ = _:=cell_of_heap (o:=2) hr3
    have a3 : w3.cell? ⟨q + 1,3,none⟩ = _:=cell_of_heap (o:=3) hr3
    have a4 : w3.cell? ⟨q + 1,4,none⟩ = _:=cell_of_heap (o:=4) hr3
    have a5 : w3.cell? ⟨q + 1,5,none⟩ = _:=cell_of_heap (o:=5) hr3
    have a6 : w3.cell? ⟨q + 1,6,none⟩ = _:=cell_of_heap (o:=6) hr3
    have a7 : w3.cell? ⟨q + 1,7,none⟩ = _:=cell_of_heap (o:=7) hr3
    have a8 : w3.cell? ⟨q + 1,8,none⟩ = _:=cell_of_heap (o:=8) hr3
    have a9 : w3.cell? ⟨q + 1,9,none⟩ = _:=cell_of_heap (o:=9) hr3
    have b1 : w3.cell? ⟨q,1,none⟩ = _:=cell_of_heap (o:=1) hq3
    exact opOK_store_row 29 (.tmp 2) (.tmp 54) rfl (q + 1) #[.int .i64 1,.int .i64 r.players,.int .i64 0,.bool false,.bool false,.int .i64 r.rounds,.bool r.cut,.slice va nl vc,.int .i64 r.lives,.bool r.own] (by simp [Act.eval]) (by simp [Act.eval]) 29 _ hr3 (by kernel_rfl) rfl (by simp [Value.oneCell']) ⟨rfl,by rw [setRow_self w3 (q + 1) _ _ _ hr3]; exact Below.refl _ _⟩
   simp only [Act.put]
   refine seq_on (by rfl) (fun w3 hb3 _ => ?_) ?_
   ·have hq3:=(hb3.block _ (Array.getElem?_eq_some_iff.1 KQ.out).1).trans KQ.out
    have hr3:=(hb3.block _ (Array.getElem?_eq_some_iff.1 KR.out).1).trans KR.out
    have a0 : w3.cell? ⟨q + 1,0,none⟩ = _:=cell_of_heap (o:=0) hr3
    have a1 : w3.cell? ⟨q + 1,1,none⟩ = _:=cell_of_heap (o:=1) hr3
    have a2 : w3.cell? ⟨q + 1,2,none⟩ = _:=cell_of_heap (o:=2) hr3
    have a3 : w3.cell? ⟨q + 1,3,none⟩ = _:=cell_of_heap (o:=3) hr3
    have a4 : w3.cell? ⟨q + 1,4,none⟩ = _:=cell_of_heap (o:=4) hr3
    have a5 : w3.cell? ⟨q + 1,5,none⟩ = _:=cell_of_heap (o:=5) hr3
    have a6 : w3.cell? ⟨q + 1,6,none⟩ = _:=cell_of_heap (o:=6) hr3
    have a7 : w3.cell? ⟨q + 1,7,none⟩ = _:=cell_of_heap (o:=7) hr3
    have a8 : w3.cell? ⟨q + 1,8,none⟩ = _:=cell_of_heap (o:=8) hr3
    have a9 : w3.cell? ⟨q + 1,9,none⟩ = _:=cell_of_heap (o:=9) hr3
    have b1 : w3.cell? ⟨q,1,none⟩ = _:=cell_of_heap (o:=1) hq3
    simp [opOK,go_sem,Below.refl]
    try exact rfl
   simp only [Act.put,List.setIfInBounds_toArray,List.set_cons_succ,List.set_cons_zero]
   refine seq_end fun w3 hb3 _ => ?_
   simp only [List.drop_succ_cons,List.drop_zero]
   have HB3:=Lib.hid (HBW.out.trans (hb3.mono HBW.out.size))
   have hr3:=(hb3.block _ (Array.getElem?_eq_some_iff.1 KR.out).1).trans KR.out
   have a0 : w3.cell? ⟨q + 1,0,none⟩ = _:=cell_of_heap (o:=0) hr3
   have a1 : w3.cell? ⟨q + 1,1,none⟩ = _:=cell_of_heap (o:=1) hr3
   have a2 : w3.cell? ⟨q + 1,2,none⟩ = _:=cell_of_heap (o:=2) hr3
   have a3 : w3.cell? ⟨q + 1,3,none⟩ = _:=cell_of_heap (o:=3) hr3
   have a4 : w3.cell? ⟨q + 1,4,none⟩ = _:=cell_of_heap (o:=4) hr3
   have a5 : w3.cell? ⟨q + 1,5,none⟩ = _:=cell_of_heap (o:=5) hr3
   have a6 : w3.cell? ⟨q + 1,6,none⟩ = _:=cell_of_heap (o:=6) hr3
   have a7 : w3.cell? ⟨q + 1,7,none⟩ = _:=cell_of_heap (o:=7) hr3
   have a8 : w3.cell? ⟨q + 1,8,none⟩ = _:=cell_of_heap (o:=8) hr3
   have a9 : w3.cell? ⟨q + 1,9,none⟩ = _:=cell_of_heap (o:=9) hr3
   simp at a0 a1 a2 a3 a4 a5 a6 a7 a8 a9
   clear hb3 hr3
   go_wp2
   exact bodyPost_ret (v:=.tuple #[.agg #[.int .i64 1,.int .i64 r.players,.int .i64 0,.bool false,.bool false,.int .i64 r.rounds,.bool r.cut,.slice va nl vc,.int .i64 r.lives,.bool r.own],.bool pb]) (by simp [results,Tryz.results72,go_sem,a0,a1,a2,a3,a4,a5,a6,a7,a8,a9]) rfl ⟨by simp,HB3.out⟩
set_option maxRecDepth 100000 in
set_option maxHeartbeats 4000000 in
theorem isUsed2_any {S : Nat → Prop} (r : Rul) (va : Option Addr) (nl vc : Nat)  (hnl : r.nums.length = nl) (w : World) (hs : Sl S w (.slice va nl vc) (ints r.nums)) :
  Calls Tryz.prog 72 #[.agg #[.int .i64 2,.int .i64 r.players,.int .i64 r.last,.bool r.bull,.bool r.jump,.int .i64 r.rounds,.bool r.cut,.slice va nl vc,.int .i64 r.lives,.bool r.own]] w fun e w' => e = .returned (.tuple #[.agg #[.int .i64 2,.int .i64 r.players,.int .i64 r.last,.bool r.bull,.bool r.jump,.int .i64 0,.bool false,.slice va nl vc,.int .i64 r.lives,.bool r.own],.bool (isIn r.rounds 1 20 && isIn r.players 2 8)]) ∧ Below w.heap.size w w':=by
 have HSL:=Lib.hid hs
 have HNL:=Lib.hid hnl
 have hl : nl ≤ vc ∧ vc ≤ maxLen:=by obtain ⟨x,y,e,h1,h2⟩ := hs.form; simp only [Value.slice.injEq] at e; rw [ints_length,hnl] at h1; omega
 unfold maxLen at hl
 obtain ⟨q,hq⟩ : ∃ q,w.heap.size = q:=⟨_,rfl⟩
 have HQ:=Lib.hid hq
 obtain ⟨pb,hpb⟩ : ∃ pb,isIn r.players 2 8 = pb:=⟨_,rfl⟩
 have HPB:=Lib.hid hpb
 rw [hpb]
 clear hs hq hpb hnl
 obtain ⟨ob,hob⟩ : ∃ ob,isIn r.rounds 1 20 = ob:=⟨_,rfl⟩
 have HOB:=Lib.hid hob
 rw [hob]
 clear hob
 have HOK : Hid ((ob && pb) = (ob && pb)):=Lib.hid rfl
 obtain ⟨w0,hw0⟩ : ∃ w0,(w.alloc (.cells #[.int .i64 2,.int .i64 r.players,.int .i64 r.last,.bool r.bull,.bool r.jump,.int .i64 r.rounds,.bool r.cut,.slice va nl vc,.int .i64 r.lives,.bool r.own] 29)).alloc (.cells #[.int .i64 2,.int .i64 r.players,.int .i64 r.last,.bool r.bull,.bool r.jump,.int .i64 r.rounds,.bool r.cut,.slice va nl vc,.int .i64 r.lives,.bool r.own] 29) = w0:=⟨_,rfl⟩
 have hb0 : Below w.heap.size w w0:=by rw [← hw0]; exact (aB _ _).alloc (by simp) _
 have KQ : Hid (w0.heap[q]? = some (.cells #[.int .i64 2,.int .i64 r.players,.int .i64 r.last,.bool r.bull,.bool r.jump,.int .i64 r.rounds,.bool r.cut,.slice va nl vc,.int .i64 r.lives,.bool r.own] 29 (0,0))):=Lib.hid (by rw [← hw0,← HQ.out]; exact heap_old (World.alloc_heap_new _ _))
 have KR : Hid (w0.heap[q + 1]? = some (.cells #[.int .i64 2,.int .i64 r.players,.int .i64 r.last,.bool r.bull,.bool r.jump,.int .i64 r.rounds,.bool r.cut,.slice va nl vc,.int .i64 r.lives,.bool r.own] 29 (0,0))):=Lib.hid (by rw [← hw0,← HQ.out]; exact heap_two _ _ _)
 have HZ0 : Hid (w0.heap.size = q + 1 + 1):=Lib.hid (by rw [← hw0,← HQ.out]; simp)
 have HB0:=Lib.hid hb0
 have HW0:=Lib.hid hw0
 clear hw0 hb0
 go_enter Tryz.func72,Tryz.ntmps72
 go_wp2_with fail
 rw [HW0.out,HQ.out]
 have hs1:=Sl.new1 (fun _ => True) w0 trivial 3 (.int .i64 r.rounds)
 rw [HZ0.out] at hs1
 (with_reducible refine (within_one' 1 20 r.rounds ob HOB _ _ hs1).mono ?_)
 clear hs1
 rintro e w2 ⟨rfl,hb2⟩
 replace hb2:=bThen (aB w0 _) hb2
 have HBW:=Lib.hid (bThen HB0.out hb2)
 replace KQ:=Lib.hid ((hb2.block _ (Array.getElem?_eq_some_iff.1 KQ.out).1).trans KQ.out)
 replace KR:=Lib.hid ((hb2.block _ (Array.getElem?_eq_some_iff.1 KR.out).1).trans KR.out)
 clear hb2 HB0
 cases ob
 ·have hr0 : ∀ j,w2.cell? ⟨q + 1,j,none⟩ = (#[.int .i64 2,.int .i64 r.players,.int .i64 r.last,.bool r.bull,.bool r.jump,.int .i64 r.rounds,.bool r.cut,.slice va nl vc,.int .i64 r.lives,.bool r.own] : Array Value)[j]? := fun j => cell_of_heap (o:=j) KR.out
  have s5:=hr0 5
  have sf5 : w2.frozen? ⟨q + 1,5,none⟩ = false:=frozen_of_heap KR.out
  have s6:=hr0 6
  have sf6 : w2.frozen? ⟨q + 1,6,none⟩ = false:=frozen_of_heap KR.out
  clear hr0
  simp at s5 s6
  go_wp2_with fail
  obtain ⟨wz,hwz⟩ : ∃ wz,((w2.setCell ⟨q + 1,5,none⟩ (.int .i64 0)).setCell ⟨q + 1,6,none⟩ (.bool false)) = wz:=⟨_,rfl⟩
  rw [hwz]
  have KR2 : Hid (wz.heap[q + 1]? = some (.cells #[.int .i64 2,.int .i64 r.players,.int .i64 r.last,.bool r.bull,.bool r.jump,.int .i64 0,.bool false,.slice va nl vc,.int .i64 r.lives,.bool r.own] 29 (0,0))):=Lib.hid (by rw [← hwz]; exact (heap_setCell_at (o:=6) (heap_setCell_at (o:=5) KR.out (.int .i64 0)) (.bool false)))
  have KQ2 : Hid (wz.heap[q]? = some (.cells #[.int .i64 2,.int .i64 r.players,.int .i64 r.last,.bool r.bull,.bool r.jump,.int .i64 r.rounds,.bool r.cut,.slice va nl vc,.int .i64 r.lives,.bool r.own] 29 (0,0))):=Lib.hid (by rw [← hwz]; exact ((Below.heap_setCell _ _ _ _ (by dsimp only; omega)).trans ((Below.heap_setCell _ _ _ _ (by dsimp only; omega)).trans KQ.out)))
  have HBW2 : Hid (Below w.heap.size w wz):=Lib.hid (by rw [← hwz]; exact ((HBW.out.setCell (by dsimp only; have:=HQ.out; omega) (.int .i64 0)).setCell (by dsimp only; have:=HQ.out; omega) (.bool false)))
  clear hwz KR KQ HBW s5 sf5 s6 sf6
  have KR:=KR2
  have KQ:=KQ2
  have HBW:=HBW2
  refine wp_region_seq 11 [.is (.agg #[.int .i64 2,.int .i64 r.players,.int .i64 r.last,.bool r.bull,.bool r.jump,.int .i64 0,.bool false,.slice va nl vc,.int .i64 r.lives,.bool r.own]),.is (.bool false),.is (.bool false),.is undef,.is undef,.is undef,.is undef,.is undef,.is (.bool false),.is undef,.is (.bool false)] rfl mix (by kernel_rfl) (by kernel_rfl) ?seqm
  case seqm =>
   simp only [List.take_succ_cons,List.take_zero]
   iterate 3
    refine seq_on (by rfl) (fun w3 hb3 _ => ?_) ?_
    ·have hq3:=(hb3.block _ (Array.getElem?_eq_some_iff.1 KQ.out).1).trans KQ.out
     have hr3:=(hb3.block _ (Array.getElem?_eq_some_iff.1 KR.out).1).trans KR.out
     have a0 : w3.cell? ⟨q + 1,0,none⟩ = _:=cell_of_heap (o:=0) hr3
     have a1 : w3.cell? ⟨q + 1,1,none⟩ = _:=cell_of_heap (o:=1) hr3
     have a2 : w3.cell? ⟨q + 1,2,none⟩ = _:=cell_of_heap (o:=2) hr3
     have a3 : w3.cell? ⟨q + 1,3,none⟩ = _:=cell_of_heap (o:=3) hr3
     have a4 : w3.cell? ⟨q + 1,4,none⟩ = _:=cell_of_heap (o:=4) hr3
     have a5 : w3.cell? ⟨q + 1,5,none⟩ = _:=cell_of_heap (o:=5) hr3
     have a6 : w3.cell? ⟨q + 1,6,none⟩ = _:=cell_of_heap (o:=6) hr3
     have a7 : w3.cell? ⟨q + 1,7,none⟩ = _:=cell_of_heap (o:=7) hr3
     have a8 : w3.cell? ⟨q + 1,8,none⟩ = _:=cell_of_heap (o:=8) hr3
     have a9 : w3.cell? ⟨q + 1,9,none⟩ = _:=cell_of_heap (o:=9) hr3
     have b1 : w3.cell? ⟨q,1,none⟩ = _:=cell_of_heap (o:=1) hq3
     simp [opOK,go_sem,a0,a1,a2,a3,a4,a5,a6,a7,a8,a9,Below.refl]
     try exact rfl
    simp only [Act.put,List.setIfInBounds_toArray,List.set_cons_succ,List.set_cons_zero]
   iterate 5
    refine seq_off (by rfl) ?_
    simp only [Act.put,List.setIfInBounds_toArray,List.set_cons_succ,List.set_cons_zero]
   refine seq_on (by rfl) (fun w3 hb3 _ => ?_) ?_
   ·have hq3:=(hb3.block _ (Array.getElem?_eq_some_iff.1 KQ.out).1).trans KQ.out
    have hr3:=(hb3.block _ (Array.getElem?_eq_some_iff.1 KR.out).1).trans KR.out
    have a0 : w3.cell? ⟨q + 1,0,none⟩ = _:=cell_of_heap (o:=0) hr3
    have a1 : w3.cell? ⟨q + 1,1,none⟩ = _:=cell_of_heap (o:=1) hr3
    have a2 : w3.cell? ⟨q + 1,2,none⟩ = _:=cell_of_heap (o:=2) hr3
    have a3 : w3.cell? ⟨q + 1,3,none⟩ = _:=cell_of_heap (o:=3) hr3
    have a4 : w3.cell? ⟨q + 1,4,none⟩ = _:=cell_of_heap (o:=4) hr3
    have a5 : w3.cell? ⟨q + 1,5,none⟩ = _:=cell_of_heap (o:=5) hr3
    have a6 : w3.cell? ⟨q + 1,6,none⟩ = _:=cell_of_heap (o:=6) hr3
    have a7 : w3.cell? ⟨q + 1,7,none⟩ = _:=cell_of_heap (o:=7) hr3
    have a8 : w3.cell? ⟨q + 1,8,none⟩ = _:=cell_of_heap (o:=8) hr3
    have a9 : w3.cell? ⟨q + 1,9,none⟩ = _:=cell_of_heap (o:=9) hr3
    have b1 : w3.cell? ⟨q,1,none⟩ = _:=cell_of_heap (o:=1) hq3
    simp [opOK,go_sem,Below.refl]
    try exact rfl
   simp only [Act.put,List.setIfInBounds_toArray,List.set_cons_succ,List.set_cons_zero]
   refine seq_on (by rfl) (fun w3 hb3 hH => ?_) ?_
   ·have hq3:=(hb3.block _ (Array.getElem?_eq_some_iff.1 KQ.out).1).trans KQ.out
    have hr3:=(hb3.block _ (Array.getElem?_eq_some_iff.1 KR.out).1).trans KR.out
    have a0 : w3.cell? ⟨q + 1,0,none⟩ = _:=cell_of_heap (o:=0) hr3
    have a1 : w3.cell? ⟨q + 1,1,none⟩ = _:=cell_of_heap (o:=1) hr3
    have a2 : w3.cell? ⟨q + 1,2,none⟩ = _:=cell_of_heap (o:=2) hr3
    have a3 : w3.cell? ⟨q + 1,3,none⟩ = _:=cell_of_heap (o:=3) hr3
    have a4 : w3.cell? ⟨q + 1,4,none⟩ = _:=cell_of_heap (o:=4) hr3
    have a5 : w3.cell? ⟨q + 1,5,none⟩ = _:=cell_of_heap (o:=5) hr3
    have a6 : w3.cell? ⟨q + 1,6,none⟩ = _:=cell_of_heap (o:=6) hr3
    have a7 : w3.cell? ⟨q + 1,7,none⟩ = _:=cell_of_heap (o:=7) hr3
    have a8 : w3.cell? ⟨q + 1,8,none⟩ = _:=cell_of_heap (o:=8) hr3
    have a9 : w3.cell? ⟨q + 1,9,none⟩ = _:=cell_of_heap (o:=9) hr3
    have b1 : w3.cell? ⟨q,1,none⟩ = _:=cell_of_heap (o:=1) hq3
    exact opOK_store_row 29 (.tmp 2) (.tmp 54) rfl (q + 1) #[.int .i64 2,.int .i64 r.players,.int .i64 r.last,.bool r.bull,.bool r.jump,.int .i64 0,.bool false,.slice va nl vc,.int .i64 r.lives,.bool r.own] (by simp [Act.eval]) (by simp [Act.eval]) 29 _ hr3 (by kernel_rfl) rfl (by simp [Value.oneCell']) ⟨rfl,by rw [setRow_self w3 (q + 1) _ _ _ hr3]; exact Below.refl _ _⟩
   simp only [Act.put]
   refine seq_on (by rfl) (fun w3 hb3 _ => ?_) ?_
   ·have hq3:=(hb3.block _ (Array.getElem?_eq_some_iff.1 KQ.out).1).trans KQ.out
    have hr3:=(hb3.block _ (Array.getElem?_eq_some_iff.1 KR.out).1).trans KR.out
    have a0 : w3.cell? ⟨q + 1,0,none⟩ = _:=cell_of_heap (o:=0) hr3
    have a1 : w3.cell? ⟨q + 1,1,none⟩ = _:=cell_of_heap (o:=1) hr3
    have a2 : w3.cell? ⟨q + 1,2,none⟩ = _:=cell_of_heap (o:=2) hr3
    have a3 : w3.cell? ⟨q + 1,3,none⟩ = _:=cell_of_heap (o:=3) hr3
    have a4 : w3.cell? ⟨q + 1,4,none⟩ = _:=cell_of_heap (o:=4) hr3
    have a5 : w3.cell? ⟨q + 1,5,none⟩ = _:=cell_of_heap (o:=5) hr3
    have a6 : w3.cell? ⟨q + 1,6,none⟩ = _:=cell_of_heap (o:=6) hr3
    have a7 : w3.cell? ⟨q + 1,7,none⟩ = _:=cell_of_heap (o:=7) hr3
    have a8 : w3.cell? ⟨q + 1,8,none⟩ = _:=cell_of_heap (o:=8) hr3
    have a9 : w3.cell? ⟨q + 1,9,none⟩ = _:=cell_of_heap (o:=9) hr3
    have b1 : w3.cell? ⟨q,1,none⟩ = _:=cell_of_heap (o:=1) hq3
    simp [opOK,go_sem,Below.refl]
    try exact rfl
   simp only [Act.put,List.setIfInBounds_toArray,List.set_cons_succ,List.set_cons_zero]
   refine seq_end fun w3 hb3 _ => ?_
   simp only [List.drop_succ_cons,List.drop_zero]
   have HB3:=Lib.hid (HBW.out.trans (hb3.mono HBW.out.size))
   have hr3:=(hb3.block _ (Array.getElem?_eq_some_iff.1 KR.out).1).trans KR.out
   have a0 : w3.cell? ⟨q + 1,0,none⟩ = _:=cell_of_heap (o:=0) hr3
   have a1 : w3.cell? ⟨q + 1,1,none⟩ = _:=cell_of_heap (o:=1) hr3
   have a2 : w3.cell? ⟨q + 1,2,none⟩ = _:=cell_of_heap (o:=2) hr3
   have a3 : w3.cell? ⟨q + 1,3,none⟩ = _:=cell_of_heap (o:=3) hr3
   have a4 : w3.cell? ⟨q + 1,4,none⟩ = _:=cell_of_heap (o:=4) hr3
   have a5 : w3.cell? ⟨q + 1,5,none⟩ = _:=cell_of_heap (o:=5) hr3
   have a6 : w3.cell? ⟨q + 1,6,none⟩ = _:=cell_of_heap (o:=6) hr3
   have a7 : w3.cell? ⟨q + 1,7,none⟩ = _:=cell_of_heap (o:=7) hr3
   have a8 : w3.cell? ⟨q + 1,8,none⟩ = _:=cell_of_heap (o:=8) hr3
   have a9 : w3.cell? ⟨q + 1,9,none⟩ = _:=cell_of_heap (o:=9) hr3
   simp at a0 a1 a2 a3 a4 a5 a6 a7 a8 a9
   clear hb3 hr3
   go_wp2
   exact bodyPost_ret (v:=.tuple #[.agg #[.int .i64 2,.int .i64 r.players,.int .i64 r.last,.bool r.bull,.bool r.jump,.int .i64 0,.bool false,.slice va nl vc,.int .i64 r.lives,.bool r.own],.bool false]) (by simp [results,Tryz.results72,go_sem,a0,a1,a2,a3,a4,a5,a6,a7,a8,a9]) rfl ⟨by simp,HB3.out⟩
 ·have hr0 : ∀ j,w2.cell? ⟨q + 1,j,none⟩ = (#[.int .i64 2,.int .i64 r.players,.int .i64 r.last,.bool r.bull,.bool r.jump,.int .i64 r.rounds,.bool r.cut,.slice va nl vc,.int .i64 r.lives,.bool r.own] : Array Value)[j]? := fun j => cell_of_heap (o:=j) KR.out
  have s5:=hr0 5
  have sf5 : w2.frozen? ⟨q + 1,5,none⟩ = false:=frozen_of_heap KR.out
  have s6:=hr0 6
  have sf6 : w2.frozen? ⟨q + 1,6,none⟩ = false:=frozen_of_heap KR.out
  clear hr0
  simp at s5 s6
  go_wp2_with fail
  obtain ⟨wz,hwz⟩ : ∃ wz,((w2.setCell ⟨q + 1,5,none⟩ (.int .i64 0)).setCell ⟨q + 1,6,none⟩ (.bool false)) = wz:=⟨_,rfl⟩
  rw [hwz]
  have KR2 : Hid (wz.heap[q + 1]? = some (.cells #[.int .i64 2,.int .i64 r.players,.int .i64 r.last,.bool r.bull,.bool r.jump,.int .i64 0,.bool false,.slice va nl vc,.int .i64 r.lives,.bool r.own] 29 (0,0))):=Lib.hid (by rw [← hwz]; exact (heap_setCell_at (o:=6) (heap_setCell_at (o:=5) KR.out (.int .i64 0)) (.bool false)))
  have KQ2 : Hid (wz.heap[q]? = some (.cells #[.int .i64 2,.int .i64 r.players,.int .i64 r.last,.bool r.bull,.bool r.jump,.int .i64 r.rounds,.bool r.cut,.slice va nl vc,.int .i64 r.lives,.bool r.own] 29 (0,0))):=Lib.hid (by rw [← hwz]; exact ((Below.heap_setCell _ _ _ _ (by dsimp only; omega)).trans ((Below.heap_setCell _ _ _ _ (by dsimp only; omega)).trans KQ.out)))
  have HBW2 : Hid (Below w.heap.size w wz):=Lib.hid (by rw [← hwz]; exact ((HBW.out.setCell (by dsimp only; have:=HQ.out; omega) (.int .i64 0)).setCell (by dsimp only; have:=HQ.out; omega) (.bool false)))
  clear hwz KR KQ HBW s5 sf5 s6 sf6
  have KR:=KR2
  have KQ:=KQ2
  have HBW:=HBW2
  refine wp_region_seq 11 [.is (.agg #[.int .i64 2,.int .i64 r.players,.int .i64 r.last,.bool r.bull,.bool r.jump,.int .i64 0,.bool false,.slice va nl vc,.int .i64 r.lives,.bool r.own]),.is (.bool true),.is (.bool true),.is (.int .i64 2),.is (.pointer (some ⟨q,1,none⟩)),.is (.int .i64 r.players),kSl 3 [.int .i64 r.players],.is (.bool pb),.is (.bool pb),.is undef,.is (.bool pb)] rfl mix (by kernel_rfl) (by kernel_rfl) ?seqm
  case seqm =>
   simp only [List.take_succ_cons,List.take_zero]
   iterate 6
    refine seq_on (by rfl) (fun w3 hb3 _ => ?_) ?_
    ·have hq3:=(hb3.block _ (Array.getElem?_eq_some_iff.1 KQ.out).1).trans KQ.out
     have hr3:=(hb3.block _ (Array.getElem?_eq_some_iff.1 KR.out).1).trans KR.out
     have a0 : w3.cell? ⟨q + 1,0,none⟩ = _:=cell_of_heap (o:=0) hr3
     have a1 : w3.cell? ⟨q + 1,1,none⟩ = _:=cell_of_heap (o:=1) hr3
     have a2 : w3.cell? ⟨q + 1,2,none⟩ = _:=cell_of_heap (o:=2) hr3
     have a3 : w3.cell? ⟨q + 1,3,none⟩ = _:=cell_of_heap (o:=3) hr3
     have a4 : w3.cell? ⟨q + 1,4,none⟩ = _:=cell_of_heap (o:=4) hr3
     have a5 : w3.cell? ⟨q + 1,5,none⟩ = _:=cell_of_heap (o:=5) hr3
     have a6 : w3.cell? ⟨q + 1,6,none⟩ = _:=cell_of_heap (o:=6) hr3
     have a7 : w3.cell? ⟨q + 1,7,none⟩ = _:=cell_of_heap (o:=7) hr3
     have a8 : w3.cell? ⟨q + 1,8,none⟩ = _:=cell_of_heap (o:=8) hr3
     have a9 : w3.cell? ⟨q + 1,9,none⟩ = _:=cell_of_heap (o:=9) hr3
     have b1 : w3.cell? ⟨q,1,none⟩ = _:=cell_of_heap (o:=1) hq3
     simp [opOK,go_sem,a0,a1,a2,a3,a4,a5,a6,a7,a8,a9,b1,Below.refl]
     try exact rfl
    simp only [Act.put,List.setIfInBounds_toArray,List.set_cons_succ,List.set_cons_zero]
   refine seq_new ⟨_,0,rfl⟩ (by rfl) (fun w3 hb3 hH => ?_) ?_
   ·have hq3:=(hb3.block _ (Array.getElem?_eq_some_iff.1 KQ.out).1).trans KQ.out
    have hr3:=(hb3.block _ (Array.getElem?_eq_some_iff.1 KR.out).1).trans KR.out
    have a0 : w3.cell? ⟨q + 1,0,none⟩ = _:=cell_of_heap (o:=0) hr3
    have a1 : w3.cell? ⟨q + 1,1,none⟩ = _:=cell_of_heap (o:=1) hr3
    have a2 : w3.cell? ⟨q + 1,2,none⟩ = _:=cell_of_heap (o:=2) hr3
    have a3 : w3.cell? ⟨q + 1,3,none⟩ = _:=cell_of_heap (o:=3) hr3
    have a4 : w3.cell? ⟨q + 1,4,none⟩ = _:=cell_of_heap (o:=4) hr3
    have a5 : w3.cell? ⟨q + 1,5,none⟩ = _:=cell_of_heap (o:=5) hr3
    have a6 : w3.cell? ⟨q + 1,6,none⟩ = _:=cell_of_heap (o:=6) hr3
    have a7 : w3.cell? ⟨q + 1,7,none⟩ = _:=cell_of_heap (o:=7) hr3
    have a8 : w3.cell? ⟨q + 1,8,none⟩ = _:=cell_of_heap (o:=8) hr3
    have a9 : w3.cell? ⟨q + 1,9,none⟩ = _:=cell_of_heap (o:=9) hr3
    have b1 : w3.cell? ⟨q,1,none⟩ = _:=cell_of_heap (o:=1) hq3
    refine opOK_val (v:=.slice (some ⟨w3.heap.size,0,none⟩) 1 1) (w':=w3.alloc (.cells #[.int .i64 r.players] 3)) (by simp [go_sem,execOp]) ⟨aB _ _,⟨_,rfl⟩,_,rfl,World.alloc_heap_new _ _⟩
   rintro v ⟨bs,rfl⟩
   simp only [Act.put,List.setIfInBounds_toArray,List.set_cons_succ,List.set_cons_zero]
   refine seq_on (by rfl) (fun w3 hb3 hH => ?_) ?_
   ·have hq3:=(hb3.block _ (Array.getElem?_eq_some_iff.1 KQ.out).1).trans KQ.out
    have hr3:=(hb3.block _ (Array.getElem?_eq_some_iff.1 KR.out).1).trans KR.out
    have a0 : w3.cell? ⟨q + 1,0,none⟩ = _:=cell_of_heap (o:=0) hr3
    have a1 : w3.cell? ⟨q + 1,1,none⟩ = _:=cell_of_heap (o:=1) hr3
    have a2 : w3.cell? ⟨q + 1,2,none⟩ = _:=cell_of_heap (o:=2) hr3
    have a3 : w3.cell? ⟨q + 1,3,none⟩ = _:=cell_of_heap (o:=3) hr3
    have a4 : w3.cell? ⟨q + 1,4,none⟩ = _:=cell_of_heap (o:=4) hr3
    have a5 : w3.cell? ⟨q + 1,5,none⟩ = _:=cell_of_heap (o:=5) hr3
    have a6 : w3.cell? ⟨q + 1,6,none⟩ = _:=cell_of_heap (o:=6) hr3
    have a7 : w3.cell? ⟨q + 1,7,none⟩ = _:=cell_of_heap (o:=7) hr3
    have a8 : w3.cell? ⟨q + 1,8,none⟩ = _:=cell_of_heap (o:=8) hr3
    have a9 : w3.cell? ⟨q + 1,9,none⟩ = _:=cell_of_heap (o:=9) hr3
    have b1 : w3.cell? ⟨q,1,none⟩ = _:=cell_of_heap (o:=1) hq3
    have hs:=hH ⟨6,.data⟩ (by simp) rfl
    simp [addH,kSl] at hs
    refine opOK_call (f:=35) (args:=#[.int .i64 2,.int .i64 8,.slice (some ⟨bs,0,none⟩) 1 1]) (by simp [go_sem]) ?_
    exact (within_one' 2 8 r.players pb HPB _ w3 (sl_blk (t:=3) (xs:=[.int .i64 r.players]) hs (by simp [maxLen]))).mono fun e W' ⟨he,hb⟩ => ⟨_,he,rfl,hb⟩
   simp only [Act.put,List.setIfInBounds_toArray,List.set_cons_succ,List.set_cons_zero]
   refine seq_on (by rfl) (fun w3 hb3 _ => ?_) ?_
   ·have hq3:=(hb3.block _ (Array.getElem?_eq_some_iff.1 KQ.out).1).trans KQ.out
    have hr3:=(hb3.block _ (Array.getElem?_eq_some_iff.1 KR.out).1).trans KR.out
    have a0 : w3.cell? ⟨q + 1,0,none⟩ = _:=cell_of_heap (o:=0) hr3
    have a1 : w3.cell? ⟨q + 1,1,none⟩ = _:=cell_of_heap (o:=1) hr3
    have a2 : w3.cell? ⟨q + 1,2,none⟩ = _:=cell_of_heap (o:=2) hr3
    have a3 : w3.cell? ⟨q + 1,3,none⟩ = _:=cell_of_heap (o:=3) hr3
    have a4 : w3.cell? ⟨q + 1,4,none⟩ = _:=cell_of_heap (o:=4) hr3
    have a5 : w3.cell? ⟨q + 1,5,none⟩ = _:=cell_of_heap (o:=5) hr3
    have a6 : w3.cell? ⟨q + 1,6,none⟩ = _:=cell_of_heap (o:=6) hr3
    have a7 : w3.cell? ⟨q + 1,7,none⟩ = _:=cell_of_heap (o:=7) hr3
    have a8 : w3.cell? ⟨q + 1,8,none⟩ = _:=cell_of_heap (o:=8) hr3
    have a9 : w3.cell? ⟨q + 1,9,none⟩ = _:=cell_of_heap (o:=9) hr3
    have b1 : w3.cell? ⟨q,1,none⟩ = _:=cell_of_heap (o:=1) hq3
    simp [opOK,go_sem,Below.refl]
    try exact rfl
   simp only [Act.put,List.setIfInBounds_toArray,List.set_cons_succ,List.set_cons_zero]
   refine seq_on (by rfl) (fun w3 hb3 hH => ?_) ?_
   ·have hq3:=(hb3.block _ (Array.getElem?_eq_some_iff.1 KQ.out).1).trans KQ.out
    have hr3:=(hb3.block _ (Array.getElem?_eq_some_iff.1 KR.out).1).trans KR.out
    have a0 : w3.cell? ⟨q + 1,0,none⟩ = _:=cell_of_heap (o:=0) hr3
    have a1 : w3.cell? ⟨q + 1,1,none⟩ = _:=cell_of_heap (o:=1) hr3
    have a2 : w3.cell? ⟨q + 1,2,none⟩ = _:=cell_of_heap (o:=2) hr3
    have a3 : w3.cell? ⟨q + 1,3,none⟩ = _:=cell_of_heap (o:=3) hr3
    have a4 : w3.cell? ⟨q + 1,4,none⟩ = _:=cell_of_heap (o:=4) hr3
    have a5 : w3.cell? ⟨q + 1,5,none⟩ = _:=cell_of_heap (o:=5) hr3
    have a6 : w3.cell? ⟨q + 1,6,none⟩ = _:=cell_of_heap (o:=6) hr3
    have a7 : w3.cell? ⟨q + 1,7,none⟩ = _:=cell_of_heap (o:=7) hr3
    have a8 : w3.cell? ⟨q + 1,8,none⟩ = _:=cell_of_heap (o:=8) hr3
    have a9 : w3.cell? ⟨q + 1,9,none⟩ = _:=cell_of_heap (o:=9) hr3
    have b1 : w3.cell? ⟨q,1,none⟩ = _:=cell_of_heap (o:=1) hq3
    exact opOK_store_row 29 (.tmp 2) (.tmp 54) rfl (q + 1) #[.int .i64 2,.int .i64 r.players,.int .i64 r.last,.bool r.bull,.bool r.jump,.int .i64 0,.bool false,.slice va nl vc,.int .i64 r.lives,.bool r.own] (by simp [Act.eval]) (by simp [Act.eval]) 29 _ hr3 (by kernel_rfl) rfl (by simp [Value.oneCell']) ⟨rfl,by rw [setRow_self w3 (q + 1) _ _ _ hr3]; exact Below.refl _ _⟩
   simp only [Act.put]
   refine seq_on (by rfl) (fun w3 hb3 _ => ?_) ?_
   ·have hq3:=(hb3.block _ (Array.getElem?_eq_some_iff.1 KQ.out).1).trans KQ.out
    have hr3:=(hb3.block _ (Array.getElem?_eq_some_iff.1 KR.out).1).trans KR.out
    have a0 : w3.cell? ⟨q + 1,0,none⟩ = _:=cell_of_heap (o:=0) hr3
    have a1 : w3.cell? ⟨q + 1,1,none⟩ = _:=cell_of_heap (o:=1) hr3
    have a2 : w3.cell? ⟨q + 1,2,none⟩ = _:=cell_of_heap (o:=2) hr3
    have a3 : w3.cell? ⟨q + 1,3,none⟩ = _:=cell_of_heap (o:=3) hr3
    have a4 : w3.cell? ⟨q + 1,4,none⟩ = _:=cell_of_heap (o:=4) hr3
    have a5 : w3.cell? ⟨q + 1,5,none⟩ = _:=cell_of_heap (o:=5) hr3
    have a6 : w3.cell? ⟨q + 1,6,none⟩ = _:=cell_of_heap (o:=6) hr3
    have a7 : w3.cell? ⟨q + 1,7,none⟩ = _:=cell_of_heap (o:=7) hr3
    have a8 : w3.cell? ⟨q + 1,8,none⟩ = _:=cell_of_heap (o:=8) hr3
    have a9 : w3.cell? ⟨q + 1,9,none⟩ = _:=cell_of_heap (o:=9) hr3
    have b1 : w3.cell? ⟨q,1,none⟩ = _:=cell_of_heap (o:=1) hq3
    simp [opOK,go_sem,Below.refl]
    try exact rfl
   simp only [Act.put,List.setIfInBounds_toArray,List.set_cons_succ,List.set_cons_zero]
   refine seq_end fun w3 hb3 _ => ?_
   simp only [List.drop_succ_cons,List.drop_zero]
   have HB3:=Lib.hid (HBW.out.trans (hb3.mono HBW.out.size))
   have hr3:=(hb3.block _ (Array.getElem?_eq_some_iff.1 KR.out).1).trans KR.out
   have a0 : w3.cell? ⟨q + 1,0,none⟩ = _:=cell_of_heap (o:=0) hr3
   have a1 : w3.cell? ⟨q + 1,1,none⟩ = _:=cell_of_heap (o:=1) hr3
   have a2 : w3.cell? ⟨q + 1,2,none⟩ = _:=cell_of_heap (o:=2) hr3
   have a3 : w3.cell? ⟨q + 1,3,none⟩ = _:=cell_of_heap (o:=3) hr3
   have a4 : w3.cell? ⟨q + 1,4,none⟩ = _:=cell_of_heap (o:=4) hr3
   have a5 : w3.cell? ⟨q + 1,5,none⟩ = _:=cell_of_heap (o:=5) hr3
   have a6 : w3.cell? ⟨q + 1,6,none⟩ = _:=cell_of_heap (o:=6) hr3
   have a7 : w3.cell? ⟨q + 1,7,none⟩ = _:=cell_of_heap (o:=7) hr3
   have a8 : w3.cell? ⟨q + 1,8,none⟩ = _:=cell_of_heap (o:=8) hr3
   have a9 : w3.cell? ⟨q + 1,9,none⟩ = _:=cell_of_heap (o:=9) hr3
   simp at a0 a1 a2 a3 a4 a5 a6 a7 a8 a9
   clear hb3 hr3
   go_wp2
   exact bodyPost_ret (v:=.tuple #[.agg #[.int .i64 2,.int .i64 r.players,.int .i64 r.last,.bool r.bull,.bool r.jump,.int .i64 0,.bool false,.slice va nl vc,.int .i64 r.lives,.bool r.own],.bool pb]) (by simp [results,Tryz.results72,go_sem,a0,a1,a2,a3,a4,a5,a6,a7,a8,a9]) rfl ⟨by simp,HB3.out⟩
set_option maxRecDepth 100000 in
set_option maxHeartbeats 4000000 in
theorem isUsed3_any {S : Nat → Prop} (r : Rul) (va : Option Addr) (nl vc : Nat)  (hnl : r.nums.length = nl) (w : World) (hs : Sl S w (.slice va nl vc) (ints r.nums)) :
  Calls Tryz.prog 72 #[.agg #[.int .i64 3,.int .i64 r.players,.int .i64 r.last,.bool r.bull,.bool r.jump,.int .i64 r.rounds,.bool r.cut,.slice va nl vc,.int .i64 r.lives,.bool r.own]] w fun e w' => e = .returned (.tuple #[.agg #[.int .i64 3,.int .i64 r.players,.int .i64 r.last,.bool r.bull,.bool r.jump,.int .i64 0,.bool r.cut,.slice va nl vc,.int .i64 r.lives,.bool r.own],.bool (isIn r.rounds 1 20 && isIn r.players 2 8)]) ∧ Below w.heap.size w w':=by
 have HSL:=Lib.hid hs
 have HNL:=Lib.hid hnl
 have hl : nl ≤ vc ∧ vc ≤ maxLen:=by obtain ⟨x,y,e,h1,h2⟩ := hs.form; simp only [Value.slice.injEq] at e; rw [ints_length,hnl] at h1; omega
 unfold maxLen at hl
 obtain ⟨q,hq⟩ : ∃ q,w.heap.size = q:=⟨_,rfl⟩
 have HQ:=Lib.hid hq
 obtain ⟨pb,hpb⟩ : ∃ pb,isIn r.players 2 8 = pb:=⟨_,rfl⟩
 have HPB:=Lib.hid hpb
 rw [hpb]
 clear hs hq hpb hnl
 obtain ⟨ob,hob⟩ : ∃ ob,isIn r.rounds 1 20 = ob:=⟨_,rfl⟩
 have HOB:=Lib.hid hob
 rw [hob]
 clear hob
 have HOK : Hid ((ob && pb) = (ob && pb)):=Lib.hid rfl
 obtain ⟨w0,hw0⟩ : ∃ w0,(w.alloc (.cells #[.int .i64 3,.int .i64 r.players,.int .i64 r.last,.bool r.bull,.bool r.jump,.int .i64 r.rounds,.bool r.cut,.slice va nl vc,.int .i64 r.lives,.bool r.own] 29)).alloc (.cells #[.int .i64 3,.int .i64 r.players,.int .i64 r.last,.bool r.bull,.bool r.jump,.int .i64 r.rounds,.bool r.cut,.slice va nl vc,.int .i64 r.lives,.bool r.own] 29) = w0:=⟨_,rfl⟩
 have hb0 : Below w.heap.size w w0:=by rw [← hw0]; exact (aB _ _).alloc (by simp) _
 have KQ : Hid (w0.heap[q]? = some (.cells #[.int .i64 3,.int .i64 r.players,.int .i64 r.last,.bool r.bull,.bool r.jump,.int .i64 r.rounds,.bool r.cut,.slice va nl vc,.int .i64 r.lives,.bool r.own] 29 (0,0))):=Lib.hid (by rw [← hw0,← HQ.out]; exact heap_old (World.alloc_heap_new _ _))
 have KR : Hid (w0.heap[q + 1]? = some (.cells #[.int .i64 3,.int .i64 r.players,.int .i64 r.last,.bool r.bull,.bool r.jump,.int .i64 r.rounds,.bool r.cut,.slice va nl vc,.int .i64 r.lives,.bool r.own] 29 (0,0))):=Lib.hid (by rw [← hw0,← HQ.out]; exact heap_two _ _ _)
 have HZ0 : Hid (w0.heap.size = q + 1 + 1):=Lib.hid (by rw [← hw0,← HQ.out]; simp)
 have HB0:=Lib.hid hb0
 have HW0:=Lib.hid hw0
 clear hw0 hb0
 go_enter Tryz.func72,Tryz.ntmps72
 go_wp2_with fail
 rw [HW0.out,HQ.out]
 have hs1:=Sl.new1 (fun _ => True) w0 trivial 3 (.int .i64 r.rounds)
 rw [HZ0.out] at hs1
 (with_reducible refine (within_one' 1 20 r.rounds ob HOB _ _ hs1).mono ?_)
 clear hs1
 rintro e w2 ⟨rfl,hb2⟩
 replace hb2:=bThen (aB w0 _) hb2
 have HBW:=Lib.hid (bThen HB0.out hb2)
 replace KQ:=Lib.hid ((hb2.block _ (Array.getElem?_eq_some_iff.1 KQ.out).1).trans KQ.out)
 replace KR:=Lib.hid ((hb2.block _ (Array.getElem?_eq_some_iff.1 KR.out).1).trans KR.out)
 clear hb2 HB0
 cases ob
 ·have hr0 : ∀ j,w2.cell? ⟨q + 1,j,none⟩ = (#[.int .i64 3,.int .i64 r.players,.int .i64 r.last,.bool r.bull,.bool r.jump,.int .i64 r.rounds,.bool r.cut,.slice va nl vc,.int .i64 r.lives,.bool r.own] : Array Value)[j]? := fun j => cell_of_heap (o:=j) KR.out
  have s5:=hr0 5
  have sf5 : w2.frozen? ⟨q + 1,5,none⟩ = false:=frozen_of_heap KR.out
  clear hr0
  simp at s5
  go_wp2_with fail
  obtain ⟨wz,hwz⟩ : ∃ wz,(w2.setCell ⟨q + 1,5,none⟩ (.int .i64 0)) = wz:=⟨_,rfl⟩
  rw [hwz]
  have KR2 : Hid (wz.heap[q + 1]? = some (.cells #[.int .i64 3,.int .i64 r.players,.int .i64 r.last,.bool r.bull,.bool r.jump,.int .i64 0,.bool r.cut,.slice va nl vc,.int .i64 r.lives,.bool r.own] 29 (0,0))):=Lib.hid (by rw [← hwz]; exact (heap_setCell_at (o:=5) KR.out (.int .i64 0)))
  have KQ2 : Hid (wz.heap[q]? = some (.cells #[.int .i64 3,.int .i64 r.players,.int .i64 r.last,.bool r.bull,.bool r.jump,.int .i64 r.rounds,.bool r.cut,.slice va nl vc,.int .i64 r.lives,.bool r.own] 29 (0,0))):=Lib.hid (by rw [← hwz]; exact ((Below.heap_setCell _ _ _ _ (by dsimp only; omega)).trans KQ.out))
  have HBW2 : Hid (Below w.heap.size w wz):=Lib.hid (by rw [← hwz]; exact (HBW.out.setCell (by dsimp only; have:=HQ.out; omega) (.int .i64 0)))
  clear hwz KR KQ HBW s5 sf5
  have KR:=KR2
  have KQ:=KQ2
  have HBW:=HBW2
  refine wp_region_seq 11 [.is (.agg #[.int .i64 3,.int .i64 r.players,.int .i64 r.last,.bool r.bull,.bool r.jump,.int .i64 0,.bool r.cut,.slice va nl vc,.int .i64 r.lives,.bool r.own]),.is (.bool false),.is (.bool false),.is undef,.is undef,.is undef,.is undef,.is undef,.is (.bool false),.is undef,.is (.bool false)] rfl mix (by kernel_rfl) (by kernel_rfl) ?seqm
  case seqm =>
   simp only [List.take_succ_cons,List.take_zero]
   iterate 3
    refine seq_on (by rfl) (fun w3 hb3 _ => ?_) ?_
    ·have hq3:=(hb3.block _ (Array.getElem?_eq_some_iff.1 KQ.out).1).trans KQ.out
     have hr3:=(hb3.block _ (Array.getElem?_eq_some_iff.1 KR.out).1).trans KR.out
     have a0 : w3.cell? ⟨q + 1,0,none⟩ = _:=cell_of_heap (o:=0) hr3
     have a1 : w3.cell? ⟨q + 1,1,none⟩ = _:=cell_of_heap (o:=1) hr3
     have a2 : w3.cell? ⟨q + 1,2,none⟩ = _:=cell_of_heap (o:=2) hr3
     have a3 : w3.cell? ⟨q + 1,3,none⟩ = _:=cell_of_heap (o:=3) hr3
     have a4 : w3.cell? ⟨q + 1,4,none⟩ = _:=cell_of_heap (o:=4) hr3
     have a5 : w3.cell? ⟨q + 1,5,none⟩ = _:=cell_of_heap (o:=5) hr3
     have a6 : w3.cell? ⟨q + 1,6,none⟩ = _:=cell_of_heap (o:=6) hr3
     have a7 : w3.cell? ⟨q + 1,7,none⟩ = _:=cell_of_heap (o:=7) hr3
     have a8 : w3.cell? ⟨q + 1,8,none⟩ = _:=cell_of_heap (o:=8) hr3
     have a9 : w3.cell? ⟨q + 1,9,none⟩ = _:=cell_of_heap (o:=9) hr3
     have b1 : w3.cell? ⟨q,1,none⟩ = _:=cell_of_heap (o:=1) hq3
     simp [opOK,go_sem,a0,a1,a2,a3,a4,a5,a6,a7,a8,a9,Below.refl]
     try exact rfl
    simp only [Act.put,List.setIfInBounds_toArray,List.set_cons_succ,List.set_cons_zero]
   iterate 5
    refine seq_off (by rfl) ?_
    simp only [Act.put,List.setIfInBounds_toArray,List.set_cons_succ,List.set_cons_zero]
   refine seq_on (by rfl) (fun w3 hb3 _ => ?_) ?_
   ·have hq3:=(hb3.block _ (Array.getElem?_eq_some_iff.1 KQ.out).1).trans KQ.out
    have hr3:=(hb3.block _ (Array.getElem?_eq_some_iff.1 KR.out).1).trans KR.out
    have a0 : w3.cell? ⟨q + 1,0,none⟩ = _:=cell_of_heap (o:=0) hr3
    have a1 : w3.cell? ⟨q + 1,1,none⟩ = _:=cell_of_heap (o:=1) hr3
    have a2 : w3.cell? ⟨q + 1,2,none⟩ = _:=cell_of_heap (o:=2) hr3
    have a3 : w3.cell? ⟨q + 1,3,none⟩ = _:=cell_of_heap (o:=3) hr3
    have a4 : w3.cell? ⟨q + 1,4,none⟩ = _:=cell_of_heap (o:=4) hr3
    have a5 : w3.cell? ⟨q + 1,5,none⟩ = _:=cell_of_heap (o:=5) hr3
    have a6 : w3.cell? ⟨q + 1,6,none⟩ = _:=cell_of_heap (o:=6) hr3
    have a7 : w3.cell? ⟨q + 1,7,none⟩ = _:=cell_of_heap (o:=7) hr3
    have a8 : w3.cell? ⟨q + 1,8,none⟩ = _:=cell_of_heap (o:=8) hr3
    have a9 : w3.cell? ⟨q + 1,9,none⟩ = _:=cell_of_heap (o:=9) hr3
    have b1 : w3.cell? ⟨q,1,none⟩ = _:=cell_of_heap (o:=1) hq3
    simp [opOK,go_sem,Below.refl]
    try exact rfl
   simp only [Act.put,List.setIfInBounds_toArray,List.set_cons_succ,List.set_cons_zero]
   refine seq_on (by rfl) (fun w3 hb3 hH => ?_) ?_
   ·have hq3:=(hb3.block _ (Array.getElem?_eq_some_iff.1 KQ.out).1).trans KQ.out
    have hr3:=(hb3.block _ (Array.getElem?_eq_some_iff.1 KR.out).1).trans KR.out
    have a0 : w3.cell? ⟨q + 1,0,none⟩ = _:=cell_of_heap (o:=0) hr3
    have a1 : w3.cell? ⟨q + 1,1,none⟩ = _:=cell_of_heap (o:=1) hr3
    have a2 : w3.cell? ⟨q + 1,2,none⟩ = _:=cell_of_heap (o:=2) hr3
    have a3 : w3.cell? ⟨q + 1,3,none⟩ = _:=cell_of_heap (o:=3) hr3
    have a4 : w3.cell? ⟨q + 1,4,none⟩ = _:=cell_of_heap (o:=4) hr3
    have a5 : w3.cell? ⟨q + 1,5,none⟩ = _:=cell_of_heap (o:=5) hr3
    have a6 : w3.cell? ⟨q + 1,6,none⟩ = _:=cell_of_heap (o:=6) hr3
    have a7 : w3.cell? ⟨q + 1,7,none⟩ = _:=cell_of_heap (o:=7) hr3
    have a8 : w3.cell? ⟨q + 1,8,none⟩ = _:=cell_of_heap (o:=8) hr3
    have a9 : w3.cell? ⟨q + 1,9,none⟩ = _:=cell_of_heap (o:=9) hr3
    have b1 : w3.cell? ⟨q,1,none⟩ = _:=cell_of_heap (o:=1) hq3
    exact opOK_store_row 29 (.tmp 2) (.tmp 54) rfl (q + 1) #[.int .i64 3,.int .i64 r.players,.int .i64 r.last,.bool r.bull,.bool r.jump,.int .i64 0,.bool r.cut,.slice va nl vc,.int .i64 r.lives,.bool r.own] (by simp [Act.eval]) (by simp [Act.eval]) 29 _ hr3 (by kernel_rfl) rfl (by simp [Value.oneCell']) ⟨rfl,by rw [setRow_self w3 (q + 1) _ _ _ hr3]; exact Below.refl _ _⟩
   simp only [Act.put]
   refine seq_on (by rfl) (fun w3 hb3 _ => ?_) ?_
   ·have hq3:=(hb3.block _ (Array.getElem?_eq_some_iff.1 KQ.out).1).trans KQ.out
    have hr3:=(hb3.block _ (Array.getElem?_eq_some_iff.1 KR.out).1).trans KR.out
    have a0 : w3.cell? ⟨q + 1,0,none⟩ = _:=cell_of_heap (o:=0) hr3
    have a1 : w3.cell? ⟨q + 1,1,none⟩ = _:=cell_of_heap (o:=1) hr3
    have a2 : w3.cell? ⟨q + 1,2,none⟩ = _:=cell_of_heap (o:=2) hr3
    have a3 : w3.cell? ⟨q + 1,3,none⟩ = _:=cell_of_heap (o:=3) hr3
    have a4 : w3.cell? ⟨q + 1,4,none⟩ = _:=cell_of_heap (o:=4) hr3
    have a5 : w3.cell? ⟨q + 1,5,none⟩ = _:=cell_of_heap (o:=5) hr3
    have a6 : w3.cell? ⟨q + 1,6,none⟩ = _:=cell_of_heap (o:=6) hr3
    have a7 : w3.cell? ⟨q + 1,7,none⟩ = _:=cell_of_heap (o:=7) hr3
    have a8 : w3.cell? ⟨q + 1,8,none⟩ = _:=cell_of_heap (o:=8) hr3
    have a9 : w3.cell? ⟨q + 1,9,none⟩ = _:=cell_of_heap (o:=9) hr3
    have b1 : w3.cell? ⟨q,1,none⟩ = _:=cell_of_heap (o:=1) hq3
    simp [opOK,go_sem,Below.refl]
    try exact rfl
   simp only [Act.put,List.setIfInBounds_toArray,List.set_cons_succ,List.set_cons_zero]
   refine seq_end fun w3 hb3 _ => ?_
   simp only [List.drop_succ_cons,List.drop_zero]
   have HB3:=Lib.hid (HBW.out.trans (hb3.mono HBW.out.size))
   have hr3:=(hb3.block _ (Array.getElem?_eq_some_iff.1 KR.out).1).trans KR.out
   have a0 : w3.cell? ⟨q + 1,0,none⟩ = _:=cell_of_heap (o:=0) hr3
   have a1 : w3.cell? ⟨q + 1,1,none⟩ = _:=cell_of_heap (o:=1) hr3
   have a2 : w3.cell? ⟨q + 1,2,none⟩ = _:=cell_of_heap (o:=2) hr3
   have a3 : w3.cell? ⟨q + 1,3,none⟩ = _:=cell_of_heap (o:=3) hr3
   have a4 : w3.cell? ⟨q + 1,4,none⟩ = _:=cell_of_heap (o:=4) hr3
   have a5 : w3.cell? ⟨q + 1,5,none⟩ = _:=cell_of_heap (o:=5) hr3
   have a6 : w3.cell? ⟨q + 1,6,none⟩ = _:=cell_of_heap (o:=6) hr3
   have a7 : w3.cell? ⟨q + 1,7,none⟩ = _:=cell_of_heap (o:=7) hr3
   have a8 : w3.cell? ⟨q + 1,8,none⟩ = _:=cell_of_heap (o:=8) hr3
   have a9 : w3.cell? ⟨q + 1,9,none⟩ = _:=cell_of_heap (o:=9) hr3
   simp at a0 a1 a2 a3 a4 a5 a6 a7 a8 a9
   clear hb3 hr3
   go_wp2
   exact bodyPost_ret (v:=.tuple #[.agg #[.int .i64 3,.int .i64 r.players,.int .i64 r.last,.bool r.bull,.bool r.jump,.int .i64 0,.bool r.cut,.slice va nl vc,.int .i64 r.lives,.bool r.own],.bool false]) (by simp [results,Tryz.results72,go_sem,a0,a1,a2,a3,a4,a5,a6,a7,a8,a9]) rfl ⟨by simp,HB3.out⟩
 ·have hr0 : ∀ j,w2.cell? ⟨q + 1,j,none⟩ = (#[.int .i64 3,.int .i64 r.players,.int .i64 r.last,.bool r.bull,.bool r.jump,.int .i64 r.rounds,.bool r.cut,.slice va nl vc,.int .i64 r.lives,.bool r.own] : Array Value)[j]? := fun j => cell_of_heap (o:=j) KR.out
  have s5:=hr0 5
  have sf5 : w2.frozen? ⟨q + 1,5,none⟩ = false:=frozen_of_heap KR.out
  clear hr0
  simp at s5
  go_wp2_with fail
  obtain ⟨wz,hwz⟩ : ∃ wz,(w2.setCell ⟨q + 1,5,none⟩ (.int .i64 0)) = wz:=⟨_,rfl⟩
  rw [hwz]
  have KR2 : Hid (wz.heap[q + 1]? = some (.cells #[.int .i64 3,.int .i64 r.players,.int .i64 r.last,.bool r.bull,.bool r.jump,.int .i64 0,.bool r.cut,.slice va nl vc,.int .i64 r.lives,.bool r.own] 29 (0,0))):=Lib.hid (by rw [← hwz]; exact (heap_setCell_at (o:=5) KR.out (.int .i64 0)))
  have KQ2 : Hid (wz.heap[q]? = some (.cells #[.int .i64 3,.int .i64 r.players,.int .i64 r.last,.bool r.bull,.bool r.jump,.int .i64 r.rounds,.bool r.cut,.slice va nl vc,.int .i64 r.lives,.bool r.own] 29 (0,0))):=Lib.hid (by rw [← hwz]; exact ((Below.heap_setCell _ _ _ _ (by dsimp only; omega)).trans KQ.out))
  have HBW2 : Hid (Below w.heap.size w wz):=Lib.hid (by rw [← hwz]; exact (HBW.out.setCell (by dsimp only; have:=HQ.out; omega) (.int .i64 0)))
  clear hwz KR KQ HBW s5 sf5
  have KR:=KR2
  have KQ:=KQ2
  have HBW:=HBW2
  refine wp_region_seq 11 [.is (.agg #[.int .i64 3,.int .i64 r.players,.int .i64 r.last,.bool r.bull,.bool r.jump,.int .i64 0,.bool r.cut,.slice va nl vc,.int .i64 r.lives,.bool r.own]),.is (.bool true),.is (.bool true),.is (.int .i64 2),.is (.pointer (some ⟨q,1,none⟩)),.is (.int .i64 r.players),kSl 3 [.int .i64 r.players],.is (.bool pb),.is (.bool pb),.is undef,.is (.bool pb)] rfl mix (by kernel_rfl) (by kernel_rfl) ?seqm
  case seqm =>
   simp only [List.take_succ_cons,List.take_zero]
   iterate 6
    refine seq_on (by rfl) (fun w3 hb3 _ => ?_) ?_
    ·have hq3:=(hb3.block _ (Array.getElem?_eq_some_iff.1 KQ.out).1).trans KQ.out
     have hr3:=(hb3.block _ (Array.getElem?_eq_some_iff.1 KR.out).1).trans KR.out
     have a0 : w3.cell? ⟨q + 1,0,none⟩ = _:=cell_of_heap (o:=0) hr3
     have a1 : w3.cell? ⟨q + 1,1,none⟩ = _:=cell_of_heap (o:=1) hr3
     have a2 : w3.cell? ⟨q + 1,2,none⟩ = _:=cell_of_heap (o:=2) hr3
     have a3 : w3.cell? ⟨q + 1,3,none⟩ = _:=cell_of_heap (o:=3) hr3
     have a4 : w3.cell? ⟨q + 1,4,none⟩ = _:=cell_of_heap (o:=4) hr3
     have a5 : w3.cell? ⟨q + 1,5,none⟩ = _:=cell_of_heap (o:=5) hr3
     have a6 : w3.cell? ⟨q + 1,6,none⟩ = _:=cell_of_heap (o:=6) hr3
     have a7 : w3.cell? ⟨q + 1,7,none⟩ = _:=cell_of_heap (o:=7) hr3
     have a8 : w3.cell? ⟨q + 1,8,none⟩ = _:=cell_of_heap (o:=8) hr3
     have a9 : w3.cell? ⟨q + 1,9,none⟩ = _:=cell_of_heap (o:=9) hr3
     have b1 : w3.cell? ⟨q,1,none⟩ = _:=cell_of_heap (o:=1) hq3
     simp [opOK,go_sem,a0,a1,a2,a3,a4,a5,a6,a7,a8,a9,b1,Below.refl]
     try exact rfl
    simp only [Act.put,List.setIfInBounds_toArray,List.set_cons_succ,List.set_cons_zero]
   refine seq_new ⟨_,0,rfl⟩ (by rfl) (fun w3 hb3 hH => ?_) ?_
   ·have hq3:=(hb3.block _ (Array.getElem?_eq_some_iff.1 KQ.out).1).trans KQ.out
    have hr3:=(hb3.block _ (Array.getElem?_eq_some_iff.1 KR.out).1).trans KR.out
    have a0 : w3.cell? ⟨q + 1,0,none⟩ = _:=cell_of_heap (o:=0) hr3
    have a1 : w3.cell? ⟨q + 1,1,none⟩ = _:=cell_of_heap (o:=1) hr3
    have a2 : w3.cell? ⟨q + 1,2,none⟩ = _:=cell_of_heap (o:=2) hr3
    have a3 : w3.cell? ⟨q + 1,3,none⟩ = _:=cell_of_heap (o:=3) hr3
    have a4 : w3.cell? ⟨q + 1,4,none⟩ = _:=cell_of_heap (o:=4) hr3
    have a5 : w3.cell? ⟨q + 1,5,none⟩ = _:=cell_of_heap (o:=5) hr3
    have a6 : w3.cell? ⟨q + 1,6,none⟩ = _:=cell_of_heap (o:=6) hr3
    have a7 : w3.cell? ⟨q + 1,7,none⟩ = _:=cell_of_heap (o:=7) hr3
    have a8 : w3.cell? ⟨q + 1,8,none⟩ = _:=cell_of_heap (o:=8) hr3
    have a9 : w3.cell? ⟨q + 1,9,none⟩ = _:=cell_of_heap (o:=9) hr3
    have b1 : w3.cell? ⟨q,1,none⟩ = _:=cell_of_heap (o:=1) hq3
    refine opOK_val (v:=.slice (some ⟨w3.heap.size,0,none⟩) 1 1) (w':=w3.alloc (.cells #[.int .i64 r.players] 3)) (by simp [go_sem,execOp]) ⟨aB _ _,⟨_,rfl⟩,_,rfl,World.alloc_heap_new _ _⟩
   rintro v ⟨bs,rfl⟩
   simp only [Act.put,List.setIfInBounds_toArray,List.set_cons_succ,List.set_cons_zero]
   refine seq_on (by rfl) (fun w3 hb3 hH => ?_) ?_
   ·have hq3:=(hb3.block _ (Array.getElem?_eq_some_iff.1 KQ.out).1).trans KQ.out
    have hr3:=(hb3.block _ (Array.getElem?_eq_some_iff.1 KR.out).1).trans KR.out
    have a0 : w3.cell? ⟨q + 1,0,none⟩ = _:=cell_of_heap (o:=0) hr3
    have a1 : w3.cell? ⟨q + 1,1,none⟩ = _:=cell_of_heap (o:=1) hr3
    have a2 : w3.cell? ⟨q + 1,2,none⟩ = _:=cell_of_heap (o:=2) hr3
    have a3 : w3.cell? ⟨q + 1,3,none⟩ = _:=cell_of_heap (o:=3) hr3
    have a4 : w3.cell? ⟨q + 1,4,none⟩ = _:=cell_of_heap (o:=4) hr3
    have a5 : w3.cell? ⟨q + 1,5,none⟩ = _:=cell_of_heap (o:=5) hr3
    have a6 : w3.cell? ⟨q + 1,6,none⟩ = _:=cell_of_heap (o:=6) hr3
    have a7 : w3.cell? ⟨q + 1,7,none⟩ = _:=cell_of_heap (o:=7) hr3
    have a8 : w3.cell? ⟨q + 1,8,none⟩ = _:=cell_of_heap (o:=8) hr3
    have a9 : w3.cell? ⟨q + 1,9,none⟩ = _:=cell_of_heap (o:=9) hr3
    have b1 : w3.cell? ⟨q,1,none⟩ = _:=cell_of_heap (o:=1) hq3
    have hs:=hH ⟨6,.data⟩ (by simp) rfl
    simp [addH,kSl] at hs
    refine opOK_call (f:=35) (args:=#[.int .i64 2,.int .i64 8,.slice (some ⟨bs,0,none⟩) 1 1]) (by simp [go_sem]) ?_
    exact (within_one' 2 8 r.players pb HPB _ w3 (sl_blk (t:=3) (xs:=[.int .i64 r.players]) hs (by simp [maxLen]))).mono fun e W' ⟨he,hb⟩ => ⟨_,he,rfl,hb⟩
   simp only [Act.put,List.setIfInBounds_toArray,List.set_cons_succ,List.set_cons_zero]
   refine seq_on (by rfl) (fun w3 hb3 _ => ?_) ?_
   ·have hq3:=(hb3.block _ (Array.getElem?_eq_some_iff.1 KQ.out).1).trans KQ.out
    have hr3:=(hb3.block _ (Array.getElem?_eq_some_iff.1 KR.out).1).trans KR.out
    have a0 : w3.cell? ⟨q + 1,0,none⟩ = _:=cell_of_heap (o:=0) hr3
    have a1 : w3.cell? ⟨q + 1,1,none⟩ = _:=cell_of_heap (o:=1) hr3
    have a2 : w3.cell? ⟨q + 1,2,none⟩ = _:=cell_of_heap (o:=2) hr3
    have a3 : w3.cell? ⟨q + 1,3,none⟩ = _:=cell_of_heap (o:=3) hr3
    have a4 : w3.cell? ⟨q + 1,4,none⟩ = _:=cell_of_heap (o:=4) hr3
    have a5 : w3.cell? ⟨q + 1,5,none⟩ = _:=cell_of_heap (o:=5) hr3
    have a6 : w3.cell? ⟨q + 1,6,none⟩ = _:=cell_of_heap (o:=6) hr3
    have a7 : w3.cell? ⟨q + 1,7,none⟩ = _:=cell_of_heap (o:=7) hr3
    have a8 : w3.cell? ⟨q + 1,8,none⟩ = _:=cell_of_heap (o:=8) hr3
    have a9 : w3.cell? ⟨q + 1,9,none⟩ = _:=cell_of_heap (o:=9) hr3
    have b1 : w3.cell? ⟨q,1,none⟩ = _:=cell_of_heap (o:=1) hq3
    simp [opOK,go_sem,Below.refl]
    try exact rfl
   simp only [Act.put,List.setIfInBounds_toArray,List.set_cons_succ,List.set_cons_zero]
   refine seq_on (by rfl) (fun w3 hb3 hH => ?_) ?_
   ·have hq3:=(hb3.block _ (Array.getElem?_eq_some_iff.1 KQ.out).1).trans KQ.out
    have hr3:=(hb3.block _ (Array.getElem?_eq_some_iff.1 KR.out).1).trans KR.out
    have a0 : w3.cell? ⟨q + 1,0,none⟩ = _:=cell_of_heap (o:=0) hr3
    have a1 : w3.cell? ⟨q + 1,1,none⟩ = _:=cell_of_heap (o:=1) hr3
    have a2 : w3.cell? ⟨q + 1,2,none⟩ = _:=cell_of_heap (o:=2) hr3
    have a3 : w3.cell? ⟨q + 1,3,none⟩ = _:=cell_of_heap (o:=3) hr3
    have a4 : w3.cell? ⟨q + 1,4,none⟩ = _:=cell_of_heap (o:=4) hr3
    have a5 : w3.cell? ⟨q + 1,5,none⟩ = _:=cell_of_heap (o:=5) hr3
    have a6 : w3.cell? ⟨q + 1,6,none⟩ = _:=cell_of_heap (o:=6) hr3
    have a7 : w3.cell? ⟨q + 1,7,none⟩ = _:=cell_of_heap (o:=7) hr3
    have a8 : w3.cell? ⟨q + 1,8,none⟩ = _:=cell_of_heap (o:=8) hr3
    have a9 : w3.cell? ⟨q + 1,9,none⟩ = _:=cell_of_heap (o:=9) hr3
    have b1 : w3.cell? ⟨q,1,none⟩ = _:=cell_of_heap (o:=1) hq3
    exact opOK_store_row 29 (.tmp 2) (.tmp 54) rfl (q + 1) #[.int .i64 3,.int .i64 r.players,.int .i64 r.last,.bool r.bull,.bool r.jump,.int .i64 0,.bool r.cut,.slice va nl vc,.int .i64 r.lives,.bool r.own] (by simp [Act.eval]) (by simp [Act.eval]) 29 _ hr3 (by kernel_rfl) rfl (by simp [Value.oneCell']) ⟨rfl,by rw [setRow_self w3 (q + 1) _ _ _ hr3]; exact Below.refl _ _⟩
   simp only [Act.put]
   refine seq_on (by rfl) (fun w3 hb3 _ => ?_) ?_
   ·have hq3:=(hb3.block _ (Array.getElem?_eq_some_iff.1 KQ.out).1).trans KQ.out
    have hr3:=(hb3.block _ (Array.getElem?_eq_some_iff.1 KR.out).1).trans KR.out
    have a0 : w3.cell? ⟨q + 1,0,none⟩ = _:=cell_of_heap (o:=0) hr3
    have a1 : w3.cell? ⟨q + 1,1,none⟩ = _:=cell_of_heap (o:=1) hr3
    have a2 : w3.cell? ⟨q + 1,2,none⟩ = _:=cell_of_heap (o:=2) hr3
    have a3 : w3.cell? ⟨q + 1,3,none⟩ = _:=cell_of_heap (o:=3) hr3
    have a4 : w3.cell? ⟨q + 1,4,none⟩ = _:=cell_of_heap (o:=4) hr3
    have a5 : w3.cell? ⟨q + 1,5,none⟩ = _:=cell_of_heap (o:=5) hr3
    have a6 : w3.cell? ⟨q + 1,6,none⟩ = _:=cell_of_heap (o:=6) hr3
    have a7 : w3.cell? ⟨q + 1,7,none⟩ = _:=cell_of_heap (o:=7) hr3
    have a8 : w3.cell? ⟨q + 1,8,none⟩ = _:=cell_of_heap (o:=8) hr3
    have a9 : w3.cell? ⟨q + 1,9,none⟩ = _:=cell_of_heap (o:=9) hr3
    have b1 : w3.cell? ⟨q,1,none⟩ = _:=cell_of_heap (o:=1) hq3
    simp [opOK,go_sem,Below.refl]
    try exact rfl
   simp only [Act.put,List.setIfInBounds_toArray,List.set_cons_succ,List.set_cons_zero]
   refine seq_end fun w3 hb3 _ => ?_
   simp only [List.drop_succ_cons,List.drop_zero]
   have HB3:=Lib.hid (HBW.out.trans (hb3.mono HBW.out.size))
   have hr3:=(hb3.block _ (Array.getElem?_eq_some_iff.1 KR.out).1).trans KR.out
   have a0 : w3.cell? ⟨q + 1,0,none⟩ = _:=cell_of_heap (o:=0) hr3
   have a1 : w3.cell? ⟨q + 1,1,none⟩ = _:=cell_of_heap (o:=1) hr3
   have a2 : w3.cell? ⟨q + 1,2,none⟩ = _:=cell_of_heap (o:=2) hr3
   have a3 : w3.cell? ⟨q + 1,3,none⟩ = _:=cell_of_heap (o:=3) hr3
   have a4 : w3.cell? ⟨q + 1,4,none⟩ = _:=cell_of_heap (o:=4) hr3
   have a5 : w3.cell? ⟨q + 1,5,none⟩ = _:=cell_of_heap (o:=5) hr3
   have a6 : w3.cell? ⟨q + 1,6,none⟩ = _:=cell_of_heap (o:=6) hr3
   have a7 : w3.cell? ⟨q + 1,7,none⟩ = _:=cell_of_heap (o:=7) hr3
   have a8 : w3.cell? ⟨q + 1,8,none⟩ = _:=cell_of_heap (o:=8) hr3
   have a9 : w3.cell? ⟨q + 1,9,none⟩ = _:=cell_of_heap (o:=9) hr3
   simp at a0 a1 a2 a3 a4 a5 a6 a7 a8 a9
   clear hb3 hr3
   go_wp2
   exact bodyPost_ret (v:=.tuple #[.agg #[.int .i64 3,.int .i64 r.players,.int .i64 r.last,.bool r.bull,.bool r.jump,.int .i64 0,.bool r.cut,.slice va nl vc,.int .i64 r.lives,.bool r.own],.bool pb]) (by simp [results,Tryz.results72,go_sem,a0,a1,a2,a3,a4,a5,a6,a7,a8,a9]) rfl ⟨by simp,HB3.out⟩
set_option maxRecDepth 100000 in
set_option maxHeartbeats 4000000 in
theorem isUsed4_any {S : Nat → Prop} (r : Rul) (va : Option Addr) (nl vc : Nat)  (hnl : r.nums.length = nl) (w : World) (hs : Sl S w (.slice va nl vc) (ints r.nums)) :
  Calls Tryz.prog 72 #[.agg #[.int .i64 4,.int .i64 r.players,.int .i64 r.last,.bool r.bull,.bool r.jump,.int .i64 r.rounds,.bool r.cut,.slice va nl vc,.int .i64 r.lives,.bool r.own]] w fun e w' => e = .returned (.tuple #[.agg #[.int .i64 4,.int .i64 r.players,.int .i64 r.last,.bool r.bull,.bool r.jump,.int .i64 r.rounds,.bool r.cut,.slice none 0 0,.int .i64 0,.bool false],.bool ((areB r.nums && ((nl : Int) == r.players) && isIn r.lives 1 9) && isIn r.players 2 8)]) ∧ Below w.heap.size w w':=by
 have HSL:=Lib.hid hs
 have HNL:=Lib.hid hnl
 have hl : nl ≤ vc ∧ vc ≤ maxLen:=by obtain ⟨x,y,e,h1,h2⟩ := hs.form; simp only [Value.slice.injEq] at e; rw [ints_length,hnl] at h1; omega
 unfold maxLen at hl
 obtain ⟨q,hq⟩ : ∃ q,w.heap.size = q:=⟨_,rfl⟩
 have HQ:=Lib.hid hq
 obtain ⟨pb,hpb⟩ : ∃ pb,isIn r.players 2 8 = pb:=⟨_,rfl⟩
 have HPB:=Lib.hid hpb
 rw [hpb]
 clear hs hq hpb hnl
 obtain ⟨ab,hab⟩ : ∃ ab,areB r.nums = ab:=⟨_,rfl⟩
 obtain ⟨lb,hlb⟩ : ∃ lb,((nl : Int) == r.players) = lb:=⟨_,rfl⟩
 obtain ⟨vb,hvb⟩ : ∃ vb,isIn r.lives 1 9 = vb:=⟨_,rfl⟩
 have HAB:=Lib.hid hab
 have HLB:=Lib.hid hlb
 have HVB:=Lib.hid hvb
 rw [hab,hlb,hvb]
 clear hab hlb hvb
 obtain ⟨w0,hw0⟩ : ∃ w0,(w.alloc (.cells #[.int .i64 4,.int .i64 r.players,.int .i64 r.last,.bool r.bull,.bool r.jump,.int .i64 r.rounds,.bool r.cut,.slice va nl vc,.int .i64 r.lives,.bool r.own] 29)).alloc (.cells #[.int .i64 4,.int .i64 r.players,.int .i64 r.last,.bool r.bull,.bool r.jump,.int .i64 r.rounds,.bool r.cut,.slice va nl vc,.int .i64 r.lives,.bool r.own] 29) = w0:=⟨_,rfl⟩
 have hb0 : Below w.heap.size w w0:=by rw [← hw0]; exact (aB _ _).alloc (by simp) _
 have KQ : Hid (w0.heap[q]? = some (.cells #[.int .i64 4,.int .i64 r.players,.int .i64 r.last,.bool r.bull,.bool r.jump,.int .i64 r.rounds,.bool r.cut,.slice va nl vc,.int .i64 r.lives,.bool r.own] 29 (0,0))):=Lib.hid (by rw [← hw0,← HQ.out]; exact heap_old (World.alloc_heap_new _ _))
 have KR : Hid (w0.heap[q + 1]? = some (.cells #[.int .i64 4,.int .i64 r.players,.int .i64 r.last,.bool r.bull,.bool r.jump,.int .i64 r.rounds,.bool r.cut,.slice va nl vc,.int .i64 r.lives,.bool r.own] 29 (0,0))):=Lib.hid (by rw [← hw0,← HQ.out]; exact heap_two _ _ _)
 have HZ0 : Hid (w0.heap.size = q + 1 + 1):=Lib.hid (by rw [← hw0,← HQ.out]; simp)
 have HB0:=Lib.hid hb0
 have HW0:=Lib.hid hw0
 clear hw0 hb0
 go_enter Tryz.func72,Tryz.ntmps72
 go_wp2_with fail
 rw [HW0.out,HQ.out]
 have hcall:=areNumbers_any r.nums (.slice va nl vc) w0 (HSL.out.below HB0.out)
 rw [HAB.out] at hcall
 (with_reducible refine hcall.mono ?_)
 clear hcall
 rintro e w2 ⟨rfl,hb2⟩
 have HBW:=Lib.hid (bThen HB0.out hb2)
 replace KQ:=Lib.hid ((hb2.block _ (Array.getElem?_eq_some_iff.1 KQ.out).1).trans KQ.out)
 replace KR:=Lib.hid ((hb2.block _ (Array.getElem?_eq_some_iff.1 KR.out).1).trans KR.out)
 clear hb2 HB0
 have hq0 : ∀ j,w2.cell? ⟨q,j,none⟩ = (#[.int .i64 4,.int .i64 r.players,.int .i64 r.last,.bool r.bull,.bool r.jump,.int .i64 r.rounds,.bool r.cut,.slice va nl vc,.int .i64 r.lives,.bool r.own] : Array Value)[j]? := fun j => cell_of_heap (o:=j) KQ.out
 have u1:=hq0 1
 have u7:=hq0 7
 have u8:=hq0 8
 clear hq0
 simp at u1 u7 u8
 have hq:=HLB.out
 cases ab
 ·have hr0 : ∀ j,w2.cell? ⟨q + 1,j,none⟩ = (#[.int .i64 4,.int .i64 r.players,.int .i64 r.last,.bool r.bull,.bool r.jump,.int .i64 r.rounds,.bool r.cut,.slice va nl vc,.int .i64 r.lives,.bool r.own] : Array Value)[j]? := fun j => cell_of_heap (o:=j) KR.out
  have s7:=hr0 7
  have sf7 : w2.frozen? ⟨q + 1,7,none⟩ = false:=frozen_of_heap KR.out
  have s8:=hr0 8
  have sf8 : w2.frozen? ⟨q + 1,8,none⟩ = false:=frozen_of_heap KR.out
  have s9:=hr0 9
  have sf9 : w2.frozen? ⟨q + 1,9,none⟩ = false:=frozen_of_heap KR.out
  clear hr0
  simp at s7 s8 s9
  go_wp2_with fail
  obtain ⟨wz,hwz⟩ : ∃ wz,(((w2.setCell ⟨q + 1,7,none⟩ (.slice none 0 0)).setCell ⟨q + 1,8,none⟩ (.int .i64 0)).setCell ⟨q + 1,9,none⟩ (.bool false)) = wz:=⟨_,rfl⟩
  rw [hwz]
  have KR2 : Hid (wz.heap[q + 1]? = some (.cells #[.int .i64 4,.int .i64 r.players,.int .i64 r.last,.bool r.bull,.bool r.jump,.int .i64 r.rounds,.bool r.cut,.slice none 0 0,.int .i64 0,.bool false] 29 (0,0))):=Lib.hid (by rw [← hwz]; exact (heap_setCell_at (o:=9) (heap_setCell_at (o:=8) (heap_setCell_at (o:=7) KR.out (.slice none 0 0)) (.int .i64 0)) (.bool false)))
  have KQ2 : Hid (wz.heap[q]? = some (.cells #[.int .i64 4,.int .i64 r.players,.int .i64 r.last,.bool r.bull,.bool r.jump,.int .i64 r.rounds,.bool r.cut,.slice va nl vc,.int .i64 r.lives,.bool r.own] 29 (0,0))):=Lib.hid (by rw [← hwz]; exact ((Below.heap_setCell _ _ _ _ (by dsimp only; omega)).trans ((Below.heap_setCell _ _ _ _ (by dsimp only; omega)).trans ((Below.heap_setCell _ _ _ _ (by dsimp only; omega)).trans KQ.out))))
  have HBW2 : Hid (Below w.heap.size w wz):=Lib.hid (by rw [← hwz]; exact (((HBW.out.setCell (by dsimp only; have:=HQ.out; omega) (.slice none 0 0)).setCell (by dsimp only; have:=HQ.out; omega) (.int .i64 0)).setCell (by dsimp only; have:=HQ.out; omega) (.bool false)))
  clear hwz KR KQ HBW s7 sf7 s8 sf8 s9 sf9
  have KR:=KR2
  have KQ:=KQ2
  have HBW:=HBW2
  refine wp_region_seq 11 [.is (.agg #[.int .i64 4,.int .i64 r.players,.int .i64 r.last,.bool r.bull,.bool r.jump,.int .i64 r.rounds,.bool r.cut,.slice none 0 0,.int .i64 0,.bool false]),.is (.bool false),.is (.bool false),.is undef,.is undef,.is undef,.is undef,.is undef,.is (.bool false),.is undef,.is (.bool false)] rfl mix (by kernel_rfl) (by kernel_rfl) ?seqm
  case seqm =>
   simp only [List.take_succ_cons,List.take_zero]
   iterate 3
    refine seq_on (by rfl) (fun w3 hb3 _ => ?_) ?_
    ·have hq3:=(hb3.block _ (Array.getElem?_eq_some_iff.1 KQ.out).1).trans KQ.out
     have hr3:=(hb3.block _ (Array.getElem?_eq_some_iff.1 KR.out).1).trans KR.out
     have a0 : w3.cell? ⟨q + 1,0,none⟩ = _:=cell_of_heap (o:=0) hr3
     have a1 : w3.cell? ⟨q + 1,1,none⟩ = _:=cell_of_heap (o:=1) hr3
     have a2 : w3.cell? ⟨q + 1,2,none⟩ = _:=cell_of_heap (o:=2) hr3
     have a3 : w3.cell? ⟨q + 1,3,none⟩ = _:=cell_of_heap (o:=3) hr3
     have a4 : w3.cell? ⟨q + 1,4,none⟩ = _:=cell_of_heap (o:=4) hr3
     have a5 : w3.cell? ⟨q + 1,5,none⟩ = _:=cell_of_heap (o:=5) hr3
     have a6 : w3.cell? ⟨q + 1,6,none⟩ = _:=cell_of_heap (o:=6) hr3
     have a7 : w3.cell? ⟨q + 1,7,none⟩ = _:=cell_of_heap (o:=7) hr3
     have a8 : w3.cell? ⟨q + 1,8,none⟩ = _:=cell_of_heap (o:=8) hr3
     have a9 : w3.cell? ⟨q + 1,9,none⟩ = _:=cell_of_heap (o:=9) hr3
     have b1 : w3.cell? ⟨q,1,none⟩ = _:=cell_of_heap (o:=1) hq3
     simp [opOK,go_sem,a0,a1,a2,a3,a4,a5,a6,a7,a8,a9,Below.refl]
     try exact rfl
    simp only [Act.put,List.setIfInBounds_toArray,List.set_cons_succ,List.set_cons_zero]
   iterate 5
    refine seq_off (by rfl) ?_
    simp only [Act.put,List.setIfInBounds_toArray,List.set_cons_succ,List.set_cons_zero]
   refine seq_on (by rfl) (fun w3 hb3 _ => ?_) ?_
   ·have hq3:=(hb3.block _ (Array.getElem?_eq_some_iff.1 KQ.out).1).trans KQ.out
    have hr3:=(hb3.block _ (Array.getElem?_eq_some_iff.1 KR.out).1).trans KR.out
    have a0 : w3.cell? ⟨q + 1,0,none⟩ = _:=cell_of_heap (o:=0) hr3
    have a1 : w3.cell? ⟨q + 1,1,none⟩ = _:=cell_of_heap (o:=1) hr3
    have a2 : w3.cell? ⟨q + 1,2,none⟩ = _:=cell_of_heap (o:=2) hr3
    have a3 : w3.cell? ⟨q + 1,3,none⟩ = _:=cell_of_heap (o:=3) hr3
    have a4 : w3.cell? ⟨q + 1,4,none⟩ = _:=cell_of_heap (o:=4) hr3
    have a5 : w3.cell? ⟨q + 1,5,none⟩ = _:=cell_of_heap (o:=5) hr3
    have a6 : w3.cell? ⟨q + 1,6,none⟩ = _:=cell_of_heap (o:=6) hr3
    have a7 : w3.cell? ⟨q + 1,7,none⟩ = _:=cell_of_heap (o:=7) hr3
    have a8 : w3.cell? ⟨q + 1,8,none⟩ = _:=cell_of_heap (o:=8) hr3
    have a9 : w3.cell? ⟨q + 1,9,none⟩ = _:=cell_of_heap (o:=9) hr3
    have b1 : w3.cell? ⟨q,1,none⟩ = _:=cell_of_heap (o:=1) hq3
    simp [opOK,go_sem,Below.refl]
    try exact rfl
   simp only [Act.put,List.setIfInBounds_toArray,List.set_cons_succ,List.set_cons_zero]
   refine seq_on (by rfl) (fun w3 hb3 hH => ?_) ?_
   ·have hq3:=(hb3.block _ (Array.getElem?_eq_some_iff.1 KQ.out).1).trans KQ.out
    have hr3:=(hb3.block _ (Array.getElem?_eq_some_iff.1 KR.out).1).trans KR.out
    have a0 : w3.cell? ⟨q + 1,0,none⟩ = _:=cell_of_heap (o:=0) hr3
    have a1 : w3.cell? ⟨q + 1,1,none⟩ = _:=cell_of_heap (o:=1) hr3
    have a2 : w3.cell? ⟨q + 1,2,none⟩ = _:=cell_of_heap (o:=2) hr3
    have a3 : w3.cell? ⟨q + 1,3,none⟩ = _:=cell_of_heap (o:=3) hr3
    have a4 : w3.cell? ⟨q + 1,4,none⟩ = _:=cell_of_heap (o:=4) hr3
    have a5 : w3.cell? ⟨q + 1,5,none⟩ = _:=cell_of_heap (o:=5) hr3
    have a6 : w3.cell? ⟨q + 1,6,none⟩ = _:=cell_of_heap (o:=6) hr3
    have a7 : w3.cell? ⟨q + 1,7,none⟩ = _:=cell_of_heap (o:=7) hr3
    have a8 : w3.cell? ⟨q + 1,8,none⟩ = _:=cell_of_heap (o:=8) hr3
    have a9 : w3.cell? ⟨q + 1,9,none⟩ = _:=cell_of_heap (o:=9) hr3
    have b1 : w3.cell? ⟨q,1,none⟩ = _:=cell_of_heap (o:=1) hq3
    exact opOK_store_row 29 (.tmp 2) (.tmp 54) rfl (q + 1) #[.int .i64 4,.int .i64 r.players,.int .i64 r.last,.bool r.bull,.bool r.jump,.int .i64 r.rounds,.bool r.cut,.slice none 0 0,.int .i64 0,.bool false] (by simp [Act.eval]) (by simp [Act.eval]) 29 _ hr3 (by kernel_rfl) rfl (by simp [Value.oneCell']) ⟨rfl,by rw [setRow_self w3 (q + 1) _ _ _ hr3]; exact Below.refl _ _⟩
   simp only [Act.put]
   refine seq_on (by rfl) (fun w3 hb3 _ => ?_) ?_
   ·have hq3:=(hb3.block _ (Array.getElem?_eq_some_iff.1 KQ.out).1).trans KQ.out
    have hr3:=(hb3.block _ (Array.getElem?_eq_some_iff.1 KR.out).1).trans KR.out
    have a0 : w3.cell? ⟨q + 1,0,none⟩ = _:=cell_of_heap (o:=0) hr3
    have a1 : w3.cell? ⟨q + 1,1,none⟩ = _:=cell_of_heap (o:=1) hr3
    have a2 : w3.cell? ⟨q + 1,2,none⟩ = _:=cell_of_heap (o:=2) hr3
    have a3 : w3.cell? ⟨q + 1,3,none⟩ = _:=cell_of_heap (o:=3) hr3
    have a4 : w3.cell? ⟨q + 1,4,none⟩ = _:=cell_of_heap (o:=4) hr3
    have a5 : w3.cell? ⟨q + 1,5,none⟩ = _:=cell_of_heap (o:=5) hr3
    have a6 : w3.cell? ⟨q + 1,6,none⟩ = _:=cell_of_heap (o:=6) hr3
    have a7 : w3.cell? ⟨q + 1,7,none⟩ = _:=cell_of_heap (o:=7) hr3
    have a8 : w3.cell? ⟨q + 1,8,none⟩ = _:=cell_of_heap (o:=8) hr3
    have a9 : w3.cell? ⟨q + 1,9,none⟩ = _:=cell_of_heap (o:=9) hr3
    have b1 : w3.cell? ⟨q,1,none⟩ = _:=cell_of_heap (o:=1) hq3
    simp [opOK,go_sem,Below.refl]
    try exact rfl
   simp only [Act.put,List.setIfInBounds_toArray,List.set_cons_succ,List.set_cons_zero]
   refine seq_end fun w3 hb3 _ => ?_
   simp only [List.drop_succ_cons,List.drop_zero]
   have HB3:=Lib.hid (HBW.out.trans (hb3.mono HBW.out.size))
   have hr3:=(hb3.block _ (Array.getElem?_eq_some_iff.1 KR.out).1).trans KR.out
   have a0 : w3.cell? ⟨q + 1,0,none⟩ = _:=cell_of_heap (o:=0) hr3
   have a1 : w3.cell? ⟨q + 1,1,none⟩ = _:=cell_of_heap (o:=1) hr3
   have a2 : w3.cell? ⟨q + 1,2,none⟩ = _:=cell_of_heap (o:=2) hr3
   have a3 : w3.cell? ⟨q + 1,3,none⟩ = _:=cell_of_heap (o:=3) hr3
   have a4 : w3.cell? ⟨q + 1,4,none⟩ = _:=cell_of_heap (o:=4) hr3
   have a5 : w3.cell? ⟨q + 1,5,none⟩ = _:=cell_of_heap (o:=5) hr3
   have a6 : w3.cell? ⟨q + 1,6,none⟩ = _:=cell_of_heap (o:=6) hr3
   have a7 : w3.cell? ⟨q + 1,7,none⟩ = _:=cell_of_heap (o:=7) hr3
   have a8 : w3.cell? ⟨q + 1,8,none⟩ = _:=cell_of_heap (o:=8) hr3
   have a9 : w3.cell? ⟨q + 1,9,none⟩ = _:=cell_of_heap (o:=9) hr3
   simp at a0 a1 a2 a3 a4 a5 a6 a7 a8 a9
   clear hb3 hr3
   go_wp2
   exact bodyPost_ret (v:=.tuple #[.agg #[.int .i64 4,.int .i64 r.players,.int .i64 r.last,.bool r.bull,.bool r.jump,.int .i64 r.rounds,.bool r.cut,.slice none 0 0,.int .i64 0,.bool false],.bool false]) (by simp [results,Tryz.results72,go_sem,a0,a1,a2,a3,a4,a5,a6,a7,a8,a9]) rfl ⟨by simp,HB3.out⟩
 ·cases lb
  ·have hr0 : ∀ j,w2.cell? ⟨q + 1,j,none⟩ = (#[.int .i64 4,.int .i64 r.players,.int .i64 r.last,.bool r.bull,.bool r.jump,.int .i64 r.rounds,.bool r.cut,.slice va nl vc,.int .i64 r.lives,.bool r.own] : Array Value)[j]? := fun j => cell_of_heap (o:=j) KR.out
   have s7:=hr0 7
   have sf7 : w2.frozen? ⟨q + 1,7,none⟩ = false:=frozen_of_heap KR.out
   have s8:=hr0 8
   have sf8 : w2.frozen? ⟨q + 1,8,none⟩ = false:=frozen_of_heap KR.out
   have s9:=hr0 9
   have sf9 : w2.frozen? ⟨q + 1,9,none⟩ = false:=frozen_of_heap KR.out
   clear hr0
   simp at s7 s8 s9
   go_wp2_with fail
   obtain ⟨wz,hwz⟩ : ∃ wz,(((w2.setCell ⟨q + 1,7,none⟩ (.slice none 0 0)).setCell ⟨q + 1,8,none⟩ (.int .i64 0)).setCell ⟨q + 1,9,none⟩ (.bool false)) = wz:=⟨_,rfl⟩
   rw [hwz]
   have KR2 : Hid (wz.heap[q + 1]? = some (.cells #[.int .i64 4,.int .i64 r.players,.int .i64 r.last,.bool r.bull,.bool r.jump,.int .i64 r.rounds,.bool r.cut,.slice none 0 0,.int .i64 0,.bool false] 29 (0,0))):=Lib.hid (by rw [← hwz]; exact (heap_setCell_at (o:=9) (heap_setCell_at (o:=8) (heap_setCell_at (o:=7) KR.out (.slice none 0 0)) (.int .i64 0)) (.bool false)))
   have KQ2 : Hid (wz.heap[q]? = some (.cells #[.int .i64 4,.int .i64 r.players,.int .i64 r.last,.bool r.bull,.bool r.jump,.int .i64 r.rounds,.bool r.cut,.slice va nl vc,.int .i64 r.lives,.bool r.own] 29 (0,0))):=Lib.hid (by rw [← hwz]; exact ((Below.heap_setCell _ _ _ _ (by dsimp only; omega)).trans ((Below.heap_setCell _ _ _ _ (by dsimp only; omega)).trans ((Below.heap_setCell _ _ _ _ (by dsimp only; omega)).trans KQ.out))))
   have HBW2 : Hid (Below w.heap.size w wz):=Lib.hid (by rw [← hwz]; exact (((HBW.out.setCell (by dsimp only; have:=HQ.out; omega) (.slice none 0 0)).setCell (by dsimp only; have:=HQ.out; omega) (.int .i64 0)).setCell (by dsimp only; have:=HQ.out; omega) (.bool false)))
   clear hwz KR KQ HBW s7 sf7 s8 sf8 s9 sf9
   have KR:=KR2
   have KQ:=KQ2
   have HBW:=HBW2
   refine wp_region_seq 11 [.is (.agg #[.int .i64 4,.int .i64 r.players,.int .i64 r.last,.bool r.bull,.bool r.jump,.int .i64 r.rounds,.bool r.cut,.slice none 0 0,.int .i64 0,.bool false]),.is (.bool false),.is (.bool false),.is undef,.is undef,.is undef,.is undef,.is undef,.is (.bool false),.is undef,.is (.bool false)] rfl mix (by kernel_rfl) (by kernel_rfl) ?seqm
   case seqm =>
    simp only [List.take_succ_cons,List.take_zero]
    iterate 3
     refine seq_on (by rfl) (fun w3 hb3 _ => ?_) ?_
     ·have hq3:=(hb3.block _ (Array.getElem?_eq_some_iff.1 KQ.out).1).trans KQ.out
      have hr3:=(hb3.block _ (Array.getElem?_eq_some_iff.1 KR.out).1).trans KR.out
      have a0 : w3.cell? ⟨q + 1,0,none⟩ = _:=cell_of_heap (o:=0) hr3
      have a1 : w3.cell? ⟨q + 1,1,none⟩ = _:=cell_of_heap (o:=1) hr3
      have a2 : w3.cell? ⟨q + 1,2,none⟩ = _:=cell_of_heap (o:=2) hr3
      have a3 : w3.cell? ⟨q + 1,3,none⟩ = _:=cell_of_heap (o:=3) hr3
      have a4 : w3.cell? ⟨q + 1,4,none⟩ = _:=cell_of_heap (o:=4) hr3
      have a5 : w3.cell? ⟨q + 1,5,none⟩ = _:=cell_of_heap (o:=5) hr3
      have a6 : w3.cell? ⟨q + 1,6,none⟩ = _:=cell_of_heap (o:=6) hr3
      have a7 : w3.cell? ⟨q + 1,7,none⟩ = _:=cell_of_heap (o:=7) hr3
      have a8 : w3.cell? ⟨q + 1,8,none⟩ = _:=cell_of_heap (o:=8) hr3
      have a9 : w3.cell? ⟨q + 1,9,none⟩ = _:=cell_of_heap (o:=9) hr3
      have b1 : w3.cell? ⟨q,1,none⟩ = _:=cell_of_heap (o:=1) hq3
      simp [opOK,go_sem,a0,a1,a2,a3,a4,a5,a6,a7,a8,a9,Below.refl]
      try exact rfl
     simp only [Act.put,List.setIfInBounds_toArray,List.set_cons_succ,List.set_cons_zero]
    iterate 5
     refine seq_off (by rfl) ?_
     simp only [Act.put,List.setIfInBounds_toArray,List.set_cons_succ,List.set_cons_zero]
    refine seq_on (by rfl) (fun w3 hb3 _ => ?_) ?_
    ·have hq3:=(hb3.block _ (Array.getElem?_eq_some_iff.1 KQ.out).1).trans KQ.out
     have hr3:=(hb3.block _ (Array.getElem?_eq_some_iff.1 KR.out).1).trans KR.out
     have a0 : w3.cell? ⟨q + 1,0,none⟩ = _:=cell_of_heap (o:=0) hr3
     have a1 : w3.cell? ⟨q + 1,1,none⟩ = _:=cell_of_heap (o:=1) hr3
     have a2 : w3.cell? ⟨q + 1,2,none⟩ = _:=cell_of_heap (o:=2) hr3
     have a3 : w3.cell? ⟨q + 1,3,none⟩ = _:=cell_of_heap (o:=3) hr3
     have a4 : w3.cell? ⟨q + 1,4,none⟩ = _:=cell_of_heap (o:=4) hr3
     have a5 : w3.cell? ⟨q + 1,5,none⟩ = _:=cell_of_heap (o:=5) hr3
     have a6 : w3.cell? ⟨q + 1,6,none⟩ = _:=cell_of_heap (o:=6) hr3
     have a7 : w3.cell? ⟨q + 1,7,none⟩ = _:=cell_of_heap (o:=7) hr3
     have a8 : w3.cell? ⟨q + 1,8,none⟩ = _:=cell_of_heap (o:=8) hr3
     have a9 : w3.cell? ⟨q + 1,9,none⟩ = _:=cell_of_heap (o:=9) hr3
     have b1 : w3.cell? ⟨q,1,none⟩ = _:=cell_of_heap (o:=1) hq3
     simp [opOK,go_sem,Below.refl]
     try exact rfl
    simp only [Act.put,List.setIfInBounds_toArray,List.set_cons_succ,List.set_cons_zero]
    refine seq_on (by rfl) (fun w3 hb3 hH => ?_) ?_
    ·have hq3:=(hb3.block _ (Array.getElem?_eq_some_iff.1 KQ.out).1).trans KQ.out
     have hr3:=(hb3.block _ (Array.getElem?_eq_some_iff.1 KR.out).1).trans KR.out
     have a0 : w3.cell? ⟨q + 1,0,none⟩ = _:=cell_of_heap (o:=0) hr3
     have a1 : w3.cell? ⟨q + 1,1,none⟩ = _:=cell_of_heap (o:=1) hr3
     have a2 : w3.cell? ⟨q + 1,2,none⟩ = _:=cell_of_heap (o:=2) hr3
     have a3 : w3.cell? ⟨q + 1,3,none⟩ = _:=cell_of_heap (o:=3) hr3
     have a4 : w3.cell? ⟨q + 1,4,none⟩ = _:=cell_of_heap (o:=4) hr3
     have a5 : w3.cell? ⟨q + 1,5,none⟩ = _:=cell_of_heap (o:=5) hr3
     have a6 : w3.cell? ⟨q + 1,6,none⟩ = _:=cell_of_heap (o:=6) hr3
     have a7 : w3.cell? ⟨q + 1,7,none⟩ = _:=cell_of_heap (o:=7) hr3
     have a8 : w3.cell? ⟨q + 1,8,none⟩ = _:=cell_of_heap (o:=8) hr3
     have a9 : w3.cell? ⟨q + 1,9,none⟩ = _:=cell_of_heap (o:=9) hr3
     have b1 : w3.cell? ⟨q,1,none⟩ = _:=cell_of_heap (o:=1) hq3
     exact opOK_store_row 29 (.tmp 2) (.tmp 54) rfl (q + 1) #[.int .i64 4,.int .i64 r.players,.int .i64 r.last,.bool r.bull,.bool r.jump,.int .i64 r.rounds,.bool r.cut,.slice none 0 0,.int .i64 0,.bool false] (by simp [Act.eval]) (by simp [Act.eval]) 29 _ hr3 (by kernel_rfl) rfl (by simp [Value.oneCell']) ⟨rfl,by rw [setRow_self w3 (q + 1) _ _ _ hr3]; exact Below.refl _ _⟩
    simp only [Act.put]
    refine seq_on (by rfl) (fun w3 hb3 _ => ?_) ?_
    ·have hq3:=(hb3.block _ (Array.getElem?_eq_some_iff.1 KQ.out).1).trans KQ.out
     have hr3:=(hb3.block _ (Array.getElem?_eq_some_iff.1 KR.out).1).trans KR.out
     have a0 : w3.cell? ⟨q + 1,0,none⟩ = _:=cell_of_heap (o:=0) hr3
     have a1 : w3.cell? ⟨q + 1,1,none⟩ = _:=cell_of_heap (o:=1) hr3
     have a2 : w3.cell? ⟨q + 1,2,none⟩ = _:=cell_of_heap (o:=2) hr3
     have a3 : w3.cell? ⟨q + 1,3,none⟩ = _:=cell_of_heap (o:=3) hr3
     have a4 : w3.cell? ⟨q + 1,4,none⟩ = _:=cell_of_heap (o:=4) hr3
     have a5 : w3.cell? ⟨q + 1,5,none⟩ = _:=cell_of_heap (o:=5) hr3
     have a6 : w3.cell? ⟨q + 1,6,none⟩ = _:=cell_of_heap (o:=6) hr3
     have a7 : w3.cell? ⟨q + 1,7,none⟩ = _:=cell_of_heap (o:=7) hr3
     have a8 : w3.cell? ⟨q + 1,8,none⟩ = _:=cell_of_heap (o:=8) hr3
     have a9 : w3.cell? ⟨q + 1,9,none⟩ = _:=cell_of_heap (o:=9) hr3
     have b1 : w3.cell? ⟨q,1,none⟩ = _:=cell_of_heap (o:=1) hq3
     simp [opOK,go_sem,Below.refl]
     try exact rfl
    simp only [Act.put,List.setIfInBounds_toArray,List.set_cons_succ,List.set_cons_zero]
    refine seq_end fun w3 hb3 _ => ?_
    simp only [List.drop_succ_cons,List.drop_zero]
    have HB3:=Lib.hid (HBW.out.trans (hb3.mono HBW.out.size))
    have hr3:=(hb3.block _ (Array.getElem?_eq_some_iff.1 KR.out).1).trans KR.out
    have a0 : w3.cell? ⟨q + 1,0,none⟩ = _:=cell_of_heap (o:=0) hr3
    have a1 : w3.cell? ⟨q + 1,1,none⟩ = _:=cell_of_heap (o:=1) hr3
    have a2 : w3.cell? ⟨q + 1,2,none⟩ = _:=cell_of_heap (o:=2) hr3
    have a3 : w3.cell? ⟨q + 1,3,none⟩ = _:=cell_of_heap (o:=3) hr3
    have a4 : w3.cell? ⟨q + 1,4,none⟩ = _:=cell_of_heap (o:=4) hr3
    have a5 : w3.cell? ⟨q + 1,5,none⟩ = _:=cell_of_heap (o:=5) hr3
    have a6 : w3.cell? ⟨q + 1,6,none⟩ = _:=cell_of_heap (o:=6) hr3
    have a7 : w3.cell? ⟨q + 1,7,none⟩ = _:=cell_of_heap (o:=7) hr3
    have a8 : w3.cell? ⟨q + 1,8,none⟩ = _:=cell_of_heap (o:=8) hr3
    have a9 : w3.cell? ⟨q + 1,9,none⟩ = _:=cell_of_heap (o:=9) hr3
    simp at a0 a1 a2 a3 a4 a5 a6 a7 a8 a9
    clear hb3 hr3
    go_wp2
    exact bodyPost_ret (v:=.tuple #[.agg #[.int .i64 4,.int .i64 r.players,.int .i64 r.last,.bool r.bull,.bool r.jump,.int .i64 r.rounds,.bool r.cut,.slice none 0 0,.int .i64 0,.bool false],.bool false]) (by simp [results,Tryz.results72,go_sem,a0,a1,a2,a3,a4,a5,a6,a7,a8,a9]) rfl ⟨by simp,HB3.out⟩
  ·go_wp2_with fail
   have hz2 : w2.heap.size = w2.heap.size:=rfl
   (with_reducible refine (within_one' 1 9 r.lives vb HVB _ _ (Sl.new1 (fun _ => True) w2 trivial 3 (.int .i64 r.lives))).mono ?_)
   rintro e w4 ⟨rfl,hb2⟩
   replace hb2:=bThen (aB w2 _) hb2
   replace HBW:=Lib.hid (HBW.out.trans (hb2.mono HBW.out.size))
   replace KQ:=Lib.hid ((hb2.block _ (Array.getElem?_eq_some_iff.1 KQ.out).1).trans KQ.out)
   replace KR:=Lib.hid ((hb2.block _ (Array.getElem?_eq_some_iff.1 KR.out).1).trans KR.out)
   clear hb2 u1 u7 u8 hz2
   cases vb
   ·have hr0 : ∀ j,w4.cell? ⟨q + 1,j,none⟩ = (#[.int .i64 4,.int .i64 r.players,.int .i64 r.last,.bool r.bull,.bool r.jump,.int .i64 r.rounds,.bool r.cut,.slice va nl vc,.int .i64 r.lives,.bool r.own] : Array Value)[j]? := fun j => cell_of_heap (o:=j) KR.out
    have s7:=hr0 7
    have sf7 : w4.frozen? ⟨q + 1,7,none⟩ = false:=frozen_of_heap KR.out
    have s8:=hr0 8
    have sf8 : w4.frozen? ⟨q + 1,8,none⟩ = false:=frozen_of_heap KR.out
    have s9:=hr0 9
    have sf9 : w4.frozen? ⟨q + 1,9,none⟩ = false:=frozen_of_heap KR.out
    clear hr0
    simp at s7 s8 s9
    go_wp2_with fail
    obtain ⟨wz,hwz⟩ : ∃ wz,(((w4.setCell ⟨q + 1,7,none⟩ (.slice none 0 0)).setCell ⟨q + 1,8,none⟩ (.int .i64 0)).setCell ⟨q + 1,9,none⟩ (.bool false)) = wz:=⟨_,rfl⟩
    rw [hwz]
    have KR2 : Hid (wz.heap[q + 1]? = some (.cells #[.int .i64 4,.int .i64 r.players,.int .i64 r.last,.bool r.bull,.bool r.jump,.int .i64 r.rounds,.bool r.cut,.slice none 0 0,.int .i64 0,.bool false] 29 (0,0))):=Lib.hid (by rw [← hwz]; exact (heap_setCell_at (o:=9) (heap_setCell_at (o:=8) (heap_setCell_at (o:=7) KR.out (.slice none 0 0)) (.int .i64 0)) (.bool false)))
    have KQ2 : Hid (wz.heap[q]? = some (.cells #[.int .i64 4,.int .i64 r.players,.int .i64 r.last,.bool r.bull,.bool r.jump,.int .i64 r.rounds,.bool r.cut,.slice va nl vc,.int .i64 r.lives,.bool r.own] 29 (0,0))):=Lib.hid (by rw [← hwz]; exact ((Below.heap_setCell _ _ _ _ (by dsimp only; omega)).trans ((Below.heap_setCell _ _ _ _ (by dsimp only; omega)).trans ((Below.heap_setCell _ _ _ _ (by dsimp only; omega)).trans KQ.out))))
    have HBW2 : Hid (Below w.heap.size w wz):=Lib.hid (by rw [← hwz]; exact (((HBW.out.setCell (by dsimp only; have:=HQ.out; omega) (.slice none 0 0)).setCell (by dsimp only; have:=HQ.out; omega) (.int .i64 0)).setCell (by dsimp only; have:=HQ.out; omega) (.bool false)))
    clear hwz KR KQ HBW s7 sf7 s8 sf8 s9 sf9
    have KR:=KR2
    have KQ:=KQ2
    have HBW:=HBW2
    refine wp_region_seq 11 [.is (.agg #[.int .i64 4,.int .i64 r.players,.int .i64 r.last,.bool r.bull,.bool r.jump,.int .i64 r.rounds,.bool r.cut,.slice none 0 0,.int .i64 0,.bool false]),.is (.bool false),.is (.bool false),.is undef,.is undef,.is undef,.is undef,.is undef,.is (.bool false),.is undef,.is (.bool false)] rfl mix (by kernel_rfl) (by kernel_rfl) ?seqm
    case seqm =>
     simp only [List.take_succ_cons,List.take_zero]
     iterate 3
      refine seq_on (by rfl) (fun w3 hb3 _ => ?_) ?_
      ·have hq3:=(hb3.block _ (Array.getElem?_eq_some_iff.1 KQ.out).1).trans KQ.out
       have hr3:=(hb3.block _ (Array.getElem?_eq_some_iff.1 KR.out).1).trans KR.out
       have a0 : w3.cell? ⟨q + 1,0,none⟩ = _:=cell_of_heap (o:=0) hr3
       have a1 : w3.cell? ⟨q + 1,1,none⟩ = _:=cell_of_heap (o:=1) hr3
       have a2 : w3.cell? ⟨q + 1,2,none⟩ = _:=cell_of_heap (o:=2) hr3
       have a3 : w3.cell? ⟨q + 1,3,none⟩ = _:=cell_of_heap (o:=3) hr3
       have a4 : w3.cell? ⟨q + 1,4,none⟩ = _:=cell_of_heap (o:=4) hr3
       have a5 : w3.cell? ⟨q + 1,5,none⟩ = _:=cell_of_heap (o:=5) hr3
       have a6 : w3.cell? ⟨q + 1,6,none⟩ = _:=cell_of_heap (o:=6) hr3
       have a7 : w3.cell? ⟨q + 1,7,none⟩ = _:=cell_of_heap (o:=7) hr3
       have a8 : w3.cell? ⟨q + 1,8,none⟩ = _:=cell_of_heap (o:=8) hr3
       have a9 : w3.cell? ⟨q + 1,9,none⟩ = _:=cell_of_heap (o:=9) hr3
       have b1 : w3.cell? ⟨q,1,none⟩ = _:=cell_of_heap (o:=1) hq3
       simp [opOK,go_sem,a0,a1,a2,a3,a4,a5,a6,a7,a8,a9,Below.refl]
       try exact rfl
      simp only [Act.put,List.setIfInBounds_toArray,List.set_cons_succ,List.set_cons_zero]
     iterate 5
      refine seq_off (by rfl) ?_
      simp only [Act.put,List.setIfInBounds_toArray,List.set_cons_succ,List.set_cons_zero]
     refine seq_on (by rfl) (fun w3 hb3 _ => ?_) ?_
     ·have hq3:=(hb3.block _ (Array.getElem?_eq_some_iff.1 KQ.out).1).trans KQ.out
      have hr3:=(hb3.block _ (Array.getElem?_eq_some_iff.1 KR.out).1).trans KR.out
      have a0 : w3.cell? ⟨q + 1,0,none⟩ = _:=cell_of_heap (o:=0) hr3
      have a1 : w3.cell? ⟨q + 1,1,none⟩ = _:=cell_of_heap (o:=1) hr3
      have a2 : w3.cell? ⟨q + 1,2,none⟩ = _:=cell_of_heap (o:=2) hr3
      have a3 : w3.cell? ⟨q + 1,3,none⟩ = _:=cell_of_heap (o:=3) hr3
      have a4 : w3.cell? ⟨q + 1,4,none⟩ = _:=cell_of_heap (o:=4) hr3
      have a5 : w3.cell? ⟨q + 1,5,none⟩ = _:=cell_of_heap (o:=5) hr3
      have a6 : w3.cell? ⟨q + 1,6,none⟩ = _:=cell_of_heap (o:=6) hr3
      have a7 : w3.cell? ⟨q + 1,7,none⟩ = _:=cell_of_heap (o:=7) hr3
      have a8 : w3.cell? ⟨q + 1,8,none⟩ = _:=cell_of_heap (o:=8) hr3
      have a9 : w3.cell? ⟨q + 1,9,none⟩ = _:=cell_of_heap (o:=9) hr3
      have b1 : w3.cell? ⟨q,1,none⟩ = _:=cell_of_heap (o:=1) hq3
      simp [opOK,go_sem,Below.refl]
      try exact rfl
     simp only [Act.put,List.setIfInBounds_toArray,List.set_cons_succ,List.set_cons_zero]
     refine seq_on (by rfl) (fun w3 hb3 hH => ?_) ?_
     ·have hq3:=(hb3.block _ (Array.getElem?_eq_some_iff.1 KQ.out).1).trans KQ.out
      have hr3:=(hb3.block _ (Array.getElem?_eq_some_iff.1 KR.out).1).trans KR.out
      have a0 : w3.cell? ⟨q + 1,0,none⟩ = _:=cell_of_heap (o:=0) hr3
      have a1 : w3.cell? ⟨q + 1,1,none⟩ = _:=cell_of_heap (o:=1) hr3
      have a2 : w3.cell? ⟨q + 1,2,none⟩ = _:=cell_of_heap (o:=2) hr3
      have a3 : w3.cell? ⟨q + 1,3,none⟩ = _:=cell_of_heap (o:=3) hr3
      have a4 : w3.cell? ⟨q + 1,4,none⟩ = _:=cell_of_heap (o:=4) hr3
      have a5 : w3.cell? ⟨q + 1,5,none⟩ = _:=cell_of_heap (o:=5) hr3
      have a6 : w3.cell? ⟨q + 1,6,none⟩ = _:=cell_of_heap (o:=6) hr3
      have a7 : w3.cell? ⟨q + 1,7,none⟩ = _:=cell_of_heap (o:=7) hr3
      have a8 : w3.cell? ⟨q + 1,8,none⟩ = _:=cell_of_heap (o:=8) hr3
      have a9 : w3.cell? ⟨q + 1,9,none⟩ = _:=cell_of_heap (o:=9) hr3
      have b1 : w3.cell? ⟨q,1,none⟩ = _:=cell_of_heap (o:=1) hq3
      exact opOK_store_row 29 (.tmp 2) (.tmp 54) rfl (q + 1) #[.int .i64 4,.int .i64 r.players,.int .i64 r.last,.bool r.bull,.bool r.jump,.int .i64 r.rounds,.bool r.cut,.slice none 0 0,.int .i64 0,.bool false] (by simp [Act.eval]) (by simp [Act.eval]) 29 _ hr3 (by kernel_rfl) rfl (by simp [Value.oneCell']) ⟨rfl,by rw [setRow_self w3 (q + 1) _ _ _ hr3]; exact Below.refl _ _⟩
     simp only [Act.put]
     refine seq_on (by rfl) (fun w3 hb3 _ => ?_) ?_
     ·have hq3:=(hb3.block _ (Array.getElem?_eq_some_iff.1 KQ.out).1).trans KQ.out
      have hr3:=(hb3.block _ (Array.getElem?_eq_some_iff.1 KR.out).1).trans KR.out
      have a0 : w3.cell? ⟨q + 1,0,none⟩ = _:=cell_of_heap (o:=0) hr3
      have a1 : w3.cell? ⟨q + 1,1,none⟩ = _:=cell_of_heap (o:=1) hr3
      have a2 : w3.cell? ⟨q + 1,2,none⟩ = _:=cell_of_heap (o:=2) hr3
      have a3 : w3.cell? ⟨q + 1,3,none⟩ = _:=cell_of_heap (o:=3) hr3
      have a4 : w3.cell? ⟨q + 1,4,none⟩ = _:=cell_of_heap (o:=4) hr3
      have a5 : w3.cell? ⟨q + 1,5,none⟩ = _:=cell_of_heap (o:=5) hr3
      have a6 : w3.cell? ⟨q + 1,6,none⟩ = _:=cell_of_heap (o:=6) hr3
      have a7 : w3.cell? ⟨q + 1,7,none⟩ = _:=cell_of_heap (o:=7) hr3
      have a8 : w3.cell? ⟨q + 1,8,none⟩ = _:=cell_of_heap (o:=8) hr3
      have a9 : w3.cell? ⟨q + 1,9,none⟩ = _:=cell_of_heap (o:=9) hr3
      have b1 : w3.cell? ⟨q,1,none⟩ = _:=cell_of_heap (o:=1) hq3
      simp [opOK,go_sem,Below.refl]
      try exact rfl
     simp only [Act.put,List.setIfInBounds_toArray,List.set_cons_succ,List.set_cons_zero]
     refine seq_end fun w3 hb3 _ => ?_
     simp only [List.drop_succ_cons,List.drop_zero]
     have HB3:=Lib.hid (HBW.out.trans (hb3.mono HBW.out.size))
     have hr3:=(hb3.block _ (Array.getElem?_eq_some_iff.1 KR.out).1).trans KR.out
     have a0 : w3.cell? ⟨q + 1,0,none⟩ = _:=cell_of_heap (o:=0) hr3
     have a1 : w3.cell? ⟨q + 1,1,none⟩ = _:=cell_of_heap (o:=1) hr3
     have a2 : w3.cell? ⟨q + 1,2,none⟩ = _:=cell_of_heap (o:=2) hr3
     have a3 : w3.cell? ⟨q + 1,3,none⟩ = _:=cell_of_heap (o:=3) hr3
     have a4 : w3.cell? ⟨q + 1,4,none⟩ = _:=cell_of_heap (o:=4) hr3
     have a5 : w3.cell? ⟨q + 1,5,none⟩ = _:=cell_of_heap (o:=5) hr3
     have a6 : w3.cell? ⟨q + 1,6,none⟩ = _:=cell_of_heap (o:=6) hr3
     have a7 : w3.cell? ⟨q + 1,7,none⟩ = _:=cell_of_heap (o:=7) hr3
     have a8 : w3.cell? ⟨q + 1,8,none⟩ = _:=cell_of_heap (o:=8) hr3
     have a9 : w3.cell? ⟨q + 1,9,none⟩ = _:=cell_of_heap (o:=9) hr3
     simp at a0 a1 a2 a3 a4 a5 a6 a7 a8 a9
     clear hb3 hr3
     go_wp2
     exact bodyPost_ret (v:=.tuple #[.agg #[.int .i64 4,.int .i64 r.players,.int .i64 r.last,.bool r.bull,.bool r.jump,.int .i64 r.rounds,.bool r.cut,.slice none 0 0,.int .i64 0,.bool false],.bool false]) (by simp [results,Tryz.results72,go_sem,a0,a1,a2,a3,a4,a5,a6,a7,a8,a9]) rfl ⟨by simp,HB3.out⟩
   ·have hr0 : ∀ j,w4.cell? ⟨q + 1,j,none⟩ = (#[.int .i64 4,.int .i64 r.players,.int .i64 r.last,.bool r.bull,.bool r.jump,.int .i64 r.rounds,.bool r.cut,.slice va nl vc,.int .i64 r.lives,.bool r.own] : Array Value)[j]? := fun j => cell_of_heap (o:=j) KR.out
    have s7:=hr0 7
    have sf7 : w4.frozen? ⟨q + 1,7,none⟩ = false:=frozen_of_heap KR.out
    have s8:=hr0 8
    have sf8 : w4.frozen? ⟨q + 1,8,none⟩ = false:=frozen_of_heap KR.out
    have s9:=hr0 9
    have sf9 : w4.frozen? ⟨q + 1,9,none⟩ = false:=frozen_of_heap KR.out
    clear hr0
    simp at s7 s8 s9
    go_wp2_with fail
    obtain ⟨wz,hwz⟩ : ∃ wz,(((w4.setCell ⟨q + 1,7,none⟩ (.slice none 0 0)).setCell ⟨q + 1,8,none⟩ (.int .i64 0)).setCell ⟨q + 1,9,none⟩ (.bool false)) = wz:=⟨_,rfl⟩
    rw [hwz]
    have KR2 : Hid (wz.heap[q + 1]? = some (.cells #[.int .i64 4,.int .i64 r.players,.int .i64 r.last,.bool r.bull,.bool r.jump,.int .i64 r.rounds,.bool r.cut,.slice none 0 0,.int .i64 0,.bool false] 29 (0,0))):=Lib.hid (by rw [← hwz]; exact (heap_setCell_at (o:=9) (heap_setCell_at (o:=8) (heap_setCell_at (o:=7) KR.out (.slice none 0 0)) (.int .i64 0)) (.bool false)))
    have KQ2 : Hid (wz.heap[q]? = some (.cells #[.int .i64 4,.int .i64 r.players,.int .i64 r.last,.bool r.bull,.bool r.jump,.int .i64 r.rounds,.bool r.cut,.slice va nl vc,.int .i64 r.lives,.bool r.own] 29 (0,0))):=Lib.hid (by rw [← hwz]; exact ((Below.heap_setCell _ _ _ _ (by dsimp only; omega)).trans ((Below.heap_setCell _ _ _ _ (by dsimp only; omega)).trans ((Below.heap_setCell _ _ _ _ (by dsimp only; omega)).trans KQ.out))))
    have HBW2 : Hid (Below w.heap.size w wz):=Lib.hid (by rw [← hwz]; exact (((HBW.out.setCell (by dsimp only; have:=HQ.out; omega) (.slice none 0 0)).setCell (by dsimp only; have:=HQ.out; omega) (.int .i64 0)).setCell (by dsimp only; have:=HQ.out; omega) (.bool false)))
    clear hwz KR KQ HBW s7 sf7 s8 sf8 s9 sf9
    have KR:=KR2
    have KQ:=KQ2
    have HBW:=HBW2
    refine wp_region_seq 11 [.is (.agg #[.int .i64 4,.int .i64 r.players,.int .i64 r.last,.bool r.bull,.bool r.jump,.int .i64 r.rounds,.bool r.cut,.slice none 0 0,.int .i64 0,.bool false]),.is (.bool true),.is (.bool true),.is (.int .i64 2),.is (.pointer (some ⟨q,1,none⟩)),.is (.int .i64 r.players),kSl 3 [.int .i64 r.players],.is (.bool pb),.is (.bool pb),.is undef,.is (.bool pb)] rfl mix (by kernel_rfl) (by kernel_rfl) ?seqm
    case seqm =>
     simp only [List.take_succ_cons,List.take_zero]
     iterate 6
      refine seq_on (by rfl) (fun w3 hb3 _ => ?_) ?_
      ·have hq3:=(hb3.block _ (Array.getElem?_eq_some_iff.1 KQ.out).1).trans KQ.out
       have hr3:=(hb3.block _ (Array.getElem?_eq_some_iff.1 KR.out).1).trans KR.out
       have a0 : w3.cell? ⟨q + 1,0,none⟩ = _:=cell_of_heap (o:=0) hr3
       have a1 : w3.cell? ⟨q + 1,1,none⟩ = _:=cell_of_heap (o:=1) hr3
       have a2 : w3.cell? ⟨q + 1,2,none⟩ = _:=cell_of_heap (o:=2) hr3
       have a3 : w3.cell? ⟨q + 1,3,none⟩ = _:=cell_of_heap (o:=3) hr3
       have a4 : w3.cell? ⟨q + 1,4,none⟩ = _:=cell_of_heap (o:=4) hr3
       have a5 : w3.cell? ⟨q + 1,5,none⟩ = _:=cell_of_heap (o:=5) hr3
       have a6 : w3.cell? ⟨q + 1,6,none⟩ = _:=cell_of_heap (o:=6) hr3
       have a7 : w3.cell? ⟨q + 1,7,none⟩ = _:=cell_of_heap (o:=7) hr3
       have a8 : w3.cell? ⟨q + 1,8,none⟩ = _:=cell_of_heap (o:=8) hr3
       have a9 : w3.cell? ⟨q + 1,9,none⟩ = _:=cell_of_heap (o:=9) hr3
       have b1 : w3.cell? ⟨q,1,none⟩ = _:=cell_of_heap (o:=1) hq3
       simp [opOK,go_sem,a0,a1,a2,a3,a4,a5,a6,a7,a8,a9,b1,Below.refl]
       try exact rfl
      simp only [Act.put,List.setIfInBounds_toArray,List.set_cons_succ,List.set_cons_zero]
     refine seq_new ⟨_,0,rfl⟩ (by rfl) (fun w3 hb3 hH => ?_) ?_
     ·have hq3:=(hb3.block _ (Array.getElem?_eq_some_iff.1 KQ.out).1).trans KQ.out
      have hr3:=(hb3.block _ (Array.getElem?_eq_some_iff.1 KR.out).1).trans KR.out
      have a0 : w3.cell? ⟨q + 1,0,none⟩ = _:=cell_of_heap (o:=0) hr3
      have a1 : w3.cell? ⟨q + 1,1,none⟩ = _:=cell_of_heap (o:=1) hr3
      have a2 : w3.cell? ⟨q + 1,2,none⟩ = _:=cell_of_heap (o:=2) hr3
      have a3 : w3.cell? ⟨q + 1,3,none⟩ = _:=cell_of_heap (o:=3) hr3
      have a4 : w3.cell? ⟨q + 1,4,none⟩ = _:=cell_of_heap (o:=4) hr3
      have a5 : w3.cell? ⟨q + 1,5,none⟩ = _:=cell_of_heap (o:=5) hr3
      have a6 : w3.cell? ⟨q + 1,6,none⟩ = _:=cell_of_heap (o:=6) hr3
      have a7 : w3.cell? ⟨q + 1,7,none⟩ = _:=cell_of_heap (o:=7) hr3
      have a8 : w3.cell? ⟨q + 1,8,none⟩ = _:=cell_of_heap (o:=8) hr3
      have a9 : w3.cell? ⟨q + 1,9,none⟩ = _:=cell_of_heap (o:=9) hr3
      have b1 : w3.cell? ⟨q,1,none⟩ = _:=cell_of_heap (o:=1) hq3
      refine opOK_val (v:=.slice (some ⟨w3.heap.size,0,none⟩) 1 1) (w':=w3.alloc (.cells #[.int .i64 r.players] 3)) (by simp [go_sem,execOp]) ⟨aB _ _,⟨_,rfl⟩,_,rfl,World.alloc_heap_new _ _⟩
     rintro v ⟨bs,rfl⟩
     simp only [Act.put,List.setIfInBounds_toArray,List.set_cons_succ,List.set_cons_zero]
     refine seq_on (by rfl) (fun w3 hb3 hH => ?_) ?_
     ·have hq3:=(hb3.block _ (Array.getElem?_eq_some_iff.1 KQ.out).1).trans KQ.out
      have hr3:=(hb3.block _ (Array.getElem?_eq_some_iff.1 KR.out).1).trans KR.out
      have a0 : w3.cell? ⟨q + 1,0,none⟩ = _:=cell_of_heap (o:=0) hr3
      have a1 : w3.cell? ⟨q + 1,1,none⟩ = _:=cell_of_heap (o:=1) hr3
      have a2 : w3.cell? ⟨q + 1,2,none⟩ = _:=cell_of_heap (o:=2) hr3
      have a3 : w3.cell? ⟨q + 1,3,none⟩ = _:=cell_of_heap (o:=3) hr3
      have a4 : w3.cell? ⟨q + 1,4,none⟩ = _:=cell_of_heap (o:=4) hr3
      have a5 : w3.cell? ⟨q + 1,5,none⟩ = _:=cell_of_heap (o:=5) hr3
      have a6 : w3.cell? ⟨q + 1,6,none⟩ = _:=cell_of_heap (o:=6) hr3
      have a7 : w3.cell? ⟨q + 1,7,none⟩ = _:=cell_of_heap (o:=7) hr3
      have a8 : w3.cell? ⟨q + 1,8,none⟩ = _:=cell_of_heap (o:=8) hr3
      have a9 : w3.cell? ⟨q + 1,9,none⟩ = _:=cell_of_heap (o:=9) hr3
      have b1 : w3.cell? ⟨q,1,none⟩ = _:=cell_of_heap (o:=1) hq3
      have hs:=hH ⟨6,.data⟩ (by simp) rfl
      simp [addH,kSl] at hs
      refine opOK_call (f:=35) (args:=#[.int .i64 2,.int .i64 8,.slice (some ⟨bs,0,none⟩) 1 1]) (by simp [go_sem]) ?_
      exact (within_one' 2 8 r.players pb HPB _ w3 (sl_blk (t:=3) (xs:=[.int .i64 r.players]) hs (by simp [maxLen]))).mono fun e W' ⟨he,hb⟩ => ⟨_,he,rfl,hb⟩
     simp only [Act.put,List.setIfInBounds_toArray,List.set_cons_succ,List.set_cons_zero]
     refine seq_on (by rfl) (fun w3 hb3 _ => ?_) ?_
     ·have hq3:=(hb3.block _ (Array.getElem?_eq_some_iff.1 KQ.out).1).trans KQ.out
      have hr3:=(hb3.block _ (Array.getElem?_eq_some_iff.1 KR.out).1).trans KR.out
      have a0 : w3.cell? ⟨q + 1,0,none⟩ = _:=cell_of_heap (o:=0) hr3
      have a1 : w3.cell? ⟨q + 1,1,none⟩ = _:=cell_of_heap (o:=1) hr3
      have a2 : w3.cell? ⟨q + 1,2,none⟩ = _:=cell_of_heap (o:=2) hr3
      have a3 : w3.cell? ⟨q + 1,3,none⟩ = _:=cell_of_heap (o:=3) hr3
      have a4 : w3.cell? ⟨q + 1,4,none⟩ = _:=cell_of_heap (o:=4) hr3
      have a5 : w3.cell? ⟨q + 1,5,none⟩ = _:=cell_of_heap (o:=5) hr3
      have a6 : w3.cell? ⟨q + 1,6,none⟩ = _:=cell_of_heap (o:=6) hr3
      have a7 : w3.cell? ⟨q + 1,7,none⟩ = _:=cell_of_heap (o:=7) hr3
      have a8 : w3.cell? ⟨q + 1,8,none⟩ = _:=cell_of_heap (o:=8) hr3
      have a9 : w3.cell? ⟨q + 1,9,none⟩ = _:=cell_of_heap (o:=9) hr3
      have b1 : w3.cell? ⟨q,1,none⟩ = _:=cell_of_heap (o:=1) hq3
      simp [opOK,go_sem,Below.refl]
      try exact rfl
     simp only [Act.put,List.setIfInBounds_toArray,List.set_cons_succ,List.set_cons_zero]
     refine seq_on (by rfl) (fun w3 hb3 hH => ?_) ?_
     ·have hq3:=(hb3.block _ (Array.getElem?_eq_some_iff.1 KQ.out).1).trans KQ.out
      have hr3:=(hb3.block _ (Array.getElem?_eq_some_iff.1 KR.out).1).trans KR.out
      have a0 : w3.cell? ⟨q + 1,0,none⟩ = _:=cell_of_heap (o:=0) hr3
      have a1 : w3.cell? ⟨q + 1,1,none⟩ = _:=cell_of_heap (o:=1) hr3
      have a2 : w3.cell? ⟨q + 1,2,none⟩ = _:=cell_of_heap (o:=2) hr3
      have a3 : w3.cell? ⟨q + 1,3,none⟩ = _:=cell_of_heap (o:=3) hr3
      have a4 : w3.cell? ⟨q + 1,4,none⟩ = _:=cell_of_heap (o:=4) hr3
      have a5 : w3.cell? ⟨q + 1,5,none⟩ = _:=cell_of_heap (o:=5) hr3
      have a6 : w3.cell? ⟨q + 1,6,none⟩ = _:=cell_of_heap (o:=6) hr3
      have a7 : w3.cell? ⟨q + 1,7,none⟩ = _:=cell_of_heap (o:=7) hr3
      have a8 : w3.cell? ⟨q + 1,8,none⟩ = _:=cell_of_heap (o:=8) hr3
      have a9 : w3.cell? ⟨q + 1,9,none⟩ = _:=cell_of_heap (o:=9) hr3
      have b1 : w3.cell? ⟨q,1,none⟩ = _:=cell_of_heap (o:=1) hq3
      exact opOK_store_row 29 (.tmp 2) (.tmp 54) rfl (q + 1) #[.int .i64 4,.int .i64 r.players,.int .i64 r.last,.bool r.bull,.bool r.jump,.int .i64 r.rounds,.bool r.cut,.slice none 0 0,.int .i64 0,.bool false] (by simp [Act.eval]) (by simp [Act.eval]) 29 _ hr3 (by kernel_rfl) rfl (by simp [Value.oneCell']) ⟨rfl,by rw [setRow_self w3 (q + 1) _ _ _ hr3]; exact Below.refl _ _⟩
     simp only [Act.put]
     refine seq_on (by rfl) (fun w3 hb3 _ => ?_) ?_
     ·have hq3:=(hb3.block _ (Array.getElem?_eq_some_iff.1 KQ.out).1).trans KQ.out
      have hr3:=(hb3.block _ (Array.getElem?_eq_some_iff.1 KR.out).1).trans KR.out
      have a0 : w3.cell? ⟨q + 1,0,none⟩ = _:=cell_of_heap (o:=0) hr3
      have a1 : w3.cell? ⟨q + 1,1,none⟩ = _:=cell_of_heap (o:=1) hr3
      have a2 : w3.cell? ⟨q + 1,2,none⟩ = _:=cell_of_heap (o:=2) hr3
      have a3 : w3.cell? ⟨q + 1,3,none⟩ = _:=cell_of_heap (o:=3) hr3
      have a4 : w3.cell? ⟨q + 1,4,none⟩ = _:=cell_of_heap (o:=4) hr3
      have a5 : w3.cell? ⟨q + 1,5,none⟩ = _:=cell_of_heap (o:=5) hr3
      have a6 : w3.cell? ⟨q + 1,6,none⟩ = _:=cell_of_heap (o:=6) hr3
      have a7 : w3.cell? ⟨q + 1,7,none⟩ = _:=cell_of_heap (o:=7) hr3
      have a8 : w3.cell? ⟨q + 1,8,none⟩ = _:=cell_of_heap (o:=8) hr3
      have a9 : w3.cell? ⟨q + 1,9,none⟩ = _:=cell_of_heap (o:=9) hr3
      have b1 : w3.cell? ⟨q,1,none⟩ = _:=cell_of_heap (o:=1) hq3
      simp [opOK,go_sem,Below.refl]
      try exact rfl
     simp only [Act.put,List.setIfInBounds_toArray,List.set_cons_succ,List.set_cons_zero]
     refine seq_end fun w3 hb3 _ => ?_
     simp only [List.drop_succ_cons,List.drop_zero]
     have HB3:=Lib.hid (HBW.out.trans (hb3.mono HBW.out.size))
     have hr3:=(hb3.block _ (Array.getElem?_eq_some_iff.1 KR.out).1).trans KR.out
     have a0 : w3.cell? ⟨q + 1,0,none⟩ = _:=cell_of_heap (o:=0) hr3
     have a1 : w3.cell? ⟨q + 1,1,none⟩ = _:=cell_of_heap (o:=1) hr3
     have a2 : w3.cell? ⟨q + 1,2,none⟩ = _:=cell_of_heap (o:=2) hr3
     have a3 : w3.cell? ⟨q + 1,3,none⟩ = _:=cell_of_heap (o:=3) hr3
     have a4 : w3.cell? ⟨q + 1,4,none⟩ = _:=cell_of_heap (o:=4) hr3
     have a5 : w3.cell? ⟨q + 1,5,none⟩ = _:=cell_of_heap (o:=5) hr3
     have a6 : w3.cell? ⟨q + 1,6,none⟩ = _:=cell_of_heap (o:=6) hr3
     have a7 : w3.cell? ⟨q + 1,7,none⟩ = _:=cell_of_heap (o:=7) hr3
     have a8 : w3.cell? ⟨q + 1,8,none⟩ = _:=cell_of_heap (o:=8) hr3
     have a9 : w3.cell? ⟨q + 1,9,none⟩ = _:=cell_of_heap (o:=9) hr3
     simp at a0 a1 a2 a3 a4 a5 a6 a7 a8 a9
     clear hb3 hr3
     go_wp2
     exact bodyPost_ret (v:=.tuple #[.agg #[.int .i64 4,.int .i64 r.players,.int .i64 r.last,.bool r.bull,.bool r.jump,.int .i64 r.rounds,.bool r.cut,.slice none 0 0,.int .i64 0,.bool false],.bool pb]) (by simp [results,Tryz.results72,go_sem,a0,a1,a2,a3,a4,a5,a6,a7,a8,a9]) rfl ⟨by simp,HB3.out⟩
set_option maxRecDepth 100000 in
set_option maxHeartbeats 4000000 in
theorem isUsed0_any {S : Nat → Prop} (r : Rul) (va : Option Addr) (nl vc : Nat) (e1 : (r.kind == 1) = false) (e2 : (r.kind == 2) = false) (e3 : (r.kind == 3) = false) (e4 : (r.kind == 4) = false) (hnl : r.nums.length = nl) (w : World) (hs : Sl S w (.slice va nl vc) (ints r.nums)) :
  Calls Tryz.prog 72 #[.agg #[.int .i64 r.kind,.int .i64 r.players,.int .i64 r.last,.bool r.bull,.bool r.jump,.int .i64 r.rounds,.bool r.cut,.slice va nl vc,.int .i64 r.lives,.bool r.own]] w fun e w' => e = .returned (.tuple #[.agg #[.int .i64 r.kind,.int .i64 r.players,.int .i64 r.last,.bool r.bull,.bool r.jump,.int .i64 r.rounds,.bool r.cut,.slice va nl vc,.int .i64 r.lives,.bool r.own],.bool (false)]) ∧ Below w.heap.size w w':=by
 have HSL:=Lib.hid hs
 have HNL:=Lib.hid hnl
 have hl : nl ≤ vc ∧ vc ≤ maxLen:=by obtain ⟨x,y,e,h1,h2⟩ := hs.form; simp only [Value.slice.injEq] at e; rw [ints_length,hnl] at h1; omega
 unfold maxLen at hl
 obtain ⟨q,hq⟩ : ∃ q,w.heap.size = q:=⟨_,rfl⟩
 have HQ:=Lib.hid hq
 obtain ⟨pb,hpb⟩ : ∃ pb,isIn r.players 2 8 = pb:=⟨_,rfl⟩
 have HPB:=Lib.hid hpb
 
 clear hs hq hpb hnl
 obtain ⟨w0,hw0⟩ : ∃ w0,(w.alloc (.cells #[.int .i64 r.kind,.int .i64 r.players,.int .i64 r.last,.bool r.bull,.bool r.jump,.int .i64 r.rounds,.bool r.cut,.slice va nl vc,.int .i64 r.lives,.bool r.own] 29)).alloc (.cells #[.int .i64 r.kind,.int .i64 r.players,.int .i64 r.last,.bool r.bull,.bool r.jump,.int .i64 r.rounds,.bool r.cut,.slice va nl vc,.int .i64 r.lives,.bool r.own] 29) = w0:=⟨_,rfl⟩
 have hb0 : Below w.heap.size w w0:=by rw [← hw0]; exact (aB _ _).alloc (by simp) _
 have KQ : Hid (w0.heap[q]? = some (.cells #[.int .i64 r.kind,.int .i64 r.players,.int .i64 r.last,.bool r.bull,.bool r.jump,.int .i64 r.rounds,.bool r.cut,.slice va nl vc,.int .i64 r.lives,.bool r.own] 29 (0,0))):=Lib.hid (by rw [← hw0,← HQ.out]; exact heap_old (World.alloc_heap_new _ _))
 have KR : Hid (w0.heap[q + 1]? = some (.cells #[.int .i64 r.kind,.int .i64 r.players,.int .i64 r.last,.bool r.bull,.bool r.jump,.int .i64 r.rounds,.bool r.cut,.slice va nl vc,.int .i64 r.lives,.bool r.own] 29 (0,0))):=Lib.hid (by rw [← hw0,← HQ.out]; exact heap_two _ _ _)
 have HZ0 : Hid (w0.heap.size = q + 1 + 1):=Lib.hid (by rw [← hw0,← HQ.out]; simp)
 have HB0:=Lib.hid hb0
 have HW0:=Lib.hid hw0
 clear hw0 hb0
 go_enter Tryz.func72,Tryz.ntmps72
 go_wp2_with fail
 rw [HW0.out,HQ.out]
 have HBW:=HB0
 clear HB0
 refine wp_region_seq 11 [.is (.agg #[.int .i64 r.kind,.int .i64 r.players,.int .i64 r.last,.bool r.bull,.bool r.jump,.int .i64 r.rounds,.bool r.cut,.slice va nl vc,.int .i64 r.lives,.bool r.own]),.is (.bool false),.is (.bool false),.is undef,.is undef,.is undef,.is undef,.is undef,.is (.bool false),.is undef,.is (.bool false)] rfl mix (by kernel_rfl) (by kernel_rfl) ?seqm
 case seqm =>
  simp only [List.take_succ_cons,List.take_zero]
  iterate 3
   refine seq_on (by rfl) (fun w3 hb3 _ => ?_) ?_
   ·have hq3:=(hb3.block _ (Array.getElem?_eq_some_iff.1 KQ.out).1).trans KQ.out
    have hr3:=(hb3.block _ (Array.getElem?_eq_some_iff.1 KR.out).1).trans KR.out
    have a0 : w3.cell? ⟨q + 1,0,none⟩ = _:=cell_of_heap (o:=0) hr3
    have a1 : w3.cell? ⟨q + 1,1,none⟩ = _:=cell_of_heap (o:=1) hr3
    have a2 : w3.cell? ⟨q + 1,2,none⟩ = _:=cell_of_heap (o:=2) hr3
    have a3 : w3.cell? ⟨q + 1,3,none⟩ = _:=cell_of_heap (o:=3) hr3
    have a4 : w3.cell? ⟨q + 1,4,none⟩ = _:=cell_of_heap (o:=4) hr3
    have a5 : w3.cell? ⟨q + 1,5,none⟩ = _:=cell_of_heap (o:=5) hr3
    have a6 : w3.cell? ⟨q + 1,6,none⟩ = _:=cell_of_heap (o:=6) hr3
    have a7 : w3.cell? ⟨q + 1,7,none⟩ = _:=cell_of_heap (o:=7) hr3
    have a8 : w3.cell? ⟨q + 1,8,none⟩ = _:=cell_of_heap (o:=8) hr3
    have a9 : w3.cell? ⟨q + 1,9,none⟩ = _:=cell_of_heap (o:=9) hr3
    have b1 : w3.cell? ⟨q,1,none⟩ = _:=cell_of_heap (o:=1) hq3
    simp [opOK,go_sem,a0,a1,a2,a3,a4,a5,a6,a7,a8,a9,Below.refl]
    try exact rfl
   simp only [Act.put,List.setIfInBounds_toArray,List.set_cons_succ,List.set_cons_zero]
  iterate 5
   refine seq_off (by rfl) ?_
   simp only [Act.put,List.setIfInBounds_toArray,List.set_cons_succ,List.set_cons_zero]
  refine seq_on (by rfl) (fun w3 hb3 _ => ?_) ?_
  ·have hq3:=(hb3.block _ (Array.getElem?_eq_some_iff.1 KQ.out).1).trans KQ.out
   have hr3:=(hb3.block _ (Array.getElem?_eq_some_iff.1 KR.out).1).trans KR.out
   have a0 : w3.cell? ⟨q + 1,0,none⟩ = _:=cell_of_heap (o:=0) hr3
   have a1 : w3.cell? ⟨q + 1,1,none⟩ = _:=cell_of_heap (o:=1) hr3
   have a2 : w3.cell? ⟨q + 1,2,none⟩ = _:=cell_of_heap (o:=2) hr3
   have a3 : w3.cell? ⟨q + 1,3,none⟩ = _:=cell_of_heap (o:=3) hr3
   have a4 : w3.cell? ⟨q + 1,4,none⟩ = _:=cell_of_heap (o:=4) hr3
   have a5 : w3.cell? ⟨q + 1,5,none⟩ = _:=cell_of_heap (o:=5) hr3
   have a6 : w3.cell? ⟨q + 1,6,none⟩ = _:=cell_of_heap (o:=6) hr3
   have a7 : w3.cell? ⟨q + 1,7,none⟩ = _:=cell_of_heap (o:=7) hr3
   have a8 : w3.cell? ⟨q + 1,8,none⟩ = _:=cell_of_heap (o:=8) hr3
   have a9 : w3.cell? ⟨q + 1,9,none⟩ = _:=cell_of_heap (o:=9) hr3
   have b1 : w3.cell? ⟨q,1,none⟩ = _:=cell_of_heap (o:=1) hq3
   simp [opOK,go_sem,Below.refl]
   try exact rfl
  simp only [Act.put,List.setIfInBounds_toArray,List.set_cons_succ,List.set_cons_zero]
  refine seq_on (by rfl) (fun w3 hb3 hH => ?_) ?_
  ·have hq3:=(hb3.block _ (Array.getElem?_eq_some_iff.1 KQ.out).1).trans KQ.out
   have hr3:=(hb3.block _ (Array.getElem?_eq_some_iff.1 KR.out).1).trans KR.out
   have a0 : w3.cell? ⟨q + 1,0,none⟩ = _:=cell_of_heap (o:=0) hr3
   have a1 : w3.cell? ⟨q + 1,1,none⟩ = _:=cell_of_heap (o:=1) hr3
   have a2 : w3.cell? ⟨q + 1,2,none⟩ = _:=cell_of_heap (o:=2) hr3
   have a3 : w3.cell? ⟨q + 1,3,none⟩ = _:=cell_of_heap (o:=3) hr3
   have a4 : w3.cell? ⟨q + 1,4,none⟩ = _:=cell_of_heap (o:=4) hr3
   have a5 : w3.cell? ⟨q + 1,5,none⟩ = _:=cell_of_heap (o:=5) hr3
   have a6 : w3.cell? ⟨q + 1,6,none⟩ = _:=cell_of_heap (o:=6) hr3
   have a7 : w3.cell? ⟨q + 1,7,none⟩ = _:=cell_of_heap (o:=7) hr3
   have a8 : w3.cell? ⟨q + 1,8,none⟩ = _:=cell_of_heap (o:=8) hr3
   have a9 : w3.cell? ⟨q + 1,9,none⟩ = _:=cell_of_heap (o:=9) hr3
   have b1 : w3.cell? ⟨q,1,none⟩ = _:=cell_of_heap (o:=1) hq3
   exact opOK_store_row 29 (.tmp 2) (.tmp 54) rfl (q + 1) #[.int .i64 r.kind,.int .i64 r.players,.int .i64 r.last,.bool r.bull,.bool r.jump,.int .i64 r.rounds,.bool r.cut,.slice va nl vc,.int .i64 r.lives,.bool r.own] (by simp [Act.eval]) (by simp [Act.eval]) 29 _ hr3 (by kernel_rfl) rfl (by simp [Value.oneCell']) ⟨rfl,by rw [setRow_self w3 (q + 1) _ _ _ hr3]; exact Below.refl _ _⟩
  simp only [Act.put]
  refine seq_on (by rfl) (fun w3 hb3 _ => ?_) ?_
  ·have hq3:=(hb3.block _ (Array.getElem?_eq_some_iff.1 KQ.out).1).trans KQ.out
   have hr3:=(hb3.block _ (Array.getElem?_eq_some_iff.1 KR.out).1).trans KR.out
   have a0 : w3.cell? ⟨q + 1,0,none⟩ = _:=cell_of_heap (o:=0) hr3
   have a1 : w3.cell? ⟨q + 1,1,none⟩ = _:=cell_of_heap (o:=1) hr3
   have a2 : w3.cell? ⟨q + 1,2,none⟩ = _:=cell_of_heap (o:=2) hr3
   have a3 : w3.cell? ⟨q + 1,3,none⟩ = _:=cell_of_heap (o:=3) hr3
   have a4 : w3.cell? ⟨q + 1,4,none⟩ = _:=cell_of_heap (o:=4) hr3
   have a5 : w3.cell? ⟨q + 1,5,none⟩ = _:=cell_of_heap (o:=5) hr3
   have a6 : w3.cell? ⟨q + 1,6,none⟩ = _:=cell_of_heap (o:=6) hr3
   have a7 : w3.cell? ⟨q + 1,7,none⟩ = _:=cell_of_heap (o:=7) hr3
   have a8 : w3.cell? ⟨q + 1,8,none⟩ = _:=cell_of_heap (o:=8) hr3
   have a9 : w3.cell? ⟨q + 1,9,none⟩ = _:=cell_of_heap (o:=9) hr3
   have b1 : w3.cell? ⟨q,1,none⟩ = _:=cell_of_heap (o:=1) hq3
   simp [opOK,go_sem,Below.refl]
   try exact rfl
  simp only [Act.put,List.setIfInBounds_toArray,List.set_cons_succ,List.set_cons_zero]
  refine seq_end fun w3 hb3 _ => ?_
  simp only [List.drop_succ_cons,List.drop_zero]
  have HB3:=Lib.hid (HBW.out.trans (hb3.mono HBW.out.size))
  have hr3:=(hb3.block _ (Array.getElem?_eq_some_iff.1 KR.out).1).trans KR.out
  have a0 : w3.cell? ⟨q + 1,0,none⟩ = _:=cell_of_heap (o:=0) hr3
  have a1 : w3.cell? ⟨q + 1,1,none⟩ = _:=cell_of_heap (o:=1) hr3
  have a2 : w3.cell? ⟨q + 1,2,none⟩ = _:=cell_of_heap (o:=2) hr3
  have a3 : w3.cell? ⟨q + 1,3,none⟩ = _:=cell_of_heap (o:=3) hr3
  have a4 : w3.cell? ⟨q + 1,4,none⟩ = _:=cell_of_heap (o:=4) hr3
  have a5 : w3.cell? ⟨q + 1,5,none⟩ = _:=cell_of_heap (o:=5) hr3
  have a6 : w3.cell? ⟨q + 1,6,none⟩ = _:=cell_of_heap (o:=6) hr3
  have a7 : w3.cell? ⟨q + 1,7,none⟩ = _:=cell_of_heap (o:=7) hr3
  have a8 : w3.cell? ⟨q + 1,8,none⟩ = _:=cell_of_heap (o:=8) hr3
  have a9 : w3.cell? ⟨q + 1,9,none⟩ = _:=cell_of_heap (o:=9) hr3
  simp at a0 a1 a2 a3 a4 a5 a6 a7 a8 a9
  clear hb3 hr3
  go_wp2
  exact bodyPost_ret (v:=.tuple #[.agg #[.int .i64 r.kind,.int .i64 r.players,.int .i64 r.last,.bool r.bull,.bool r.jump,.int .i64 r.rounds,.bool r.cut,.slice va nl vc,.int .i64 r.lives,.bool r.own],.bool false]) (by simp [results,Tryz.results72,go_sem,a0,a1,a2,a3,a4,a5,a6,a7,a8,a9]) rfl ⟨by simp,HB3.out⟩
theorem isUsed_any {S : Nat → Prop} (r : Rul) (nv : Value) (w : World) (hs : Sl S w nv (ints r.nums)) :
  Calls Tryz.prog 72 #[.agg (rulA r nv)] w fun e w' => e = .returned (.tuple #[.agg (restA r nv),.bool (okUs r)]) ∧ Below w.heap.size w w':=by
 obtain ⟨va,vc,rfl,_,_⟩ := hs.form
 rw [ints_length] at hs ⊢
 unfold restA okUs rulA
 by_cases k1 : r.kind = 1
 ·rw [if_pos k1,if_pos k1,k1]; exact isUsed1_any r va _ vc rfl w hs
 rw [if_neg k1,if_neg k1]
 by_cases k2 : r.kind = 2
 ·rw [if_pos k2,if_pos k2,k2]; exact isUsed2_any r va _ vc rfl w hs
 rw [if_neg k2,if_neg k2]
 by_cases k3 : r.kind = 3
 ·rw [if_pos k3,if_pos k3,k3]; exact isUsed3_any r va _ vc rfl w hs
 rw [if_neg k3,if_neg k3]
 by_cases k4 : r.kind = 4
 ·rw [if_pos k4,if_pos k4,k4]; exact isUsed4_any r va _ vc rfl w hs
 rw [if_neg k4,if_neg k4]
 exact isUsed0_any r va _ vc (by simp [k1]) (by simp [k2]) (by simp [k3]) (by simp [k4]) rfl w hs
end Go.Proofs.YtnhggfnnolfcdaaGreat
