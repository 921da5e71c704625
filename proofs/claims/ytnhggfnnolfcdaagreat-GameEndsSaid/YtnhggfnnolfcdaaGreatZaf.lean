/- The texts HD, in build order. -/
import Derived.Test.YtnhggfnnolfcdaaGreatZae

/- Chapter 4: cricket's comparison; a bed's parts. -/
namespace Go.Proofs.YtnhggfnnolfcdaaGreat
open Go.RowKit Go.Oche Go.Proofs
theorem sl_blk {w : World} {b : Nat} {t : TypeId} {xs : List Value} (h : w.heap[b]? = some (.cells xs.toArray t (0,0))) (hl : xs.length ≤ maxLen) : Sl (fun _ => True) w (.slice (some ⟨b,0,none⟩) xs.length xs.length) xs :=
 ⟨_,_,rfl,Nat.le_refl _,hl,fun i x hx => ⟨b,0,rfl,trivial,by unfold World.cell?; rw [h]; simpa using hx⟩⟩
def kSl (t : TypeId) (xs : List Value) : Kn where
 s:=fun v => ∃ b,v = .slice (some ⟨b,0,none⟩) xs.length xs.length
 p:=fun v w => ∃ b,v = .slice (some ⟨b,0,none⟩) xs.length xs.length ∧ w.heap[b]? = some (.cells xs.toArray t (0,0))
 m:=fun _ _ _ hb ⟨b,h1,h2⟩ => ⟨b,h1,(hb.block b (Array.getElem?_eq_some_iff.1 h2).1).trans h2⟩
theorem heap_old {w : World} {b : Nat} {o x : Obj} (h : w.heap[b]? = some x) : (w.alloc o).heap[b]? = some x:=((aB w o).block b (Array.getElem?_eq_some_iff.1 h).1).trans h
theorem heap_two (w : World) (A B : Obj) : ((w.alloc A).alloc B).heap[w.heap.size + 1]? = some B:=by
 have:=World.alloc_heap_new (w.alloc A) B
 rwa [show (w.alloc A).heap.size = w.heap.size + 1 by simp] at this
theorem heap_three (w : World) (A B C : Obj) : (((w.alloc A).alloc B).alloc C).heap[w.heap.size + 1 + 1]? = some C:=by
 have:=heap_two (w.alloc A) B C
 rwa [show (w.alloc A).heap.size = w.heap.size + 1 by simp] at this
theorem marks_r (p : Int) (a b c d e f g : Int) (k : Bool) (hlo : ∀ m ∈ [a,b,c,d,e,f,g],0 ≤ m ∧ m ≤ 3) (w : World) :
  Calls Tryz.prog 113 #[.agg #[.int .i64 p,.int .i64 a,.int .i64 b,.int .i64 c,.int .i64 d,.int .i64 e,.int .i64 f,.int .i64 g,.bool k]] w fun e' w' => e' = .returned (.int .i64 (sumM ⟨p,[a,b,c,d,e,f,g],k⟩)) ∧ Below w.heap.size w w' :=
 marks_any ⟨p,[a,b,c,d,e,f,g],k⟩ rfl hlo w
theorem points_r (r : Rul) (nv : Value) (p : Int) (a b c d e f g : Int) (k : Bool) (p' : Int) (a' b' c' d' e' f' g' : Int) (k' : Bool) (z : Int) (hz : Hid ((if r.cut = true then cmp3 p p' else cmp3 p' p) = z)) (w : World) :
  Calls Tryz.prog 112 #[.agg #[.int .i64 r.kind,.int .i64 r.players,.int .i64 r.last,.bool r.bull,.bool r.jump,.int .i64 r.rounds,.bool r.cut,nv,.int .i64 r.lives,.bool r.own],.agg #[.int .i64 p,.int .i64 a,.int .i64 b,.int .i64 c,.int .i64 d,.int .i64 e,.int .i64 f,.int .i64 g,.bool k],.agg #[.int .i64 p',.int .i64 a',.int .i64 b',.int .i64 c',.int .i64 d',.int .i64 e',.int .i64 f',.int .i64 g',.bool k']] w fun e w' => e = .returned (.int .i64 z) ∧ Below w.heap.size w w':=by
 rw [← hz.out]
 exact points_any r nv ⟨p,[a,b,c,d,e,f,g],k⟩ ⟨p',[a',b',c',d',e',f',g'],k'⟩ rfl rfl w
set_option maxRecDepth 100000 in
set_option maxHeartbeats 1000000 in
theorem compare2_any (r : Rul) (nv : Value) (x y : Plr) (h7 : x.mks.length = 7) (h7' : y.mks.length = 7) (hlo : ∀ m ∈ x.mks,0 ≤ m ∧ m ≤ 3) (hlo' : ∀ m ∈ y.mks,0 ≤ m ∧ m ≤ 3) (w : World) :
  Calls Tryz.prog 108 #[.agg (rulA r nv),plrV x,plrV y] w fun e w' => e = .returned (.int .i64 (if (if r.cut = true then cmp3 x.pts y.pts else cmp3 y.pts x.pts) = 0 then cmp3 (sumM y) (sumM x) else (if r.cut = true then cmp3 x.pts y.pts else cmp3 y.pts x.pts))) ∧ Below w.heap.size w w':=by
 obtain ⟨xp,xm,xk⟩ := x
 obtain ⟨yp,ym,yk⟩ := y
 obtain ⟨a,b,c,d,e,f,g,rfl⟩ := list_seven h7
 obtain ⟨a',b',c',d',e',f',g',rfl⟩ := list_seven h7'
 clear h7 h7'
 obtain ⟨z,hz⟩ : ∃ z,(if r.cut = true then cmp3 xp yp else cmp3 yp xp) = z:=⟨_,rfl⟩
 have HZ:=Lib.hid hz
 obtain ⟨sx,hsx⟩ : ∃ s,sumM ⟨xp,[a,b,c,d,e,f,g],xk⟩ = s:=⟨_,rfl⟩
 obtain ⟨sy,hsy⟩ : ∃ s,sumM ⟨yp,[a',b',c',d',e',f',g'],yk⟩ = s:=⟨_,rfl⟩
 have hmx:=marks_r xp a b c d e f g xk hlo
 have hmy:=marks_r yp a' b' c' d' e' f' g' yk hlo'
 dsimp only
 rw [hz,hsx,hsy]
 rw [hsx] at hmx
 rw [hsy] at hmy
 obtain ⟨u,hu⟩ : ∃ u,cmp3 sy sx = u:=⟨_,rfl⟩
 obtain ⟨q,hq⟩ : ∃ q,(if z = 0 then u else z) = q:=⟨_,rfl⟩
 have HU:=Lib.hid hu
 have HQ:=Lib.hid hq
 have HMX:=Lib.hid hmx
 have HMY:=Lib.hid hmy
 rw [hu,hq]
 clear hz hsx hsy hu hq hlo hlo' hmx hmy
 unfold plrV plrRow rulA
 simp only [List.map_cons,List.map_nil,List.cons_append,List.nil_append]
 obtain ⟨w0,hw0⟩ : ∃ w0,((w.alloc (.cells #[.int .i64 r.kind,.int .i64 r.players,.int .i64 r.last,.bool r.bull,.bool r.jump,.int .i64 r.rounds,.bool r.cut,nv,.int .i64 r.lives,.bool r.own] 111)).alloc (.cells #[.int .i64 xp,.int .i64 a,.int .i64 b,.int .i64 c,.int .i64 d,.int .i64 e,.int .i64 f,.int .i64 g,.bool xk] 80)).alloc (.cells #[.int .i64 yp,.int .i64 a',.int .i64 b',.int .i64 c',.int .i64 d',.int .i64 e',.int .i64 f',.int .i64 g',.bool yk] 80) = w0:=⟨_,rfl⟩
 have hb0 : Below w.heap.size w w0:=by rw [← hw0]; exact ((aB _ _).alloc (by simp) _).alloc (by simp; omega) _
 have k0 : w0.heap[w.heap.size]? = some (.cells #[.int .i64 r.kind,.int .i64 r.players,.int .i64 r.last,.bool r.bull,.bool r.jump,.int .i64 r.rounds,.bool r.cut,nv,.int .i64 r.lives,.bool r.own] 111 (0,0)):=by rw [← hw0]; exact heap_old (heap_old (World.alloc_heap_new _ _))
 have k1 : w0.heap[w.heap.size + 1]? = some (.cells #[.int .i64 xp,.int .i64 a,.int .i64 b,.int .i64 c,.int .i64 d,.int .i64 e,.int .i64 f,.int .i64 g,.bool xk] 80 (0,0)):=by rw [← hw0]; exact heap_old (heap_two _ _ _)
 have k2 : w0.heap[w.heap.size + 1 + 1]? = some (.cells #[.int .i64 yp,.int .i64 a',.int .i64 b',.int .i64 c',.int .i64 d',.int .i64 e',.int .i64 f',.int .i64 g',.bool yk] 80 (0,0)):=by rw [← hw0]; exact heap_three _ _ _ _
 have HB0:=Lib.hid hb0
 have HW0:=Lib.hid hw0
 have K0:=Lib.hid k0
 have K1:=Lib.hid k1
 have K2:=Lib.hid k2
 clear hb0 hw0 k0 k1 k2
 go_enter Tryz.func108,Tryz.ntmps108
 go_wp2_with fail
 rw [HW0.out]
 refine wp_region_seq 12 [.is (.agg #[.int .i64 r.kind,.int .i64 r.players,.int .i64 r.last,.bool r.bull,.bool r.jump,.int .i64 r.rounds,.bool r.cut,nv,.int .i64 r.lives,.bool r.own]),.is (.agg #[.int .i64 xp,.int .i64 a,.int .i64 b,.int .i64 c,.int .i64 d,.int .i64 e,.int .i64 f,.int .i64 g,.bool xk]),.is (.agg #[.int .i64 yp,.int .i64 a',.int .i64 b',.int .i64 c',.int .i64 d',.int .i64 e',.int .i64 f',.int .i64 g',.bool yk]),.is (.int .i64 z),.is (.agg #[.int .i64 xp,.int .i64 a,.int .i64 b,.int .i64 c,.int .i64 d,.int .i64 e,.int .i64 f,.int .i64 g,.bool xk]),.is (.int .i64 sx),.is (.agg #[.int .i64 yp,.int .i64 a',.int .i64 b',.int .i64 c',.int .i64 d',.int .i64 e',.int .i64 f',.int .i64 g',.bool yk]),.is (.int .i64 sy),.is (.int .i64 u),kSl 3 [.int .i64 z,.int .i64 u],.is (.int .i64 q),.is (.int .i64 q)] rfl mix (by kernel_rfl) (by kernel_rfl) ?seqm
 case seqm =>
  simp only [List.take_succ_cons,List.take_zero]
  iterate 3
   refine seq_is rfl (fun w3 hb3 _ => ?_) ?_
   ·have c0 : ∀ j,w3.cell? ⟨w.heap.size,j,none⟩ = _:=fun j => cell_of_heap (o:=j) ((hb3.block _ (Array.getElem?_eq_some_iff.1 K0.out).1).trans K0.out)
    have c1 : ∀ j,w3.cell? ⟨w.heap.size + 1,j,none⟩ = _:=fun j => cell_of_heap (o:=j) ((hb3.block _ (Array.getElem?_eq_some_iff.1 K1.out).1).trans K1.out)
    have c2 : ∀ j,w3.cell? ⟨w.heap.size + 1 + 1,j,none⟩ = _:=fun j => cell_of_heap (o:=j) ((hb3.block _ (Array.getElem?_eq_some_iff.1 K2.out).1).trans K2.out)
    simp [opOK,go_sem,c0,c1,c2,Below.refl]
   simp only [Act.put,List.setIfInBounds_toArray,List.set_cons_succ,List.set_cons_zero]
  refine seq_is rfl (fun w3 hb3 hH => ?_) ?_
  ·refine opOK_call (f:=112) (args:=#[.agg #[.int .i64 r.kind,.int .i64 r.players,.int .i64 r.last,.bool r.bull,.bool r.jump,.int .i64 r.rounds,.bool r.cut,nv,.int .i64 r.lives,.bool r.own],.agg #[.int .i64 xp,.int .i64 a,.int .i64 b,.int .i64 c,.int .i64 d,.int .i64 e,.int .i64 f,.int .i64 g,.bool xk],.agg #[.int .i64 yp,.int .i64 a',.int .i64 b',.int .i64 c',.int .i64 d',.int .i64 e',.int .i64 f',.int .i64 g',.bool yk]]) (by simp [go_sem]) ?_
   exact (points_r r nv _ _ _ _ _ _ _ _ _ _ _ _ _ _ _ _ _ _ z HZ w3).mono fun e W' ⟨he,hb⟩ => ⟨_,he,rfl,hb⟩
  simp only [Act.put,List.setIfInBounds_toArray,List.set_cons_succ,List.set_cons_zero]
  refine seq_is rfl (fun w3 hb3 _ => ?_) ?_
  ·have c1 : ∀ j,w3.cell? ⟨w.heap.size + 1,j,none⟩ = _:=fun j => cell_of_heap (o:=j) ((hb3.block _ (Array.getElem?_eq_some_iff.1 K1.out).1).trans K1.out)
   have c2 : ∀ j,w3.cell? ⟨w.heap.size + 1 + 1,j,none⟩ = _:=fun j => cell_of_heap (o:=j) ((hb3.block _ (Array.getElem?_eq_some_iff.1 K2.out).1).trans K2.out)
   simp [opOK,go_sem,c1,Below.refl]
  simp only [Act.put,List.setIfInBounds_toArray,List.set_cons_succ,List.set_cons_zero]
  refine seq_is rfl (fun w3 hb3 hH => ?_) ?_
  ·refine opOK_call (f:=113) (args:=#[.agg #[.int .i64 xp,.int .i64 a,.int .i64 b,.int .i64 c,.int .i64 d,.int .i64 e,.int .i64 f,.int .i64 g,.bool xk]]) (by simp [go_sem]) ?_
   exact (HMX.out w3).mono fun e W' ⟨he,hb⟩ => ⟨_,he,rfl,hb⟩
  simp only [Act.put,List.setIfInBounds_toArray,List.set_cons_succ,List.set_cons_zero]
  refine seq_is rfl (fun w3 hb3 _ => ?_) ?_
  ·have c1 : ∀ j,w3.cell? ⟨w.heap.size + 1,j,none⟩ = _:=fun j => cell_of_heap (o:=j) ((hb3.block _ (Array.getElem?_eq_some_iff.1 K1.out).1).trans K1.out)
   have c2 : ∀ j,w3.cell? ⟨w.heap.size + 1 + 1,j,none⟩ = _:=fun j => cell_of_heap (o:=j) ((hb3.block _ (Array.getElem?_eq_some_iff.1 K2.out).1).trans K2.out)
   simp [opOK,go_sem,c2,Below.refl]
  simp only [Act.put,List.setIfInBounds_toArray,List.set_cons_succ,List.set_cons_zero]
  refine seq_is rfl (fun w3 hb3 hH => ?_) ?_
  ·refine opOK_call (f:=113) (args:=#[.agg #[.int .i64 yp,.int .i64 a',.int .i64 b',.int .i64 c',.int .i64 d',.int .i64 e',.int .i64 f',.int .i64 g',.bool yk]]) (by simp [go_sem]) ?_
   exact (HMY.out w3).mono fun e W' ⟨he,hb⟩ => ⟨_,he,rfl,hb⟩
  simp only [Act.put,List.setIfInBounds_toArray,List.set_cons_succ,List.set_cons_zero]
  refine seq_is rfl (fun w3 hb3 hH => ?_) ?_
  ·refine opOK_call (f:=103) (args:=#[.int .i64 sx,.int .i64 sy]) (by simp [go_sem]) ?_
   exact (more_any sx sy w3).mono fun e W' ⟨he,hb⟩ => ⟨_,he,by rw [HU.out],by rw [← hb]; exact Below.refl _ _⟩
  simp only [Act.put,List.setIfInBounds_toArray,List.set_cons_succ,List.set_cons_zero]
  refine seq_new ⟨_,0,rfl⟩ (by rfl) (fun w3 hb3 _ => ?_) ?_
  ·refine opOK_val (v:=.slice (some ⟨w3.heap.size,0,none⟩) 2 2) (w':=w3.alloc (.cells #[.int .i64 z,.int .i64 u] 3)) (by simp [go_sem,execOp]) ⟨aB _ _,⟨_,rfl⟩,_,rfl,World.alloc_heap_new _ _⟩
  rintro v ⟨bs,rfl⟩
  simp only [Act.put,List.setIfInBounds_toArray,List.set_cons_succ,List.set_cons_zero]
  refine seq_is rfl (fun w3 hb3 hH => ?_) ?_
  ·have hs:=hH ⟨9,.data⟩ (by simp) rfl
   simp [addH,kSl] at hs
   refine opOK_call (f:=111) (args:=#[.slice (some ⟨bs,0,none⟩) 2 2]) (by simp [go_sem]) ?_
   exact (or_any bs z u w3 (by rw [cell_of_heap hs]; rfl) (by rw [cell_of_heap hs]; rfl)).mono fun e W' ⟨he,hb⟩ => ⟨_,he,by rw [HQ.out],by rw [← hb]; exact Below.refl _ _⟩
  simp only [Act.put,List.setIfInBounds_toArray,List.set_cons_succ,List.set_cons_zero]
  refine seq_is rfl (fun w3 hb3 _ => ?_) ?_
  ·simp [opOK,go_sem,Below.refl]
  simp only [Act.put,List.setIfInBounds_toArray,List.set_cons_succ,List.set_cons_zero]
  refine seq_end fun w3 hb3 _ => ?_
  have HB3:=Lib.hid (bThen HB0.out hb3)
  clear hb3
  simp only [List.drop_succ_cons,List.drop_zero]
  go_wp2
  go_ret
  exact ⟨rfl,HB3.out⟩
end Go.Proofs.YtnhggfnnolfcdaaGreat
