/- The texts MR, in build order. -/
import Derived.Test.YtnhggfnnolfcdaaGreatZax

/- Chapter 4: rules out of bytes (Small.rules). -/
namespace Go.Proofs.YtnhggfnnolfcdaaGreat
open Go.RowKit Go.Oche Go.Proofs
theorem bits1_all : ∀ f : Fin 256,bits BinOp.and IntKind.u8 ((f.val : Nat) : Int) 1 = ((f.val % 2 : Nat) : Int) ∧ bits BinOp.and IntKind.u8 ((f.val : Nat) : Int) 2 = ((2 * (f.val / 2 % 2) : Nat) : Int):=by decide +kernel
theorem bits1 {f : Nat} (h : f ≤ 255) : bits BinOp.and IntKind.u8 (f : Int) 1 = ((f % 2 : Nat) : Int):=(bits1_all ⟨f,by omega⟩).1
theorem bits2 {f : Nat} (h : f ≤ 255) : bits BinOp.and IntKind.u8 (f : Int) 2 = ((2 * (f / 2 % 2) : Nat) : Int):=(bits1_all ⟨f,by omega⟩).2
theorem tmod_nat (a b : Nat) : ((a : Int)).tmod (b : Int) = ((a % b : Nat) : Int):=by rw [Int.tmod_eq_emod_of_nonneg (by omega)]; simp
theorem tdiv_nat (a b : Nat) : ((a : Int)).tdiv (b : Int) = ((a / b : Nat) : Int):=by rw [Int.tdiv_eq_ediv_of_nonneg (by omega)]; simp
set_option maxRecDepth 100000 in
set_option maxHeartbeats 4000000 in
theorem rules0_any (k p l f : Nat) (hk : k ≤ 255) (hp : p ≤ 255) (hl : l ≤ 255) (hf : f ≤ 255) (hkk : k % 4 = 0) (w : World) :
  Calls Tryz.prog 12 #[.agg #[.int .u8 k,.int .u8 p,.int .u8 l,.int .u8 f]] w fun e w' => ∃ va nl vc,e = .returned (.agg (rulA (rulS k p l f) (.slice va nl vc))) ∧ Below w.heap.size w w' ∧ Sl (fun q => w.heap.size ≤ q) w' (.slice va nl vc) (ints (rulS k p l f).nums):=by
 obtain ⟨pp,hpp⟩ : ∃ x,p % 3 = x:=⟨_,rfl⟩
 obtain ⟨ll,hll⟩ : ∃ x,l % 20 = x:=⟨_,rfl⟩
 obtain ⟨lv,hlv⟩ : ∃ x,l % 9 = x:=⟨_,rfl⟩
 obtain ⟨b1,hb1⟩ : ∃ x,(f % 2 == 1) = x:=⟨_,rfl⟩
 obtain ⟨b2,hb2⟩ : ∃ x,(f / 2 % 2 == 1) = x:=⟨_,rfl⟩
 obtain ⟨f1,hf1⟩ : ∃ x,f % 2 = x:=⟨_,rfl⟩
 obtain ⟨f2,hf2⟩ : ∃ x,2 * (f / 2 % 2) = x:=⟨_,rfl⟩
 have m1 : (k : Int).tmod 4 = (0 : Int):=by have:=tmod_nat k 4; rw [hkk] at this; simpa using this
 have m2 : (p : Int).tmod 3 = (pp : Int):=by have:=tmod_nat p 3; rw [hpp] at this; simpa using this
 have m3 : (l : Int).tmod 20 = (ll : Int):=by have:=tmod_nat l 20; rw [hll] at this; simpa using this
 have m4 : (l : Int).tmod 9 = (lv : Int):=by have:=tmod_nat l 9; rw [hlv] at this; simpa using this
 have a1 : bits BinOp.and IntKind.u8 (f : Int) 1 = (f1 : Int):=by rw [bits1 hf,hf1]
 have a2 : bits BinOp.and IntKind.u8 (f : Int) 2 = (f2 : Int):=by rw [bits2 hf,hf2]
 have e1 : ((f1 : Int) == 1) = b1:=by rw [← hb1,← hf1,Bool.eq_iff_iff]; simp; omega
 have e2 : ((f2 : Int) == 2) = b2:=by rw [← hb2,← hf2,Bool.eq_iff_iff]; simp; omega
 have x1 : IntKind.i64.wrap (l : Int) = (l : Int):=wrap_small _ (by omega) (by omega)
 have x2 : IntKind.i64.wrap (ll : Int) = (ll : Int):=wrap_small _ (by omega) (by omega)
 have x3 : IntKind.i64.wrap (1 + (ll : Int)) = 1 + (ll : Int):=wrap_small _ (by omega) (by omega)
 have x4 : IntKind.i64.wrap (lv : Int) = (lv : Int):=wrap_small _ (by omega) (by omega)
 have x5 : IntKind.i64.wrap (1 + (lv : Int)) = 1 + (lv : Int):=wrap_small _ (by omega) (by omega)
 have x6 : IntKind.i64.wrap (f : Int) = (f : Int):=wrap_small _ (by omega) (by omega)
 have y1 : pp ≤ 2:=by omega
 have x7 : IntKind.i64.wrap (2 + (pp : Int)) = 2 + (pp : Int):=wrap_small _ (by omega) (by omega)
 obtain ⟨q,hq⟩ : ∃ q,w.heap.size = q:=⟨_,rfl⟩
 obtain ⟨w0,hw0⟩ : ∃ w0,((w.alloc (.cells #[.int .u8 k,.int .u8 p,.int .u8 l,.int .u8 f] 23)).alloc (.cells #[.int .i64 0,.int .i64 0,.int .i64 0,.bool false,.bool false,.int .i64 0,.bool false,.slice none 0 0,.int .i64 0,.bool false] 29)).alloc (.cells #[.int .i64 1,.int .i64 (2 + (pp : Int)),.int .i64 0,.bool false,.bool false,.int .i64 0,.bool false,.slice none 0 0,.int .i64 0,.bool false] 29) = w0:=⟨_,rfl⟩
 have hb0 : Below w.heap.size w w0:=by rw [← hw0]; exact (((aB _ _).alloc (by simp) _).alloc (by simp; omega) _)
 have KQ : Hid (w0.heap[q]? = some (.cells #[.int .u8 k,.int .u8 p,.int .u8 l,.int .u8 f] 23 (0,0))):=Lib.hid (by rw [← hw0,← hq]; exact heap_old (heap_old (World.alloc_heap_new _ _)))
 have KO : Hid (w0.heap[q + 1]? = some (.cells #[.int .i64 0,.int .i64 0,.int .i64 0,.bool false,.bool false,.int .i64 0,.bool false,.slice none 0 0,.int .i64 0,.bool false] 29 (0,0))):=Lib.hid (by rw [← hw0,← hq]; exact heap_old (heap_two _ _ _))
 have KR : Hid (w0.heap[q + 1 + 1]? = some (.cells #[.int .i64 1,.int .i64 (2 + (pp : Int)),.int .i64 0,.bool false,.bool false,.int .i64 0,.bool false,.slice none 0 0,.int .i64 0,.bool false] 29 (0,0))):=Lib.hid (by
  rw [← hw0,← hq]
  have:=World.alloc_heap_new ((w.alloc (.cells #[.int .u8 k,.int .u8 p,.int .u8 l,.int .u8 f] 23)).alloc (.cells #[.int .i64 0,.int .i64 0,.int .i64 0,.bool false,.bool false,.int .i64 0,.bool false,.slice none 0 0,.int .i64 0,.bool false] 29)) (.cells #[.int .i64 1,.int .i64 (2 + (pp : Int)),.int .i64 0,.bool false,.bool false,.int .i64 0,.bool false,.slice none 0 0,.int .i64 0,.bool false] 29)
  simpa using this)
 have HRUL : Hid (rulS k p l f = ⟨1,2 + (pp : Nat),1 + (ll : Nat),b1,b2,0,false,[],0,false⟩):=Lib.hid (by unfold rulS; simp [hkk,hpp,hll,hb1,hb2])
 have HZ0 : Hid (w0.heap.size = q + 3):=Lib.hid (by rw [← hw0,← hq]; simp)
 have HB0:=Lib.hid hb0
 have HW0:=Lib.hid hw0
 have HQ:=Lib.hid hq
 have HF:=Lib.hid (And.intro hf hf1)
 clear hw0 hb0 hq hkk hpp hll hlv hb1 hb2 hf1 hf2
 rw [HRUL.out]
 go_enter Tryz.func12,Tryz.ntmps12
 go_wp2_with fail
 rw [HW0.out,HQ.out]
 obtain ⟨A,hA⟩ : ∃ A : (Nat → Bool) → Array Value,A = fun L => #[.int .i64 1,.int .i64 (2 + (pp : Int)),(if L 14 = true then (.int .i64 (1 + (ll : Int))) else (.int .i64 0)),(if L 16 = true then (.bool b1) else (.bool false)),(if L 18 = true then (.bool b2) else (.bool false)),.int .i64 0,.bool false,.slice none 0 0,.int .i64 0,.bool false]:=⟨_,rfl⟩
 refine wp_region_seqC 19 [.pointer (some ⟨q,2,none⟩),.int .u8 l,.int .i64 l,.int .i64 ll,.int .i64 (1 + (ll : Int)),.pointer (some ⟨q,3,none⟩),.int .u8 f,.int .u8 f1,.bool b1,.pointer (some ⟨q,3,none⟩),.int .u8 f,.int .u8 f2,.bool b2,.pointer (some ⟨q + 1 + 1,2,none⟩),undef,.pointer (some ⟨q + 1 + 1,3,none⟩),undef,.pointer (some ⟨q + 1 + 1,4,none⟩),undef] (JArr w0.drew (q + 1 + 1) 29 A) rfl mix (by kernel_rfl) (by kernel_rfl) (JArr.start (by rw [hA]; exact KR.out)) ?_
 simp only [List.take_succ_cons,List.take_zero]
 iterate 14
  refine sc_on (by rfl) (fun _ _ _ h => h.read (by rw [hA]; rfl)) (fun w3 L hL hJ => ?_) ?_
  ·have q0 : w3.cell? ⟨q,0,none⟩ = _:=cell_of_heap (o:=0) (hJ.keep KQ.out (by omega))
   have q1 : w3.cell? ⟨q,1,none⟩ = _:=cell_of_heap (o:=1) (hJ.keep KQ.out (by omega))
   have q2 : w3.cell? ⟨q,2,none⟩ = _:=cell_of_heap (o:=2) (hJ.keep KQ.out (by omega))
   have q3 : w3.cell? ⟨q,3,none⟩ = _:=cell_of_heap (o:=3) (hJ.keep KQ.out (by omega))
   simp [opOK,go_sem,q2,q3,m3,a1,a2,e1,e2,x1,x3]
   try exact rfl
  simp only [Act.put,List.setIfInBounds_toArray,List.set_cons_succ,List.set_cons_zero]
 refine sc_is rfl (fun w3 L hL hJ hd => ?_) ?_
 ·have hf:=hJ.free 2
  have hc:=hJ.own (o:=2) (x:=_) (by rw [hA]; rfl)
  simp [opOK,go_sem,hf,hc]
  exact hJ.store (i:=14) (o:=2) (v:=.int .i64 (1 + (ll : Int))) (by rw [hA]; simp [setB])
 simp only [Act.put]
 refine sc_on (by rfl) (fun _ _ _ h => h.read (by rw [hA]; rfl)) (fun w3 L hL hJ => ?_) ?_
 ·have q0 : w3.cell? ⟨q,0,none⟩ = _:=cell_of_heap (o:=0) (hJ.keep KQ.out (by omega))
  have q1 : w3.cell? ⟨q,1,none⟩ = _:=cell_of_heap (o:=1) (hJ.keep KQ.out (by omega))
  have q2 : w3.cell? ⟨q,2,none⟩ = _:=cell_of_heap (o:=2) (hJ.keep KQ.out (by omega))
  have q3 : w3.cell? ⟨q,3,none⟩ = _:=cell_of_heap (o:=3) (hJ.keep KQ.out (by omega))
  simp [opOK,go_sem]
  try exact rfl
 simp only [Act.put,List.setIfInBounds_toArray,List.set_cons_succ,List.set_cons_zero]
 refine sc_is rfl (fun w3 L hL hJ hd => ?_) ?_
 ·have hf:=hJ.free 3
  have hc:=hJ.own (o:=3) (x:=_) (by rw [hA]; rfl)
  simp [opOK,go_sem,hf,hc]
  exact hJ.store (i:=16) (o:=3) (v:=.bool b1) (by rw [hA]; simp [setB])
 simp only [Act.put]
 refine sc_on (by rfl) (fun _ _ _ h => h.read (by rw [hA]; rfl)) (fun w3 L hL hJ => ?_) ?_
 ·have q0 : w3.cell? ⟨q,0,none⟩ = _:=cell_of_heap (o:=0) (hJ.keep KQ.out (by omega))
  have q1 : w3.cell? ⟨q,1,none⟩ = _:=cell_of_heap (o:=1) (hJ.keep KQ.out (by omega))
  have q2 : w3.cell? ⟨q,2,none⟩ = _:=cell_of_heap (o:=2) (hJ.keep KQ.out (by omega))
  have q3 : w3.cell? ⟨q,3,none⟩ = _:=cell_of_heap (o:=3) (hJ.keep KQ.out (by omega))
  simp [opOK,go_sem]
  try exact rfl
 simp only [Act.put,List.setIfInBounds_toArray,List.set_cons_succ,List.set_cons_zero]
 refine sc_is rfl (fun w3 L hL hJ hd => ?_) ?_
 ·have hf:=hJ.free 4
  have hc:=hJ.own (o:=4) (x:=_) (by rw [hA]; rfl)
  simp [opOK,go_sem,hf,hc]
  exact hJ.store (i:=18) (o:=4) (v:=.bool b2) (by rw [hA]; simp [setB])
 simp only [Act.put]
 refine sc_end fun wz hJ => ?_
 simp only [List.drop_succ_cons,List.drop_zero]
 have hRz : wz.heap[q + 1 + 1]? = some (.cells #[.int .i64 1,.int .i64 (2 + (pp : Int)),.int .i64 (1 + (ll : Int)),.bool b1,.bool b2,.int .i64 0,.bool false,.slice none 0 0,.int .i64 0,.bool false] 29 (0,0)):=by have:=hJ.at_; rw [hA] at this; exact this
 have hQz:=hJ.keep KQ.out (by omega)
 have hOz:=hJ.keep KO.out (by omega)
 have hbz : Below w.heap.size w wz:=hJ.below (HB0.out.trans (by rw [HQ.out]; exact ⟨rfl,rfl,rfl,Nat.le_refl _,fun _ _ => rfl⟩)) (by have:=HQ.out; omega)
 obtain ⟨wy,hwy⟩ : ∃ wy,wz.setRow (q + 1) #[.int .i64 1,.int .i64 (2 + (pp : Int)),.int .i64 (1 + (ll : Int)),.bool b1,.bool b2,.int .i64 0,.bool false,.slice none 0 0,.int .i64 0,.bool false] = wy:=⟨_,rfl⟩
 have hOy : wy.heap[q + 1]? = some (.cells #[.int .i64 1,.int .i64 (2 + (pp : Int)),.int .i64 (1 + (ll : Int)),.bool b1,.bool b2,.int .i64 0,.bool false,.slice none 0 0,.int .i64 0,.bool false] 29 (0,0)):=by rw [← hwy]; exact setRow_heap _ _ _ _ _ _ hOz
 have hby : Below w.heap.size w wy:=by rw [← hwy]; exact below_setRow hbz (by have:=HQ.out; omega) _
 have HBY:=Lib.hid hby
 have HWY:=Lib.hid hwy
 have HRZ:=Lib.hid hRz
 have HOZ:=Lib.hid hOz
 have r0 : wy.cell? ⟨q + 1,0,none⟩ = _:=cell_of_heap (o:=0) hOy
 have r1 : wy.cell? ⟨q + 1,1,none⟩ = _:=cell_of_heap (o:=1) hOy
 have r2 : wy.cell? ⟨q + 1,2,none⟩ = _:=cell_of_heap (o:=2) hOy
 have r3 : wy.cell? ⟨q + 1,3,none⟩ = _:=cell_of_heap (o:=3) hOy
 have r4 : wy.cell? ⟨q + 1,4,none⟩ = _:=cell_of_heap (o:=4) hOy
 have r5 : wy.cell? ⟨q + 1,5,none⟩ = _:=cell_of_heap (o:=5) hOy
 have r6 : wy.cell? ⟨q + 1,6,none⟩ = _:=cell_of_heap (o:=6) hOy
 have r7 : wy.cell? ⟨q + 1,7,none⟩ = _:=cell_of_heap (o:=7) hOy
 have r8 : wy.cell? ⟨q + 1,8,none⟩ = _:=cell_of_heap (o:=8) hOy
 have r9 : wy.cell? ⟨q + 1,9,none⟩ = _:=cell_of_heap (o:=9) hOy
 simp only [List.getElem?_toArray,List.getElem?_cons_zero,List.getElem?_cons_succ] at r0 r1 r2 r3 r4 r5 r6 r7 r8 r9
 clear hJ hRz hQz hOz hbz hwy hOy hby
 go_wp2_with (first | (refine wpList_opOK (o:=⟨some 88,Op.load 29 (.tmp 3),_,_,_,_⟩) (R:=fun v w' => v = .agg #[.int .i64 1,.int .i64 (2 + (pp : Int)),.int .i64 (1 + (ll : Int)),.bool b1,.bool b2,.int .i64 0,.bool false,.slice none 0 0,.int .i64 0,.bool false] ∧ wz = w') rfl (opOK_load_row 29 (.tmp 3) rfl (q + 1 + 1) #[.int .i64 1,.int .i64 (2 + (pp : Int)),.int .i64 (1 + (ll : Int)),.bool b1,.bool b2,.int .i64 0,.bool false,.slice none 0 0,.int .i64 0,.bool false] rfl 29 (0,0) HRZ.out _ Tryz.underlying29 rfl (by kernel_rfl) ⟨rfl,rfl⟩) ?_; rintro _ _ ⟨rfl,rfl⟩) | (refine wpList_opOK (o:=⟨none,Op.store 29 (.tmp 2) (.tmp 88),_,_,_,_⟩) (R:=fun _ w' => wy = w') rfl (opOK_store_row 29 (.tmp 2) (.tmp 88) rfl (q + 1) #[.int .i64 1,.int .i64 (2 + (pp : Int)),.int .i64 (1 + (ll : Int)),.bool b1,.bool b2,.int .i64 0,.bool false,.slice none 0 0,.int .i64 0,.bool false] rfl rfl _ _ HOZ.out (by kernel_rfl) rfl (by simp [Value.oneCell']) HWY.out.symm) ?_; rintro _ _ rfl))
 try simp only [Exit.inBlock,Exit.then]
 refine bodyPost_ret (by simp [results,Tryz.results12,go_sem,r0,r1,r2,r3,r4,r5,r6,r7,r8,r9]; try rfl) rfl ?_
 exact ⟨none,0,0,rfl,HBY.out,Sl.nil _ _⟩
set_option maxRecDepth 100000 in
set_option maxHeartbeats 4000000 in
theorem rules1_any (k p l f : Nat) (hk : k ≤ 255) (hp : p ≤ 255) (hl : l ≤ 255) (hf : f ≤ 255) (hkk : k % 4 = 1) (w : World) :
  Calls Tryz.prog 12 #[.agg #[.int .u8 k,.int .u8 p,.int .u8 l,.int .u8 f]] w fun e w' => ∃ va nl vc,e = .returned (.agg (rulA (rulS k p l f) (.slice va nl vc))) ∧ Below w.heap.size w w' ∧ Sl (fun q => w.heap.size ≤ q) w' (.slice va nl vc) (ints (rulS k p l f).nums):=by
 obtain ⟨pp,hpp⟩ : ∃ x,p % 3 = x:=⟨_,rfl⟩
 obtain ⟨ll,hll⟩ : ∃ x,l % 20 = x:=⟨_,rfl⟩
 obtain ⟨lv,hlv⟩ : ∃ x,l % 9 = x:=⟨_,rfl⟩
 obtain ⟨b1,hb1⟩ : ∃ x,(f % 2 == 1) = x:=⟨_,rfl⟩
 obtain ⟨b2,hb2⟩ : ∃ x,(f / 2 % 2 == 1) = x:=⟨_,rfl⟩
 obtain ⟨f1,hf1⟩ : ∃ x,f % 2 = x:=⟨_,rfl⟩
 obtain ⟨f2,hf2⟩ : ∃ x,2 * (f / 2 % 2) = x:=⟨_,rfl⟩
 have m1 : (k : Int).tmod 4 = (1 : Int):=by have:=tmod_nat k 4; rw [hkk] at this; simpa using this
 have m2 : (p : Int).tmod 3 = (pp : Int):=by have:=tmod_nat p 3; rw [hpp] at this; simpa using this
 have m3 : (l : Int).tmod 20 = (ll : Int):=by have:=tmod_nat l 20; rw [hll] at this; simpa using this
 have m4 : (l : Int).tmod 9 = (lv : Int):=by have:=tmod_nat l 9; rw [hlv] at this; simpa using this
 have a1 : bits BinOp.and IntKind.u8 (f : Int) 1 = (f1 : Int):=by rw [bits1 hf,hf1]
 have a2 : bits BinOp.and IntKind.u8 (f : Int) 2 = (f2 : Int):=by rw [bits2 hf,hf2]
 have e1 : ((f1 : Int) == 1) = b1:=by rw [← hb1,← hf1,Bool.eq_iff_iff]; simp; omega
 have e2 : ((f2 : Int) == 2) = b2:=by rw [← hb2,← hf2,Bool.eq_iff_iff]; simp; omega
 have x1 : IntKind.i64.wrap (l : Int) = (l : Int):=wrap_small _ (by omega) (by omega)
 have x2 : IntKind.i64.wrap (ll : Int) = (ll : Int):=wrap_small _ (by omega) (by omega)
 have x3 : IntKind.i64.wrap (1 + (ll : Int)) = 1 + (ll : Int):=wrap_small _ (by omega) (by omega)
 have x4 : IntKind.i64.wrap (lv : Int) = (lv : Int):=wrap_small _ (by omega) (by omega)
 have x5 : IntKind.i64.wrap (1 + (lv : Int)) = 1 + (lv : Int):=wrap_small _ (by omega) (by omega)
 have x6 : IntKind.i64.wrap (f : Int) = (f : Int):=wrap_small _ (by omega) (by omega)
 have y1 : pp ≤ 2:=by omega
 have x7 : IntKind.i64.wrap (2 + (pp : Int)) = 2 + (pp : Int):=wrap_small _ (by omega) (by omega)
 obtain ⟨q,hq⟩ : ∃ q,w.heap.size = q:=⟨_,rfl⟩
 obtain ⟨w0,hw0⟩ : ∃ w0,((w.alloc (.cells #[.int .u8 k,.int .u8 p,.int .u8 l,.int .u8 f] 23)).alloc (.cells #[.int .i64 0,.int .i64 0,.int .i64 0,.bool false,.bool false,.int .i64 0,.bool false,.slice none 0 0,.int .i64 0,.bool false] 29)).alloc (.cells #[.int .i64 2,.int .i64 (2 + (pp : Int)),.int .i64 0,.bool false,.bool false,.int .i64 0,.bool false,.slice none 0 0,.int .i64 0,.bool false] 29) = w0:=⟨_,rfl⟩
 have hb0 : Below w.heap.size w w0:=by rw [← hw0]; exact (((aB _ _).alloc (by simp) _).alloc (by simp; omega) _)
 have KQ : Hid (w0.heap[q]? = some (.cells #[.int .u8 k,.int .u8 p,.int .u8 l,.int .u8 f] 23 (0,0))):=Lib.hid (by rw [← hw0,← hq]; exact heap_old (heap_old (World.alloc_heap_new _ _)))
 have KO : Hid (w0.heap[q + 1]? = some (.cells #[.int .i64 0,.int .i64 0,.int .i64 0,.bool false,.bool false,.int .i64 0,.bool false,.slice none 0 0,.int .i64 0,.bool false] 29 (0,0))):=Lib.hid (by rw [← hw0,← hq]; exact heap_old (heap_two _ _ _))
 have KR : Hid (w0.heap[q + 1 + 1]? = some (.cells #[.int .i64 2,.int .i64 (2 + (pp : Int)),.int .i64 0,.bool false,.bool false,.int .i64 0,.bool false,.slice none 0 0,.int .i64 0,.bool false] 29 (0,0))):=Lib.hid (by
  rw [← hw0,← hq]
  have:=World.alloc_heap_new ((w.alloc (.cells #[.int .u8 k,.int .u8 p,.int .u8 l,.int .u8 f] 23)).alloc (.cells #[.int .i64 0,.int .i64 0,.int .i64 0,.bool false,.bool false,.int .i64 0,.bool false,.slice none 0 0,.int .i64 0,.bool false] 29)) (.cells #[.int .i64 2,.int .i64 (2 + (pp : Int)),.int .i64 0,.bool false,.bool false,.int .i64 0,.bool false,.slice none 0 0,.int .i64 0,.bool false] 29)
  simpa using this)
 have HRUL : Hid (rulS k p l f = ⟨2,2 + (pp : Nat),0,false,false,1 + (ll : Nat),b1,[],0,false⟩):=Lib.hid (by unfold rulS; simp [hkk,hpp,hll,hb1])
 have HZ0 : Hid (w0.heap.size = q + 3):=Lib.hid (by rw [← hw0,← hq]; simp)
 have HB0:=Lib.hid hb0
 have HW0:=Lib.hid hw0
 have HQ:=Lib.hid hq
 have HF:=Lib.hid (And.intro hf hf1)
 clear hw0 hb0 hq hkk hpp hll hlv hb1 hb2 hf1 hf2
 rw [HRUL.out]
 go_enter Tryz.func12,Tryz.ntmps12
 go_wp2_with fail
 rw [HW0.out,HQ.out]
 obtain ⟨A,hA⟩ : ∃ A : (Nat → Bool) → Array Value,A = fun L => #[.int .i64 2,.int .i64 (2 + (pp : Int)),.int .i64 0,.bool false,.bool false,(if L 10 = true then (.int .i64 (1 + (ll : Int))) else (.int .i64 0)),(if L 12 = true then (.bool b1) else (.bool false)),.slice none 0 0,.int .i64 0,.bool false]:=⟨_,rfl⟩
 refine wp_region_seqC 13 [.pointer (some ⟨q,2,none⟩),.int .u8 l,.int .i64 l,.int .i64 ll,.int .i64 (1 + (ll : Int)),.pointer (some ⟨q,3,none⟩),.int .u8 f,.int .u8 f1,.bool b1,.pointer (some ⟨q + 1 + 1,5,none⟩),undef,.pointer (some ⟨q + 1 + 1,6,none⟩),undef] (JArr w0.drew (q + 1 + 1) 29 A) rfl mix (by kernel_rfl) (by kernel_rfl) (JArr.start (by rw [hA]; exact KR.out)) ?_
 simp only [List.take_succ_cons,List.take_zero]
 iterate 10
  refine sc_on (by rfl) (fun _ _ _ h => h.read (by rw [hA]; rfl)) (fun w3 L hL hJ => ?_) ?_
  ·have q0 : w3.cell? ⟨q,0,none⟩ = _:=cell_of_heap (o:=0) (hJ.keep KQ.out (by omega))
   have q1 : w3.cell? ⟨q,1,none⟩ = _:=cell_of_heap (o:=1) (hJ.keep KQ.out (by omega))
   have q2 : w3.cell? ⟨q,2,none⟩ = _:=cell_of_heap (o:=2) (hJ.keep KQ.out (by omega))
   have q3 : w3.cell? ⟨q,3,none⟩ = _:=cell_of_heap (o:=3) (hJ.keep KQ.out (by omega))
   simp [opOK,go_sem,q2,q3,m3,a1,e1,x1,x3]
   try exact rfl
  simp only [Act.put,List.setIfInBounds_toArray,List.set_cons_succ,List.set_cons_zero]
 refine sc_is rfl (fun w3 L hL hJ hd => ?_) ?_
 ·have hf:=hJ.free 5
  have hc:=hJ.own (o:=5) (x:=_) (by rw [hA]; rfl)
  simp [opOK,go_sem,hf,hc]
  exact hJ.store (i:=10) (o:=5) (v:=.int .i64 (1 + (ll : Int))) (by rw [hA]; simp [setB])
 simp only [Act.put]
 refine sc_on (by rfl) (fun _ _ _ h => h.read (by rw [hA]; rfl)) (fun w3 L hL hJ => ?_) ?_
 ·have q0 : w3.cell? ⟨q,0,none⟩ = _:=cell_of_heap (o:=0) (hJ.keep KQ.out (by omega))
  have q1 : w3.cell? ⟨q,1,none⟩ = _:=cell_of_heap (o:=1) (hJ.keep KQ.out (by omega))
  have q2 : w3.cell? ⟨q,2,none⟩ = _:=cell_of_heap (o:=2) (hJ.keep KQ.out (by omega))
  have q3 : w3.cell? ⟨q,3,none⟩ = _:=cell_of_heap (o:=3) (hJ.keep KQ.out (by omega))
  simp [opOK,go_sem]
  try exact rfl
 simp only [Act.put,List.setIfInBounds_toArray,List.set_cons_succ,List.set_cons_zero]
 refine sc_is rfl (fun w3 L hL hJ hd => ?_) ?_
 ·have hf:=hJ.free 6
  have hc:=hJ.own (o:=6) (x:=_) (by rw [hA]; rfl)
  simp [opOK,go_sem,hf,hc]
  exact hJ.store (i:=12) (o:=6) (v:=.bool b1) (by rw [hA]; simp [setB])
 simp only [Act.put]
 refine sc_end fun wz hJ => ?_
 simp only [List.drop_succ_cons,List.drop_zero]
 have hRz : wz.heap[q + 1 + 1]? = some (.cells #[.int .i64 2,.int .i64 (2 + (pp : Int)),.int .i64 0,.bool false,.bool false,.int .i64 (1 + (ll : Int)),.bool b1,.slice none 0 0,.int .i64 0,.bool false] 29 (0,0)):=by have:=hJ.at_; rw [hA] at this; exact this
 have hQz:=hJ.keep KQ.out (by omega)
 have hOz:=hJ.keep KO.out (by omega)
 have hbz : Below w.heap.size w wz:=hJ.below (HB0.out.trans (by rw [HQ.out]; exact ⟨rfl,rfl,rfl,Nat.le_refl _,fun _ _ => rfl⟩)) (by have:=HQ.out; omega)
 obtain ⟨wy,hwy⟩ : ∃ wy,wz.setRow (q + 1) #[.int .i64 2,.int .i64 (2 + (pp : Int)),.int .i64 0,.bool false,.bool false,.int .i64 (1 + (ll : Int)),.bool b1,.slice none 0 0,.int .i64 0,.bool false] = wy:=⟨_,rfl⟩
 have hOy : wy.heap[q + 1]? = some (.cells #[.int .i64 2,.int .i64 (2 + (pp : Int)),.int .i64 0,.bool false,.bool false,.int .i64 (1 + (ll : Int)),.bool b1,.slice none 0 0,.int .i64 0,.bool false] 29 (0,0)):=by rw [← hwy]; exact setRow_heap _ _ _ _ _ _ hOz
 have hby : Below w.heap.size w wy:=by rw [← hwy]; exact below_setRow hbz (by have:=HQ.out; omega) _
 have HBY:=Lib.hid hby
 have HWY:=Lib.hid hwy
 have HRZ:=Lib.hid hRz
 have HOZ:=Lib.hid hOz
 have r0 : wy.cell? ⟨q + 1,0,none⟩ = _:=cell_of_heap (o:=0) hOy
 have r1 : wy.cell? ⟨q + 1,1,none⟩ = _:=cell_of_heap (o:=1) hOy
 have r2 : wy.cell? ⟨q + 1,2,none⟩ = _:=cell_of_heap (o:=2) hOy
 have r3 : wy.cell? ⟨q + 1,3,none⟩ = _:=cell_of_heap (o:=3) hOy
 have r4 : wy.cell? ⟨q + 1,4,none⟩ = _:=cell_of_heap (o:=4) hOy
 have r5 : wy.cell? ⟨q + 1,5,none⟩ = _:=cell_of_heap (o:=5) hOy
 have r6 : wy.cell? ⟨q + 1,6,none⟩ = _:=cell_of_heap (o:=6) hOy
 have r7 : wy.cell? ⟨q + 1,7,none⟩ = _:=cell_of_heap (o:=7) hOy
 have r8 : wy.cell? ⟨q + 1,8,none⟩ = _:=cell_of_heap (o:=8) hOy
 have r9 : wy.cell? ⟨q + 1,9,none⟩ = _:=cell_of_heap (o:=9) hOy
 simp only [List.getElem?_toArray,List.getElem?_cons_zero,List.getElem?_cons_succ] at r0 r1 r2 r3 r4 r5 r6 r7 r8 r9
 clear hJ hRz hQz hOz hbz hwy hOy hby
 go_wp2_with (first | (refine wpList_opOK (o:=⟨some 88,Op.load 29 (.tmp 3),_,_,_,_⟩) (R:=fun v w' => v = .agg #[.int .i64 2,.int .i64 (2 + (pp : Int)),.int .i64 0,.bool false,.bool false,.int .i64 (1 + (ll : Int)),.bool b1,.slice none 0 0,.int .i64 0,.bool false] ∧ wz = w') rfl (opOK_load_row 29 (.tmp 3) rfl (q + 1 + 1) #[.int .i64 2,.int .i64 (2 + (pp : Int)),.int .i64 0,.bool false,.bool false,.int .i64 (1 + (ll : Int)),.bool b1,.slice none 0 0,.int .i64 0,.bool false] rfl 29 (0,0) HRZ.out _ Tryz.underlying29 rfl (by kernel_rfl) ⟨rfl,rfl⟩) ?_; rintro _ _ ⟨rfl,rfl⟩) | (refine wpList_opOK (o:=⟨none,Op.store 29 (.tmp 2) (.tmp 88),_,_,_,_⟩) (R:=fun _ w' => wy = w') rfl (opOK_store_row 29 (.tmp 2) (.tmp 88) rfl (q + 1) #[.int .i64 2,.int .i64 (2 + (pp : Int)),.int .i64 0,.bool false,.bool false,.int .i64 (1 + (ll : Int)),.bool b1,.slice none 0 0,.int .i64 0,.bool false] rfl rfl _ _ HOZ.out (by kernel_rfl) rfl (by simp [Value.oneCell']) HWY.out.symm) ?_; rintro _ _ rfl))
 try simp only [Exit.inBlock,Exit.then]
 refine bodyPost_ret (by simp [results,Tryz.results12,go_sem,r0,r1,r2,r3,r4,r5,r6,r7,r8,r9]; try rfl) rfl ?_
 exact ⟨none,0,0,rfl,HBY.out,Sl.nil _ _⟩
set_option maxRecDepth 100000 in
set_option maxHeartbeats 4000000 in
theorem rules2_any (k p l f : Nat) (hk : k ≤ 255) (hp : p ≤ 255) (hl : l ≤ 255) (hf : f ≤ 255) (hkk : k % 4 = 2) (w : World) :
  Calls Tryz.prog 12 #[.agg #[.int .u8 k,.int .u8 p,.int .u8 l,.int .u8 f]] w fun e w' => ∃ va nl vc,e = .returned (.agg (rulA (rulS k p l f) (.slice va nl vc))) ∧ Below w.heap.size w w' ∧ Sl (fun q => w.heap.size ≤ q) w' (.slice va nl vc) (ints (rulS k p l f).nums):=by
 obtain ⟨pp,hpp⟩ : ∃ x,p % 3 = x:=⟨_,rfl⟩
 obtain ⟨ll,hll⟩ : ∃ x,l % 20 = x:=⟨_,rfl⟩
 obtain ⟨lv,hlv⟩ : ∃ x,l % 9 = x:=⟨_,rfl⟩
 obtain ⟨b1,hb1⟩ : ∃ x,(f % 2 == 1) = x:=⟨_,rfl⟩
 obtain ⟨b2,hb2⟩ : ∃ x,(f / 2 % 2 == 1) = x:=⟨_,rfl⟩
 obtain ⟨f1,hf1⟩ : ∃ x,f % 2 = x:=⟨_,rfl⟩
 obtain ⟨f2,hf2⟩ : ∃ x,2 * (f / 2 % 2) = x:=⟨_,rfl⟩
 have m1 : (k : Int).tmod 4 = (2 : Int):=by have:=tmod_nat k 4; rw [hkk] at this; simpa using this
 have m2 : (p : Int).tmod 3 = (pp : Int):=by have:=tmod_nat p 3; rw [hpp] at this; simpa using this
 have m3 : (l : Int).tmod 20 = (ll : Int):=by have:=tmod_nat l 20; rw [hll] at this; simpa using this
 have m4 : (l : Int).tmod 9 = (lv : Int):=by have:=tmod_nat l 9; rw [hlv] at this; simpa using this
 have a1 : bits BinOp.and IntKind.u8 (f : Int) 1 = (f1 : Int):=by rw [bits1 hf,hf1]
 have a2 : bits BinOp.and IntKind.u8 (f : Int) 2 = (f2 : Int):=by rw [bits2 hf,hf2]
 have e1 : ((f1 : Int) == 1) = b1:=by rw [← hb1,← hf1,Bool.eq_iff_iff]; simp; omega
 have e2 : ((f2 : Int) == 2) = b2:=by rw [← hb2,← hf2,Bool.eq_iff_iff]; simp; omega
 have x1 : IntKind.i64.wrap (l : Int) = (l : Int):=wrap_small _ (by omega) (by omega)
 have x2 : IntKind.i64.wrap (ll : Int) = (ll : Int):=wrap_small _ (by omega) (by omega)
 have x3 : IntKind.i64.wrap (1 + (ll : Int)) = 1 + (ll : Int):=wrap_small _ (by omega) (by omega)
 have x4 : IntKind.i64.wrap (lv : Int) = (lv : Int):=wrap_small _ (by omega) (by omega)
 have x5 : IntKind.i64.wrap (1 + (lv : Int)) = 1 + (lv : Int):=wrap_small _ (by omega) (by omega)
 have x6 : IntKind.i64.wrap (f : Int) = (f : Int):=wrap_small _ (by omega) (by omega)
 have y1 : pp ≤ 2:=by omega
 have x7 : IntKind.i64.wrap (2 + (pp : Int)) = 2 + (pp : Int):=wrap_small _ (by omega) (by omega)
 obtain ⟨q,hq⟩ : ∃ q,w.heap.size = q:=⟨_,rfl⟩
 obtain ⟨w0,hw0⟩ : ∃ w0,((w.alloc (.cells #[.int .u8 k,.int .u8 p,.int .u8 l,.int .u8 f] 23)).alloc (.cells #[.int .i64 0,.int .i64 0,.int .i64 0,.bool false,.bool false,.int .i64 0,.bool false,.slice none 0 0,.int .i64 0,.bool false] 29)).alloc (.cells #[.int .i64 3,.int .i64 (2 + (pp : Int)),.int .i64 0,.bool false,.bool false,.int .i64 (1 + (ll : Int)),.bool false,.slice none 0 0,.int .i64 0,.bool false] 29) = w0:=⟨_,rfl⟩
 have hb0 : Below w.heap.size w w0:=by rw [← hw0]; exact (((aB _ _).alloc (by simp) _).alloc (by simp; omega) _)
 have KQ : Hid (w0.heap[q]? = some (.cells #[.int .u8 k,.int .u8 p,.int .u8 l,.int .u8 f] 23 (0,0))):=Lib.hid (by rw [← hw0,← hq]; exact heap_old (heap_old (World.alloc_heap_new _ _)))
 have KO : Hid (w0.heap[q + 1]? = some (.cells #[.int .i64 0,.int .i64 0,.int .i64 0,.bool false,.bool false,.int .i64 0,.bool false,.slice none 0 0,.int .i64 0,.bool false] 29 (0,0))):=Lib.hid (by rw [← hw0,← hq]; exact heap_old (heap_two _ _ _))
 have KR : Hid (w0.heap[q + 1 + 1]? = some (.cells #[.int .i64 3,.int .i64 (2 + (pp : Int)),.int .i64 0,.bool false,.bool false,.int .i64 (1 + (ll : Int)),.bool false,.slice none 0 0,.int .i64 0,.bool false] 29 (0,0))):=Lib.hid (by
  rw [← hw0,← hq]
  have:=World.alloc_heap_new ((w.alloc (.cells #[.int .u8 k,.int .u8 p,.int .u8 l,.int .u8 f] 23)).alloc (.cells #[.int .i64 0,.int .i64 0,.int .i64 0,.bool false,.bool false,.int .i64 0,.bool false,.slice none 0 0,.int .i64 0,.bool false] 29)) (.cells #[.int .i64 3,.int .i64 (2 + (pp : Int)),.int .i64 0,.bool false,.bool false,.int .i64 (1 + (ll : Int)),.bool false,.slice none 0 0,.int .i64 0,.bool false] 29)
  simpa using this)
 have HRUL : Hid (rulS k p l f = ⟨3,2 + (pp : Nat),0,false,false,1 + (ll : Nat),false,[],0,false⟩):=Lib.hid (by unfold rulS; simp [hkk,hpp,hll])
 have HZ0 : Hid (w0.heap.size = q + 3):=Lib.hid (by rw [← hw0,← hq]; simp)
 have HB0:=Lib.hid hb0
 have HW0:=Lib.hid hw0
 have HQ:=Lib.hid hq
 have HF:=Lib.hid (And.intro hf hf1)
 clear hw0 hb0 hq hkk hpp hll hlv hb1 hb2 hf1 hf2
 rw [HRUL.out]
 go_enter Tryz.func12,Tryz.ntmps12
 go_upto_region 14 with fail
 rw [HW0.out,HQ.out]
 obtain ⟨wz,rfl⟩ : ∃ x : World,x = w0:=⟨_,rfl⟩
 have hRz:=KR.out
 have hQz:=KQ.out
 have hOz:=KO.out
 have hbz:=HB0.out
 obtain ⟨wy,hwy⟩ : ∃ wy,wz.setRow (q + 1) #[.int .i64 3,.int .i64 (2 + (pp : Int)),.int .i64 0,.bool false,.bool false,.int .i64 (1 + (ll : Int)),.bool false,.slice none 0 0,.int .i64 0,.bool false] = wy:=⟨_,rfl⟩
 have hOy : wy.heap[q + 1]? = some (.cells #[.int .i64 3,.int .i64 (2 + (pp : Int)),.int .i64 0,.bool false,.bool false,.int .i64 (1 + (ll : Int)),.bool false,.slice none 0 0,.int .i64 0,.bool false] 29 (0,0)):=by rw [← hwy]; exact setRow_heap _ _ _ _ _ _ hOz
 have hby : Below w.heap.size w wy:=by rw [← hwy]; exact below_setRow hbz (by have:=HQ.out; omega) _
 have HBY:=Lib.hid hby
 have HWY:=Lib.hid hwy
 have HRZ:=Lib.hid hRz
 have HOZ:=Lib.hid hOz
 have r0 : wy.cell? ⟨q + 1,0,none⟩ = _:=cell_of_heap (o:=0) hOy
 have r1 : wy.cell? ⟨q + 1,1,none⟩ = _:=cell_of_heap (o:=1) hOy
 have r2 : wy.cell? ⟨q + 1,2,none⟩ = _:=cell_of_heap (o:=2) hOy
 have r3 : wy.cell? ⟨q + 1,3,none⟩ = _:=cell_of_heap (o:=3) hOy
 have r4 : wy.cell? ⟨q + 1,4,none⟩ = _:=cell_of_heap (o:=4) hOy
 have r5 : wy.cell? ⟨q + 1,5,none⟩ = _:=cell_of_heap (o:=5) hOy
 have r6 : wy.cell? ⟨q + 1,6,none⟩ = _:=cell_of_heap (o:=6) hOy
 have r7 : wy.cell? ⟨q + 1,7,none⟩ = _:=cell_of_heap (o:=7) hOy
 have r8 : wy.cell? ⟨q + 1,8,none⟩ = _:=cell_of_heap (o:=8) hOy
 have r9 : wy.cell? ⟨q + 1,9,none⟩ = _:=cell_of_heap (o:=9) hOy
 simp only [List.getElem?_toArray,List.getElem?_cons_zero,List.getElem?_cons_succ] at r0 r1 r2 r3 r4 r5 r6 r7 r8 r9
 clear hRz hQz hOz hbz hwy hOy hby
 go_wp2_with (first | (refine wpList_opOK (o:=⟨some 88,Op.load 29 (.tmp 3),_,_,_,_⟩) (R:=fun v w' => v = .agg #[.int .i64 3,.int .i64 (2 + (pp : Int)),.int .i64 0,.bool false,.bool false,.int .i64 (1 + (ll : Int)),.bool false,.slice none 0 0,.int .i64 0,.bool false] ∧ wz = w') rfl (opOK_load_row 29 (.tmp 3) rfl (q + 1 + 1) #[.int .i64 3,.int .i64 (2 + (pp : Int)),.int .i64 0,.bool false,.bool false,.int .i64 (1 + (ll : Int)),.bool false,.slice none 0 0,.int .i64 0,.bool false] rfl 29 (0,0) HRZ.out _ Tryz.underlying29 rfl (by kernel_rfl) ⟨rfl,rfl⟩) ?_; rintro _ _ ⟨rfl,rfl⟩) | (refine wpList_opOK (o:=⟨none,Op.store 29 (.tmp 2) (.tmp 88),_,_,_,_⟩) (R:=fun _ w' => wy = w') rfl (opOK_store_row 29 (.tmp 2) (.tmp 88) rfl (q + 1) #[.int .i64 3,.int .i64 (2 + (pp : Int)),.int .i64 0,.bool false,.bool false,.int .i64 (1 + (ll : Int)),.bool false,.slice none 0 0,.int .i64 0,.bool false] rfl rfl _ _ HOZ.out (by kernel_rfl) rfl (by simp [Value.oneCell']) HWY.out.symm) ?_; rintro _ _ rfl))
 try simp only [Exit.inBlock,Exit.then]
 refine bodyPost_ret (by simp [results,Tryz.results12,go_sem,r0,r1,r2,r3,r4,r5,r6,r7,r8,r9]; try rfl) rfl ?_
 exact ⟨none,0,0,rfl,HBY.out,Sl.nil _ _⟩
set_option maxRecDepth 100000 in
set_option maxHeartbeats 4000000 in
theorem rules3_any (k p l f : Nat) (hk : k ≤ 255) (hp : p ≤ 255) (hl : l ≤ 255) (hf : f ≤ 255) (hkk : k % 4 = 3) (w : World) :
  Calls Tryz.prog 12 #[.agg #[.int .u8 k,.int .u8 p,.int .u8 l,.int .u8 f]] w fun e w' => ∃ va nl vc,e = .returned (.agg (rulA (rulS k p l f) (.slice va nl vc))) ∧ Below w.heap.size w w' ∧ Sl (fun q => w.heap.size ≤ q) w' (.slice va nl vc) (ints (rulS k p l f).nums):=by
 obtain ⟨pp,hpp⟩ : ∃ x,p % 3 = x:=⟨_,rfl⟩
 obtain ⟨ll,hll⟩ : ∃ x,l % 20 = x:=⟨_,rfl⟩
 obtain ⟨lv,hlv⟩ : ∃ x,l % 9 = x:=⟨_,rfl⟩
 obtain ⟨b1,hb1⟩ : ∃ x,(f % 2 == 1) = x:=⟨_,rfl⟩
 obtain ⟨b2,hb2⟩ : ∃ x,(f / 2 % 2 == 1) = x:=⟨_,rfl⟩
 obtain ⟨f1,hf1⟩ : ∃ x,f % 2 = x:=⟨_,rfl⟩
 obtain ⟨f2,hf2⟩ : ∃ x,2 * (f / 2 % 2) = x:=⟨_,rfl⟩
 have m1 : (k : Int).tmod 4 = (3 : Int):=by have:=tmod_nat k 4; rw [hkk] at this; simpa using this
 have m2 : (p : Int).tmod 3 = (pp : Int):=by have:=tmod_nat p 3; rw [hpp] at this; simpa using this
 have m3 : (l : Int).tmod 20 = (ll : Int):=by have:=tmod_nat l 20; rw [hll] at this; simpa using this
 have m4 : (l : Int).tmod 9 = (lv : Int):=by have:=tmod_nat l 9; rw [hlv] at this; simpa using this
 have a1 : bits BinOp.and IntKind.u8 (f : Int) 1 = (f1 : Int):=by rw [bits1 hf,hf1]
 have a2 : bits BinOp.and IntKind.u8 (f : Int) 2 = (f2 : Int):=by rw [bits2 hf,hf2]
 have e1 : ((f1 : Int) == 1) = b1:=by rw [← hb1,← hf1,Bool.eq_iff_iff]; simp; omega
 have e2 : ((f2 : Int) == 2) = b2:=by rw [← hb2,← hf2,Bool.eq_iff_iff]; simp; omega
 have x1 : IntKind.i64.wrap (l : Int) = (l : Int):=wrap_small _ (by omega) (by omega)
 have x2 : IntKind.i64.wrap (ll : Int) = (ll : Int):=wrap_small _ (by omega) (by omega)
 have x3 : IntKind.i64.wrap (1 + (ll : Int)) = 1 + (ll : Int):=wrap_small _ (by omega) (by omega)
 have x4 : IntKind.i64.wrap (lv : Int) = (lv : Int):=wrap_small _ (by omega) (by omega)
 have x5 : IntKind.i64.wrap (1 + (lv : Int)) = 1 + (lv : Int):=wrap_small _ (by omega) (by omega)
 have x6 : IntKind.i64.wrap (f : Int) = (f : Int):=wrap_small _ (by omega) (by omega)
 have y1 : pp ≤ 2:=by omega
 have x7 : IntKind.i64.wrap (2 + (pp : Int)) = 2 + (pp : Int):=wrap_small _ (by omega) (by omega)
 obtain ⟨q,hq⟩ : ∃ q,w.heap.size = q:=⟨_,rfl⟩
 obtain ⟨w0,hw0⟩ : ∃ w0,((w.alloc (.cells #[.int .u8 k,.int .u8 p,.int .u8 l,.int .u8 f] 23)).alloc (.cells #[.int .i64 0,.int .i64 0,.int .i64 0,.bool false,.bool false,.int .i64 0,.bool false,.slice none 0 0,.int .i64 0,.bool false] 29)).alloc (.cells #[.int .i64 4,.int .i64 (2 + (pp : Int)),.int .i64 0,.bool false,.bool false,.int .i64 0,.bool false,.slice none 0 0,.int .i64 0,.bool false] 29) = w0:=⟨_,rfl⟩
 have hb0 : Below w.heap.size w w0:=by rw [← hw0]; exact (((aB _ _).alloc (by simp) _).alloc (by simp; omega) _)
 have KQ : Hid (w0.heap[q]? = some (.cells #[.int .u8 k,.int .u8 p,.int .u8 l,.int .u8 f] 23 (0,0))):=Lib.hid (by rw [← hw0,← hq]; exact heap_old (heap_old (World.alloc_heap_new _ _)))
 have KO : Hid (w0.heap[q + 1]? = some (.cells #[.int .i64 0,.int .i64 0,.int .i64 0,.bool false,.bool false,.int .i64 0,.bool false,.slice none 0 0,.int .i64 0,.bool false] 29 (0,0))):=Lib.hid (by rw [← hw0,← hq]; exact heap_old (heap_two _ _ _))
 have KR : Hid (w0.heap[q + 1 + 1]? = some (.cells #[.int .i64 4,.int .i64 (2 + (pp : Int)),.int .i64 0,.bool false,.bool false,.int .i64 0,.bool false,.slice none 0 0,.int .i64 0,.bool false] 29 (0,0))):=Lib.hid (by
  rw [← hw0,← hq]
  have:=World.alloc_heap_new ((w.alloc (.cells #[.int .u8 k,.int .u8 p,.int .u8 l,.int .u8 f] 23)).alloc (.cells #[.int .i64 0,.int .i64 0,.int .i64 0,.bool false,.bool false,.int .i64 0,.bool false,.slice none 0 0,.int .i64 0,.bool false] 29)) (.cells #[.int .i64 4,.int .i64 (2 + (pp : Int)),.int .i64 0,.bool false,.bool false,.int .i64 0,.bool false,.slice none 0 0,.int .i64 0,.bool false] 29)
  simpa using this)
 obtain ⟨NS,hNS⟩ : ∃ NS,(List.range (2 + pp)).map (fun i => ((1 + (f / 2 + 3 * i) % 20 : Nat) : Int)) = NS:=⟨_,rfl⟩
 have HRUL : Hid (rulS k p l f = ⟨4,2 + (pp : Nat),0,false,false,0,false,NS,1 + (lv : Nat),b1⟩):=Lib.hid (by unfold rulS; simp [hkk,hpp,hlv,hb1]; exact hNS)
 have HZ0 : Hid (w0.heap.size = q + 3):=Lib.hid (by rw [← hw0,← hq]; simp)
 have HB0:=Lib.hid hb0
 have HW0:=Lib.hid hw0
 have HQ:=Lib.hid hq
 have HF:=Lib.hid (And.intro hf hf1)
 clear hw0 hb0 hq hkk hpp hll hlv hb1 hb2 hf1 hf2
 rw [HRUL.out]
 go_enter Tryz.func12,Tryz.ntmps12
 go_wp2_with fail
 rw [HW0.out,HQ.out]
 obtain ⟨A,hA⟩ : ∃ A : (Nat → Bool) → Array Value,A = fun L => #[.int .i64 4,.int .i64 (2 + (pp : Int)),.int .i64 0,.bool false,.bool false,.int .i64 0,.bool false,.slice none 0 0,(if L 10 = true then (.int .i64 (1 + (lv : Int))) else (.int .i64 0)),(if L 12 = true then (.bool b1) else (.bool false))]:=⟨_,rfl⟩
 refine wp_region_seqC 13 [.pointer (some ⟨q,2,none⟩),.int .u8 l,.int .i64 l,.int .i64 lv,.int .i64 (1 + (lv : Int)),.pointer (some ⟨q,3,none⟩),.int .u8 f,.int .u8 f1,.bool b1,.pointer (some ⟨q + 1 + 1,8,none⟩),undef,.pointer (some ⟨q + 1 + 1,9,none⟩),undef] (JArr w0.drew (q + 1 + 1) 29 A) rfl mix (by kernel_rfl) (by kernel_rfl) (JArr.start (by rw [hA]; exact KR.out)) ?_
 simp only [List.take_succ_cons,List.take_zero]
 iterate 10
  refine sc_on (by rfl) (fun _ _ _ h => h.read (by rw [hA]; rfl)) (fun w3 L hL hJ => ?_) ?_
  ·have q0 : w3.cell? ⟨q,0,none⟩ = _:=cell_of_heap (o:=0) (hJ.keep KQ.out (by omega))
   have q1 : w3.cell? ⟨q,1,none⟩ = _:=cell_of_heap (o:=1) (hJ.keep KQ.out (by omega))
   have q2 : w3.cell? ⟨q,2,none⟩ = _:=cell_of_heap (o:=2) (hJ.keep KQ.out (by omega))
   have q3 : w3.cell? ⟨q,3,none⟩ = _:=cell_of_heap (o:=3) (hJ.keep KQ.out (by omega))
   simp [opOK,go_sem,q2,q3,m4,a1,e1,x1,x5]
   try exact rfl
  simp only [Act.put,List.setIfInBounds_toArray,List.set_cons_succ,List.set_cons_zero]
 refine sc_is rfl (fun w3 L hL hJ hd => ?_) ?_
 ·have hf:=hJ.free 8
  have hc:=hJ.own (o:=8) (x:=_) (by rw [hA]; rfl)
  simp [opOK,go_sem,hf,hc]
  exact hJ.store (i:=10) (o:=8) (v:=.int .i64 (1 + (lv : Int))) (by rw [hA]; simp [setB])
 simp only [Act.put]
 refine sc_on (by rfl) (fun _ _ _ h => h.read (by rw [hA]; rfl)) (fun w3 L hL hJ => ?_) ?_
 ·have q0 : w3.cell? ⟨q,0,none⟩ = _:=cell_of_heap (o:=0) (hJ.keep KQ.out (by omega))
  have q1 : w3.cell? ⟨q,1,none⟩ = _:=cell_of_heap (o:=1) (hJ.keep KQ.out (by omega))
  have q2 : w3.cell? ⟨q,2,none⟩ = _:=cell_of_heap (o:=2) (hJ.keep KQ.out (by omega))
  have q3 : w3.cell? ⟨q,3,none⟩ = _:=cell_of_heap (o:=3) (hJ.keep KQ.out (by omega))
  simp [opOK,go_sem]
  try exact rfl
 simp only [Act.put,List.setIfInBounds_toArray,List.set_cons_succ,List.set_cons_zero]
 refine sc_is rfl (fun w3 L hL hJ hd => ?_) ?_
 ·have hf:=hJ.free 9
  have hc:=hJ.own (o:=9) (x:=_) (by rw [hA]; rfl)
  simp [opOK,go_sem,hf,hc]
  exact hJ.store (i:=12) (o:=9) (v:=.bool b1) (by rw [hA]; simp [setB])
 simp only [Act.put]
 refine sc_end fun wz hJ => ?_
 simp only [List.drop_succ_cons,List.drop_zero]
 have hRz : wz.heap[q + 1 + 1]? = some (.cells #[.int .i64 4,.int .i64 (2 + (pp : Int)),.int .i64 0,.bool false,.bool false,.int .i64 0,.bool false,.slice none 0 0,.int .i64 (1 + (lv : Int)),.bool b1] 29 (0,0)):=by have:=hJ.at_; rw [hA] at this; exact this
 have hQz:=hJ.keep KQ.out (by omega)
 have hOz:=hJ.keep KO.out (by omega)
 have hbz : Below w.heap.size w wz:=hJ.below (HB0.out.trans (by rw [HQ.out]; exact ⟨rfl,rfl,rfl,Nat.le_refl _,fun _ _ => rfl⟩)) (by have:=HQ.out; omega)
 have hNL : NS.length = 2 + pp:=by rw [← hNS]; simp
 have hNA : ∀ i,i < 2 + pp → NS[i]? = some ((1 + (f / 2 + 3 * i) % 20 : Nat) : Int):=fun i h => by rw [← hNS]; simp [h]
 have HNL:=Lib.hid hNL
 have HNA:=Lib.hid hNA
 have HRZ:=Lib.hid hRz
 have HQZ:=Lib.hid hQz
 have HOZ:=Lib.hid hOz
 have HBZ:=Lib.hid hbz
 have HSZ : Hid (wz.heap.size = q + 3):=Lib.hid (by rw [hJ.size]; exact HZ0.out)
 clear hJ hRz hQz hOz hbz hA hNS hNL hNA HRUL HF
 go_wp2_with fail
 go_loopw [4] (fun iv wr => ∃ (i : Nat) (u : Value),i ≤ 2 + pp ∧ iv = .int .i64 i ∧ Hid (wr.heap[q + 1 + 1]? = some (.cells #[.int .i64 4,.int .i64 (2 + (pp : Int)),.int .i64 0,.bool false,.bool false,.int .i64 0,.bool false,u,.int .i64 (1 + (lv : Int)),.bool b1] 29 (0,0))) ∧ Hid (wr.ownsRow (q + 3) 3 1 u i (ints (NS.take i))) ∧ Hid (wr.heap[q]? = some (.cells #[.int .u8 k,.int .u8 p,.int .u8 l,.int .u8 f] 23 (0,0))) ∧ Hid (wr.heap[q + 1]? = some (.cells #[.int .i64 0,.int .i64 0,.int .i64 0,.bool false,.bool false,.int .i64 0,.bool false,.slice none 0 0,.int .i64 0,.bool false] 29 (0,0))) ∧ Hid (Below w.heap.size w wr ∧ q + 3 ≤ wr.heap.size)) (fun iv _ => 2 + pp - (intOf iv).toNat)
 case atStart => exact ⟨0,.slice none 0 0,by omega,by go_num,HRZ,Lib.hid ⟨rfl,.inl ⟨rfl,rfl⟩⟩,HQZ,HOZ,Lib.hid ⟨HBZ.out,by rw [HSZ.out]; exact Nat.le_refl _⟩⟩
 case round =>
  obtain ⟨i,u,hi,rfl,HR,HO,HSQ,HSO,HB⟩ := hrel
  obtain ⟨wo,rfl⟩ : ∃ wo : World,wo = wr:=⟨_,rfl⟩
  have r1 : wo.cell? ⟨q + 1 + 1,1,none⟩ = some (.int .i64 (2 + (pp : Int))):=by rw [cell_of_heap HR.out]; rfl
  by_cases hlt : i < 2 + pp
  ·have r7 : wo.cell? ⟨q + 1 + 1,7,none⟩ = some u:=by rw [cell_of_heap HR.out]; rfl
   have q3 : wo.cell? ⟨q,3,none⟩ = some (.int .u8 f):=by rw [cell_of_heap HSQ.out]; rfl
   have d1 : decide ((i : Int) < 2 + (pp : Int)) = true:=decide_eq_true (by omega)
   obtain ⟨h,hh⟩ : ∃ h,f / 2 = h:=⟨_,rfl⟩
   have hh2 : h ≤ 127:=by omega
   have t1 : (f : Int).tdiv 2 = (h : Int):=by have:=tdiv_nat f 2; rw [hh] at this; simpa using this
   obtain ⟨x,hx⟩ : ∃ x,(h + 3 * i) % 20 = x:=⟨_,rfl⟩
   have hx2 : x ≤ 19:=by omega
   have t2 : ((h : Int) + 3 * (i : Int)).tmod 20 = (x : Int):=by have:=tmod_nat (h + 3 * i) 20; rw [hx] at this; simpa using this
   have z1 : IntKind.i64.wrap (3 * (i : Int)) = 3 * (i : Int):=wrap_small _ (by omega) (by omega)
   have z2 : IntKind.i64.wrap ((h : Int) + 3 * (i : Int)) = (h : Int) + 3 * (i : Int):=wrap_small _ (by omega) (by omega)
   have z3 : IntKind.i64.wrap (1 + (x : Int)) = 1 + (x : Int):=wrap_small _ (by omega) (by omega)
   have htk : ints (NS.take (i + 1)) = ints (NS.take i) ++ [.int .i64 (1 + (x : Int))]:=by
    rw [List.take_add_one,HNA.out i hlt,hh,hx]
    simp [ints]
   have HTK:=Lib.hid htk
   clear htk hh hx
   go_wp2_with (at_builtin; refine wpList_append1 rfl (.tmp 36) (.tmp 46) 27 rfl (q + 3) 3 (.int .i64 0) 8 Tryz.underlying27 info3 rfl _ i _ rfl (HO.out.alloc _) wo.heap.size 0 1 (.int .i64 (1 + (x : Int))) rfl (cell_new _ _ _) rfl (by omega) (by decide) (by have:=HB.out.2; simp; omega) ?_)
   intro g c w2 ho2 hg2 hgb
   rw [← HTK.out] at ho2
   have hq2 : ∀ (k : Nat) (o : Obj),k < q + 3 → wo.heap[k]? = some o → w2.heap[k]? = some o:=fun k o hk ho => by
    rw [hg2.block k (by have:=HB.out.2; simp; omega) (fun e => by have:=(HO.out.lt k e.symm).1; omega)]
    exact heap_old ho
   have k2:=hq2 (q + 1 + 1) _ (by omega) HR.out
   have c7 : w2.cell? ⟨q + 1 + 1,7,none⟩ = some u:=by rw [cell_of_heap k2]; rfl
   have f7 : w2.frozen? ⟨q + 1 + 1,7,none⟩ = false:=frozen_of_heap k2
   have hb2 : Below w.heap.size w w2:=(bThen HB.out.1 (aB _ _)).trans (below_grownBy hg2 (by have:=HB.out.1.size; simp; omega) fun k hk => by have:=(HO.out.lt k hk).1; have:=HQ.out; omega)
   obtain ⟨w3,hw3⟩ : ∃ w3,w2.setCell ⟨q + 1 + 1,7,none⟩ (.slice (some ⟨g,0,none⟩) (i + 1) c) = w3:=⟨_,rfl⟩
   have HR3 : Hid (w3.heap[q + 1 + 1]? = some (.cells #[.int .i64 4,.int .i64 (2 + (pp : Int)),.int .i64 0,.bool false,.bool false,.int .i64 0,.bool false,.slice (some ⟨g,0,none⟩) (i + 1) c,.int .i64 (1 + (lv : Int)),.bool b1] 29 (0,0))):=Lib.hid (by rw [← hw3,heap_setCell_at k2]; rfl)
   have hgq : q + 3 ≤ g:=(ho2.lt g rfl).1
   have HO3 : Hid (w3.ownsRow (q + 3) 3 1 (.slice (some ⟨g,0,none⟩) (i + 1) c) (i + 1) (ints (NS.take (i + 1)))):=Lib.hid (ownsN_kept ho2 fun k hk => by
    rw [← hw3]; exact Below.heap_setCell _ _ _ _ (by simp only [Value.ownBlock,Option.some.injEq] at hk; dsimp only; omega))
   have HQ3 : Hid (w3.heap[q]? = some (.cells #[.int .u8 k,.int .u8 p,.int .u8 l,.int .u8 f] 23 (0,0))):=Lib.hid (by rw [← hw3]; exact (Below.heap_setCell _ _ _ _ (by dsimp only; omega)).trans (hq2 q _ (by omega) HSQ.out))
   have HSO3 : Hid (w3.heap[q + 1]? = some (.cells #[.int .i64 0,.int .i64 0,.int .i64 0,.bool false,.bool false,.int .i64 0,.bool false,.slice none 0 0,.int .i64 0,.bool false] 29 (0,0))):=Lib.hid (by rw [← hw3]; exact (Below.heap_setCell _ _ _ _ (by dsimp only; omega)).trans (hq2 (q + 1) _ (by omega) HSO.out))
   have HB3 : Hid (Below w.heap.size w w3 ∧ q + 3 ≤ w3.heap.size):=Lib.hid (by
    rw [← hw3]
    refine ⟨hb2.setCell (by have:=HQ.out; dsimp only; omega) _, ?_⟩
    have h1:=hg2.size
    have h2:=HB.out.2
    simp at h1 ⊢; omega)
   have HW3:=Lib.hid hw3
   clear hq2 hb2 hw3 ho2 hg2 hgb hgq k2 r1 r7 q3 d1 t1 t2 z1 z2 z3
   go_wp2
   rw [HW3.out]
   go_roundw
   case rel => exact ⟨i + 1,_,by omega,by go_num,HR3,HO3,HQ3,HSO3,HB3⟩
   case measure => simp [intOf]; omega
  ·obtain rfl : i = 2 + pp:=by omega
   have d1 : decide (((2 + pp : Nat) : Int) < 2 + (pp : Int)) = false:=decide_eq_false (by omega)
   have hsl:=Sl.of_owns HO.out
   rw [List.take_of_length_le (by rw [HNL.out]; exact Nat.le_refl _)] at hsl
   obtain ⟨va,vc,rfl,_,_⟩ := hsl.form
   rw [ints_length,HNL.out] at hsl HR
   obtain ⟨nl,hnl⟩ : ∃ nl,2 + pp = nl:=⟨_,rfl⟩
   rw [hnl] at hsl HR
   obtain ⟨wy,hwy⟩ : ∃ wy,wo.setRow (q + 1) #[.int .i64 4,.int .i64 (2 + (pp : Int)),.int .i64 0,.bool false,.bool false,.int .i64 0,.bool false,.slice va nl vc,.int .i64 (1 + (lv : Int)),.bool b1] = wy:=⟨_,rfl⟩
   have hOy : wy.heap[q + 1]? = some (.cells #[.int .i64 4,.int .i64 (2 + (pp : Int)),.int .i64 0,.bool false,.bool false,.int .i64 0,.bool false,.slice va nl vc,.int .i64 (1 + (lv : Int)),.bool b1] 29 (0,0)):=by rw [← hwy]; exact setRow_heap _ _ _ _ _ _ HSO.out
   have hby : Below w.heap.size w wy:=by rw [← hwy]; exact below_setRow HB.out.1 (by have:=HQ.out; omega) _
   have hsy : Sl (fun k => w.heap.size ≤ k) wy (.slice va nl vc) (ints NS):=(hsl.keepB (w':=wy) fun k hk _ => by rw [← hwy]; exact setRow_other _ _ _ _ (by omega)).mono fun k hk => by have:=HQ.out; omega
   have HSY:=Lib.hid hsy
   have HBY:=Lib.hid hby
   have HWY:=Lib.hid hwy
   have r0 : wy.cell? ⟨q + 1,0,none⟩ = _:=cell_of_heap (o:=0) hOy
   clear r1
   have r1b : wy.cell? ⟨q + 1,1,none⟩ = _:=cell_of_heap (o:=1) hOy
   have r2 : wy.cell? ⟨q + 1,2,none⟩ = _:=cell_of_heap (o:=2) hOy
   have r3 : wy.cell? ⟨q + 1,3,none⟩ = _:=cell_of_heap (o:=3) hOy
   have r4 : wy.cell? ⟨q + 1,4,none⟩ = _:=cell_of_heap (o:=4) hOy
   have r5 : wy.cell? ⟨q + 1,5,none⟩ = _:=cell_of_heap (o:=5) hOy
   have r6 : wy.cell? ⟨q + 1,6,none⟩ = _:=cell_of_heap (o:=6) hOy
   have r7 : wy.cell? ⟨q + 1,7,none⟩ = _:=cell_of_heap (o:=7) hOy
   have r8 : wy.cell? ⟨q + 1,8,none⟩ = _:=cell_of_heap (o:=8) hOy
   have r9 : wy.cell? ⟨q + 1,9,none⟩ = _:=cell_of_heap (o:=9) hOy
   simp only [List.getElem?_toArray,List.getElem?_cons_zero,List.getElem?_cons_succ] at r0 r1b r2 r3 r4 r5 r6 r7 r8 r9
   have r1w : wo.cell? ⟨q + 1 + 1,1,none⟩ = some (.int .i64 (2 + (pp : Int))):=by rw [cell_of_heap HR.out]; rfl
   clear hsl hwy hOy hby hsy
   go_wp2_with (first | (refine wpList_opOK (o:=⟨some 88,Op.load 29 (.tmp 3),_,_,_,_⟩) (R:=fun v w' => v = .agg #[.int .i64 4,.int .i64 (2 + (pp : Int)),.int .i64 0,.bool false,.bool false,.int .i64 0,.bool false,.slice va nl vc,.int .i64 (1 + (lv : Int)),.bool b1] ∧ wo = w') rfl (opOK_load_row 29 (.tmp 3) rfl (q + 1 + 1) #[.int .i64 4,.int .i64 (2 + (pp : Int)),.int .i64 0,.bool false,.bool false,.int .i64 0,.bool false,.slice va nl vc,.int .i64 (1 + (lv : Int)),.bool b1] rfl 29 (0,0) HR.out _ Tryz.underlying29 rfl (by kernel_rfl) ⟨rfl,rfl⟩) ?_; rintro _ _ ⟨rfl,rfl⟩) | (refine wpList_opOK (o:=⟨none,Op.store 29 (.tmp 2) (.tmp 88),_,_,_,_⟩) (R:=fun _ w' => wy = w') rfl (opOK_store_row 29 (.tmp 2) (.tmp 88) rfl (q + 1) #[.int .i64 4,.int .i64 (2 + (pp : Int)),.int .i64 0,.bool false,.bool false,.int .i64 0,.bool false,.slice va nl vc,.int .i64 (1 + (lv : Int)),.bool b1] rfl rfl _ _ HSO.out (by kernel_rfl) rfl (by simp [Value.oneCell']) HWY.out.symm) ?_; rintro _ _ rfl))
   try simp only [Exit.inBlock,Exit.then]
   refine bodyPost_ret (by simp [results,Tryz.results12,go_sem,r0,r1b,r2,r3,r4,r5,r6,r7,r8,r9]; try rfl) rfl ?_
   exact ⟨va,nl,vc,rfl,HBY.out,HSY.out⟩
theorem rules_any (k p l f : Nat) (hk : k ≤ 255) (hp : p ≤ 255) (hl : l ≤ 255) (hf : f ≤ 255) (w : World) :
  Calls Tryz.prog 12 #[.agg #[.int .u8 k,.int .u8 p,.int .u8 l,.int .u8 f]] w fun e w' => ∃ va nl vc,e = .returned (.agg (rulA (rulS k p l f) (.slice va nl vc))) ∧ Below w.heap.size w w' ∧ Sl (fun q => w.heap.size ≤ q) w' (.slice va nl vc) (ints (rulS k p l f).nums):=by
 rcases (show k % 4 = 0 ∨ k % 4 = 1 ∨ k % 4 = 2 ∨ k % 4 = 3 by omega) with h | h | h | h
 ·exact rules0_any k p l f hk hp hl hf h w
 ·exact rules1_any k p l f hk hp hl hf h w
 ·exact rules2_any k p l f hk hp hl hf h w
 ·exact rules3_any k p l f hk hp hl hf h w
end Go.Proofs.YtnhggfnnolfcdaaGreat
