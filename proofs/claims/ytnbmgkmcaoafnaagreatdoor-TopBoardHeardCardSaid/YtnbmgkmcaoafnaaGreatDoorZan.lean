/- The texts HJ, RangeA, IK, LY, SO, LibM, CB, CD, HK, in build order. -/
import Derived.Test.YtnbmgkmcaoafnaaGreatDoorZam
import Derived.RangeFuncBound
import Derived.RangeFuncLeaves
import Derived.Shelf.Abstract
import Derived.Shelf.RegionOpen
import Derived.OwnWalkIn
import Derived.TacticsInMore
import Derived.LoopNIn
import Derived.LoopIn
import Derived.Shelf.Small.Bits
import Derived.Shelf.Sort.Plain
import Derived.Ground.Names2Prog
import Derived.Test.YtnbmgkmcaoafnaaGreatDoorProg
import Derived.Handy
import Derived.Laws.MakeOwn

/- Chapter 5: a leg for a question about a stand (open). -/
namespace Go.Proofs.YtnbmgkmcaoafnaaGreatDoor
open Go.RowKit Go.Oche Go.Proofs

def okStand (l : Lg) (s : Std) : Bool:=isIn s.left (low5 l.gout) l.start && (s.inn || (s.left == l.start && !(l.gin == 0)))
def openE (l : Lg) (s : Std) : Int:=if checkL l = 0 then (if okStand l s = true then 0 else 2) else checkL l
theorem sl_blk {w : World} {b : Nat} {t : TypeId} {xs : List Value} (h : w.heap[b]? = some (.cells xs.toArray t (0,0))) (hl : xs.length ≤ maxLen) : Sl (fun _ => True) w (.slice (some ⟨b,0,none⟩) xs.length xs.length) xs :=
 ⟨_,_,rfl,Nat.le_refl _,hl,fun i x hx => ⟨b,0,rfl,trivial,by unfold World.cell?; rw [h]; simpa using hx⟩⟩
def kSl (t : TypeId) (xs : List Value) : Kn where
 s:=fun v => ∃ b,v = .slice (some ⟨b,0,none⟩) xs.length xs.length
 p:=fun v w => ∃ b,v = .slice (some ⟨b,0,none⟩) xs.length xs.length ∧ w.heap[b]? = some (.cells xs.toArray t (0,0))
 m:=fun _ _ _ hb ⟨b,h1,h2⟩ => ⟨b,h1,(hb.block b (Array.getElem?_eq_some_iff.1 h2).1).trans h2⟩
theorem check_r {S : Nat → Prop} (l : Lg) (c : Int) (hc : Hid (checkL l = c)) (bv : Value) (w : World) (hs : Sl S w bv (ints l.beds)) (hbd : BedsIn l) :
  Calls Tryz.prog 45 #[legV l bv] w fun e w' => e = .returned (.int .i64 c) ∧ Below w.heap.size w w':=by
 rw [← hc.out]; exact check_any l bv w hs hbd
theorem low_r (g lw : Int) (h : Hid (low5 g = lw)) (w : World) : Calls Tryz.prog 103 #[.int .i64 g] w fun e w' => e = .returned (.int .i64 lw) ∧ w = w':=by rw [← h.out]; exact lowest_any g w
set_option maxRecDepth 100000 in
set_option maxHeartbeats 4000000 in
theorem open_any {S : Nat → Prop} (l : Lg) (bv : Value) (s : Std) (w : World) (hs : Sl S w bv (ints l.beds)) (hbd : BedsIn l) :
  Calls Tryz.prog 65 #[legV l bv,stV s] w fun e w' => ∃ pv,e = .returned (.tuple #[pv,.int .i64 (openE l s)]) ∧ Below w.heap.size w w' ∧ (openE l s = 0 → ∃ gb hb kb,pv = .pointer (some ⟨gb,0,none⟩) ∧ GameAt l (fun q => q = gb ∨ q = hb ∨ q = kb) w' gb hb kb ∧ w.heap.size ≤ gb ∧ w.heap.size ≤ hb ∧ w.heap.size ≤ kb):=by
 obtain ⟨a,cap,rfl,h2,h3⟩ := hs.form;simp only [ints_length] at *;unfold maxLen at h3;obtain ⟨sl,si⟩ := s;obtain ⟨er,her⟩ : ∃ e,openE l ⟨sl,si⟩ = e:=⟨_,rfl⟩;obtain ⟨ce,hce⟩ : ∃ e,checkL l = e:=⟨_,rfl⟩;obtain ⟨b1,hb1⟩ : ∃ b,isIn sl (low5 l.gout) l.start = b:=⟨_,rfl⟩;obtain ⟨lw,hlw⟩ : ∃ b,low5 l.gout = b:=⟨_,rfl⟩;obtain ⟨ne,hne⟩ : ∃ b,(sl != l.start) = b:=⟨_,rfl⟩;obtain ⟨gz,hgz⟩ : ∃ b,(l.gin == 0) = b:=⟨_,rfl⟩;have HE : Hid (er = if ce = 0 then (if (b1 && (si || (!ne && !gz))) = true then 0 else 2) else ce):=Lib.hid (by
  rw [← her,← hce,← hb1,← hgz,← hne]; unfold openE okStand;simp [bne])
 rw [her];unfold stV;have HS:=Lib.hid hs;have HBD:=Lib.hid hbd;have HCE:=Lib.hid hce;have HB : Hid (isIn sl lw l.start = b1):=Lib.hid (by rw [← hlw]; exact hb1)
 have HLW:=Lib.hid hlw;obtain ⟨w1,hw1⟩ : ∃ x,(w.alloc (.cells #[.int .i64 l.start,.int .i64 l.gin,.int .i64 l.gout,.slice a l.beds.length cap,.int .i64 l.players,.int .i64 l.turns,.bool l.won] 53)).alloc (.cells #[.int .i64 sl,.bool si] 106) = x:=⟨_,rfl⟩;have hbw : Below w.heap.size w w1:=by rw [← hw1]; exact (aB _ _).alloc (by simp) _
 have K : Hid (w1.heap[w.heap.size]? = some (.cells #[.int .i64 l.start,.int .i64 l.gin,.int .i64 l.gout,.slice a l.beds.length cap,.int .i64 l.players,.int .i64 l.turns,.bool l.won] 53 (0,0))):=Lib.hid (by
  rw [← hw1]; exact (Below.heap_alloc _ _ _ (by simp)).trans (World.alloc_heap_new _ _))
 have K2 : Hid (w1.heap[w.heap.size + 1]? = some (.cells #[.int .i64 sl,.bool si] 106 (0,0))):=Lib.hid (by
  rw [← hw1,show w.heap.size + 1 = (w.alloc (.cells #[.int .i64 l.start,.int .i64 l.gin,.int .i64 l.gout,.slice a l.beds.length cap,.int .i64 l.players,.int .i64 l.turns,.bool l.won] 53)).heap.size by simp]; exact World.alloc_heap_new _ _)
 have HS1:=Lib.hid (HS.out.below hbw);have HW:=Lib.hid hw1;have HB1:=Lib.hid hbw;have c0 : w1.cell? ⟨w.heap.size,0,none⟩ = some (.int .i64 l.start):=by rw [cell_of_heap K.out]; rfl
 have c1 : w1.cell? ⟨w.heap.size,1,none⟩ = some (.int .i64 l.gin):=by rw [cell_of_heap K.out]; rfl
 have c2 : w1.cell? ⟨w.heap.size,2,none⟩ = some (.int .i64 l.gout):=by rw [cell_of_heap K.out]; rfl
 have c3 : w1.cell? ⟨w.heap.size,3,none⟩ = some (.slice a l.beds.length cap):=by rw [cell_of_heap K.out]; rfl
 have c4 : w1.cell? ⟨w.heap.size,4,none⟩ = some (.int .i64 l.players):=by rw [cell_of_heap K.out]; rfl
 have c5 : w1.cell? ⟨w.heap.size,5,none⟩ = some (.int .i64 l.turns):=by rw [cell_of_heap K.out]; rfl
 have c6 : w1.cell? ⟨w.heap.size,6,none⟩ = some (.bool l.won):=by rw [cell_of_heap K.out]; rfl
 clear hw1 hbw hs hbd hce hb1 hlw her;unfold legV legA
 go_enter Tryz.func65,Tryz.ntmps65
 go_upto_region 1 with fail
 rw [HW.out];go_wp2_with fail;clear c0 c1 c2 c3 c4 c5 c6;refine (check_r l ce HCE (.slice a l.beds.length cap) w1 HS1.out HBD.out).mono ?_
 rintro e w2 ⟨rfl,hb2⟩;have HB2:=Lib.hid (bThen HB1.out hb2);have HS2:=Lib.hid (HS1.out.below hb2)
 replace K:=Lib.hid ((hb2.block _ (Array.getElem?_eq_some_iff.1 K.out).1).trans K.out)
 replace K2:=Lib.hid ((hb2.block _ (Array.getElem?_eq_some_iff.1 K2.out).1).trans K2.out)
 clear hb2 HB1 HS1 HW;by_cases hc0 : ce = 0
 ·have hx0 : (ce != 0) = false:=by simp [hc0]
  have HC0:=Lib.hid hc0;clear hc0;go_upto_region 4 with fail;have c0 : w2.cell? ⟨w.heap.size,0,none⟩ = some (.int .i64 l.start):=by rw [cell_of_heap K.out]; rfl
  have c1 : w2.cell? ⟨w.heap.size,1,none⟩ = some (.int .i64 l.gin):=by rw [cell_of_heap K.out]; rfl
  have c2 : w2.cell? ⟨w.heap.size,2,none⟩ = some (.int .i64 l.gout):=by rw [cell_of_heap K.out]; rfl
  have s0 : w2.cell? ⟨w.heap.size + 1,0,none⟩ = some (.int .i64 sl):=by rw [cell_of_heap K2.out]; rfl
  have s1 : w2.cell? ⟨w.heap.size + 1,1,none⟩ = some (.bool si):=by rw [cell_of_heap K2.out]; rfl
  cases b1
  ·refine wp_region_seq 31 [.is (.pointer (some ⟨w.heap.size,0,none⟩)),.is (.pointer (some ⟨w.heap.size,2,none⟩)),.is (.int .i64 l.gout),.is (.int .i64 lw),.is (.pointer (some ⟨w.heap.size,0,none⟩)),.is (.pointer (some ⟨w.heap.size,0,none⟩)),.is (.int .i64 l.start),.is (.pointer (some ⟨w.heap.size + 1,0,none⟩)),.is (.int .i64 sl),kSl 3 [.int .i64 sl],.is (.bool false),.is (.bool true),.is (.bool true),.is undef,.is undef,.is undef,.is undef,.is undef,.is undef,.is undef,.is undef,.is undef,.is undef,.is undef,.is undef,.is undef,.is undef,.is undef,.is undef,.is undef,.is (.bool true)] rfl mix (by kernel_rfl) (by kernel_rfl) ?seqm
   case seqm =>
    simp only [List.take_succ_cons,List.take_zero]
    iterate 3
     refine seq_on (by rfl) (fun w3 hb3 _ => ?_) ?_
     ·have c0':=bAt hb3 c0
      have c1':=bAt hb3 c1;have c2':=bAt hb3 c2;have s0':=bAt hb3 s0;have s1':=bAt hb3 s1;simp [opOK,go_sem,c2',Below.refl]
      try exact rfl
     simp only [Act.put,List.setIfInBounds_toArray,List.set_cons_succ,List.set_cons_zero]
    refine seq_on (by rfl) (fun w3 hb3 hH => ?_) ?_
    ·have c0':=bAt hb3 c0
     have c1':=bAt hb3 c1;have c2':=bAt hb3 c2;have s0':=bAt hb3 s0;have s1':=bAt hb3 s1;refine opOK_call (f:=103) (args:=#[.int .i64 l.gout]) (by simp [go_sem]) ?_
     exact (low_r l.gout lw HLW w3).mono fun e W' ⟨he,hb⟩ => ⟨_,he,rfl,by rw [← hb]; exact Below.refl _ _⟩
    simp only [Act.put,List.setIfInBounds_toArray,List.set_cons_succ,List.set_cons_zero]
    iterate 5
     refine seq_on (by rfl) (fun w3 hb3 _ => ?_) ?_
     ·have c0':=bAt hb3 c0
      have c1':=bAt hb3 c1;have c2':=bAt hb3 c2;have s0':=bAt hb3 s0;have s1':=bAt hb3 s1;simp [opOK,go_sem,c0',s0',Below.refl]
      try exact rfl
     simp only [Act.put,List.setIfInBounds_toArray,List.set_cons_succ,List.set_cons_zero]
    refine seq_new ⟨_,0,rfl⟩ (by rfl) (fun w3 hb3 hH => ?_) ?_
    ·have c0':=bAt hb3 c0
     have c1':=bAt hb3 c1;have c2':=bAt hb3 c2;have s0':=bAt hb3 s0;have s1':=bAt hb3 s1;refine opOK_val (v:=.slice (some ⟨w3.heap.size,0,none⟩) 1 1) (w':=w3.alloc (.cells #[.int .i64 sl] 3)) (by simp [go_sem,execOp]) ⟨aB _ _,⟨_,rfl⟩,_,rfl,World.alloc_heap_new _ _⟩
    rintro v ⟨bs,rfl⟩;simp only [Act.put,List.setIfInBounds_toArray,List.set_cons_succ,List.set_cons_zero];refine seq_on (by rfl) (fun w3 hb3 hH => ?_) ?_
    ·have c0':=bAt hb3 c0
     have c1':=bAt hb3 c1;have c2':=bAt hb3 c2;have s0':=bAt hb3 s0;have s1':=bAt hb3 s1;have hsl:=hH ⟨9,.data⟩ (by simp) rfl
     simp [addH,kSl] at hsl
     refine opOK_call (f:=48) (args:=#[.int .i64 lw,.int .i64 l.start,.slice (some ⟨bs,0,none⟩) 1 1]) (by simp [go_sem]) ?_
     exact (within_r lw l.start sl _ HB _ w3 (sl_blk (t:=3) (xs:=ints [sl]) hsl (by simp [maxLen]))).mono fun e W' ⟨he,hb⟩ => ⟨_,he,rfl,hb⟩
    simp only [Act.put,List.setIfInBounds_toArray,List.set_cons_succ,List.set_cons_zero]
    iterate 2
     refine seq_on (by rfl) (fun w3 hb3 _ => ?_) ?_
     ·have c0':=bAt hb3 c0
      have c1':=bAt hb3 c1;have c2':=bAt hb3 c2;have s0':=bAt hb3 s0;have s1':=bAt hb3 s1;simp [opOK,go_sem,Below.refl]
      try exact rfl
     simp only [Act.put,List.setIfInBounds_toArray,List.set_cons_succ,List.set_cons_zero]
    iterate 17
     refine seq_off (by rfl) ?_
     simp only [Act.put,List.setIfInBounds_toArray,List.set_cons_succ,List.set_cons_zero]
    refine seq_on (by rfl) (fun w3 hb3 _ => ?_) ?_
    ·have c0':=bAt hb3 c0
     have c1':=bAt hb3 c1;have c2':=bAt hb3 c2;have s0':=bAt hb3 s0;have s1':=bAt hb3 s1;simp [opOK,go_sem,Below.refl]
     try exact rfl
    simp only [Act.put,List.setIfInBounds_toArray,List.set_cons_succ,List.set_cons_zero];refine seq_end fun w3 hb3 _ => ?_
    simp only [List.drop_succ_cons,List.drop_zero];have HB3:=Lib.hid (bThen HB2.out hb3);have HS3:=Lib.hid (HS2.out.below hb3)
    replace K:=Lib.hid ((hb3.block _ (Array.getElem?_eq_some_iff.1 K.out).1).trans K.out)
    clear hb3 c0 c1 c2 s0 s1 HB2 HS2;have he : er = 2:=by rw [HE.out,if_pos HC0.out]; rfl
    clear HE;subst he;go_wp2;go_returns;exact ⟨_,rfl,HB3.out,fun h => by cases h⟩
  ·cases si
   ·cases ne
    ·refine wp_region_seq 31 [.is (.pointer (some ⟨w.heap.size,0,none⟩)),.is (.pointer (some ⟨w.heap.size,2,none⟩)),.is (.int .i64 l.gout),.is (.int .i64 lw),.is (.pointer (some ⟨w.heap.size,0,none⟩)),.is (.pointer (some ⟨w.heap.size,0,none⟩)),.is (.int .i64 l.start),.is (.pointer (some ⟨w.heap.size + 1,0,none⟩)),.is (.int .i64 sl),kSl 3 [.int .i64 sl],.is (.bool true),.is (.bool false),.is (.bool false),.is (.pointer (some ⟨w.heap.size + 1,1,none⟩)),.is (.bool false),.is (.bool true),.is (.bool true),.is (.pointer (some ⟨w.heap.size + 1,0,none⟩)),.is (.int .i64 sl),.is (.pointer (some ⟨w.heap.size,0,none⟩)),.is (.pointer (some ⟨w.heap.size,0,none⟩)),.is (.int .i64 l.start),.is (.bool false),.is (.bool false),.is (.pointer (some ⟨w.heap.size,0,none⟩)),.is (.pointer (some ⟨w.heap.size,1,none⟩)),.is (.int .i64 l.gin),.is (.bool gz),.is (.bool gz),.is (.bool gz),.is (.bool gz)] rfl mix (by kernel_rfl) (by kernel_rfl) ?seqm
     case seqm =>
      simp only [List.take_succ_cons,List.take_zero]
      iterate 3
       refine seq_on (by rfl) (fun w3 hb3 _ => ?_) ?_
       ·have c0':=bAt hb3 c0
        have c1':=bAt hb3 c1;have c2':=bAt hb3 c2;have s0':=bAt hb3 s0;have s1':=bAt hb3 s1;simp [opOK,go_sem,c2',Below.refl]
        try exact rfl
       simp only [Act.put,List.setIfInBounds_toArray,List.set_cons_succ,List.set_cons_zero]
      refine seq_on (by rfl) (fun w3 hb3 hH => ?_) ?_
      ·have c0':=bAt hb3 c0
       have c1':=bAt hb3 c1;have c2':=bAt hb3 c2;have s0':=bAt hb3 s0;have s1':=bAt hb3 s1;refine opOK_call (f:=103) (args:=#[.int .i64 l.gout]) (by simp [go_sem]) ?_
       exact (low_r l.gout lw HLW w3).mono fun e W' ⟨he,hb⟩ => ⟨_,he,rfl,by rw [← hb]; exact Below.refl _ _⟩
      simp only [Act.put,List.setIfInBounds_toArray,List.set_cons_succ,List.set_cons_zero]
      iterate 5
       refine seq_on (by rfl) (fun w3 hb3 _ => ?_) ?_
       ·have c0':=bAt hb3 c0
        have c1':=bAt hb3 c1;have c2':=bAt hb3 c2;have s0':=bAt hb3 s0;have s1':=bAt hb3 s1;simp [opOK,go_sem,c0',s0',Below.refl]
        try exact rfl
       simp only [Act.put,List.setIfInBounds_toArray,List.set_cons_succ,List.set_cons_zero]
      refine seq_new ⟨_,0,rfl⟩ (by rfl) (fun w3 hb3 hH => ?_) ?_
      ·have c0':=bAt hb3 c0
       have c1':=bAt hb3 c1;have c2':=bAt hb3 c2;have s0':=bAt hb3 s0;have s1':=bAt hb3 s1;refine opOK_val (v:=.slice (some ⟨w3.heap.size,0,none⟩) 1 1) (w':=w3.alloc (.cells #[.int .i64 sl] 3)) (by simp [go_sem,execOp]) ⟨aB _ _,⟨_,rfl⟩,_,rfl,World.alloc_heap_new _ _⟩
      rintro v ⟨bs,rfl⟩;simp only [Act.put,List.setIfInBounds_toArray,List.set_cons_succ,List.set_cons_zero];refine seq_on (by rfl) (fun w3 hb3 hH => ?_) ?_
      ·have c0':=bAt hb3 c0
       have c1':=bAt hb3 c1;have c2':=bAt hb3 c2;have s0':=bAt hb3 s0;have s1':=bAt hb3 s1;have hsl:=hH ⟨9,.data⟩ (by simp) rfl
       simp [addH,kSl] at hsl
       refine opOK_call (f:=48) (args:=#[.int .i64 lw,.int .i64 l.start,.slice (some ⟨bs,0,none⟩) 1 1]) (by simp [go_sem]) ?_
       exact (within_r lw l.start sl _ HB _ w3 (sl_blk (t:=3) (xs:=ints [sl]) hsl (by simp [maxLen]))).mono fun e W' ⟨he,hb⟩ => ⟨_,he,rfl,hb⟩
      simp only [Act.put,List.setIfInBounds_toArray,List.set_cons_succ,List.set_cons_zero]
      iterate 20
       refine seq_on (by rfl) (fun w3 hb3 _ => ?_) ?_
       ·have c0':=bAt hb3 c0
        have c1':=bAt hb3 c1;have c2':=bAt hb3 c2;have s0':=bAt hb3 s0;have s1':=bAt hb3 s1;simp [opOK,go_sem,c0',c1',s0',s1',hne,hgz,Below.refl]
        try exact rfl
       simp only [Act.put,List.setIfInBounds_toArray,List.set_cons_succ,List.set_cons_zero]
      refine seq_end fun w3 hb3 _ => ?_
      simp only [List.drop_succ_cons,List.drop_zero];have HB3:=Lib.hid (bThen HB2.out hb3);have HS3:=Lib.hid (HS2.out.below hb3)
      replace K:=Lib.hid ((hb3.block _ (Array.getElem?_eq_some_iff.1 K.out).1).trans K.out)
      clear hb3 c0 c1 c2 s0 s1 HB2 HS2;cases gz
      ·have he : er = 0:=by rw [HE.out,if_pos HC0.out]; rfl
       clear HE;subst he;have c0 : w3.cell? ⟨w.heap.size,0,none⟩ = some (.int .i64 l.start):=by rw [cell_of_heap K.out]; rfl
       have c1 : w3.cell? ⟨w.heap.size,1,none⟩ = some (.int .i64 l.gin):=by rw [cell_of_heap K.out]; rfl
       have c2 : w3.cell? ⟨w.heap.size,2,none⟩ = some (.int .i64 l.gout):=by rw [cell_of_heap K.out]; rfl
       have c3 : w3.cell? ⟨w.heap.size,3,none⟩ = some (.slice a l.beds.length cap):=by rw [cell_of_heap K.out]; rfl
       have c4 : w3.cell? ⟨w.heap.size,4,none⟩ = some (.int .i64 l.players):=by rw [cell_of_heap K.out]; rfl
       have c5 : w3.cell? ⟨w.heap.size,5,none⟩ = some (.int .i64 l.turns):=by rw [cell_of_heap K.out]; rfl
       have c6 : w3.cell? ⟨w.heap.size,6,none⟩ = some (.bool l.won):=by rw [cell_of_heap K.out]; rfl
       go_wp2_with fail;clear c0 c1 c2 c3 c4 c5 c6;refine (newGame_any l (.slice a l.beds.length cap) w3 (valid_of (by rw [HCE.out,HC0.out])) HS3.out HBD.out).mono ?_
       rintro e w4 ⟨gb,hb,kb,rfl,hb4,hG,hg1,hg2,hg3⟩;have HB4:=Lib.hid (bThen HB3.out hb4);have HG:=Lib.hid hG;have hsz:=HB3.out.size;clear hb4 hG;go_wp2;go_returns;exact ⟨_,rfl,HB4.out,gb,rfl,hb,kb,HG.out,by omega,by omega,by omega⟩
      ·have he : er = 2:=by rw [HE.out,if_pos HC0.out]; rfl
       clear HE;subst he;go_wp2;go_returns;exact ⟨_,rfl,HB3.out,fun h => by cases h⟩
    ·refine wp_region_seq 31 [.is (.pointer (some ⟨w.heap.size,0,none⟩)),.is (.pointer (some ⟨w.heap.size,2,none⟩)),.is (.int .i64 l.gout),.is (.int .i64 lw),.is (.pointer (some ⟨w.heap.size,0,none⟩)),.is (.pointer (some ⟨w.heap.size,0,none⟩)),.is (.int .i64 l.start),.is (.pointer (some ⟨w.heap.size + 1,0,none⟩)),.is (.int .i64 sl),kSl 3 [.int .i64 sl],.is (.bool true),.is (.bool false),.is (.bool false),.is (.pointer (some ⟨w.heap.size + 1,1,none⟩)),.is (.bool false),.is (.bool true),.is (.bool true),.is (.pointer (some ⟨w.heap.size + 1,0,none⟩)),.is (.int .i64 sl),.is (.pointer (some ⟨w.heap.size,0,none⟩)),.is (.pointer (some ⟨w.heap.size,0,none⟩)),.is (.int .i64 l.start),.is (.bool true),.is (.bool true),.is undef,.is undef,.is undef,.is undef,.is (.bool true),.is (.bool true),.is (.bool true)] rfl mix (by kernel_rfl) (by kernel_rfl) ?seqm
     case seqm =>
      simp only [List.take_succ_cons,List.take_zero]
      iterate 3
       refine seq_on (by rfl) (fun w3 hb3 _ => ?_) ?_
       ·have c0':=bAt hb3 c0
        have c1':=bAt hb3 c1;have c2':=bAt hb3 c2;have s0':=bAt hb3 s0;have s1':=bAt hb3 s1;simp [opOK,go_sem,c2',Below.refl]
        try exact rfl
       simp only [Act.put,List.setIfInBounds_toArray,List.set_cons_succ,List.set_cons_zero]
      refine seq_on (by rfl) (fun w3 hb3 hH => ?_) ?_
      ·have c0':=bAt hb3 c0
       have c1':=bAt hb3 c1;have c2':=bAt hb3 c2;have s0':=bAt hb3 s0;have s1':=bAt hb3 s1;refine opOK_call (f:=103) (args:=#[.int .i64 l.gout]) (by simp [go_sem]) ?_
       exact (low_r l.gout lw HLW w3).mono fun e W' ⟨he,hb⟩ => ⟨_,he,rfl,by rw [← hb]; exact Below.refl _ _⟩
      simp only [Act.put,List.setIfInBounds_toArray,List.set_cons_succ,List.set_cons_zero]
      iterate 5
       refine seq_on (by rfl) (fun w3 hb3 _ => ?_) ?_
       ·have c0':=bAt hb3 c0
        have c1':=bAt hb3 c1;have c2':=bAt hb3 c2;have s0':=bAt hb3 s0;have s1':=bAt hb3 s1;simp [opOK,go_sem,c0',s0',Below.refl]
        try exact rfl
       simp only [Act.put,List.setIfInBounds_toArray,List.set_cons_succ,List.set_cons_zero]
      refine seq_new ⟨_,0,rfl⟩ (by rfl) (fun w3 hb3 hH => ?_) ?_
      ·have c0':=bAt hb3 c0
       have c1':=bAt hb3 c1;have c2':=bAt hb3 c2;have s0':=bAt hb3 s0;have s1':=bAt hb3 s1;refine opOK_val (v:=.slice (some ⟨w3.heap.size,0,none⟩) 1 1) (w':=w3.alloc (.cells #[.int .i64 sl] 3)) (by simp [go_sem,execOp]) ⟨aB _ _,⟨_,rfl⟩,_,rfl,World.alloc_heap_new _ _⟩
      rintro v ⟨bs,rfl⟩;simp only [Act.put,List.setIfInBounds_toArray,List.set_cons_succ,List.set_cons_zero];refine seq_on (by rfl) (fun w3 hb3 hH => ?_) ?_
      ·have c0':=bAt hb3 c0
       have c1':=bAt hb3 c1;have c2':=bAt hb3 c2;have s0':=bAt hb3 s0;have s1':=bAt hb3 s1;have hsl:=hH ⟨9,.data⟩ (by simp) rfl
       simp [addH,kSl] at hsl
       refine opOK_call (f:=48) (args:=#[.int .i64 lw,.int .i64 l.start,.slice (some ⟨bs,0,none⟩) 1 1]) (by simp [go_sem]) ?_
       exact (within_r lw l.start sl _ HB _ w3 (sl_blk (t:=3) (xs:=ints [sl]) hsl (by simp [maxLen]))).mono fun e W' ⟨he,hb⟩ => ⟨_,he,rfl,hb⟩
      simp only [Act.put,List.setIfInBounds_toArray,List.set_cons_succ,List.set_cons_zero]
      iterate 13
       refine seq_on (by rfl) (fun w3 hb3 _ => ?_) ?_
       ·have c0':=bAt hb3 c0
        have c1':=bAt hb3 c1;have c2':=bAt hb3 c2;have s0':=bAt hb3 s0;have s1':=bAt hb3 s1;simp [opOK,go_sem,c0',s0',s1',hne,Below.refl]
        try exact rfl
       simp only [Act.put,List.setIfInBounds_toArray,List.set_cons_succ,List.set_cons_zero]
      iterate 4
       refine seq_off (by rfl) ?_
       simp only [Act.put,List.setIfInBounds_toArray,List.set_cons_succ,List.set_cons_zero]
      iterate 3
       refine seq_on (by rfl) (fun w3 hb3 _ => ?_) ?_
       ·have c0':=bAt hb3 c0
        have c1':=bAt hb3 c1;have c2':=bAt hb3 c2;have s0':=bAt hb3 s0;have s1':=bAt hb3 s1;simp [opOK,go_sem,Below.refl]
        try exact rfl
       simp only [Act.put,List.setIfInBounds_toArray,List.set_cons_succ,List.set_cons_zero]
      refine seq_end fun w3 hb3 _ => ?_
      simp only [List.drop_succ_cons,List.drop_zero];have HB3:=Lib.hid (bThen HB2.out hb3);have HS3:=Lib.hid (HS2.out.below hb3)
      replace K:=Lib.hid ((hb3.block _ (Array.getElem?_eq_some_iff.1 K.out).1).trans K.out)
      clear hb3 c0 c1 c2 s0 s1 HB2 HS2;have he : er = 2:=by rw [HE.out,if_pos HC0.out]; rfl
      clear HE;subst he;go_wp2;go_returns;exact ⟨_,rfl,HB3.out,fun h => by cases h⟩
   ·refine wp_region_seq 31 [.is (.pointer (some ⟨w.heap.size,0,none⟩)),.is (.pointer (some ⟨w.heap.size,2,none⟩)),.is (.int .i64 l.gout),.is (.int .i64 lw),.is (.pointer (some ⟨w.heap.size,0,none⟩)),.is (.pointer (some ⟨w.heap.size,0,none⟩)),.is (.int .i64 l.start),.is (.pointer (some ⟨w.heap.size + 1,0,none⟩)),.is (.int .i64 sl),kSl 3 [.int .i64 sl],.is (.bool true),.is (.bool false),.is (.bool false),.is (.pointer (some ⟨w.heap.size + 1,1,none⟩)),.is (.bool true),.is (.bool false),.is (.bool false),.is undef,.is undef,.is undef,.is undef,.is undef,.is undef,.is undef,.is undef,.is undef,.is undef,.is undef,.is undef,.is (.bool false),.is (.bool false)] rfl mix (by kernel_rfl) (by kernel_rfl) ?seqm
    case seqm =>
     simp only [List.take_succ_cons,List.take_zero]
     iterate 3
      refine seq_on (by rfl) (fun w3 hb3 _ => ?_) ?_
      ·have c0':=bAt hb3 c0
       have c1':=bAt hb3 c1;have c2':=bAt hb3 c2;have s0':=bAt hb3 s0;have s1':=bAt hb3 s1;simp [opOK,go_sem,c2',Below.refl]
       try exact rfl
      simp only [Act.put,List.setIfInBounds_toArray,List.set_cons_succ,List.set_cons_zero]
     refine seq_on (by rfl) (fun w3 hb3 hH => ?_) ?_
     ·have c0':=bAt hb3 c0
      have c1':=bAt hb3 c1;have c2':=bAt hb3 c2;have s0':=bAt hb3 s0;have s1':=bAt hb3 s1;refine opOK_call (f:=103) (args:=#[.int .i64 l.gout]) (by simp [go_sem]) ?_
      exact (low_r l.gout lw HLW w3).mono fun e W' ⟨he,hb⟩ => ⟨_,he,rfl,by rw [← hb]; exact Below.refl _ _⟩
     simp only [Act.put,List.setIfInBounds_toArray,List.set_cons_succ,List.set_cons_zero]
     iterate 5
      refine seq_on (by rfl) (fun w3 hb3 _ => ?_) ?_
      ·have c0':=bAt hb3 c0
       have c1':=bAt hb3 c1;have c2':=bAt hb3 c2;have s0':=bAt hb3 s0;have s1':=bAt hb3 s1;simp [opOK,go_sem,c0',s0',Below.refl]
       try exact rfl
      simp only [Act.put,List.setIfInBounds_toArray,List.set_cons_succ,List.set_cons_zero]
     refine seq_new ⟨_,0,rfl⟩ (by rfl) (fun w3 hb3 hH => ?_) ?_
     ·have c0':=bAt hb3 c0
      have c1':=bAt hb3 c1;have c2':=bAt hb3 c2;have s0':=bAt hb3 s0;have s1':=bAt hb3 s1;refine opOK_val (v:=.slice (some ⟨w3.heap.size,0,none⟩) 1 1) (w':=w3.alloc (.cells #[.int .i64 sl] 3)) (by simp [go_sem,execOp]) ⟨aB _ _,⟨_,rfl⟩,_,rfl,World.alloc_heap_new _ _⟩
     rintro v ⟨bs,rfl⟩;simp only [Act.put,List.setIfInBounds_toArray,List.set_cons_succ,List.set_cons_zero];refine seq_on (by rfl) (fun w3 hb3 hH => ?_) ?_
     ·have c0':=bAt hb3 c0
      have c1':=bAt hb3 c1;have c2':=bAt hb3 c2;have s0':=bAt hb3 s0;have s1':=bAt hb3 s1;have hsl:=hH ⟨9,.data⟩ (by simp) rfl
      simp [addH,kSl] at hsl
      refine opOK_call (f:=48) (args:=#[.int .i64 lw,.int .i64 l.start,.slice (some ⟨bs,0,none⟩) 1 1]) (by simp [go_sem]) ?_
      exact (within_r lw l.start sl _ HB _ w3 (sl_blk (t:=3) (xs:=ints [sl]) hsl (by simp [maxLen]))).mono fun e W' ⟨he,hb⟩ => ⟨_,he,rfl,hb⟩
     simp only [Act.put,List.setIfInBounds_toArray,List.set_cons_succ,List.set_cons_zero]
     iterate 6
      refine seq_on (by rfl) (fun w3 hb3 _ => ?_) ?_
      ·have c0':=bAt hb3 c0
       have c1':=bAt hb3 c1;have c2':=bAt hb3 c2;have s0':=bAt hb3 s0;have s1':=bAt hb3 s1;simp [opOK,go_sem,s1',Below.refl]
       try exact rfl
      simp only [Act.put,List.setIfInBounds_toArray,List.set_cons_succ,List.set_cons_zero]
     iterate 12
      refine seq_off (by rfl) ?_
      simp only [Act.put,List.setIfInBounds_toArray,List.set_cons_succ,List.set_cons_zero]
     iterate 2
      refine seq_on (by rfl) (fun w3 hb3 _ => ?_) ?_
      ·have c0':=bAt hb3 c0
       have c1':=bAt hb3 c1;have c2':=bAt hb3 c2;have s0':=bAt hb3 s0;have s1':=bAt hb3 s1;simp [opOK,go_sem,Below.refl]
       try exact rfl
      simp only [Act.put,List.setIfInBounds_toArray,List.set_cons_succ,List.set_cons_zero]
     refine seq_end fun w3 hb3 _ => ?_
     simp only [List.drop_succ_cons,List.drop_zero];have HB3:=Lib.hid (bThen HB2.out hb3);have HS3:=Lib.hid (HS2.out.below hb3)
     replace K:=Lib.hid ((hb3.block _ (Array.getElem?_eq_some_iff.1 K.out).1).trans K.out)
     clear hb3 c0 c1 c2 s0 s1 HB2 HS2;have he : er = 0:=by rw [HE.out,if_pos HC0.out]; rfl
     clear HE;subst he;have c0 : w3.cell? ⟨w.heap.size,0,none⟩ = some (.int .i64 l.start):=by rw [cell_of_heap K.out]; rfl
     have c1 : w3.cell? ⟨w.heap.size,1,none⟩ = some (.int .i64 l.gin):=by rw [cell_of_heap K.out]; rfl
     have c2 : w3.cell? ⟨w.heap.size,2,none⟩ = some (.int .i64 l.gout):=by rw [cell_of_heap K.out]; rfl
     have c3 : w3.cell? ⟨w.heap.size,3,none⟩ = some (.slice a l.beds.length cap):=by rw [cell_of_heap K.out]; rfl
     have c4 : w3.cell? ⟨w.heap.size,4,none⟩ = some (.int .i64 l.players):=by rw [cell_of_heap K.out]; rfl
     have c5 : w3.cell? ⟨w.heap.size,5,none⟩ = some (.int .i64 l.turns):=by rw [cell_of_heap K.out]; rfl
     have c6 : w3.cell? ⟨w.heap.size,6,none⟩ = some (.bool l.won):=by rw [cell_of_heap K.out]; rfl
     go_wp2_with fail;clear c0 c1 c2 c3 c4 c5 c6;refine (newGame_any l (.slice a l.beds.length cap) w3 (valid_of (by rw [HCE.out,HC0.out])) HS3.out HBD.out).mono ?_
     rintro e w4 ⟨gb,hb,kb,rfl,hb4,hG,hg1,hg2,hg3⟩;have HB4:=Lib.hid (bThen HB3.out hb4);have HG:=Lib.hid hG;have hsz:=HB3.out.size;clear hb4 hG;go_wp2;go_returns;exact ⟨_,rfl,HB4.out,gb,rfl,hb,kb,HG.out,by omega,by omega,by omega⟩
 ·have hx0 : (ce != 0) = true:=by simp [hc0]
  have he : er = ce:=by rw [HE.out,if_neg hc0]
  have HC0:=Lib.hid hc0;clear HE hc0;subst he;go_wp2;go_returns;exact ⟨_,rfl,HB2.out,fun h => (HC0.out h).elim⟩
end Go.Proofs.YtnbmgkmcaoafnaaGreatDoor

/- A range over a function whose iterator finds its order as it goes (a map's keys). -/
namespace Go.Oche
open Go Go.RowKit
def IterA {β : Type} (t : TypeId) (P : Program) (gf : Nat) (fa lb : Array Value) (enc : β → Array Value → (Nat → Prop) → World → Prop) (Adm Fin : List β → Prop) (Rs : Nat → Prop) (w : World) : Prop :=
 ∀ (l : Nat) (J Jx : List β → (Nat → Prop) → World → Prop) (O : Nat → Prop) (W : World),
  Below w.heap.size w W → (∀ k,O k → k < W.heap.size) → (∀ k,Rs k → k < w.heap.size ∧ ¬ O k) → Stab t W.heap.size J → Stab t W.heap.size Jx →
  (∀ pre b args O₁ W₁,Adm (pre ++ [b]) → Rel O W O₁ W₁ → J pre O₁ W₁ → enc b args O₁ W₁ → YieldAt Fence.wide 0 P l args W₁ fun e W' =>
   ∃ O',Rel O₁ W₁ O' W' ∧ ((e = .returned (.bool true) ∧ J (pre ++ [b]) O' W') ∨ (e = .returned (.bool false) ∧ Jx (pre ++ [b]) O' W'))) →
  J [] O W →
  CallsIn Fence.wide 0 P gf (fa ++ #[.func (.yield l) #[] #[]] ++ lb) W fun e W' => (∃ v,e = .returned v) ∧
   ∃ O',Rel O W O' W' ∧ ((∃ L,Fin L ∧ J L O' W') ∨ ∃ pre,Adm pre ∧ Jx pre O' W')

theorem wpIn_rangeA {β : Type} {t : TypeId} {P : Program} {g : Operand} {ps : Array Tmp} {assign body : Code} {Q : Exit → Act → World → Prop} {a : Act} {w : World}
  {gf : Nat} {fa lb : Array Value} (hg : a.eval g = .func (.func gf) fa lb) (eg : ∀ args w,(callFunc gf args).run P w = .ok (.enter gf args) w)
  {enc : β → Array Value → (Nat → Prop) → World → Prop} {Adm Fin : List β → Prop} {Rs : Nat → Prop} (hseq : IterA t P gf fa lb enc Adm Fin Rs w)
  (I : List β → (Nat → Prop) → World → Prop) (Ix : Code → List β → (Nat → Prop) → World → Prop) (hI : Stab t w.heap.size I) (hIx : ∀ c,Stab t w.heap.size (Ix c))
  (O : Nat → Prop) (hO : ∀ k,O k → k < w.heap.size) (hRs : ∀ k,Rs k → k < w.heap.size ∧ ¬ O k) (h0 : I [] O w)
  (hps : ∀ b args O W,enc b args O W → args.size = ps.size)
  (hround : ∀ (l : Nat) pre b args O₁ W₁,Adm (pre ++ [b]) → w.heap.size < l → l < W₁.heap.size → ¬ O₁ l → ¬ O₁ (l - 1) → Rel O w O₁ W₁ → I pre O₁ W₁ → enc b args (fun k => O₁ k ∨ k = l ∨ k = l - 1) W₁ →
   assign.wpIn (Fence.wide.inRound l) 0 P (Exit.then (fun a₁ W₂ => Below W₁.heap.size W₁ W₂ ∧ ∀ W₃,OnlyAt l W₂ W₃ → I pre O₁ W₃ → body.wpIn (Fence.wide.inRound l) 0 P (rPost I Ix (pre ++ [b]) O₁ W₃) a₁ W₃) (fun _ _ _ => False))
    { tmps:=(ps.zip args).foldl (fun t (p,v) => t.setIfInBounds p v) a.tmps,defers:=[] } W₁)
  (hdone : ∀ (D : Nat) (L : List β) (O₁ : Nat → Prop) (W : World),w.heap.size ≤ D → ¬ O₁ D → Rel O w O₁ W → Fin L → I L O₁ W → W.heap[D]? = some (.deferred (some [])) → Q .normal { a with defers:={ target:=.collected D,args:=#[] } :: a.defers } W)
  (hstop : ∀ (D : Nat) (c : Code) (pre : List β) (O₁ : Nat → Prop) (W : World),w.heap.size ≤ D → ¬ O₁ D → Adm pre → Rel O w O₁ W → Ix c pre O₁ W → W.heap[D]? = some (.deferred (some [])) → c.wpIn Fence.wide 0 P Q { a with defers:={ target:=.collected D,args:=#[] } :: a.defers } W) :
  (Code.rangeFunc g ps assign body).wpIn Fence.wide 0 P Q a w:=by
 refine wpIn_rangeFunc ?_
 intro fn hfn
 obtain ⟨rec,hrec⟩ : ∃ rec : LoopState → Option Code → Loop,rec = fun st pe => { state:=st,pending:=pe,fn,tmps:=a.tmps,params:=ps,assign,body,defers:=w.heap.size }:=⟨_,rfl⟩
 obtain ⟨W1,hW1⟩ : ∃ W1,(w.alloc (.deferred (some []))).alloc (.loop (rec .ready none)) = W1:=⟨_,rfl⟩;have hsz : W1.heap.size = w.heap.size + 2:=by rw [← hW1]; simp
 have hb1 : Below w.heap.size w W1:=by rw [← hW1]; exact ((Below.refl _ w).alloc (Nat.le_refl _) _).alloc (by simp) _
 have hL1 : W1.heap[w.heap.size + 1]? = some (.loop (rec .ready none)):=by
  rw [← hW1]; have:=World.alloc_heap_new (w.alloc (.deferred (some []))) (.loop (rec .ready none)); simpa using this
 have hK1 : W1.heap[w.heap.size]? = some (.deferred (some [])):=by
  rw [← hW1]; exact (Below.heap_alloc _ _ _ (by simp)).trans (World.alloc_heap_new w _)
 refine ⟨w.heap.size + 1,[{ target:=.collected w.heap.size,args:=#[] }],W1, { target:=.fn (.func gf) lb,args:=fa ++ #[.func (.yield (w.heap.size + 1)) #[] #[]] },W1,gf,
  fa ++ #[.func (.yield (w.heap.size + 1)) #[] #[]] ++ lb,W1, ?_, ?_,fun _ _ => trivial, ?_,fun h => by simp [Fence.wide] at h, ?_⟩
 ·rw [← hW1,hrec]; exact run_enterLoop_outer _ _ _ _ _
 ·simp only [resolve,hg]
  simp [go_sem]
 ·simp [invoke,go_sem,eg]
 ·obtain ⟨l,hl⟩ : ∃ l,l = w.heap.size + 1:=⟨_,rfl⟩
  have hlD : l - 1 = w.heap.size:=by omega
  have J0 : ∀ (st : LoopState) (pe : Option Code) (X : List β → (Nat → Prop) → World → Prop),Stab t w.heap.size X →
    Stab t W1.heap.size (fun pre O₂ W => ∃ Ou,(∀ k,O₂ k ↔ Ou k ∨ k = l ∨ k = w.heap.size) ∧ ¬ Ou l ∧ ¬ Ou w.heap.size ∧ Rel O w Ou W ∧ X pre Ou W ∧ W.heap[l]? = some (.loop (rec st pe)) ∧ W.heap[w.heap.size]? = some (.deferred (some []))):=by
   intro st pe X hX pre O₂ W W' ⟨Ou,hiff,hnl,hnD,hr,hx,hll,hDD⟩ e1 e2 e3 e4 e5
   have hlt : l < W.heap.size:=(Array.getElem?_eq_some_iff.1 hll).1
   refine ⟨Ou,hiff,hnl,hnD,⟨e1.trans hr.os,e2.trans hr.tape,e3.trans hr.output,Nat.le_trans hr.size e4,fun k hk hn => ?_,hr.own,fun k hk => Nat.lt_of_lt_of_le (hr.lt k hk) e4⟩, ?_, ?_, ?_⟩
   ·exact (e5 k (Nat.lt_of_lt_of_le hk hr.size) (.inr (.inl (by omega)))).trans (hr.block k hk hn)
   ·exact hX pre Ou W W' hx e1 e2 e3 e4 fun k hk h => e5 k hk (by rcases h with h | h | h; exact .inl ((hiff k).2 (.inl h)); exact .inr (.inl (by omega)); exact .inr (.inr h))
   ·exact (e5 l hlt (.inr (.inl (by omega)))).trans hll
   ·exact (e5 _ (by omega) (.inr (.inl (by omega)))).trans hDD
  have H:=hseq l
   (fun pre O₂ W => ∃ Ou,(∀ k,O₂ k ↔ Ou k ∨ k = l ∨ k = w.heap.size) ∧ ¬ Ou l ∧ ¬ Ou w.heap.size ∧ Rel O w Ou W ∧ I pre Ou W ∧ W.heap[l]? = some (.loop (rec .ready none)) ∧ W.heap[w.heap.size]? = some (.deferred (some [])))
   (fun pre O₂ W => ∃ c, ∃ Ou,(∀ k,O₂ k ↔ Ou k ∨ k = l ∨ k = w.heap.size) ∧ ¬ Ou l ∧ ¬ Ou w.heap.size ∧ Rel O w Ou W ∧ Ix c pre Ou W ∧ W.heap[l]? = some (.loop (rec .done (some c))) ∧ W.heap[w.heap.size]? = some (.deferred (some [])))
   (fun k => O k ∨ k = l ∨ k = w.heap.size) W1 hb1
   (fun k hk => by rcases hk with hk | hk | hk; (have:=hO k hk; omega); omega; omega)
   (fun k hk => ⟨(hRs k hk).1,fun h => by rcases h with h | h | h; exact (hRs k hk).2 h; (have:=(hRs k hk).1; omega); (have:=(hRs k hk).1; omega)⟩)
   (J0 .ready none I hI)
   (fun pre O₂ W W' ⟨c,hc⟩ e1 e2 e3 e4 e5 => ⟨c,J0 .done (some c) (Ix c) (hIx c) pre O₂ W W' hc e1 e2 e3 e4 e5⟩)
  rw [← hl];rw [← hl] at hL1;refine (H ?_ ?_).mono ?_
  ·rintro pre b args O₁ W hL _ ⟨Ou,hiff,hnl,hnD,hr,hi,hll,hDD⟩ henc
   have hlt : l < W.heap.size:=(Array.getElem?_eq_some_iff.1 hll).1
   have hlt2 : w.heap.size < W.heap.size:=(Array.getElem?_eq_some_iff.1 hDD).1
   have henc' : enc b args (fun k => Ou k ∨ k = l ∨ k = l - 1) W:=by
    have : O₁ = fun k => Ou k ∨ k = l ∨ k = l - 1:=by funext k; rw [hlD]; exact propext (hiff k)
    rw [← this]; exact henc
   have hy:=run_yield (P:=P) (args:=args) hll (by rw [hrec]; exact hps b args _ W henc')
   rw [hrec] at hy;refine ⟨fn,_,assign,body,hy,roundIn_of_wpIn trivial (wpIn_mono (hround l pre b args Ou W hL (by omega) hlt hnl (by rw [hlD]; exact hnD) hr hi henc') ?_)⟩
   clear hy;rintro e a₁ W₂ hq;cases e with
   | normal =>
    obtain ⟨hb2,hcont⟩ := hq;have hl2 : W₂.heap[l]? = some (.loop (rec .ready none)):=(hb2.block l hlt).trans hll;have hD2 : W₂.heap[w.heap.size]? = some (.deferred (some [])):=(hb2.block _ hlt2).trans hDD;have hlt' : l < W₂.heap.size:=(Array.getElem?_eq_some_iff.1 hl2).1
    have hbr:=run_beginRound (P:=P) hl2 (by rw [hrec])
    obtain ⟨W₃,hW₃⟩ : ∃ W₃,W₂.putObj l (.loop { rec .ready none with state:=.busy }) = W₃ := ⟨_,rfl⟩
    have hon : OnlyAt l W₂ W₃ := by rw [← hW₃]; exact OnlyAt.putObj hl2
    have hl3 : W₃.heap[l]? = some (.loop { rec .ready none with state:=.busy }):=by rw [← hW₃]; exact World.putObj_heap_same hlt'
    have hi3 : I pre Ou W₃ := hI pre Ou W W₃ hi (hon.os.trans hb2.os) (hon.tape.trans hb2.tape) (hon.output.trans hb2.output) (by rw [hon.size]; exact hb2.size)
     fun k hk h => (hon.block k (fun e => by subst e; rcases h with h | h | h; exact hnl h; omega; exact h.loop hll)).trans (hb2.block k hk)
    have hD3 : W₃.heap[w.heap.size]? = some (.deferred (some [])):=(hon.block _ (by omega)).trans hD2
    have hsz3 : W.heap.size ≤ W₃.heap.size:=by rw [hon.size]; exact hb2.size
    have hlt3 : l < W₃.heap.size:=(Array.getElem?_eq_some_iff.1 hl3).1
    rw [hW₃] at hbr;refine ⟨W₃,hbr,wpIn_mono (hcont W₃ hon hi3) ?_⟩
    have fin : ∀ (jump : Option Code) (X : List β → (Nat → Prop) → World → Prop),Stab t w.heap.size X → ∀ (Ou' : Nat → Prop) (W4 : World),Rel Ou W₃ Ou' W4 → X (pre ++ [b]) Ou' W4 →
      ∃ v W5,(Instr.endRound l jump).run P W4 = .ok v W5 ∧ v = .bool jump.isNone ∧ Rel O₁ W (fun k => Ou' k ∨ k = l ∨ k = w.heap.size) W5 ∧
       ¬ Ou' l ∧ ¬ Ou' w.heap.size ∧ Rel O w Ou' W5 ∧ X (pre ++ [b]) Ou' W5 ∧ W5.heap[l]? = some (.loop (rec (if jump.isNone then .ready else .done) jump)) ∧ W5.heap[w.heap.size]? = some (.deferred (some [])):=by
     intro jump X hX Ou' W4 hr4 hx
     have hl4 : W4.heap[l]? = some (.loop { rec .ready none with state:=.busy }):=(hr4.block l hlt3 hnl).trans hl3
     have hlt4 : l < W4.heap.size:=(Array.getElem?_eq_some_iff.1 hl4).1
     have hD4 : W4.heap[w.heap.size]? = some (.deferred (some [])):=(hr4.block _ (by omega) hnD).trans hD3
     have hend:=run_endRound (P:=P) jump hl4;obtain ⟨W5,hW5⟩ : ∃ W5,W4.putObj l (.loop (rec (if jump.isNone then .ready else .done) jump)) = W5:=⟨_,rfl⟩
     have hon5 : OnlyAt l W4 W5:=by rw [← hW5]; exact OnlyAt.putObj hl4
     have hnl' : ¬ Ou' l:=fun h => by rcases hr4.own l h with h | h; exact hnl h; omega
     have hnD' : ¬ Ou' w.heap.size:=fun h => by rcases hr4.own _ h with h | h; exact hnD h; omega
     have hWW5 : ∀ k,k < W.heap.size → ¬ Ou k → k ≠ l → W5.heap[k]? = W.heap[k]? := fun k hk hn hne =>
      (hon5.block k hne).trans ((hr4.block k (by omega) hn).trans ((hon.block k hne).trans (hb2.block k hk)))
     have hs5 : W.heap.size ≤ W5.heap.size:=by rw [hon5.size]; have:=hr4.size; omega
     refine ⟨_,W5, ?_,rfl,⟨?_, ?_, ?_,hs5, ?_, ?_, ?_⟩,hnl',hnD',⟨?_, ?_, ?_,Nat.le_trans hr.size hs5, ?_, ?_, ?_⟩, ?_, ?_, ?_⟩
     ·rw [hend,← hW5,hrec]
     ·exact hon5.os.trans (hr4.os.trans (hon.os.trans hb2.os))
     ·exact hon5.tape.trans (hr4.tape.trans (hon.tape.trans hb2.tape))
     ·exact hon5.output.trans (hr4.output.trans (hon.output.trans hb2.output))
     ·intro k hk hn
      have hn' : ¬ Ou k ∧ k ≠ l:=⟨fun h => hn ((hiff k).2 (.inl h)),fun h => hn ((hiff k).2 (.inr (.inl h)))⟩
      exact hWW5 k hk hn'.1 hn'.2
     ·intro k hk
      rcases hk with hk | hk | hk
      ·rcases hr4.own k hk with h | h
       ·exact .inl ((hiff k).2 (.inl h))
       ·exact .inr (by omega)
      ·exact .inl ((hiff k).2 (.inr (.inl hk)))
      ·exact .inl ((hiff k).2 (.inr (.inr hk)))
     ·intro k hk
      rw [hon5.size];rcases hk with hk | hk | hk
      ·exact hr4.lt k hk
      ·omega
      ·have:=hr4.size; omega
     ·exact (hon5.os.trans (hr4.os.trans (hon.os.trans hb2.os))).trans hr.os
     ·exact (hon5.tape.trans (hr4.tape.trans (hon.tape.trans hb2.tape))).trans hr.tape
     ·exact (hon5.output.trans (hr4.output.trans (hon.output.trans hb2.output))).trans hr.output
     ·intro k hk hn
      have hkW : k < W.heap.size:=Nat.lt_of_lt_of_le hk hr.size;exact (hWW5 k hkW (fun h => by rcases hr.own k h with h | h; exact hn h; omega) (by omega)).trans (hr.block k hk hn)
     ·intro k hk
      rcases hr4.own k hk with h | h
      ·exact hr.own k h
      ·exact .inr (by have:=hr.size; omega)
     ·intro k hk; rw [hon5.size]; exact hr4.lt k hk
     ·exact hX _ _ W4 W5 hx hon5.os hon5.tape hon5.output (by rw [hon5.size]; exact Nat.le_refl _) fun k _ h => hon5.block k (fun e => by subst e; rcases h with h | h | h; exact hnl' h; omega; exact h.loop hl4)
     ·rw [← hW5]; exact World.putObj_heap_same hlt4
     ·exact (hon5.block _ (by omega)).trans hD4
    rintro e a3 W4 hp;cases e with
    | normal =>
     obtain ⟨Ou',hr4,hi4⟩ := hp;obtain ⟨v,W5,hend,rfl,hrel,h1,h2,h3,h4,h5,h6⟩ := fin none I hI Ou' W4 hr4 hi4;exact ⟨_,W5,hend,_,hrel,.inl ⟨rfl,Ou',fun _ => Iff.rfl,h1,h2,h3,h4,h5,h6⟩⟩
    | ret =>
     obtain ⟨Ou',hr4,hi4⟩ := hp;obtain ⟨v,W5,hend,rfl,hrel,h1,h2,h3,h4,h5,h6⟩ := fin (some .ret) (Ix .ret) (hIx _) Ou' W4 hr4 hi4;exact ⟨_,W5,hend,_,hrel,.inr ⟨rfl,.ret,Ou',fun _ => Iff.rfl,h1,h2,h3,h4,h5,h6⟩⟩
    | exit id =>
     obtain ⟨Ou',hr4,hi4⟩ := hp;obtain ⟨v,W5,hend,rfl,hrel,h1,h2,h3,h4,h5,h6⟩ := fin (some (.exit id)) (Ix (.exit id)) (hIx _) Ou' W4 hr4 hi4;exact ⟨_,W5,hend,_,hrel,.inr ⟨rfl,.exit id,Ou',fun _ => Iff.rfl,h1,h2,h3,h4,h5,h6⟩⟩
    | goto t =>
     obtain ⟨Ou',hr4,hi4⟩ := hp;obtain ⟨v,W5,hend,rfl,hrel,h1,h2,h3,h4,h5,h6⟩ := fin (some (.goto t)) (Ix (.goto t)) (hIx _) Ou' W4 hr4 hi4;exact ⟨_,W5,hend,_,hrel,.inr ⟨rfl,.goto t,Ou',fun _ => Iff.rfl,h1,h2,h3,h4,h5,h6⟩⟩
    | panic ch => exact hp.elim
    | outgrown => exact hp.elim
   | exit id => exact hq.elim
   | goto t => exact hq.elim
   | ret => exact hq.elim
   | panic ch => exact hq.elim
   | outgrown => exact hq.elim
  ·refine ⟨O,fun _ => Iff.rfl,fun h => by have:=hO l h; omega,fun h => by have:=hO _ h; omega,Rel.of_below hb1 hO, ?_,hL1,hK1⟩
   exact hI [] O w W1 h0 hb1.os hb1.tape hb1.output hb1.size fun k hk _ => hb1.block k hk
  ·rintro e W2 ⟨⟨v,rfl⟩,O₂,hrel,(⟨L,hL,Ou,hiff,hnl,hnD,hr,hi,hll,hDD⟩ | ⟨pre,hpre,c,Ou,hiff,hnl,hnD,hr,hi,hll,hDD⟩)⟩
   all_goals
    obtain ⟨W3,hend,hon⟩ := endOne (P:=P) hll (by rw [hrec]; simp)
    have hr3 : Rel O w Ou W3:=⟨hon.os.trans hr.os,hon.tape.trans hr.tape,hon.output.trans hr.output,by rw [hon.size]; exact hr.size,
     fun k hk hn => (hon.block k (by omega)).trans (hr.block k hk hn),hr.own,fun k hk => by rw [hon.size]; exact hr.lt k hk⟩
    have hD3 : W3.heap[w.heap.size]? = some (.deferred (some [])):=(hon.block _ (by omega)).trans hDD
   ·have hi3:=hI L Ou W2 W3 hi hon.os hon.tape hon.output (by rw [hon.size]; exact Nat.le_refl _) fun k _ h => hon.block k (fun e => by subst e; rcases h with h | h | h; exact hnl h; omega; exact h.loop hll)
    refine ⟨none,W3, ?_,hdone _ L Ou W3 (Nat.le_refl _) hnD hr3 hL hi3 hD3⟩
    rw [hend,hrec]
   ·have hi3:=hIx c pre Ou W2 W3 hi hon.os hon.tape hon.output (by rw [hon.size]; exact Nat.le_refl _) fun k _ h => hon.block k (fun e => by subst e; rcases h with h | h | h; exact hnl h; omega; exact h.loop hll)
    refine ⟨some c,W3, ?_,hstop _ c pre Ou W3 (Nat.le_refl _) hnD hpre hr3 hi3 hD3⟩
    rw [hend,hrec]

end Go.Oche

/- Chapter 5: the keys of a map of integers, one after another, in whatever order. -/
namespace Go.Proofs.YtnbmgkmcaoafnaaGreatDoor
open Go.RowKit Go.Oche Go.Proofs
attribute [local go_sem] Oper.semAt_some

def decI (v : Value) : Int:=match v with
 | .int _ a => a
 | _ => 0
def encI : Int → Array Value → (Nat → Prop) → World → Prop:=fun k args _ _ => args = #[.int .i64 k]
end Go.Proofs.YtnbmgkmcaoafnaaGreatDoor

/- A contract of the library (bits.Len), laid over TopBoardHeard's program by the kit's lay-shelf and lay-plain. -/
namespace Go.Proofs
open Go.Shelf
def Tryz.lays125_ren : Go.Shelf.Ren:=⟨fun | 125 => 72 | 128 => 117 | 129 => 118 | n => n,fun | 46 => 113 | 3 => 3 | 51 => 191 | 53 => 193 | 4 => 4 | 5 => 5 | 9 => 9 | n => n,fun | n => n⟩
theorem Tryz.lays125 : Go.Proofs.Lays.n125 Tryz.prog Tryz.lays125_ren:={
 mixed:=by kernel_rfl
 f125:=Tryz.func72.trans (congrArg some (by kernel_rfl))
 f128:=Tryz.func117.trans (congrArg some (by kernel_rfl))
 f129:=Tryz.func118.trans (congrArg some (by kernel_rfl))
 t3:=Tryz.underlying3
 a3:=Tryz.isAgg3
 z3:=Tryz.sizeOf3
 v3:=Tryz.zeroValue3
 t4:=Tryz.underlying4
 a4:=Tryz.isAgg4
 z4:=Tryz.sizeOf4
 v4:=Tryz.zeroValue4
 t5:=Tryz.underlying5
 a5:=Tryz.isAgg5
 z5:=Tryz.sizeOf5
 v5:=Tryz.zeroValue5
 t9:=Tryz.underlying9
 a9:=Tryz.isAgg9
 z9:=Tryz.sizeOf9
 v9:=Tryz.zeroValue9
 t46:=Tryz.underlying113
 a46:=Tryz.isAgg113
 z46:=Tryz.sizeOf113
 v46:=Tryz.zeroValue113
 t51:=Tryz.underlying191
 a51:=Tryz.isAgg191
 z51:=Tryz.sizeOf191
 v51:=Tryz.zeroValue191
 t53:=Tryz.underlying193
 a53:=Tryz.isAgg193
 z53:=Tryz.sizeOf193
 v53:=Tryz.zeroValue193 }
theorem Tryz.bits_Len (x : Int) (w : World) (h0 : 0 ≤ x) (h1 : x ≤ 18446744073709551615) :
  Calls Tryz.prog 72 #[.int .u64 x] w fun e w' => e = .returned (.int .i64 (Lib.bitLen x.toNat)) ∧ w' = w:=Any.bits_Len Tryz.lays125 x w h0 h1
end Go.Proofs

/- Chapter 5: slices.Sort of a row of one's own, or of no row. -/
namespace Go.Proofs.YtnbmgkmcaoafnaaGreatDoor
open Go.RowKit Go.Oche Go.Proofs

def ascL (xs : List Int) : List Int:=xs.mergeSort fun x y => decide (x ≤ y)
@[simp] theorem ascL_length (xs : List Int) : (ascL xs).length = xs.length:=List.length_mergeSort _
open Go.RowKit Go.Oche Go.Proofs
open Go.RowKit Go.Oche Go.Proofs
attribute [local go_sem] Oper.semAt_some

def KI (bx : Nat) (pre : List Int) (O : Nat → Prop) (W : World) : Prop := ∃ lv,BoxRow bx 33 3 1 pre.length (ints pre) O lv W
open Go.RowKit Go.Oche Go.Proofs

open Go.RowKit Go.Oche Go.Proofs

theorem Valid.good {l : Lg} (h : Valid l) : GoodBeds l:=fun b hb => by have:=bed_score (h.bed b hb); omega
theorem open_valid {l : Lg} {s : Std} (h : openE l s = 0) : Valid l ∧ okStand l s = true:=by
 unfold openE at h;split at h
 ·rename_i hc
  split at h
  ·rename_i hs; exact ⟨valid_of hc,hs⟩
  ·cases h
 ·rename_i hc; exact (hc h).elim
theorem okStand_bd {l : Lg} {s : Std} (hv : Valid l) (h : okStand l s = true) : 1 ≤ s.left ∧ s.left ≤ 1001:=by
 unfold okStand isIn at h;simp at h;have h1:=hv.start;have : 1 ≤ low5 l.gout:=by unfold low5; split <;> omega
 omega
theorem vis_bd {l : Lg} {s : Std} (hv : Valid l) (hs : 0 ≤ s.left) {x : En} {t : Sm} (h : agg (vis5 l s) x = some t) : 0 ≤ x.left ∧ x.left ≤ s.left:=by
 obtain ⟨p,hp,rfl⟩ := agg_some.1 (show (agg (vis5 l s) x).isSome = true by rw [h]; rfl)
 exact vis_left hv.good hs hp
theorem open_r {S : Nat → Prop} (l : Lg) (bv : Value) (s : Std) (er : Int) (he : Hid (openE l s = er)) (w : World) (hs : Sl S w bv (ints l.beds)) (hbd : BedsIn l) :
  Calls Tryz.prog 65 #[legV l bv,stV s] w fun e w' => ∃ pv,e = .returned (.tuple #[pv,.int .i64 er]) ∧ Below w.heap.size w w' ∧ (er = 0 → ∃ gb hb kb,pv = .pointer (some ⟨gb,0,none⟩) ∧ GameAt l (fun q => q = gb ∨ q = hb ∨ q = kb) w' gb hb kb ∧ w.heap.size ≤ gb ∧ w.heap.size ≤ hb ∧ w.heap.size ≤ kb):=by
 rw [← he.out]; exact open_any l bv s w hs hbd
def scoresK (s : Std) (ks : List En) : List Int:=(ks.filter fun x => !x.won).map fun x => s.left - x.left
end Go.Proofs.YtnbmgkmcaoafnaaGreatDoor
