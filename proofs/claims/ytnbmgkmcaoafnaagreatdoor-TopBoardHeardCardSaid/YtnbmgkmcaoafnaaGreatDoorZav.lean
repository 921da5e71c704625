/- The texts XB, XC, XD, XE, in build order. -/
import Derived.Test.YtnbmgkmcaoafnaaGreatDoorZau
import Derived.Handy
import Derived.Deep.DeepCutAuto
import Derived.Deep.CutRange
import Derived.Deep.MidRow
import Derived.Lib.MinMax

/- Package board: directions. -/
namespace Go.Proofs.YtnbmgkmcaoafnaaGreatDoor
open Go Go.RowKit Go.Oche Go.Proofs

def ptA (p : Int × Int) : Array Value:=#[.int .i64 p.1,.int .i64 p.2]
def ptV (p : Int × Int) : Value:=.agg (ptA p)
def PtOk (p : Int × Int) : Prop:=p.1.natAbs ≤ 5000 ∧ p.2.natAbs ≤ 5000
theorem mul_abs {x y : Int} {A B : Nat} (hx : x.natAbs ≤ A) (hy : y.natAbs ≤ B) : (x * y).natAbs ≤ A * B:=by
 rw [Int.natAbs_mul]; exact Nat.mul_le_mul hx hy
theorem cross_bd {a b : Int × Int} (ha : PtOk a) (hb : PtOk b) : (a.1 * b.2).natAbs ≤ 25000000 ∧ (a.2 * b.1).natAbs ≤ 25000000 ∧ (crossP a b).natAbs ≤ 50000000:=by
 have h1:=mul_abs ha.1 hb.2;have h2:=mul_abs ha.2 hb.1;refine ⟨h1,h2, ?_⟩
 unfold crossP; omega
theorem dot_bd {a b : Int × Int} (ha : PtOk a) (hb : PtOk b) : (a.1 * b.1).natAbs ≤ 25000000 ∧ (a.2 * b.2).natAbs ≤ 25000000 ∧ (dotP a b).natAbs ≤ 50000000:=by
 have h1:=mul_abs ha.1 hb.1;have h2:=mul_abs ha.2 hb.2;refine ⟨h1,h2, ?_⟩
 unfold dotP; omega
theorem two_pts (a b : Int × Int) (t : TypeId) (w : World) : ∃ w1,(w.alloc (.cells (ptA a) t)).alloc (.cells (ptA b) t) = w1 ∧ Below w.heap.size w w1 ∧ w1.cell? ⟨w.heap.size,0,none⟩ = some (.int .i64 a.1) ∧ w1.cell? ⟨w.heap.size,1,none⟩ = some (.int .i64 a.2) ∧ w1.cell? ⟨w.heap.size + 1,0,none⟩ = some (.int .i64 b.1) ∧ w1.cell? ⟨w.heap.size + 1,1,none⟩ = some (.int .i64 b.2):=by
 refine ⟨_,rfl,(aB _ _).alloc (by simp) _, ?_⟩
 have k : ((w.alloc (.cells (ptA a) t)).alloc (.cells (ptA b) t)).heap[w.heap.size]? = some (.cells (ptA a) t (0,0)):=(Below.heap_alloc _ _ _ (by simp)).trans (World.alloc_heap_new _ _)
 have k2 : ((w.alloc (.cells (ptA a) t)).alloc (.cells (ptA b) t)).heap[w.heap.size + 1]? = some (.cells (ptA b) t (0,0)):=by
  rw [show w.heap.size + 1 = (w.alloc (.cells (ptA a) t)).heap.size by simp]; exact World.alloc_heap_new _ _
 exact ⟨by rw [cell_of_heap k]; rfl,by rw [cell_of_heap k]; rfl,by rw [cell_of_heap k2]; rfl,by rw [cell_of_heap k2]; rfl⟩
theorem cross_any (a b : Int × Int) (ha : PtOk a) (hb : PtOk b) (w : World) : Calls Tryz.prog 79 #[ptV a,ptV b] w fun e w' => e = .returned (.int .i64 (crossP a b)) ∧ Below w.heap.size w w':=by
 have hd:=cross_bd ha hb;obtain ⟨w1,hw1,hb1,c0,c1,c2,c3⟩ := two_pts a b 88 w;obtain ⟨c,hc⟩ : ∃ c,crossP a b = c:=⟨_,rfl⟩;obtain ⟨x,hx⟩ : ∃ x,a.1 * b.2 = x:=⟨_,rfl⟩;obtain ⟨y,hy⟩ : ∃ y,a.2 * b.1 = y:=⟨_,rfl⟩;rw [hx,hy,hc] at hd;have e1 : IntKind.i64.wrap (a.1 * b.2) = x:=by rw [hx]; exact wrap_small _ (by omega) (by omega)
 have e2 : IntKind.i64.wrap (a.2 * b.1) = y:=by rw [hy]; exact wrap_small _ (by omega) (by omega)
 have hxy : x - y = c:=by rw [← hx,← hy,← hc]; rfl
 have e3 : IntKind.i64.wrap (x - y) = c:=by rw [hxy]; exact wrap_small _ (by omega) (by omega)
 rw [hc];have HB:=Lib.hid hb1;have HW:=Lib.hid hw1;unfold ptV ptA at *;clear hw1 hb1 hx hy hc hd hxy
 go_enter Tryz.func79,Tryz.ntmps79
 go_upto_region 1 with fail
 rw [HW.out];go_wp2;go_returns;exact ⟨rfl,HB.out⟩
theorem dot_any (a b : Int × Int) (ha : PtOk a) (hb : PtOk b) (w : World) : Calls Tryz.prog 75 #[ptV a,ptV b] w fun e w' => e = .returned (.int .i64 (dotP a b)) ∧ Below w.heap.size w w':=by
 have hd:=dot_bd ha hb;obtain ⟨w1,hw1,hb1,c0,c1,c2,c3⟩ := two_pts a b 88 w;obtain ⟨c,hc⟩ : ∃ c,dotP a b = c:=⟨_,rfl⟩;obtain ⟨x,hx⟩ : ∃ x,a.1 * b.1 = x:=⟨_,rfl⟩;obtain ⟨y,hy⟩ : ∃ y,a.2 * b.2 = y:=⟨_,rfl⟩;rw [hx,hy,hc] at hd;have e1 : IntKind.i64.wrap (a.1 * b.1) = x:=by rw [hx]; exact wrap_small _ (by omega) (by omega)
 have e2 : IntKind.i64.wrap (a.2 * b.2) = y:=by rw [hy]; exact wrap_small _ (by omega) (by omega)
 have hxy : x + y = c:=by rw [← hx,← hy,← hc]; rfl
 have e3 : IntKind.i64.wrap (x + y) = c:=by rw [hxy]; exact wrap_small _ (by omega) (by omega)
 rw [hc];have HB:=Lib.hid hb1;have HW:=Lib.hid hw1;unfold ptV ptA at *;clear hw1 hb1 hx hy hc hd hxy
 go_enter Tryz.func75,Tryz.ntmps75
 go_upto_region 1 with fail
 rw [HW.out];go_wp2;go_returns;exact ⟨rfl,HB.out⟩
theorem one_pt (a : Int × Int) (t : TypeId) (w : World) : ∃ w1,w.alloc (.cells (ptA a) t) = w1 ∧ Below w.heap.size w w1 ∧ w1.cell? ⟨w.heap.size,0,none⟩ = some (.int .i64 a.1) ∧ w1.cell? ⟨w.heap.size,1,none⟩ = some (.int .i64 a.2):=by
 refine ⟨_,rfl,aB _ _, ?_⟩
 have k : (w.alloc (.cells (ptA a) t)).heap[w.heap.size]? = some (.cells (ptA a) t (0,0)):=World.alloc_heap_new _ _;exact ⟨by rw [cell_of_heap k]; rfl,by rw [cell_of_heap k]; rfl⟩
theorem square_any (a : Int × Int) (ha : PtOk a) (w : World) : Calls Tryz.prog 40 #[ptV a] w fun e w' => e = .returned (.int .i64 (dotP a a)) ∧ Below w.heap.size w w':=by
 obtain ⟨w1,hw1,hb1,c0,c1⟩ := one_pt a 88 w;have HB:=Lib.hid hb1;have HW:=Lib.hid hw1;have HA:=Lib.hid ha;unfold ptV ptA at *;clear hw1 hb1 ha
 go_enter Tryz.func40,Tryz.ntmps40
 go_upto_region 1 with fail
 rw [HW.out];go_wp2_with fail;refine (dot_any a a HA.out HA.out w1).mono ?_
 rintro e w2 ⟨rfl,hb2⟩;have HB2:=Lib.hid (HB.out.trans (hb2.mono HB.out.size));clear hb2;go_wp2;go_returns;exact ⟨rfl,HB2.out⟩
theorem part_any (a b : Int × Int) (ha : PtOk a) (hb : PtOk b) (w : World) : Calls Tryz.prog 107 #[ptV a,ptV b] w fun e w' => e = .returned (.int .i64 (partP a b)) ∧ Below w.heap.size w w':=by
 obtain ⟨w1,hw1,hb1,c0,c1,c2,c3⟩ := two_pts a b 88 w;have HB:=Lib.hid hb1;have HW:=Lib.hid hw1;have HA:=Lib.hid ha;have HBB:=Lib.hid hb;clear hw1 hb1 ha hb;unfold ptV ptA at *
 go_enter Tryz.func107,Tryz.ntmps107
 go_upto_region 1 with fail
 rw [HW.out];go_wp2_with fail;refine (cross_any a b HA.out HBB.out w1).mono ?_
 rintro e w2 ⟨rfl,hb2⟩;have HB2:=Lib.hid (HB.out.trans (hb2.mono HB.out.size));have c0:=bAt hb2 c0;have c1:=bAt hb2 c1;have c2:=bAt hb2 c2;have c3:=bAt hb2 c3;clear hb2;obtain ⟨c,hc⟩ : ∃ c,crossP a b = c:=⟨_,rfl⟩;have HP : Hid (partP a b = if c < 0 then 1 else if 0 < c then 3 else if 0 < dotP a b then 0 else 2):=Lib.hid (by unfold partP; rw [hc])
 rw [hc];clear hc;by_cases h1 : c < 0
 ·have HP1 : Hid (partP a b = 1):=Lib.hid (by rw [HP.out,if_pos h1])
  have d1 : decide (c < 0) = true:=decide_eq_true h1;clear h1;go_wp2_with fail;go_returns;exact ⟨by rw [HP1.out]; rfl,HB2.out⟩
 ·by_cases h2 : 0 < c
  ·have HP1 : Hid (partP a b = 3):=Lib.hid (by rw [HP.out,if_neg h1,if_pos h2])
   have d1 : decide (c < 0) = false:=decide_eq_false h1;have d2 : decide (0 < c) = true:=decide_eq_true h2;clear h1 h2;go_wp2_with fail;go_returns;exact ⟨by rw [HP1.out]; rfl,HB2.out⟩
  ·have HP1 : Hid (partP a b = if 0 < dotP a b then 0 else 2):=Lib.hid (by rw [HP.out,if_neg h1,if_neg h2])
   have d1 : decide (c < 0) = false:=decide_eq_false h1;have d2 : decide (0 < c) = false:=decide_eq_false h2;clear h1 h2 HP;go_wp2_with fail;refine (dot_any a b HA.out HBB.out w2).mono ?_
   rintro e w3 ⟨rfl,hb3⟩;have HB3:=Lib.hid (HB2.out.trans (hb3.mono HB2.out.size));clear hb3;obtain ⟨d,hd⟩ : ∃ d,dotP a b = d:=⟨_,rfl⟩;rw [hd] at HP1 ⊢;clear hd;by_cases h3 : 0 < d
   ·have HP2 : Hid (partP a b = 0):=Lib.hid (by rw [HP1.out,if_pos h3])
    have d3 : decide (0 < d) = true:=decide_eq_true h3;clear h3;go_wp2_with fail;go_returns;exact ⟨by rw [HP2.out]; rfl,HB3.out⟩
   ·have HP2 : Hid (partP a b = 2):=Lib.hid (by rw [HP1.out,if_neg h3])
    have d3 : decide (0 < d) = false:=decide_eq_false h3;clear h3;go_wp2_with fail;go_returns;exact ⟨by rw [HP2.out]; rfl,HB3.out⟩
theorem three_pts (a b c : Int × Int) (t : TypeId) (w : World) : ∃ w1,((w.alloc (.cells (ptA a) t)).alloc (.cells (ptA b) t)).alloc (.cells (ptA c) t) = w1 ∧ Below w.heap.size w w1 ∧ w1.cell? ⟨w.heap.size,0,none⟩ = some (.int .i64 a.1) ∧ w1.cell? ⟨w.heap.size,1,none⟩ = some (.int .i64 a.2) ∧ w1.cell? ⟨w.heap.size + 1,0,none⟩ = some (.int .i64 b.1) ∧ w1.cell? ⟨w.heap.size + 1,1,none⟩ = some (.int .i64 b.2) ∧ w1.cell? ⟨w.heap.size + 1 + 1,0,none⟩ = some (.int .i64 c.1) ∧ w1.cell? ⟨w.heap.size + 1 + 1,1,none⟩ = some (.int .i64 c.2):=by
 obtain ⟨w1,hw1,hb1,c0,c1,c2,c3⟩ := two_pts a b t w;have hz : w1.heap.size = w.heap.size + 2:=by rw [← hw1]; simp
 rw [hw1];have hb2:=aB w1 (.cells (ptA c) t);have k : (w1.alloc (.cells (ptA c) t)).heap[w.heap.size + 1 + 1]? = some (.cells (ptA c) t (0,0)):=by
  rw [show w.heap.size + 1 + 1 = w1.heap.size by omega]; exact World.alloc_heap_new _ _
 exact ⟨_,rfl,hb1.trans (hb2.mono hb1.size),bAt hb2 c0,bAt hb2 c1,bAt hb2 c2,bAt hb2 c3,by rw [cell_of_heap k]; rfl,by rw [cell_of_heap k]; rfl⟩
set_option maxRecDepth 100000 in
theorem before_any (d a b : Int × Int) (hd : PtOk d) (ha : PtOk a) (hb : PtOk b) (w : World) : Calls Tryz.prog 80 #[ptV d,ptV a,ptV b] w fun e w' => e = .returned (.bool (beforeP d a b)) ∧ Below w.heap.size w w':=by
 obtain ⟨w1,hw1,hb1,c0,c1,c2,c3,c4,c5⟩ := three_pts d a b 88 w;have HB:=Lib.hid hb1;have HW:=Lib.hid hw1;have HD:=Lib.hid hd;have HA:=Lib.hid ha;have HBB:=Lib.hid hb;clear hw1 hb1 hd ha hb;unfold ptV ptA at *;obtain ⟨p,hp⟩ : ∃ p,partP d a = p:=⟨_,rfl⟩;obtain ⟨q,hq⟩ : ∃ q,partP d b = q:=⟨_,rfl⟩;have HP:=Lib.hid hp;have HQ:=Lib.hid hq;have HE : Hid (beforeP d a b = if p = q then decide (crossP a b < 0) else decide (p < q)):=Lib.hid (by unfold beforeP; rw [hp,hq])
 clear hp hq
 go_enter Tryz.func80,Tryz.ntmps80
 go_upto_region 1 with fail
 rw [HW.out];refine wp_region_seqW (.is (.agg #[.int .i64 d.1,.int .i64 d.2]) :: .is (.agg #[.int .i64 a.1,.int .i64 a.2]) :: .is (.int .i64 p) :: .is (.agg #[.int .i64 d.1,.int .i64 d.2]) :: .is (.agg #[.int .i64 b.1,.int .i64 b.2]) :: .is (.int .i64 q) :: .is (.int .i64 p) :: .is (.int .i64 q) :: []) rfl mix (by kernel_rfl) (by kernel_rfl) ?_
 iterate 2
  refine seq_on (by rfl) (fun wr hbr _ => ?_) ?_
  ·have c0':=bAt hbr c0
   have c1':=bAt hbr c1;have c2':=bAt hbr c2;have c3':=bAt hbr c3;simp [opOK,go_sem,c0',c1',c2',c3',Below.refl]
   try exact rfl
  simp only [Act.put,List.setIfInBounds_toArray,List.set_cons_succ,List.set_cons_zero]
 refine seq_on (by rfl) (fun wr hbr _ => ?_) ?_
 ·refine opOK_call (f:=107) (args:=#[.agg #[.int .i64 d.1,.int .i64 d.2],.agg #[.int .i64 a.1,.int .i64 a.2]]) (by simp [go_sem]) ?_
  have hcall:=part_any d a HD.out HA.out wr;unfold ptV ptA at hcall;rw [HP.out] at hcall;exact hcall.mono fun e W' ⟨he,hb⟩ => ⟨_,he,rfl,hb⟩
 simp only [Act.put,List.setIfInBounds_toArray,List.set_cons_succ,List.set_cons_zero]
 iterate 2
  refine seq_on (by rfl) (fun wr hbr _ => ?_) ?_
  ·have c0':=bAt hbr c0
   have c1':=bAt hbr c1;have c4':=bAt hbr c4;have c5':=bAt hbr c5;simp [opOK,go_sem,c0',c1',c4',c5',Below.refl]
   try exact rfl
  simp only [Act.put,List.setIfInBounds_toArray,List.set_cons_succ,List.set_cons_zero]
 refine seq_on (by rfl) (fun wr hbr _ => ?_) ?_
 ·refine opOK_call (f:=107) (args:=#[.agg #[.int .i64 d.1,.int .i64 d.2],.agg #[.int .i64 b.1,.int .i64 b.2]]) (by simp [go_sem]) ?_
  have hcall:=part_any d b HD.out HBB.out wr;unfold ptV ptA at hcall;rw [HQ.out] at hcall;exact hcall.mono fun e W' ⟨he,hb⟩ => ⟨_,he,rfl,hb⟩
 simp only [Act.put,List.setIfInBounds_toArray,List.set_cons_succ,List.set_cons_zero]
 iterate 2
  refine seq_on (by rfl) (fun wr hbr _ => ?_) ?_
  ·simp [opOK,go_sem,Below.refl]
   try exact rfl
  simp only [Act.put,List.setIfInBounds_toArray,List.set_cons_succ,List.set_cons_zero]
 refine seq_end fun w2 hb2 hH => ?_
 clear hH;have HB2:=Lib.hid (HB.out.trans (hb2.mono HB.out.size));have c2:=bAt hb2 c2;have c3:=bAt hb2 c3;have c4:=bAt hb2 c4;have c5:=bAt hb2 c5;clear hb2 c0 c1;by_cases h : p = q
 ·have HE1 : Hid (beforeP d a b = decide (crossP a b < 0)):=Lib.hid (by rw [HE.out,if_pos h])
  have d1 : (p != q) = false:=by simp [h]
  clear h;go_wp2_with fail;refine (cross_any a b HA.out HBB.out w2).mono ?_
  rintro e w3 ⟨rfl,hb3⟩;have HB3:=Lib.hid (HB2.out.trans (hb3.mono HB2.out.size));clear hb3;go_wp2;go_returns;exact ⟨by rw [HE1.out]; rfl,HB3.out⟩
 ·have HE1 : Hid (beforeP d a b = decide (p < q)):=Lib.hid (by rw [HE.out,if_neg h])
  have d1 : (p != q) = true:=bne_iff_ne.2 h;clear h;go_wp2_with fail;go_returns;exact ⟨by rw [HE1.out]; rfl,HB2.out⟩
def isPt (p : Int × Int) : Bool:=isIn p.1 (-5000) 5000 && isIn p.2 (-5000) 5000
theorem isPt_ok {p : Int × Int} : isPt p = true ↔ PtOk p:=by unfold isPt isIn PtOk; simp; omega
set_option maxRecDepth 100000 in
theorem isPoint_any (p : Int × Int) (w : World) : Calls Tryz.prog 21 #[ptV p] w fun e w' => e = .returned (.bool (isPt p)) ∧ Below w.heap.size w w':=by
 obtain ⟨w1,hw1,hb1,c0,c1⟩ := one_pt p 31 w;obtain ⟨w2,hw2⟩ : ∃ z,w1.alloc (.cells #[.int .i64 p.1,.int .i64 p.2] 3) = z:=⟨_,rfl⟩;have hz : w1.heap.size = w.heap.size + 1:=by rw [← hw1]; simp
 have hb2 : Below w1.heap.size w1 w2:=by rw [← hw2]; exact aB _ _
 have k2 : w2.heap[w.heap.size + 1]? = some (.cells #[.int .i64 p.1,.int .i64 p.2] 3 (0,0)):=by rw [← hw2,← hz]; exact World.alloc_heap_new _ _
 have hsl : Sl (fun _ => True) w2 (.slice (some ⟨w.heap.size + 1,0,none⟩) 2 2) (ints [p.1,p.2]):=(Sl.of_owns (own_lit (k:=1) (m:=2) (base:=0) (e:=3) (cs:=#[.int .i64 p.1,.int .i64 p.2]) k2 (Nat.zero_le _) (by decide) (by rfl))).mono fun _ _ => trivial
 have HSL:=Lib.hid hsl;have HB:=Lib.hid (hb1.trans (hb2.mono hb1.size));have HW:=Lib.hid hw1;have HW2:=Lib.hid hw2;have HZ:=Lib.hid hz;clear hw1 hb1 hw2 hb2 k2 hsl hz;unfold ptV ptA at *
 go_enter Tryz.func21,Tryz.ntmps21
 go_upto_region 1 with fail
 rw [HW.out];go_wp2_with fail;rw [HW2.out,HZ.out];refine (within_anyBo (-5000) 5000 [p.1,p.2] _ w2 HSL.out).mono ?_
 rintro e w3 ⟨rfl,hb3⟩;have HB3:=Lib.hid (HB.out.trans (hb3.mono HB.out.size));clear hb3;go_wp2;go_returns;refine ⟨?_,HB3.out⟩
 congr 2
 unfold isPt isIn outB;simp;rw [Bool.eq_iff_iff];simp only [Bool.and_eq_true,Bool.not_eq_true',decide_eq_true_eq,decide_eq_false_iff_not];omega
open Go Go.RowKit Go.Oche Go.Proofs

def ptRow (p : Int × Int) : List Value:=[.int .i64 p.1,.int .i64 p.2]
def idxP (f : Int × Int → Bool) (l : List (Int × Int)) : Int:=if l.any f then (l.findIdx f : Nat) else -1
theorem idxP_hit {f : Int × Int → Bool} {xs : List (Int × Int)} {k : Nat} (hk : k < xs.length) (hp : ∀ j,j < k → ∀ h : j < xs.length,f xs[j] = false) (h : f xs[k] = true) : idxP f xs = k:=by
 have h1 : xs.any f = true:=List.any_eq_true.2 ⟨xs[k],List.getElem_mem hk,h⟩;have h2 : xs.findIdx f = k:=by
  refine (List.findIdx_eq hk).2 ⟨h,fun j hj => ?_⟩
  simpa using hp j hj (by omega)
 simp [idxP,h1,h2]
theorem idxP_miss {f : Int × Int → Bool} {xs : List (Int × Int)} (hp : ∀ j,j < xs.length → ∀ h : j < xs.length,f xs[j] = false) : idxP f xs = -1:=by
 have h1 : xs.any f = false:=by
  rw [List.any_eq_false];intro y hy;obtain ⟨j,hj,rfl⟩ := List.mem_iff_getElem.1 hy;simp [hp j hj hj]
 simp [idxP,h1]

def inRing (q : Int) (p : Int × Int) : Bool:=decide (q < p.1 * p.1)
set_option maxRecDepth 100000 in
theorem ring1_any (q : Int) (p : Int × Int) (hp : PtOk p) (a : Nat) (w : World) (hq : w.cell? ⟨a,0,none⟩ = some (.int .i64 q)) : Calls Tryz.prog 43 #[ptV p,.pointer (some ⟨a,0,none⟩)] w fun e w' => e = .returned (.bool (inRing q p)) ∧ Below w.heap.size w w':=by
 obtain ⟨w1,hw1,hb1,c0,c1⟩ := one_pt p 28 w;have hm:=mul_abs hp.1 hp.1;have hq':=bAt hb1 hq;obtain ⟨s,hs⟩ : ∃ s,p.1 * p.1 = s:=⟨_,rfl⟩;have e1 : IntKind.i64.wrap (p.1 * p.1) = s:=by rw [hs]; rw [hs] at hm; exact wrap_small _ (by omega) (by omega)
 have HS:=Lib.hid hs;have HB:=Lib.hid hb1;have HW:=Lib.hid hw1;unfold ptV ptA at *;clear hw1 hb1 hs hm hp hq
 go_enter Tryz.func43,Tryz.ntmps43
 go_upto_region 1 with fail
 rw [HW.out];go_wp2;go_returns;exact ⟨by unfold inRing; rw [HS.out]; rfl,HB.out⟩
def badFac (p : Int × Int) : Bool := !isIn p.2 0 4
set_option maxRecDepth 100000 in
theorem rings1_any (p : Int × Int) (w : World) : Calls Tryz.prog 105 #[ptV p] w fun e w' => e = .returned (.bool (badFac p)) ∧ Below w.heap.size w w':=by
 obtain ⟨w1,hw1,hb1,c0,c1⟩ := one_pt p 28 w;obtain ⟨r,hr⟩ : ∃ r,isIn p.2 0 4 = r:=⟨_,rfl⟩;have HR:=Lib.hid hr;have HB:=Lib.hid hb1;have HW:=Lib.hid hw1;unfold ptV ptA at *;clear hw1 hb1 hr
 go_enter Tryz.func105,Tryz.ntmps105
 go_upto_region 1 with fail
 rw [HW.out];go_wp2_with fail;refine (within_anyBo 0 4 [p.2] _ _ (Sl.new1 (fun _ => True) w1 trivial 3 (.int .i64 p.2))).mono ?_
 rintro e w2 ⟨rfl,hb2⟩;rw [out_oneBo,HR.out];have HB2:=Lib.hid (bThen HB.out (bThen (aB w1 _) hb2));clear hb2;go_wp2;go_returns;exact ⟨by unfold badFac; rw [HR.out]; rfl,HB2.out⟩
def badLine (p : Int × Int) : Bool := !isPt p || (p == (0,0))
set_option maxRecDepth 100000 in
theorem lines1_any (p : Int × Int) (w : World) : Calls Tryz.prog 106 #[ptV p] w fun e w' => e = .returned (.bool (badLine p)) ∧ Below w.heap.size w w':=by
 obtain ⟨w1,hw1,hb1,c0,c1⟩ := one_pt p 31 w;obtain ⟨r,hr⟩ : ∃ r,isPt p = r:=⟨_,rfl⟩;have HR:=Lib.hid hr;have HB:=Lib.hid hb1;have HW:=Lib.hid hw1;unfold ptV ptA at *;clear hw1 hb1 hr
 go_enter Tryz.func106,Tryz.ntmps106
 go_upto_region 1 with fail
 rw [HW.out];go_wp2_with fail;have hcall:=isPoint_any p w1;unfold ptV ptA at hcall;rw [HR.out] at hcall;refine hcall.mono ?_
 rintro e w2 ⟨rfl,hb2⟩;have c0:=bAt hb2 c0;have c1:=bAt hb2 c1;have HB2:=Lib.hid (bThen HB.out hb2);clear hb2 hcall;cases r
 ·go_wp2
  go_returns
  exact ⟨by unfold badLine; rw [HR.out]; rfl,HB2.out⟩
 ·go_wp2_with fail
  all_goals
   go_returns
   refine ⟨?_,HB2.out⟩
   unfold badLine;rw [HR.out];obtain ⟨x,y⟩ := p
   simp_all

set_option maxRecDepth 100000 in
set_option maxHeartbeats 4000000 in
theorem indexRing_any {S : Nat → Prop} (q : Int) (pq : Nat) (l : List (Int × Int)) (hb : ∀ p ∈ l,PtOk p) (v : Value) (w : World) (hl : SlN 2 S w v (l.map ptRow)) (hq : w.cell? ⟨pq,0,none⟩ = some (.int .i64 q)) :
  Calls Tryz.prog 42 #[v,.func (.func 43) #[] #[.pointer (some ⟨pq,0,none⟩)]] w fun e w' => e = .returned (.int .i64 (idxP (inRing q) l)) ∧ Below w.heap.size w w':=by
 obtain ⟨a,cap,rfl,h2,h3⟩ := hl.form;simp only [List.length_map] at *;unfold maxLen at h3;have HS:=Lib.hid hl;have HBD:=Lib.hid hb;clear hl hb
 go_enter Tryz.func42,Tryz.ntmps42
 go_wp2;go_loopw [8] (fun i wr => ∃ k : Nat,k ≤ l.length ∧ i = .int .i64 k ∧ Hid (∀ j,j < k → ∀ h : j < l.length,(inRing q) l[j] = false) ∧ Hid (Below w.heap.size w wr)) (fun i _ => l.length - (intOf i).toNat)
 case atStart => exact ⟨0,Nat.zero_le _,rfl,Lib.hid (fun j hj => by omega),Lib.hid (Below.refl _ _)⟩
 case round =>
  obtain ⟨k,hk,rfl,HP,HB⟩ := hrel;by_cases hlt : k < l.length
  ·obtain ⟨b,off,hal,_,_,hc⟩ := HS.out.cell (show k < (l.map ptRow).length by simpa using hlt)
   cases hal;obtain ⟨⟨px,py⟩,hx'⟩ : ∃ y,l[k] = y:=⟨_,rfl⟩;have z0:=bAt HB.out (hc 0 (.int .i64 px) (by simp [ptRow,hx']))
   have z1:=bAt HB.out (hc 1 (.int .i64 py) (by simp [ptRow,hx']))
   simp only [Nat.add_zero] at z0;have hq':=bAt HB.out hq;obtain ⟨r,ho⟩ : ∃ r,(inRing q) (px,py) = r:=⟨_,rfl⟩;have HO : Hid ((inRing q) (px,py) = r):=Lib.hid ho;have HX:=Lib.hid hx';have HPT : Hid (PtOk (px,py)):=Lib.hid (by rw [← hx']; exact HBD.out _ (List.getElem_mem hlt))
   clear ho hx' hc;go_wp2_with fail;have hcall:=ring1_any q (px,py) HPT.out pq wr hq';unfold ptV ptA at hcall;rw [HO.out] at hcall;refine hcall.mono ?_
   rintro e w3 ⟨rfl,hb3⟩;clear hcall;have HB3 : Hid (Below w.heap.size w w3):=Lib.hid (bThen HB.out hb3);clear hb3 z0 z1 hq';cases r
   ·go_wp2
    go_roundw
    case rel => exact ⟨k + 1,by omega,by go_num,Lib.hid (fun j hj h => by
     by_cases hjk : j = k
     ·subst hjk; rw [HX.out]; exact HO.out
     ·exact HP.out j (by omega) h),HB3⟩
    case measure => simp [intOf]; omega
   ·go_wp2
    go_ret
    exact ⟨ret_int (idxP_hit hlt HP.out (by rw [HX.out]; exact HO.out)).symm,HB3.out⟩
  ·obtain rfl : k = l.length:=by omega
   go_wp2
   go_ret
   exact ⟨ret_int (idxP_miss fun j hj h => HP.out j hj h).symm,HB.out⟩
set_option maxRecDepth 100000 in
set_option maxHeartbeats 4000000 in
theorem indexFac_any {S : Nat → Prop}  (l : List (Int × Int)) (hb : ∀ p ∈ l,PtOk p) (v : Value) (w : World) (hl : SlN 2 S w v (l.map ptRow))  :
  Calls Tryz.prog 42 #[v,.func (.func 105) #[] #[]] w fun e w' => e = .returned (.int .i64 (idxP (badFac) l)) ∧ Below w.heap.size w w':=by
 obtain ⟨a,cap,rfl,h2,h3⟩ := hl.form;simp only [List.length_map] at *;unfold maxLen at h3;have HS:=Lib.hid hl;have HBD:=Lib.hid hb;clear hl hb
 go_enter Tryz.func42,Tryz.ntmps42
 go_wp2;go_loopw [8] (fun i wr => ∃ k : Nat,k ≤ l.length ∧ i = .int .i64 k ∧ Hid (∀ j,j < k → ∀ h : j < l.length,(badFac) l[j] = false) ∧ Hid (Below w.heap.size w wr)) (fun i _ => l.length - (intOf i).toNat)
 case atStart => exact ⟨0,Nat.zero_le _,rfl,Lib.hid (fun j hj => by omega),Lib.hid (Below.refl _ _)⟩
 case round =>
  obtain ⟨k,hk,rfl,HP,HB⟩ := hrel;by_cases hlt : k < l.length
  ·obtain ⟨b,off,hal,_,_,hc⟩ := HS.out.cell (show k < (l.map ptRow).length by simpa using hlt)
   cases hal;obtain ⟨⟨px,py⟩,hx'⟩ : ∃ y,l[k] = y:=⟨_,rfl⟩;have z0:=bAt HB.out (hc 0 (.int .i64 px) (by simp [ptRow,hx']))
   have z1:=bAt HB.out (hc 1 (.int .i64 py) (by simp [ptRow,hx']))
   simp only [Nat.add_zero] at z0;obtain ⟨r,ho⟩ : ∃ r,(badFac) (px,py) = r:=⟨_,rfl⟩;have HO : Hid ((badFac) (px,py) = r):=Lib.hid ho;have HX:=Lib.hid hx';have HPT : Hid (PtOk (px,py)):=Lib.hid (by rw [← hx']; exact HBD.out _ (List.getElem_mem hlt))
   clear ho hx' hc;go_wp2_with fail;have hcall:=rings1_any (px,py) wr;unfold ptV ptA at hcall;rw [HO.out] at hcall;refine hcall.mono ?_
   rintro e w3 ⟨rfl,hb3⟩;clear hcall;have HB3 : Hid (Below w.heap.size w w3):=Lib.hid (bThen HB.out hb3);clear hb3 z0 z1;cases r
   ·go_wp2
    go_roundw
    case rel => exact ⟨k + 1,by omega,by go_num,Lib.hid (fun j hj h => by
     by_cases hjk : j = k
     ·subst hjk; rw [HX.out]; exact HO.out
     ·exact HP.out j (by omega) h),HB3⟩
    case measure => simp [intOf]; omega
   ·go_wp2
    go_ret
    exact ⟨ret_int (idxP_hit hlt HP.out (by rw [HX.out]; exact HO.out)).symm,HB3.out⟩
  ·obtain rfl : k = l.length:=by omega
   go_wp2
   go_ret
   exact ⟨ret_int (idxP_miss fun j hj h => HP.out j hj h).symm,HB.out⟩
theorem containsFac_any {S : Nat → Prop}  (l : List (Int × Int)) (hb : ∀ p ∈ l,PtOk p) (v : Value) (w : World) (hl : SlN 2 S w v (l.map ptRow))  :
  Calls Tryz.prog 104 #[v,.func (.func 105) #[] #[]] w fun e w' => e = .returned (.bool (l.any (badFac))) ∧ Below w.heap.size w w':=by
 go_enter Tryz.func104,Tryz.ntmps104
 go_wp2_with fail;refine (indexFac_any l hb v w hl).mono ?_
 rintro e w2 ⟨rfl,hb2⟩;go_wp2
 go_ret
 refine ⟨ret_bool ?_,hb2⟩
 unfold idxP;cases l.any (badFac) <;> simp <;> omega
set_option maxRecDepth 100000 in
set_option maxHeartbeats 4000000 in
theorem indexLine_any {S : Nat → Prop}  (l : List (Int × Int)) (hb : ∀ p ∈ l,PtOk p) (v : Value) (w : World) (hl : SlN 2 S w v (l.map ptRow))  :
  Calls Tryz.prog 121 #[v,.func (.func 106) #[] #[]] w fun e w' => e = .returned (.int .i64 (idxP (badLine) l)) ∧ Below w.heap.size w w':=by
 obtain ⟨a,cap,rfl,h2,h3⟩ := hl.form;simp only [List.length_map] at *;unfold maxLen at h3;have HS:=Lib.hid hl;have HBD:=Lib.hid hb;clear hl hb
 go_enter Tryz.func121,Tryz.ntmps121
 go_wp2;go_loopw [8] (fun i wr => ∃ k : Nat,k ≤ l.length ∧ i = .int .i64 k ∧ Hid (∀ j,j < k → ∀ h : j < l.length,(badLine) l[j] = false) ∧ Hid (Below w.heap.size w wr)) (fun i _ => l.length - (intOf i).toNat)
 case atStart => exact ⟨0,Nat.zero_le _,rfl,Lib.hid (fun j hj => by omega),Lib.hid (Below.refl _ _)⟩
 case round =>
  obtain ⟨k,hk,rfl,HP,HB⟩ := hrel;by_cases hlt : k < l.length
  ·obtain ⟨b,off,hal,_,_,hc⟩ := HS.out.cell (show k < (l.map ptRow).length by simpa using hlt)
   cases hal;obtain ⟨⟨px,py⟩,hx'⟩ : ∃ y,l[k] = y:=⟨_,rfl⟩;have z0:=bAt HB.out (hc 0 (.int .i64 px) (by simp [ptRow,hx']))
   have z1:=bAt HB.out (hc 1 (.int .i64 py) (by simp [ptRow,hx']))
   simp only [Nat.add_zero] at z0;obtain ⟨r,ho⟩ : ∃ r,(badLine) (px,py) = r:=⟨_,rfl⟩;have HO : Hid ((badLine) (px,py) = r):=Lib.hid ho;have HX:=Lib.hid hx';have HPT : Hid (PtOk (px,py)):=Lib.hid (by rw [← hx']; exact HBD.out _ (List.getElem_mem hlt))
   clear ho hx' hc;go_wp2_with fail;have hcall:=lines1_any (px,py) wr;unfold ptV ptA at hcall;rw [HO.out] at hcall;refine hcall.mono ?_
   rintro e w3 ⟨rfl,hb3⟩;clear hcall;have HB3 : Hid (Below w.heap.size w w3):=Lib.hid (bThen HB.out hb3);clear hb3 z0 z1;cases r
   ·go_wp2
    go_roundw
    case rel => exact ⟨k + 1,by omega,by go_num,Lib.hid (fun j hj h => by
     by_cases hjk : j = k
     ·subst hjk; rw [HX.out]; exact HO.out
     ·exact HP.out j (by omega) h),HB3⟩
    case measure => simp [intOf]; omega
   ·go_wp2
    go_ret
    exact ⟨ret_int (idxP_hit hlt HP.out (by rw [HX.out]; exact HO.out)).symm,HB3.out⟩
  ·obtain rfl : k = l.length:=by omega
   go_wp2
   go_ret
   exact ⟨ret_int (idxP_miss fun j hj h => HP.out j hj h).symm,HB.out⟩
theorem containsLine_any {S : Nat → Prop}  (l : List (Int × Int)) (hb : ∀ p ∈ l,PtOk p) (v : Value) (w : World) (hl : SlN 2 S w v (l.map ptRow))  :
  Calls Tryz.prog 77 #[v,.func (.func 106) #[] #[]] w fun e w' => e = .returned (.bool (l.any (badLine))) ∧ Below w.heap.size w w':=by
 go_enter Tryz.func77,Tryz.ntmps77
 go_wp2_with fail;refine (indexLine_any l hb v w hl).mono ?_
 rintro e w2 ⟨rfl,hb2⟩;go_wp2
 go_ret
 refine ⟨ret_bool ?_,hb2⟩
 unfold idxP;cases l.any (badLine) <;> simp <;> omega
open Go Go.RowKit Go.Oche Go.Proofs

structure Bd where
 eye : Int
 bull : Int
 rings : List (Int × Int)
 lines : List (Int × Int)
 ns : List Int
def bdA (b : Bd) (rv lv nv : Value) : Array Value:=#[.int .i64 b.eye,.int .i64 b.bull,rv,lv,nv,.int .i64 0]
def bdV (b : Bd) (rv lv nv : Value) : Value:=.agg (bdA b rv lv nv)
structure BdAt (S : Nat → Prop) (w : World) (b : Bd) (rv lv nv : Value) : Prop where
 rs : SlN 2 S w rv (b.rings.map ptRow)
 ls : SlN 2 S w lv (b.lines.map ptRow)
 ns : Sl S w nv (ints b.ns)
section
variable {S S' : Nat → Prop} {w w' : World} {b : Bd} {rv lv nv : Value}
theorem BdAt.below (h : BdAt S w b rv lv nv) (hb : Below w.heap.size w w') : BdAt S w' b rv lv nv:=⟨h.rs.below hb,h.ls.below hb,h.ns.below hb⟩
theorem BdAt.mono (h : BdAt S w b rv lv nv) (hS : ∀ k,S k → S' k) : BdAt S' w b rv lv nv:=⟨h.rs.mono hS,h.ls.mono hS,h.ns.mono hS⟩
end
def radOk : Int → List Int → Bool
 | _,[] => true
 | last,r :: rs => isIn r (last + 1) 5000 && radOk r rs
structure BdOk (b : Bd) : Prop where
 r0 : b.rings ≠ [] ∧ b.rings.length ≤ 8
 rf : ∀ r ∈ b.rings,0 ≤ r.2 ∧ r.2 ≤ 4
 rad : radOk 0 (b.eye :: b.bull :: b.rings.map (·.1)) = true
 l0 : 3 ≤ b.lines.length ∧ b.lines.length ≤ 20
 lp : ∀ p ∈ b.lines,PtOk p ∧ p ≠ (0,0)
 lt : ∀ i,i < b.lines.length → partP (b.lines.getD i (0,0)) (b.lines.getD ((i + 1) % b.lines.length) (0,0)) = 1 ∧ (i + 1 < b.lines.length → beforeP (b.lines.headD (0,0)) (b.lines.getD i (0,0)) (b.lines.getD (i + 1) (0,0)) = true)
 n0 : b.ns.length = b.lines.length
 nr : ∀ n ∈ b.ns,1 ≤ n ∧ n ≤ 20
 nd : b.ns.Nodup
theorem radOk_bd : ∀ {l : List Int} {last : Int},radOk last l = true → 0 ≤ last → ∀ r ∈ l,1 ≤ r ∧ r ≤ 5000
 | [],_,_,_,r,h => by cases h
 | x :: xs,last,h,h0,r,hr => by
  rw [radOk,Bool.and_eq_true] at h;have hx : last + 1 ≤ x ∧ x ≤ 5000:=by have:=h.1; unfold isIn at this; simpa using this
  rcases List.mem_cons.1 hr with rfl | hr
  ·omega
  ·exact radOk_bd h.2 (by omega) r hr
theorem BdOk.eye_bd {b : Bd} (h : BdOk b) : 1 ≤ b.eye ∧ b.eye ≤ 5000:=radOk_bd h.rad (Int.le_refl _) _ (by simp)
theorem BdOk.bull_bd {b : Bd} (h : BdOk b) : 1 ≤ b.bull ∧ b.bull ≤ 5000:=radOk_bd h.rad (Int.le_refl _) _ (by simp)
theorem BdOk.ring_ok {b : Bd} (h : BdOk b) : ∀ r ∈ b.rings,PtOk r:=fun r hr => by
 have h1:=radOk_bd h.rad (Int.le_refl _) r.1 (by simp; exact .inr (.inr ⟨_,hr⟩))
 have h2:=h.rf r hr;unfold PtOk; omega
theorem secP_step {ls : List (Int × Int)} {d : Int × Int} {k : Nat} (h : k < ls.length) (j i : Int) : secP ls d (ls.length - k) j i = secP ls d (ls.length - (k + 1)) (j + 1) (if beforeP (ls.headD (0,0)) d ls[k] = true then i else j):=by
 have e : ls.length - k = (ls.length - (k + 1)) + 1:=by omega
 rw [e,secP,show ls.length - (ls.length - (k + 1) + 1) = k by omega,List.getElem?_eq_getElem h]
theorem head_get {α : Type} {l : List α} (h : 0 < l.length) (d : α) : l[0] = l.headD d:=by
 cases l with
 | nil => simp at h
 | cons x xs => rfl
theorem bd_cells {b : Bd} {rv lv nv : Value} {t : TypeId} {w : World} {q : Nat} (h : w.heap[q]? = some (.cells (bdA b rv lv nv) t (0,0))) : w.cell? ⟨q,0,none⟩ = some (.int .i64 b.eye) ∧ w.cell? ⟨q,1,none⟩ = some (.int .i64 b.bull) ∧ w.cell? ⟨q,2,none⟩ = some rv ∧ w.cell? ⟨q,3,none⟩ = some lv ∧ w.cell? ⟨q,4,none⟩ = some nv ∧ w.cell? ⟨q,5,none⟩ = some (.int .i64 0) :=
 ⟨by rw [cell_of_heap h]; rfl,by rw [cell_of_heap h]; rfl,by rw [cell_of_heap h]; rfl,by rw [cell_of_heap h]; rfl,by rw [cell_of_heap h]; rfl,by rw [cell_of_heap h]; rfl⟩
theorem bd_pt (b : Bd) (rv lv nv : Value) (d : Int × Int) (t t2 : TypeId) (w : World) : ∃ w1,(w.alloc (.cells (bdA b rv lv nv) t)).alloc (.cells (ptA d) t2) = w1 ∧ Below w.heap.size w w1 ∧ w1.heap.size = w.heap.size + 2 ∧ w1.heap[w.heap.size]? = some (.cells (bdA b rv lv nv) t (0,0)) ∧ w1.cell? ⟨w.heap.size + 1,0,none⟩ = some (.int .i64 d.1) ∧ w1.cell? ⟨w.heap.size + 1,1,none⟩ = some (.int .i64 d.2):=by
 have k : ((w.alloc (.cells (bdA b rv lv nv) t)).alloc (.cells (ptA d) t2)).heap[w.heap.size]? = some (.cells (bdA b rv lv nv) t (0,0)):=(Below.heap_alloc _ _ _ (by simp)).trans (World.alloc_heap_new _ _)
 have k2 : ((w.alloc (.cells (bdA b rv lv nv) t)).alloc (.cells (ptA d) t2)).heap[w.heap.size + 1]? = some (.cells (ptA d) t2 (0,0)):=by
  rw [show w.heap.size + 1 = (w.alloc (.cells (bdA b rv lv nv) t)).heap.size by simp]; exact World.alloc_heap_new _ _
 exact ⟨_,rfl,(aB _ _).alloc (by simp) _,by simp,k,by rw [cell_of_heap k2]; rfl,by rw [cell_of_heap k2]; rfl⟩
set_option maxRecDepth 100000 in
set_option maxHeartbeats 4000000 in
theorem sector_any {S : Nat → Prop} (b : Bd) (hok : BdOk b) (rv lv nv : Value) (d : Int × Int) (hd : PtOk d) (w : World) (hat : BdAt S w b rv lv nv) :
  Calls Tryz.prog 44 #[bdV b rv lv nv,ptV d] w fun e w' => e = .returned (.int .i64 (sectorP b.lines d)) ∧ Below w.heap.size w w':=by
 obtain ⟨w1,hw1,hb1,hz1,kb,d0,d1⟩ := bd_pt b rv lv nv d 72 88 w;obtain ⟨la,lc,rfl,hl2,hl3⟩ := hat.ls.form;simp only [List.length_map] at *;unfold maxLen at hl3;obtain ⟨N,hN⟩ : ∃ N,w.heap.size = N:=⟨_,rfl⟩;rw [hN] at hz1 kb d0 d1;obtain ⟨-, -, -,c3, -, -⟩ := bd_cells kb;obtain ⟨n,hn⟩ : ∃ n,b.lines.length = n:=⟨_,rfl⟩;have hl0:=hok.l0;rw [hn] at hl2 c3 hl0;have hls:=hat.ls;rw [hn] at hls;obtain ⟨bk,off,rfl, -, -,hc0⟩ := (hls.below hb1).cell (show 0 < (b.lines.map ptRow).length by rw [List.length_map,hn]; omega)
 obtain ⟨f,hf⟩ : ∃ f,b.lines.headD (0,0) = f:=⟨_,rfl⟩;have hf0 : b.lines[0]'(by omega) = f:=by rw [← hf]; exact head_get _ _
 have hfm : f ∈ b.lines:=by rw [← hf0]; exact List.getElem_mem _
 have f0:=hc0 0 (.int .i64 f.1) (by simp [ptRow,hf0])
 have f1:=hc0 1 (.int .i64 f.2) (by simp [ptRow,hf0])
 simp only [Nat.zero_mul,Nat.add_zero] at f0 f1;obtain ⟨w2,hw2⟩ : ∃ z,w1.alloc (.cells #[.int .i64 f.1,.int .i64 f.2] 88) = z:=⟨_,rfl⟩;have hb2 : Below w1.heap.size w1 w2:=by rw [← hw2]; exact aB _ _
 have k2 : w2.heap[N + 2]? = some (.cells #[.int .i64 f.1,.int .i64 f.2] 88 (0,0)):=by rw [← hw2,← hz1]; exact World.alloc_heap_new _ _
 have g0 : w2.cell? ⟨N + 2,0,none⟩ = some (.int .i64 f.1):=by rw [cell_of_heap k2]; rfl
 have g1 : w2.cell? ⟨N + 2,1,none⟩ = some (.int .i64 f.2):=by rw [cell_of_heap k2]; rfl
 have d0:=bAt hb2 d0;have d1:=bAt hb2 d1;have HLS:=Lib.hid ((hls.below hb1).below hb2);have HB:=Lib.hid (hb1.trans (hb2.mono hb1.size));have HW:=Lib.hid hw1;have HW2:=Lib.hid hw2;have HN:=Lib.hid hN;have HZ:=Lib.hid hz1;have HLN:=Lib.hid hn;have HF:=Lib.hid hf;have HLP:=Lib.hid hok.lp;have HD:=Lib.hid hd;have HFM:=Lib.hid hfm;have c3':=c3;unfold bdV bdA ptV ptA at *;clear hw1 hb1 kb hN hz1 hn hat hok hd hw2 hb2 k2 hc0 hf hf0 hfm hls
 go_enter Tryz.func44,Tryz.ntmps44
 go_upto_region 1 with fail
 rw [HW.out,HN.out];go_upto_region 2 with fail;rw [HW2.out,HZ.out];have c3:=bAt (show Below w1.heap.size w1 w2 by rw [← HW2.out]; exact aB _ _) c3
 clear c3' f0 f1;have HR0 : Hid (secP b.lines d (n - 0) ((0 : Nat) : Int) 0 = sectorP b.lines d):=Lib.hid (by rw [← HLN.out]; rfl)
 go_wp2_with fail;go_loopw [4,18] (fun cv kv wr => ∃ (k : Nat) (c : Int),k ≤ n ∧ kv = .int .i64 (k : Int) ∧ cv = .int .i64 c ∧ Hid (secP b.lines d (n - k) (k : Int) c = sectorP b.lines d) ∧ Hid (Below w2.heap.size w2 wr)) (fun _ kv _ => n - (intOf kv).toNat)
 case atStart => exact ⟨0,0,Nat.zero_le _,rfl,rfl,HR0,Lib.hid (Below.refl _ _)⟩
 case round =>
  clear HR0;obtain ⟨k,c,hk,rfl,rfl,HR,HBr⟩ := hrel;obtain ⟨wo,rfl⟩ : ∃ wo : World,wo = wr:=⟨_,rfl⟩;have d0:=bAt HBr.out d0;have d1:=bAt HBr.out d1;have g0:=bAt HBr.out g0;have g1:=bAt HBr.out g1;by_cases hlt : k < n
  ·obtain ⟨b',off',hal, -, -,hc⟩ := (HLS.out.below HBr.out).cell (show k < (b.lines.map ptRow).length by rw [List.length_map,HLN.out]; exact hlt)
   cases hal;have hkl : k < b.lines.length:=by rw [HLN.out]; exact hlt
   obtain ⟨p,hp⟩ : ∃ p,b.lines[k] = p:=⟨_,rfl⟩;have z0:=hc 0 (.int .i64 p.1) (by simp [ptRow,hp])
   have z1:=hc 1 (.int .i64 p.2) (by simp [ptRow,hp])
   simp only [Nat.add_zero] at z0;obtain ⟨bf,hbf⟩ : ∃ x,beforeP f d p = x:=⟨_,rfl⟩;have hst:=secP_step (d:=d) hkl (k : Int) c;rw [hp,HF.out,hbf,HLN.out] at hst;have HR1 : Hid (secP b.lines d (n - (k + 1)) ((k : Int) + 1) (if bf = true then c else k) = sectorP b.lines d):=Lib.hid (hst.symm.trans HR.out)
   have HPT : Hid (PtOk p):=Lib.hid (by rw [← hp]; exact (HLP.out _ (List.getElem_mem hkl)).1)
   have HFT : Hid (PtOk f):=Lib.hid (HLP.out _ HFM.out).1;have HBF:=Lib.hid hbf;obtain ⟨Q,hQ⟩ : ∃ Q,wo.heap.size = Q:=⟨_,rfl⟩;obtain ⟨w3,hw3⟩ : ∃ z,wo.alloc (.cells #[.int .i64 p.1,.int .i64 p.2] 31) = z:=⟨_,rfl⟩;have hb3 : Below wo.heap.size wo w3:=by rw [← hw3]; exact aB _ _
   have k3 : w3.heap[Q]? = some (.cells #[.int .i64 p.1,.int .i64 p.2] 31 (0,0)):=by rw [← hw3,← hQ]; exact World.alloc_heap_new _ _
   have y0 : w3.cell? ⟨Q,0,none⟩ = some (.int .i64 p.1):=by rw [cell_of_heap k3]; rfl
   have y1 : w3.cell? ⟨Q,1,none⟩ = some (.int .i64 p.2):=by rw [cell_of_heap k3]; rfl
   have d0':=bAt hb3 d0;have d1':=bAt hb3 d1;have g0':=bAt hb3 g0;have g1':=bAt hb3 g1;have HW3:=Lib.hid hw3;have HQ:=Lib.hid hQ;have HB3:=Lib.hid (bThen HBr.out hb3);have hkk : (k : Int) < (n : Int):=by omega
   have hwk : IntKind.i64.wrap ((k : Int) + 1) = (k : Int) + 1:=wrap_small _ (by omega) (by omega)
   clear hc hp hst hbf hQ hw3 hb3 k3 d0 d1 g0 g1 HR hkl;go_upto_region 5 with fail;rw [HW3.out,HQ.out];go_wp2_with fail;have hcall:=before_any f d p HFT.out HD.out HPT.out w3;unfold ptV ptA at hcall;rw [HBF.out] at hcall;refine hcall.mono ?_
   rintro e w4 ⟨rfl,hb4⟩;have HB4:=Lib.hid (bThen HB3.out hb4);clear hcall hb4 d0' d1' g0' g1' y0 y1;cases bf
   ·go_wp2_with fail
    go_roundw
    case rel => exact ⟨k + 1,k,by omega,by go_num,rfl,by simpa using HR1,HB4⟩
    case measure => simp [intOf]; omega
   ·go_wp2_with fail
    go_roundw
    case rel => exact ⟨k + 1,c,by omega,by go_num,rfl,by simpa using HR1,HB4⟩
    case measure => simp [intOf]; omega
  ·obtain rfl : k = n:=by omega
   have hz : c = sectorP b.lines d:=by have:=HR.out; rw [Nat.sub_self] at this; exact this
   have HZZ:=Lib.hid hz;clear hz;go_wp2_with fail;go_returns;exact ⟨by rw [← HZZ.out]; rfl,bThen HB.out HBr.out⟩
open Go Go.RowKit Go.Oche Go.Proofs

theorem setCell_same {W : World} {b o : Nat} {c : Array Value} {t : TypeId} {fz : Nat × Nat} (h : W.heap[b]? = some (.cells c t fz)) {v : Value} (hv : c[o]? = some v) : W.setCell ⟨b,o,none⟩ v = W:=by
 have hh : (W.setCell ⟨b,o,none⟩ v).heap = W.heap:=by
  refine Array.ext_getElem? fun i => ?_
  by_cases e : i = b
  ·subst e
   rw [heap_setCell_at h,h];have : c.setIfInBounds o v = c:=by
    refine Array.ext_getElem? fun j => ?_
    rw [Array.getElem?_setIfInBounds]
    split
    ·rename_i q; subst q; rw [hv,if_pos (Array.getElem?_eq_some_iff.1 hv).1]
    ·rfl
   rw [this]
  ·exact Below.heap_setCell _ _ _ _ e
 have : W.setCell ⟨b,o,none⟩ v = { W with heap:=(W.setCell ⟨b,o,none⟩ v).heap }:=rfl
 rw [this,hh]
set_option maxRecDepth 100000 in
theorem isWire_any (b : Bd) (rv lv nv : Value) (d : Int × Int) (w : World) :
  Calls Tryz.prog 41 #[bdV b rv lv nv,ptV d] w fun e w' => e = .returned (.bool false) ∧ Below w.heap.size w w':=by
 obtain ⟨w1,hw1,hb1,hz1,kb, -, -⟩ := bd_pt b rv lv nv d 72 88 w;obtain ⟨-, -, -, -, -,c5⟩ := bd_cells kb;obtain ⟨w2,hw2⟩ : ∃ z,w1.alloc (.cells #[.bool false] 4) = z:=⟨_,rfl⟩;have hb2 : Below w1.heap.size w1 w2:=by rw [← hw2]; exact aB _ _
 have k2 : w2.heap[w.heap.size + 1 + 1]? = some (.cells #[.bool false] 4 (0,0)):=by rw [← hw2,← hz1]; exact World.alloc_heap_new _ _
 have e0 : w2.cell? ⟨w.heap.size + 1 + 1,0,none⟩ = some (.bool false):=by rw [cell_of_heap k2]; rfl
 have f0:=frozen_of_heap (o:=0) k2;have c5:=bAt hb2 c5;have hst : w2.setCell ⟨w.heap.size + 1 + 1,0,none⟩ (.bool false) = w2:=setCell_same k2 rfl;have HB:=Lib.hid (hb1.trans (hb2.mono hb1.size));have HW:=Lib.hid hw1;have HW2:=Lib.hid hw2;have HST:=Lib.hid hst;unfold bdV bdA ptV ptA at *;clear hw1 hb1 kb hz1 hw2 hb2 k2 hst
 go_enter Tryz.func41,Tryz.ntmps41
 go_upto_region 1 with fail
 rw [HW.out,HW2.out];go_upto_region 2 with fail;go_wp2_with fail;rw [HST.out];refine bodyPost_ret (v:=.bool false) (by simp [results,Tryz.results41,go_sem,e0]) rfl ?_
 exact ⟨rfl,HB.out⟩
theorem sl_cellB {S : Nat → Prop} {w : World} {a : Option Addr} {n cap : Nat} {xs : List Int} (h : Sl S w (.slice a n cap) (ints xs)) {k : Nat} (hk : k < xs.length) : ∃ b off,a = some ⟨b,off,none⟩ ∧ S b ∧ w.cell? ⟨b,off + k,none⟩ = some (.int .i64 xs[k]):=by
 obtain ⟨a',cap',e,_,_,h4⟩ := h;cases e;exact h4 k _ (intsAt hk)
theorem idx_cases (f : Int × Int → Bool) (l : List (Int × Int)) : (idxP f l = -1 ∧ l.find? f = none) ∨ ∃ (k : Nat) (h : k < l.length),idxP f l = k ∧ l.find? f = some l[k]:=by
 unfold idxP;cases h : l.any f with
 | false =>
  refine .inl ⟨by simp, ?_⟩
  rw [List.find?_eq_none]
  intro x hx hf
  have:=List.any_eq_true.2 ⟨x,hx,hf⟩;rw [h] at this; cases this
 | true =>
  have hlt : l.findIdx f < l.length:=List.findIdx_lt_length.2 (List.any_eq_true.1 h);refine .inr ⟨l.findIdx f,hlt,by simp, ?_⟩
  rw [List.find?_eq_some_iff_getElem]
  refine ⟨List.findIdx_getElem,l.findIdx f,hlt,rfl,fun j hj => ?_⟩
  have:=List.not_of_lt_findIdx hj
  simpa using this
def bedB (b : Bd) (d : Int × Int) : Int:=bedP b.eye b.bull b.rings b.lines b.ns d
set_option maxRecDepth 100000 in
set_option maxHeartbeats 8000000 in
theorem tbed_any {S : Nat → Prop} (b : Bd) (hok : BdOk b) (rv lv nv : Value) (d : Int × Int) (hd : PtOk d) (w : World) (hat : BdAt S w b rv lv nv) :
  Calls Tryz.prog 22 #[bdV b rv lv nv,ptV d] w fun e w' => e = .returned (.tuple #[.int .i64 (bedB b d),.bool false]) ∧ Below w.heap.size w w':=by
 obtain ⟨w1,hw1,hb1,hz1,kb,d0,d1⟩ := bd_pt b rv lv nv d 72 88 w;obtain ⟨ra,rc,rfl,hr2,hr3⟩ := hat.rs.form;obtain ⟨na,nc,rfl,hn2,hn3⟩ := hat.ns.form;simp only [List.length_map,ints_length] at *;unfold maxLen at hr3 hn3;obtain ⟨N,hN⟩ : ∃ N,w.heap.size = N:=⟨_,rfl⟩;rw [hN] at hz1 kb d0 d1;obtain ⟨b0,b1,b2,b3,b4,b5⟩ := bd_cells kb;have he:=hok.eye_bd;have hbu:=hok.bull_bd;have hee:=mul_abs (A:=5000) (B:=5000) (show b.eye.natAbs ≤ 5000 by omega) (show b.eye.natAbs ≤ 5000 by omega)
 have hbb:=mul_abs (A:=5000) (B:=5000) (show b.bull.natAbs ≤ 5000 by omega) (show b.bull.natAbs ≤ 5000 by omega)
 obtain ⟨ee,hee2⟩ : ∃ x,b.eye * b.eye = x:=⟨_,rfl⟩;obtain ⟨bb,hbb2⟩ : ∃ x,b.bull * b.bull = x:=⟨_,rfl⟩;obtain ⟨q,hq⟩ : ∃ q,dotP d d = q:=⟨_,rfl⟩;obtain ⟨n,hn⟩ : ∃ n,b.rings.length = n:=⟨_,rfl⟩;obtain ⟨m,hm⟩ : ∃ n,b.ns.length = n:=⟨_,rfl⟩;have w0 : IntKind.i64.wrap (b.eye * b.eye) = ee:=by rw [← hee2]; exact wrap_small _ (by omega) (by omega)
 have w00 : IntKind.i64.wrap (b.bull * b.bull) = bb:=by rw [← hbb2]; exact wrap_small _ (by omega) (by omega)
 rw [hn] at hr2 b2;rw [hm] at hn2 b4;have hat1:=hat.below hb1;have HBD : Hid (bedB b d = if q < ee then 225 else if q < bb then 125 else match b.rings.find? (inRing q) with | none => 0 | some r => if r.2 = 0 then 0 else 100 * r.2 + b.ns.getD (sectorP b.lines d).toNat 0):=Lib.hid (by
  unfold bedB bedP;rw [hq,hee2,hbb2]; rfl)
 have HAT:=Lib.hid hat1;have HB:=Lib.hid hb1;have HW:=Lib.hid hw1;have HN:=Lib.hid hN;have HZ:=Lib.hid hz1;have HRN:=Lib.hid hn;have HNN:=Lib.hid hm;have HOK:=Lib.hid hok;have HD:=Lib.hid hd;have HQ:=Lib.hid hq;clear hw1 hb1 kb hN hz1 hn hm hat hat1 hok hd he hbu hee hbb hq hee2 hbb2;unfold bdV bdA ptV ptA at *;rw [HRN.out,HNN.out]
 go_enter Tryz.func22,Tryz.ntmps22
 go_upto_region 1 with fail
 rw [HRN.out,HNN.out] at HW;rw [HW.out,HN.out];go_wp2_with fail;have hcall:=square_any d HD.out w1;unfold ptV ptA at hcall;rw [HQ.out] at hcall;refine hcall.mono ?_
 rintro e w2 ⟨rfl,hb2⟩;clear hcall;have HB2:=Lib.hid (bThen HB.out hb2);have hat2:=HAT.out.below hb2;have b0:=bAt hb2 b0;have b1:=bAt hb2 b1;have b2:=bAt hb2 b2;have b3:=bAt hb2 b3;have b4:=bAt hb2 b4;have b5:=bAt hb2 b5;have d0:=bAt hb2 d0;have d1:=bAt hb2 d1;obtain ⟨K,hK⟩ : ∃ K,w2.heap.size = K:=⟨_,rfl⟩;obtain ⟨w3,hw3⟩ : ∃ z,w2.alloc (.cells #[.int .i64 q] 3) = z:=⟨_,rfl⟩;have hb3 : Below w2.heap.size w2 w3:=by rw [← hw3]; exact aB _ _
 have k3 : w3.heap[K]? = some (.cells #[.int .i64 q] 3 (0,0)):=by rw [← hw3,← hK]; exact World.alloc_heap_new _ _
 have q0 : w3.cell? ⟨K,0,none⟩ = some (.int .i64 q):=by rw [cell_of_heap k3]; rfl
 have HAT3:=Lib.hid (hat2.below hb3);have HB3:=Lib.hid (bThen HB2.out hb3);have b0:=bAt hb3 b0;have b1:=bAt hb3 b1;have b2:=bAt hb3 b2;have b3:=bAt hb3 b3;have b4:=bAt hb3 b4;have b5:=bAt hb3 b5;have d0:=bAt hb3 d0;have d1:=bAt hb3 d1;have HW3:=Lib.hid hw3;have HK:=Lib.hid hK;clear hb2 hat2 hw3 hK k3 hb3 HAT;go_upto_region 2 with fail;rw [HW3.out,HK.out];go_wp2_with fail;have hcall:=isWire_any b (.slice ra n rc) lv (.slice na m nc) d w3;unfold bdV bdA ptV ptA at hcall;refine hcall.mono ?_
 rintro e w4 ⟨rfl,hb4⟩;clear hcall;have HAT4:=Lib.hid (HAT3.out.below hb4);have HB4:=Lib.hid (bThen HB3.out hb4);have b0:=bAt hb4 b0;have b1:=bAt hb4 b1;have b2:=bAt hb4 b2;have b3:=bAt hb4 b3;have b4:=bAt hb4 b4;have b5:=bAt hb4 b5;have d0:=bAt hb4 d0;have d1:=bAt hb4 d1;have q0:=bAt hb4 q0;clear hb4 HAT3;rw [HRN.out,HNN.out] at HAT4;by_cases h1 : q < ee
 ·have HR : Hid (bedB b d = 225):=Lib.hid (by rw [HBD.out,if_pos h1])
  have t1 : decide (q < ee) = true:=decide_eq_true h1;clear h1 HBD;go_wp2_with fail;go_returns;exact ⟨by rw [HR.out]; rfl,HB4.out⟩
 by_cases h2 : q < bb
 ·have HR : Hid (bedB b d = 125):=Lib.hid (by rw [HBD.out,if_neg h1,if_pos h2])
  have t1 : decide (q < ee) = false:=decide_eq_false h1;have t2 : decide (q < bb) = true:=decide_eq_true h2;clear h1 h2 HBD;go_wp2_with fail;go_returns;exact ⟨by rw [HR.out]; rfl,HB4.out⟩
 have HBD1 : Hid (bedB b d = match b.rings.find? (inRing q) with | none => 0 | some r => if r.2 = 0 then 0 else 100 * r.2 + b.ns.getD (sectorP b.lines d).toNat 0):=Lib.hid (by rw [HBD.out,if_neg h1,if_neg h2])
 have t1 : decide (q < ee) = false:=decide_eq_false h1;have t2 : decide (q < bb) = false:=decide_eq_false h2;have hmf : ∀ (fn : Fn) (first cap : Array Value) (w : World),(Instr.makeFunc fn first cap).run Tryz.prog w = .ok (.func fn first cap) w:=fun _ _ _ _ => rfl
 clear h1 h2 HBD;go_wp2_with fail;have hcall:=indexRing_any q K b.rings HOK.out.ring_ok (.slice ra n rc) w4 (by rw [← HRN.out]; have:=HAT4.out.rs; rw [← HRN.out] at this; exact this) q0
 refine hcall.mono ?_
 rintro e w5 ⟨rfl,hb5⟩;clear hcall hmf w0 w00 t1 t2 q0;have HAT5:=Lib.hid (HAT4.out.below hb5);have HB5:=Lib.hid (bThen HB4.out hb5);have b2:=bAt hb5 b2;have b3:=bAt hb5 b3;have b4:=bAt hb5 b4;have b0:=bAt hb5 b0;have b1:=bAt hb5 b1;have b5:=bAt hb5 b5;have d0:=bAt hb5 d0;have d1:=bAt hb5 d1;clear hb5 HAT4;rcases idx_cases (inRing q) b.rings with ⟨hi,hf⟩ | ⟨k,hk,hi,hf⟩
 ·have HR : Hid (bedB b d = 0):=Lib.hid (by rw [HBD1.out,hf])
  rw [hi];clear hi hf HBD1;go_wp2_with fail;go_returns;exact ⟨by rw [HR.out]; rfl,HB5.out⟩
 have HBD2 : Hid (bedB b d = if (b.rings[k]).2 = 0 then 0 else 100 * (b.rings[k]).2 + b.ns.getD (sectorP b.lines d).toNat 0):=Lib.hid (by rw [HBD1.out,hf])
 obtain ⟨bk,off,hal, -, -,hc⟩ := HAT5.out.rs.cell (show k < (b.rings.map ptRow).length by rw [List.length_map]; exact hk)
 cases hal;obtain ⟨⟨ro,rf⟩,hr⟩ : ∃ r,b.rings[k] = r:=⟨_,rfl⟩;have hrm : (ro,rf) ∈ b.rings:=by rw [← hr]; exact List.getElem_mem hk
 have hrf:=HOK.out.rf _ hrm;simp only at hrf;have z0:=hc 0 (.int .i64 ro) (by simp [ptRow,hr])
 have z1:=hc 1 (.int .i64 rf) (by simp [ptRow,hr])
 simp only [Nat.add_zero] at z0;rw [hr] at HBD2;simp only at HBD2;rw [hi];have hkn : k < n:=by rw [← HRN.out]; exact hk
 have t3 : decide ((k : Int) < 0) = false:=decide_eq_false (by omega)
 have hkn' : (k : Int) < (n : Int):=by omega
 clear hc hi hf HBD1 hr hrm hk;by_cases h0 : rf = 0
 ·subst h0
  have HR : Hid (bedB b d = 0):=Lib.hid (by rw [HBD2.out,if_pos rfl])
  clear HBD2;go_wp2_with fail;go_returns;exact ⟨by rw [HR.out]; rfl,HB5.out⟩
 have t4 : (rf == 0) = false:=beq_eq_false_iff_ne.2 h0;obtain ⟨sc,hsc⟩ : ∃ s,sectorP b.lines d = s:=⟨_,rfl⟩;have hsb:=sectorP_bd (ls:=b.lines) (by have:=HOK.out.l0; omega) d
 rw [hsc] at hsb;obtain ⟨si,rfl⟩ : ∃ i : Nat,sc = (i : Int):=⟨sc.toNat,by omega⟩
 have hsn : si < b.ns.length:=by rw [HOK.out.n0]; omega
 obtain ⟨bn,offn,hal, -,hcn⟩ := sl_cellB HAT5.out.ns hsn;cases hal;obtain ⟨nu,hnu⟩ : ∃ x,b.ns[si] = x:=⟨_,rfl⟩;rw [hnu] at hcn;have hnr:=HOK.out.nr nu (by rw [← hnu]; exact List.getElem_mem hsn)
 have HR : Hid (bedB b d = 100 * rf + nu):=Lib.hid (by
  rw [HBD2.out,if_neg h0,hsc,show ((si : Nat) : Int).toNat = si from rfl,List.getD_eq_getElem?_getD,List.getElem?_eq_getElem hsn,hnu]; rfl)
 have w1' : IntKind.i64.wrap (100 * rf) = 100 * rf:=wrap_small _ (by omega) (by omega)
 have w2' : IntKind.i64.wrap (100 * rf + nu) = 100 * rf + nu:=wrap_small _ (by omega) (by omega)
 have hsm : si < m:=by rw [← HNN.out]; exact hsn
 have hsm' : (si : Int) < (m : Int):=by omega
 have HSC:=Lib.hid hsc;clear HBD2 hsb hsc hsn hnu hnr hrf h0;go_upto_region 11 with fail;clear t3 t4;refine wp_region_seqW (.is (.pointer (some ⟨N,0,none⟩)) :: .is (.pointer (some ⟨N,2,none⟩)) :: .is (.slice (some ⟨bk,off,none⟩) n rc) :: .is (.int .i64 (k : Int)) :: .is (.pointer (some ⟨bk,off + k * 2,none⟩)) :: .is (.pointer (some ⟨bk,off + k * 2 + 1,none⟩)) :: .is (.int .i64 rf) :: .is (.int .i64 (100 * rf)) :: .is (.pointer (some ⟨N,0,none⟩)) :: .is (.pointer (some ⟨N,4,none⟩)) :: .is (.slice (some ⟨bn,offn,none⟩) m nc) :: .is (.agg #[.int .i64 b.eye,.int .i64 b.bull,.slice (some ⟨bk,off,none⟩) n rc,lv,.slice (some ⟨bn,offn,none⟩) m nc,.int .i64 0]) :: .is (.agg #[.int .i64 d.1,.int .i64 d.2]) :: .is (.int .i64 (si : Int)) :: .is (.pointer (some ⟨bn,offn + si,none⟩)) :: .is (.int .i64 nu) :: .is (.int .i64 (100 * rf + nu)) :: .is (.int .i64 (100 * rf + nu)) :: .is (.bool false) :: []) rfl mix (by kernel_rfl) (by kernel_rfl) ?_
 iterate 13
  refine seq_on (by rfl) (fun wr hbr _ => ?_) ?_
  ·have b0':=bAt hbr b0
   have b1':=bAt hbr b1;have b2':=bAt hbr b2;have b3':=bAt hbr b3;have b4':=bAt hbr b4;have b5':=bAt hbr b5;have d0':=bAt hbr d0;have d1':=bAt hbr d1;have z1':=bAt hbr z1;simp [opOK,go_sem,b0',b1',b2',b3',b4',b5',d0',d1',z1',hkn',w1',Below.refl]
   try exact rfl
  simp only [Act.put,List.setIfInBounds_toArray,List.set_cons_succ,List.set_cons_zero]
 refine seq_on (by rfl) (fun wr hbr _ => ?_) ?_
 ·have hcall:=sector_any b HOK.out (.slice (some ⟨bk,off,none⟩) n rc) lv (.slice (some ⟨bn,offn,none⟩) m nc) d HD.out wr (HAT5.out.below hbr)
  unfold bdV bdA ptV ptA at hcall;rw [HSC.out] at hcall;refine opOK_call (f:=44) (args:=#[.agg #[.int .i64 b.eye,.int .i64 b.bull,.slice (some ⟨bk,off,none⟩) n rc,lv,.slice (some ⟨bn,offn,none⟩) m nc,.int .i64 0],.agg #[.int .i64 d.1,.int .i64 d.2]]) (by simp [go_sem]) ?_
  exact hcall.mono fun e W' ⟨he,hb⟩ => ⟨_,he,rfl,hb⟩
 simp only [Act.put,List.setIfInBounds_toArray,List.set_cons_succ,List.set_cons_zero]
 iterate 5
  refine seq_on (by rfl) (fun wr hbr _ => ?_) ?_
  ·have hcn':=bAt hbr hcn
   simp [opOK,go_sem,hcn',hsm',w2',Below.refl]
   try exact rfl
  simp only [Act.put,List.setIfInBounds_toArray,List.set_cons_succ,List.set_cons_zero]
 refine seq_end fun w6 hb6 hH => ?_
 clear hH;have HB6:=Lib.hid (bThen HB5.out hb6);clear hb6;go_wp2_with fail;go_returns;exact ⟨by rw [HR.out]; rfl,HB6.out⟩
end Go.Proofs.YtnbmgkmcaoafnaaGreatDoor
