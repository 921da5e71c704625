/- The texts SC, SD, SE, SF, SG, in build order. -/
import Derived.Test.YtnbmgkmcaoafnaaGreatDoorZaz
import Derived.Lib.MinMax

/- Chapter 5: lists of numbers compared. -/
namespace Go.Proofs.YtnbmgkmcaoafnaaGreatDoor
open Go.RowKit Go.Oche Go.Proofs

theorem isNaNi_any (a : Int) (w : World) : Calls Tryz.prog 135 #[.int .i64 a] w fun e w' => e = .returned (.bool false) ∧ w = w':=by
 go_enter Tryz.func135,Tryz.ntmps135
 go_wp2
 go_ret
 exact ⟨ret_bool (by simp),rfl⟩
theorem compareI_any (a b : Int) (w : World) : Calls Tryz.prog 98 #[.int .i64 a,.int .i64 b] w fun e w' => e = .returned (.int .i64 (cmp3 a b)) ∧ w = w':=by
 obtain ⟨c,hc⟩ : ∃ c,cmp3 a b = c:=⟨_,rfl⟩;unfold cmp3 at hc;have hc':=hc;have H:=Lib.hid hc;rw [show cmp3 a b = c from hc']
 clear hc hc'
 go_enter Tryz.func98,Tryz.ntmps98
 go_wp2_with (go_at_call 135; refine (isNaNi_any _ _).mono ?_; rintro e w' ⟨rfl,rfl⟩)
 all_goals
  go_ret
  refine ⟨ret_int ?_,rfl⟩
  rw [← H.out]
  repeat' (first | omega | split)
def cmpL : List Int → List Int → Int
 | [],[] => 0
 | [],_ :: _ => -1
 | _ :: _,[] => 1
 | a :: as',b :: bs => if cmp3 a b = 0 then cmpL as' bs else cmp3 a b
theorem cmpL_step {xs ys : List Int} {i : Nat} (h : i < xs.length) (h' : i < ys.length) : cmpL (xs.drop i) (ys.drop i) = if cmp3 xs[i] ys[i] = 0 then cmpL (xs.drop (i + 1)) (ys.drop (i + 1)) else cmp3 xs[i] ys[i]:=by
 rw [List.drop_eq_getElem_cons h,List.drop_eq_getElem_cons h',cmpL]
theorem cmpL_end {xs ys : List Int} {i : Nat} (h : ¬ i < xs.length) : cmpL (xs.drop i) (ys.drop i) = if i < ys.length then -1 else 0:=by
 rw [List.drop_eq_nil_of_le (by omega)]
 by_cases c : i < ys.length
 ·rw [if_pos c,List.drop_eq_getElem_cons c]; rfl
 ·rw [if_neg c,List.drop_eq_nil_of_le (by omega)]; rfl
theorem cmpL_more {xs ys : List Int} {i : Nat} (h : i < xs.length) (h' : ¬ i < ys.length) : cmpL (xs.drop i) (ys.drop i) = 1:=by
 have e : ys.drop i = []:=List.drop_eq_nil_of_le (by omega)
 rw [List.drop_eq_getElem_cons h,e]; rfl
set_option maxRecDepth 100000 in
set_option maxHeartbeats 1000000 in
theorem compareL_any {S S' : Nat → Prop} (xs ys : List Int) (u v : Value) (w : World) (hx : Sl S w u (ints xs)) (hy : Sl S' w v (ints ys)) :
  Calls Tryz.prog 60 #[u,v] w fun e w' => e = .returned (.int .i64 (cmpL xs ys)) ∧ w = w':=by
 obtain ⟨a,cap,rfl,h2,h3⟩ := hx.form;obtain ⟨a',cap',rfl,h2',h3'⟩ := hy.form;simp only [ints_length] at *;unfold maxLen at h3 h3';obtain ⟨res,hres⟩ : ∃ r,cmpL xs ys = r:=⟨_,rfl⟩;rw [hres];have HR:=Lib.hid hres;have HX:=Lib.hid hx;have HY:=Lib.hid hy;obtain ⟨n,hn⟩ : ∃ n,xs.length = n:=⟨_,rfl⟩;obtain ⟨m,hm⟩ : ∃ n,ys.length = n:=⟨_,rfl⟩;have HN:=Lib.hid hn;have HM:=Lib.hid hm;rw [hn] at h2 HX ⊢;rw [hm] at h2' HY ⊢;clear hres hx hy hn hm
 go_enter Tryz.func60,Tryz.ntmps60
 go_wp2;go_loopw [11] (fun iv wr => ∃ i : Nat,i ≤ n ∧ iv = .int .i64 i ∧ Hid (cmpL (xs.drop i) (ys.drop i) = res) ∧ Hid (w = wr)) (fun iv _ => n - (intOf iv).toNat)
 case atStart => exact ⟨0,by omega,by go_num,HR,Lib.hid rfl⟩
 case round =>
  obtain ⟨i,hi,rfl,HI,HW⟩ := hrel;have hw:=HW.out;subst hw;clear HR;by_cases hlt : i < n
  ·obtain ⟨x,hxx⟩ : ∃ x,xs[i]'(by rw [HN.out]; exact hlt) = x:=⟨_,rfl⟩
   obtain ⟨b,off,rfl, -,hc⟩ := Sl.at_ HX.out (intsAt (by rw [HN.out]; exact hlt))
   rw [hxx] at hc;have HXX:=Lib.hid hxx;clear hxx;by_cases hlt2 : i < m
   ·obtain ⟨y,hyy⟩ : ∃ y,ys[i]'(by rw [HM.out]; exact hlt2) = y:=⟨_,rfl⟩
    obtain ⟨b',off',rfl, -,hc'⟩ := Sl.at_ HY.out (intsAt (by rw [HM.out]; exact hlt2))
    rw [hyy] at hc';have d1 : decide (m ≤ i) = false:=decide_eq_false (by omega)
    have d1i : decide ((m : Int) ≤ (i : Int)) = false:=decide_eq_false (by omega)
    obtain ⟨c,hcc⟩ : ∃ c,cmp3 x y = c:=⟨_,rfl⟩;have HI2 : Hid (res = if c = 0 then cmpL (xs.drop (i + 1)) (ys.drop (i + 1)) else c):=Lib.hid (by
     rw [← HI.out,cmpL_step (by rw [HN.out]; exact hlt) (by rw [HM.out]; exact hlt2),HXX.out,hyy,hcc])
    clear hyy HI;have hcall:=compareI_any x y w;rw [hcc] at hcall;clear hcc;go_wp2_with fail;refine hcall.mono ?_
    rintro e w1 ⟨rfl,rfl⟩;obtain ⟨z,hz⟩ : ∃ z,(c != 0) = z:=⟨_,rfl⟩;have HZ:=Lib.hid hz;cases z
    ·have hc0 : c = 0:=by simpa using HZ.out
     have HI3 : Hid (cmpL (xs.drop (i + 1)) (ys.drop (i + 1)) = res):=Lib.hid (by rw [HI2.out,if_pos hc0])
     have hwi : IntKind.i64.wrap ((i : Int) + 1) = (i : Int) + 1:=wrap_small _ (by omega) (by omega)
     clear hc0 HI2;go_wp2;go_roundw
     case rel => exact ⟨i + 1,by omega,by go_num,HI3,Lib.hid (by trivial)⟩
     case measure => simp [intOf]; omega
    ·have hc0 : ¬ c = 0:=by simpa using HZ.out
     have hr : res = c:=by rw [HI2.out,if_neg hc0]
     clear HI2 hc0;subst hr;go_wp2;go_returns;exact ⟨rfl,rfl⟩
   ·have hr : res = 1:=by rw [← HI.out]; exact cmpL_more (by rw [HN.out]; exact hlt) (by rw [HM.out]; exact hlt2)
    have d1 : decide (m ≤ i) = true:=decide_eq_true (by omega)
    have d1i : decide ((m : Int) ≤ (i : Int)) = true:=decide_eq_true (by omega)
    clear HI;subst hr;go_wp2;go_returns;exact ⟨rfl,rfl⟩
  ·obtain rfl : i = n:=by omega
   have hr : res = if i < m then -1 else 0:=by rw [← HI.out,cmpL_end (by rw [HN.out]; omega),HM.out]
   by_cases hlt2 : i < m
   ·rw [if_pos hlt2] at hr
    have d1 : decide (i < m) = true:=decide_eq_true (by omega)
    have d1i : decide ((i : Int) < (m : Int)) = true:=decide_eq_true (by omega)
    clear HI;subst hr;go_wp2;go_returns;exact ⟨rfl,rfl⟩
   ·rw [if_neg hlt2] at hr
    have d1 : decide (i < m) = false:=decide_eq_false (by omega)
    have d1i : decide ((i : Int) < (m : Int)) = false:=decide_eq_false (by omega)
    clear HI;subst hr;go_wp2;go_returns;exact ⟨rfl,rfl⟩
open Go.RowKit Go.Oche Go.Proofs

theorem rowLen {W : World} {base n : Nat} {e : TypeId} {v : Value} {xs : List Value} (h : W.ownsRow base e 1 v n xs) : xs.length = n:=by have:=h.1; simpa using this
theorem mapV_set (V : Int → Value) (xs : List Int) (i : Nat) (x : Int) : (xs.map V).set i (V x) = (xs.set i x).map V:=by simp [List.map_set]
theorem mapV_at (V : Int → Value) {l : List Int} {i : Nat} (h : i < l.length) : (l.map V)[i]? = some (V l[i]):=by simp [h]
def ReadsK (V : Int → Value) (dec : Int → List Int) (g : Nat) (xs : List Int) (W : World) : Prop := ∀ x ∈ xs,Sl (fun q => q ≠ g) W (V x) (ints (dec x))
theorem ReadsK.grown {V : Int → Value} {dec : Int → List Int} {g : Nat} {xs : List Int} {W W' : World} (h : ReadsK V dec g xs W) (hg : W.grownBy W' (some g)) : ReadsK V dec g xs W':=fun x hx =>
 (h x hx).cells fun b o hb hs => by
  obtain ⟨y,hy⟩ := Option.isSome_iff_exists.1 hs;exact World.cell?_of_block (w:=W) (hg.block b (World.block_lt_of_cell? W _ hy) fun e => hb (Option.some.inj e))
theorem ReadsK.perm {V : Int → Value} {dec : Int → List Int} {g : Nat} {xs ys : List Int} {W : World} (h : ReadsK V dec g xs W) (hp : ys.Perm xs) : ReadsK V dec g ys W:=fun x hx => h x (hp.mem_iff.1 hx)
structure SegB (xs : List Int) (i : Nat) (ys : List Int) : Prop where
 perm : ys.Perm xs
 asc : ∀ p q,p < q → q < i → at0 ys p ≤ at0 ys q
structure SlideB (xs : List Int) (i j : Nat) (zs : List Int) : Prop where
 perm : zs.Perm xs
 le : j ≤ i
 asc : ∀ p q,p < q → q ≤ i → p ≠ j → q ≠ j → at0 zs p ≤ at0 zs q
 low : ∀ q,j < q → q ≤ i → at0 zs j ≤ at0 zs q
theorem SegB.start (xs : List Int) : SegB xs 1 xs:=⟨List.Perm.refl _,fun p q h1 h2 => by omega⟩
theorem SegB.slide {xs : List Int} {i : Nat} {ys : List Int} (h : SegB xs i ys) : SlideB xs i i ys :=
 ⟨h.perm,Nat.le_refl _,fun p q h1 h2 _ h4 => h.asc p q h1 (by omega),fun q h1 h2 => by omega⟩
theorem SlideB.next {xs : List Int} {i j : Nat} {zs : List Int} (h : SlideB xs i j zs) (hj : j = 0 ∨ at0 zs (j - 1) ≤ at0 zs j) : SegB xs (i + 1) zs:=by
 refine ⟨h.perm,fun p q h1 h2 => ?_⟩
 by_cases e : p = j
 ·subst e; exact h.low q h1 (by omega)
 by_cases e2 : q = j
 ·subst e2
  rcases hj with e3 | e3
  ·omega
  by_cases e4 : p = q - 1
  ·subst e4; exact e3
  ·exact Int.le_trans (h.asc p (q - 1) (by omega) (by omega) e (by omega)) e3
 ·exact h.asc p q h1 (by omega) e e2
theorem swap_perm {l : List Int} {i j : Nat} (hi : i < l.length) (hj : j < l.length) : ((l.set j (at0 l i)).set i (at0 l j)).Perm l:=by
 rw [at0_eq hi,at0_eq hj];exact List.set_set_perm hj hi
theorem SlideB.step {xs : List Int} {i j : Nat} {zs : List Int} (h : SlideB xs i j zs) (hj : 0 < j) (hi : i < zs.length) (hlt : at0 zs j < at0 zs (j - 1)) : SlideB xs i (j - 1) ((zs.set j (at0 zs (j - 1))).set (j - 1) (at0 zs j)):=by
 have hle:=h.le;have key : ∀ p,at0 ((zs.set j (at0 zs (j - 1))).set (j - 1) (at0 zs j)) p = if p = j - 1 then at0 zs j else if p = j then at0 zs (j - 1) else at0 zs p:=fun p => by
  rw [at0_set (by simp; omega),at0_set (by omega)]
 refine ⟨(swap_perm (by omega) (by omega)).trans h.perm,by omega,fun p q h1 h2 h3 h4 => ?_,fun q h1 h2 => ?_⟩
 ·rw [key,key,if_neg h3,if_neg h4]
  by_cases e : p = j
  ·rw [if_pos e,if_neg (by omega)]; exact h.asc (j - 1) q (by omega) h2 (by omega) (by omega)
  ·rw [if_neg e]
   by_cases e2 : q = j
   ·rw [if_pos e2]; exact h.asc p (j - 1) (by omega) (by omega) (by omega) (by omega)
   ·rw [if_neg e2]; exact h.asc p q h1 h2 e e2
 ·rw [key,key,if_pos rfl,if_neg (by omega)]
  by_cases e : q = j
  ·rw [if_pos e]; omega
  ·rw [if_neg e]; exact h.low q (by omega) h2
set_option maxRecDepth 100000 in
set_option maxHeartbeats 4000000 in
theorem insK_any (V : Int → Value) (dec : Int → List Int) (base g c n : Nat) (xs : List Int) (w : World) (hr : ReadsK V dec g xs w) (hcmp : ∀ x ∈ xs, ∀ y ∈ xs,(cmpL (dec x) (dec y) < 0 ↔ x < y)) (ho : w.ownsRow base 33 1 (.slice (some ⟨g,0,none⟩) n c) n (xs.map V)) (hn : n ≤ 100) :
  Calls Tryz.prog 127 #[.slice (some ⟨g,0,none⟩) n c,.int .i64 0,.int .i64 n,.func (.func 60) #[] #[]] w fun e w' =>
   e = .returned (.tuple #[]) ∧ ∃ ys,w'.ownsRow base 33 1 (.slice (some ⟨g,0,none⟩) n c) n (ys.map V) ∧ w.grownBy w' (some g) ∧ SegB xs (max 1 n) ys:=by
 have hxl:=rowLen ho;rw [List.length_map] at hxl;have HO:=Lib.hid ho;have HRD:=Lib.hid hr;have HCM:=Lib.hid hcmp;have hw0 : IntKind.i64.wrap ((0 : Int) + 1) = 1:=by decide
 clear ho hr hcmp
 go_enter Tryz.func127,Tryz.ntmps127
 go_wp2_with fail;clear hw0;go_loopw [8] (fun iv wr => ∃ (i : Nat) (ys : List Int),1 ≤ i ∧ i ≤ max 1 n ∧ iv = .int .i64 i ∧ Hid (SegB xs i ys) ∧ Hid (wr.ownsRow base 33 1 (.slice (some ⟨g,0,none⟩) n c) n (ys.map V)) ∧ Hid (w.grownBy wr (some g))) (fun iv _ => n - (intOf iv).toNat)
 case atStart => exact ⟨1,xs,by omega,by omega,by go_num,Lib.hid (SegB.start xs),HO,Lib.hid ⟨rfl,rfl,rfl,Nat.le_refl _,fun _ _ _ => rfl⟩⟩
 case round =>
  clear HO;obtain ⟨i,ys,hi1,hi2,rfl,HS,HO,HG⟩ := hrel;by_cases hlt : i < n
  ·obtain ⟨wo,rfl⟩ : ∃ wo : World,wo = wr:=⟨_,rfl⟩
   go_wp2_with fail;go_loopw [9] (fun jv wi => ∃ (j : Nat) (zs : List Int),jv = .int .i64 j ∧ Hid (SlideB xs i j zs) ∧ Hid (wi.ownsRow base 33 1 (.slice (some ⟨g,0,none⟩) n c) n (zs.map V)) ∧ Hid (w.grownBy wi (some g))) (fun jv _ => (intOf jv).toNat)
   case atStart => exact ⟨i,ys,rfl,Lib.hid HS.out.slide,HO,HG⟩
   case round =>
    clear HO HG;obtain ⟨j,zs,rfl,HZ,HO,HG⟩ := hrel;have hj2:=HZ.out.le;have HZL : zs.length = n:=by have:=HZ.out.perm.length_eq; omega
    obtain ⟨wi,rfl⟩ : ∃ wi : World,wi = wr:=⟨_,rfl⟩;by_cases hja : 0 < j
    ·have d1 : decide ((0 : Int) < (j : Int)) = true:=decide_eq_true (by omega)
     have d1n : decide (0 < j) = true:=decide_eq_true hja;obtain ⟨m,hm⟩ : ∃ m,j = m + 1:=⟨j - 1,by omega⟩
     have hwm : IntKind.i64.wrap ((j : Int) - 1) = (m : Int):=by rw [IntKind.wrap_i64]; omega
     obtain ⟨x,hx⟩ : ∃ x,at0 zs j = x:=⟨_,rfl⟩;obtain ⟨y,hy⟩ : ∃ y,at0 zs m = y:=⟨_,rfl⟩;have hxm : x ∈ xs:=HZ.out.perm.mem_iff.1 (by rw [← hx,at0_eq (by omega)]; exact List.getElem_mem _)
     have hym : y ∈ xs:=HZ.out.perm.mem_iff.1 (by rw [← hy,at0_eq (by omega)]; exact List.getElem_mem _)
     have HCX : Hid (cmpL (dec x) (dec y) < 0 ↔ x < y):=Lib.hid (HCM.out x hxm y hym);have HSX:=Lib.hid ((HRD.out.grown HG.out) x hxm);have HSY:=Lib.hid ((HRD.out.grown HG.out) y hym);have k1 : wi.cell? ⟨g,j,none⟩ = some (V x):=by rw [HO.out.cellAt j (by omega),mapV_at V (by omega),← at0_eq (by omega),hx]
     have k0 : wi.cell? ⟨g,m,none⟩ = some (V y):=by rw [HO.out.cellAt m (by omega),mapV_at V (by omega),← at0_eq (by omega),hy]
     obtain ⟨D,hD⟩ : ∃ D,cmpL (dec x) (dec y) = D:=⟨_,rfl⟩;have HD:=Lib.hid hD;obtain ⟨ax,cx,hvx, -, -⟩ := HSX.out.form;obtain ⟨ay,cy,hvy, -, -⟩ := HSY.out.form;rw [ints_length] at hvx hvy;have HVX:=Lib.hid hvx;have HVY:=Lib.hid hvy;rw [hvx] at k1;rw [hvy] at k0;clear hD hxm hym hvx hvy;have hm1n : j < n:=by omega
     have hmn : m < n:=by omega
     obtain ⟨bb,hbb⟩ : ∃ bb,decide (D < 0) = bb:=⟨_,rfl⟩;have HX:=Lib.hid hx;have HY:=Lib.hid hy;have HBB:=Lib.hid hbb;have HM:=Lib.hid hm;clear hx hy hbb hm;go_wp2_with fail;refine wp_region_seq 17 [.is ?_,.is ?_,.is (.bool true),.is (.bool true),.is ?_,.is ?_,.is ?_,.is ?_,.is ?_,.is ?_,.is ?_,.is ?_,.is ?_,.is ?_,.is (.int .i64 D),.is (.bool bb),.is (.bool bb)] rfl mix (by kernel_rfl) (by kernel_rfl) ?seqm
     case seqm =>
      simp only [List.take_succ_cons,List.take_zero]
      iterate 4
       refine seq_is rfl (fun w1 hb1 _ => ?_) ?_
       ·simp [opOK,go_sem,hja,Below.refl]
        try exact rfl
       simp only [Act.put,List.setIfInBounds_toArray,List.set_cons_succ,List.set_cons_zero]
      iterate 10
       refine seq_on (by rfl) (fun w1 hb1 _ => ?_) ?_
       ·have k0':=bAt hb1 k0
        have k1':=bAt hb1 k1;simp [opOK,go_sem,k0',k1',hwm,hm1n,hmn,Below.refl]
        try exact rfl
       simp only [Act.put,List.setIfInBounds_toArray,List.set_cons_succ,List.set_cons_zero]
      refine seq_on (by rfl) (fun w1 hb1 _ => ?_) ?_
      ·have h1:=HSX.out.below hb1
       have h2:=HSY.out.below hb1;rw [HVX.out] at h1;rw [HVY.out] at h2;refine opOK_call (f:=60) (args:=#[.slice ax (dec x).length cx,.slice ay (dec y).length cy]) (by simp [go_sem]) ?_
       refine (compareL_any (dec x) (dec y) _ _ w1 h1 h2).mono ?_
       rintro e w2 ⟨rfl,rfl⟩;exact ⟨_,rfl,by rw [HD.out],Below.refl _ _⟩
      simp only [Act.put,List.setIfInBounds_toArray,List.set_cons_succ,List.set_cons_zero];refine seq_on (by rfl) (fun w1 hb1 _ => ?_) ?_
      ·simp [opOK,go_sem,HBB.out,Below.refl]
       try exact rfl
      simp only [Act.put,List.setIfInBounds_toArray,List.set_cons_succ,List.set_cons_zero];refine seq_is rfl (fun w1 hb1 _ => ?_) ?_
      ·simp [opOK,go_sem,Below.refl]
       try exact rfl
      simp only [Act.put,List.setIfInBounds_toArray,List.set_cons_succ,List.set_cons_zero];refine seq_end fun w6 hb6 _ => ?_
      simp only [List.drop_succ_cons,List.drop_zero];have hO6:=ownsN_below HO.out hb6;have HO6:=Lib.hid hO6;have hg6:=grownBy_trans HG.out (grownBy_below _ hb6);have HG6:=Lib.hid hg6;have l1:=bAt hb6 k1;have l0:=bAt hb6 k0;have l1f:=hO6.frozenAt j;have l0f:=hO6.frozenAt m;clear k0 k1 hO6 hg6 hb6;cases bb
      ·go_wp2_with fail
       go_roundw
       case rel => exact ⟨i + 1,zs,by omega,by omega,by go_num,Lib.hid (HZ.out.next (.inr (by
        have h1:=of_decide_eq_false HBB.out;have h2:=HM.out;subst h2;rw [Nat.add_sub_cancel,HX.out,HY.out]; rw [← HD.out,HCX.out] at h1; omega))),HO6,HG6⟩
       case measure => simp [intOf]; omega
      ·go_wp2_with fail
       have hO6:=HO6.out;obtain ⟨hO8,hg8⟩ := hO6.stored j (V y);rw [mapV_set] at hO8;rw [HVY.out] at hO8 hg8;have HO8:=Lib.hid hO8;have HG8:=Lib.hid (grownBy_trans HG6.out hg8);have HZ9 : Hid (SlideB xs i m ((zs.set j y).set m x)):=Lib.hid (by
        have h2:=HM.out;subst h2;have h1:=of_decide_eq_true HBB.out;have:=HZ.out.step hja (by omega) (by rw [Nat.add_sub_cancel,HX.out,HY.out]; rw [← HD.out] at h1; exact HCX.out.1 h1)
        rw [Nat.add_sub_cancel,HX.out,HY.out] at this;exact this)
       have hmj : ¬ m = j:=by have:=HM.out; omega
       obtain ⟨w8,hw8⟩ : ∃ w8,w6.setCell ⟨g,j,none⟩ (.slice ay (dec y).length cy) = w8:=⟨_,rfl⟩;rw [hw8] at HO8 HG8;have HW8:=Lib.hid hw8;clear hO6 hO8 hg8 hw8;refine wp_region_gen 17 (fun i v _ => match i with
        | 0 | 2 | 5 | 10 => v = .slice (some ⟨g,0,none⟩) n c
        | 1 | 3 | 6 | 11 => v = .int .i64 j
        | 4 | 7 => v = .int .i64 m
        | 8 | 16 => v = .pointer (some ⟨g,m,none⟩)
        | 9 => v = .slice ay (dec y).length cy
        | 12 | 14 => v = .pointer (some ⟨g,j,none⟩)
        | 13 => v = .slice ax (dec x).length cx
        | _ => True) (JSt 15 [9,13] (fun W => W = w6.drew) (fun W => W = w8.drew)) mix (by kernel_rfl) (JSt.start rfl) ?_ ?_
       ·refine ⟨?_, ?_, ?_, ?_, ?_, ?_, ?_, ?_, ?_, ?_, ?_, ?_, ?_, ?_, ?_, ?_, ?_,trivial⟩
        all_goals refine gen_plain rfl fun a W S hSi hJ hpre ht' => ?_
        all_goals
         simp [Region.binds] at hpre
         have t0:=ht' 0 rfl;have t9:=ht' 9 rfl;simp at t0 t9
        iterate 9
         (·simp [opOK,go_sem,hpre,t0,t9,hwm,hmn]
           refine ⟨hJ.read (by omega), ?_⟩
           intro j _ _ v h _
           exact h)
        ·have hW:=hJ.look (i:=9) (by simp) hSi
         have q0 : W.cell? ⟨g,m,none⟩ = some (.slice ay (dec y).length cy):=by rw [hW]; exact l0
         simp [opOK,go_sem,hpre,q0]
         refine ⟨hJ.read (by omega), ?_⟩
         intro j _ _ v h _
         exact h
        iterate 3
         (·simp [opOK,go_sem,hpre,t0,t9,hm1n]
           refine ⟨hJ.read (by omega), ?_⟩
           intro j _ _ v h _
           exact h)
        ·have hW:=hJ.look (i:=13) (by simp) hSi
         have q0 : W.cell? ⟨g,j,none⟩ = some (.slice ax (dec x).length cx):=by rw [hW]; exact l1
         simp [opOK,go_sem,hpre,q0]
         refine ⟨hJ.read (by omega), ?_⟩
         intro j _ _ v h _
         exact h
        ·simp [opOK,go_sem,hpre,hm1n]
         refine ⟨hJ.read (by omega), ?_⟩
         intro j _ _ v h _
         exact h
        ·have hW:=hJ.off hSi
         have q0 : W.cell? ⟨g,j,none⟩ = some (.slice ax (dec x).length cx):=by rw [hW]; exact l1
         have q1 : W.frozen? ⟨g,j,none⟩ = false:=by rw [hW]; exact l1f
         have e8 : W.setCell ⟨g,j,none⟩ (.slice ay (dec y).length cy) = w8.drew:=by rw [hW,← HW8.out]; rfl
         simp [opOK,go_sem,hpre,q0,q1,e8]
         refine ⟨JSt.write (by simp [hpre]) rfl, ?_⟩
         intro j hj _ v h _
         exact h
        ·simp [opOK,go_sem,hpre,hmn]
         refine ⟨hJ.read (by omega), ?_⟩
         intro j _ _ v h _
         exact h
       ·intro W' hJ
        have hW:=hJ.on (by decide)
        subst hW;simp only [List.take_succ_cons,List.take_zero,List.drop_succ_cons,List.drop_zero,EndAll];rintro _ rfl _ rfl _ rfl _ rfl _ rfl _ rfl _ rfl _ rfl _ rfl _ rfl _ rfl _ rfl _ rfl _ rfl _ rfl v15 - _ rfl;have q0 : w8.cell? ⟨g,m,none⟩ = some (.slice ay (dec y).length cy):=by rw [← HW8.out,World.cell?_setCell_other _ _ _ _ (by intro e; cases e; exact hmj rfl)]; exact l0
        have q0f:=HO8.out.frozenAt m;obtain ⟨hO9,hg9⟩ := HO8.out.stored m (V x);rw [mapV_set] at hO9;rw [HVX.out] at hO9 hg9;have HO9:=Lib.hid hO9;have HG9:=Lib.hid (grownBy_trans HG8.out hg9);clear hO9 hg9 l0 l1 l0f l1f hJ;go_wp2_with fail;go_roundw
        case rel => exact ⟨m,_,rfl,HZ9,HO9,Lib.hid ⟨HG9.out.os,HG9.out.tape,HG9.out.output,HG9.out.size,HG9.out.block⟩⟩
        case measure => simp [intOf]; have:=HM.out; omega
    ·have d1 : decide ((0 : Int) < (j : Int)) = false:=decide_eq_false (by omega)
     have d1n : decide (0 < j) = false:=decide_eq_false hja;go_wp2_with fail;refine wp_region_seq 17 [.is ?_,.is ?_,.is (.bool false),.is (.bool false),.is undef,.is undef,.is undef,.is undef,.is undef,.is undef,.is undef,.is undef,.is undef,.is undef,.is undef,.is undef,.is (.bool false)] rfl mix (by kernel_rfl) (by kernel_rfl) ?seqm
     case seqm =>
      simp only [List.take_succ_cons,List.take_zero]
      iterate 4
       refine seq_is rfl (fun w1 hb1 _ => ?_) ?_
       ·simp [opOK,go_sem,hja,Below.refl]
        try exact rfl
       simp only [Act.put,List.setIfInBounds_toArray,List.set_cons_succ,List.set_cons_zero]
      iterate 12
       refine seq_off (by rfl) ?_
       simp only [Act.put,List.setIfInBounds_toArray,List.set_cons_succ,List.set_cons_zero]
      refine seq_is rfl (fun w1 hb1 _ => ?_) ?_
      ·simp [opOK,go_sem,Below.refl]
       try exact rfl
      simp only [Act.put,List.setIfInBounds_toArray,List.set_cons_succ,List.set_cons_zero];refine seq_end fun w6 hb6 _ => ?_
      simp only [List.drop_succ_cons,List.drop_zero];have HO6:=Lib.hid (ownsN_below HO.out hb6);have HG6:=Lib.hid (grownBy_trans HG.out (grownBy_below _ hb6));clear hb6;go_wp2_with fail;go_roundw
      case rel => exact ⟨i + 1,zs,by omega,by omega,by go_num,Lib.hid (HZ.out.next (.inl (by omega))),HO6,HG6⟩
      case measure => simp [intOf]; omega
  ·obtain rfl : i = max 1 n:=by omega
   go_wp2;go_returns;exact ⟨rfl,ys,HO.out,HG.out,HS.out⟩
open Go.RowKit Go.Oche Go.Proofs

set_option maxRecDepth 100000 in
set_option maxHeartbeats 4000000 in
theorem pdqK_any (V : Int → Value) (dec : Int → List Int) (base g c n L : Nat) (xs : List Int) (w : World) (hr : ReadsK V dec g xs w) (hcmp : ∀ x ∈ xs, ∀ y ∈ xs,(cmpL (dec x) (dec y) < 0 ↔ x < y)) (ho : w.ownsRow base 33 1 (.slice (some ⟨g,0,none⟩) n c) n (xs.map V)) (hn : n ≤ 12) :
  Calls Tryz.prog 97 #[.slice (some ⟨g,0,none⟩) n c,.int .i64 0,.int .i64 n,.int .i64 L,.func (.func 60) #[] #[]] w fun e w' =>
   e = .returned (.tuple #[]) ∧ ∃ ys,w'.ownsRow base 33 1 (.slice (some ⟨g,0,none⟩) n c) n (ys.map V) ∧ w.grownBy w' (some g) ∧ SegB xs (max 1 n) ys:=by
 have d1 : decide ((n : Int) ≤ 12) = true:=decide_eq_true (by omega)
 have d1n : decide (n ≤ 12) = true:=decide_eq_true hn;have hw0 : IntKind.i64.wrap (n : Int) = n:=wrap_small _ (by omega) (by omega)
 have HO:=Lib.hid ho;have HRD:=Lib.hid hr;have HCM:=Lib.hid hcmp;clear ho hr hcmp
 go_enter Tryz.func97,Tryz.ntmps97
 go_wp2_with fail;go_loopw [1,2,3] (fun av bv lv wr => av = .int .i64 0 ∧ bv = .int .i64 n ∧ lv = .int .i64 L ∧ Hid (wr = w)) (fun _ _ _ _ => 0)
 case atStart => exact ⟨rfl,rfl,rfl,Lib.hid rfl⟩
 case round =>
  obtain ⟨rfl,rfl,rfl,HW⟩ := hrel;go_wp2_with fail;have hw:=HW.out;subst hw;refine (insK_any V dec base g c n xs _ HRD.out HCM.out HO.out (by omega)).mono ?_
  rintro e w1 ⟨rfl,ys,h1,h2,h3⟩;have H1:=Lib.hid h1;have H2:=Lib.hid h2;have H3:=Lib.hid h3;clear h1 h2 h3;go_wp2;go_returns;exact ⟨rfl,ys,H1.out,H2.out,H3.out⟩
set_option maxRecDepth 100000 in
set_option maxHeartbeats 4000000 in
theorem sortK_any (V : Int → Value) (dec : Int → List Int) (base g c n : Nat) (xs : List Int) (w : World) (hr : ReadsK V dec g xs w) (hcmp : ∀ x ∈ xs, ∀ y ∈ xs,(cmpL (dec x) (dec y) < 0 ↔ x < y)) (ho : w.ownsRow base 33 1 (.slice (some ⟨g,0,none⟩) n c) n (xs.map V)) (hn : n ≤ 12) :
  Calls Tryz.prog 59 #[.slice (some ⟨g,0,none⟩) n c,.func (.func 60) #[] #[]] w fun e w' =>
   e = .returned (.tuple #[]) ∧ ∃ ys,w'.ownsRow base 33 1 (.slice (some ⟨g,0,none⟩) n c) n (ys.map V) ∧ w.grownBy w' (some g) ∧ SegB xs (max 1 n) ys:=by
 have hw0 : IntKind.u64.wrap (n : Int) = n:=by rw [IntKind.wrap_u64]; omega
 have HO:=Lib.hid ho;have HRD:=Lib.hid hr;have HCM:=Lib.hid hcmp;clear ho hr hcmp
 go_enter Tryz.func59,Tryz.ntmps59
 go_wp2_with fail;refine (Tryz.bits_Len n w (by omega) (by omega)).mono ?_
 rintro e w0 ⟨rfl,rfl⟩;go_wp2_with fail;refine (pdqK_any V dec base g c n _ xs _ HRD.out HCM.out HO.out hn).mono ?_
 rintro e w1 ⟨rfl,ys,h1,h2,h3⟩;have H1:=Lib.hid h1;have H2:=Lib.hid h2;have H3:=Lib.hid h3;clear h1 h2 h3;go_wp2;go_returns;exact ⟨rfl,ys,H1.out,H2.out,H3.out⟩
set_option maxRecDepth 100000 in
theorem sortK0_any (w : World) : Calls Tryz.prog 59 #[.slice none 0 0,.func (.func 60) #[] #[]] w fun e w' => e = .returned (.tuple #[]) ∧ w' = w:=by
 go_enter Tryz.func59,Tryz.ntmps59
 go_wp2_with fail;refine (Tryz.bits_Len 0 w (by omega) (by omega)).mono ?_
 rintro e w0 ⟨rfl,rfl⟩;obtain ⟨L,hL⟩ : ∃ L,Lib.bitLen (0 : Int).toNat = L:=⟨_,rfl⟩;rw [hL];clear hL;go_wp2_with fail;refine Calls.mono (R:=fun e w' => e = .returned (.tuple #[]) ∧ w' = w0) ?_ ?_
 ·go_enter Tryz.func97,Tryz.ntmps97
  go_wp2_with fail;go_loopw [1,2,3] (fun av bv lv wr => av = .int .i64 0 ∧ bv = .int .i64 0 ∧ lv = .int .i64 L ∧ Hid (wr = w0)) (fun _ _ _ _ => 0)
  case atStart => exact ⟨rfl,rfl,rfl,Lib.hid rfl⟩
  case round =>
   obtain ⟨rfl,rfl,rfl,HW⟩ := hrel;go_wp2_with fail;have hw:=HW.out;subst hw;refine Calls.mono (R:=fun e w' => e = .returned (.tuple #[]) ∧ w' = wr) ?_ ?_
   ·go_enter Tryz.func127,Tryz.ntmps127
    go_wp2_with fail;go_loopw [8] (fun iv wi => iv = .int .i64 1 ∧ Hid (wi = wr)) (fun _ _ => 0)
    case atStart => exact ⟨rfl,Lib.hid rfl⟩
    case round =>
     obtain ⟨rfl,HW⟩ := hrel;go_wp2;go_returns;exact ⟨rfl,HW.out⟩
   ·rintro e w1 ⟨rfl,rfl⟩
    go_wp2;go_returns;exact ⟨rfl,rfl⟩
 ·rintro e w1 ⟨rfl,rfl⟩
  go_wp2;go_returns;exact ⟨rfl,rfl⟩
open Go Go.RowKit Go.Oche Go.Proofs

def nInts (l : List Nat) : List Int:=l.map fun (i : Nat) => (i : Int)
theorem nInts_snoc (l : List Nat) (z : Nat) : nInts (l ++ [z]) = nInts l ++ [(z : Int)]:=by simp [nInts]
theorem bits_len (n s : Nat) : (bitsN n s).length ≤ n:=Nat.le_trans (List.length_filter_le _ _) (by simp)
set_option maxRecDepth 100000 in
set_option maxHeartbeats 1000000 in
theorem numbers_any (s : Nat) (hs : s < 1024) (w : World) (hT : Tab5 w) : Calls Tryz.prog 58 #[.int .u64 (s : Int)] w fun e w' =>
  ∃ v,e = .returned v ∧ Below w.heap.size w w' ∧ w'.ownsRow w.heap.size 3 1 v (bitsN 10 s).length (ints (nInts (bitsN 10 s))):=by
 obtain ⟨N,hN⟩ : ∃ N,w.heap.size = N:=⟨_,rfl⟩;rw [hN];have HT:=Lib.hid hT;have HN:=Lib.hid hN;have hbl:=bits_len 10 s;clear hT hN
 go_enter Tryz.func58,Tryz.ntmps58
 go_wp2;go_loopw [0,2] (fun sv lv wr => ∃ (t : Nat) (l : List Nat),sv = .int .u64 t ∧ t < 1024 ∧ Hid (Below w.heap.size w wr) ∧ Hid (bitsN 10 s = l ++ bitsN 10 t) ∧ Hid (wr.ownsRow N 3 1 lv l.length (ints (nInts l)))) (fun sv _ _ => (intOf sv).toNat)
 case atStart => exact ⟨s,[],rfl,hs,Lib.hid (Below.refl _ _),Lib.hid rfl,Lib.hid ⟨rfl,.inl ⟨rfl,rfl⟩⟩⟩
 case round =>
  obtain ⟨t,l,rfl,ht,HB,HL,HO⟩ := hrel;obtain ⟨a,c,rfl⟩ := owns_form HO.out;have hll : l.length ≤ 10:=by have:=congrArg List.length HL.out; rw [List.length_append] at this; omega
  obtain ⟨wo,rfl⟩ : ∃ wo : World,wo = wr:=⟨_,rfl⟩;by_cases h0 : 0 < t
  ·have d0 : decide ((0 : Int) < (t : Int)) = true:=decide_eq_true (by omega)
   have hcall:=tz_any t ht h0 wo (HT.out.below HB.out);obtain ⟨e1,e2,e3,e4⟩ := low_all ⟨t,ht⟩ h0;simp only at e1 e2 e3 e4;obtain ⟨z,hz⟩ : ∃ z,(bitsN 10 t).headD 0 = z:=⟨_,rfl⟩;rw [hz] at hcall e1 e4;obtain ⟨t',ht'⟩ : ∃ t',t &&& (t - 1) = t':=⟨_,rfl⟩;rw [ht'] at e1 e2 e3;have HL2 : Hid (bitsN 10 s = (l ++ [z]) ++ bitsN 10 t'):=Lib.hid (by rw [HL.out,e1,List.append_assoc]; rfl)
   have hw1 : IntKind.u64.wrap ((t : Int) - 1) = (t : Int) - 1:=by rw [IntKind.wrap_u64]; omega
   have e5 : bits BinOp.and IntKind.u64 (t : Int) ((t : Int) - 1) = (t' : Int):=by rw [hw1] at e2; exact e2
   clear hz ht' e1 HL;go_wp2_with fail;refine hcall.mono ?_
   rintro e w1 ⟨rfl,rfl⟩;have hNw : N ≤ w1.heap.size:=by have:=HB.out.size; have:=HN.out; omega
   go_wp2_with (at_builtin; refine wpList_append1 rfl (.tmp 9) (.tmp 12) 33 rfl N 3 (.int .i64 0) 8 Tryz.underlying33 info_i5 rfl (.slice a l.length c) l.length _ rfl (HO.out.alloc _) w1.heap.size 0 1 (.int .i64 z) rfl (cell_new _ _ _) rfl (by omega) (by decide) (by simp; omega) ?_)
   intro g' c' w2 ho2 hg2 hat2
   have HB2 : Hid (Below w.heap.size w w2):=Lib.hid (HB.out.trans ((bThen (aB w1 (.cells #[.int .i64 (z : Int)] 3)) (Below.refl _ _)).mono HB.out.size |>.trans (below_grownBy hg2 (by have:=HB.out.size; simp; omega) fun q hq => by rw [HN.out]; exact (HO.out.lt q hq).1)))
   have HO2 : Hid (w2.ownsRow N 3 1 (.slice (some ⟨g',0,none⟩) (l.length + 1) c') (l ++ [z]).length (ints (nInts (l ++ [z])))):=Lib.hid (by
    rw [nInts_snoc,ints_append,List.length_append]; exact ho2)
   clear ho2 hg2 hat2 hcall;go_wp2;go_roundw
   case rel => exact ⟨t',l ++ [z],by simp,by omega,HB2,HL2,HO2⟩
   case measure => simp [intOf]; omega
  ·obtain rfl : t = 0:=by omega
   have HL3 : Hid (bitsN 10 s = l):=Lib.hid (by
    rw [HL.out,show bitsN 10 0 = [] by decide]; simp)
   clear HL;go_wp2;go_returns;exact ⟨_,rfl,by rw [← HN.out]; exact HB.out,by rw [HL3.out]; exact HO.out⟩
open Go Go.RowKit Go.Oche Go.Proofs

structure LeastInv (n : Nat) (is : Nat → Bool) (k least : Nat) (ss : List Nat) : Prop where
 asc : ss.Pairwise (· < ·)
 mem : ∀ s,s ∈ ss ↔ s < k ∧ is s = true ∧ (bitsN n s).length = least
 low : ∀ s,s < k → is s = true → least ≤ (bitsN n s).length
 le : least ≤ n
 emp : ss = [] → least = n
section
variable {n : Nat} {is : Nat → Bool} {k least : Nat} {ss : List Nat}
theorem LeastInv.start : LeastInv n is 0 n []:=⟨List.Pairwise.nil,fun s => ⟨fun h => (by simp at h),fun h => (by have:=h.1; omega)⟩,fun s h => (by omega),Nat.le_refl _,fun _ => rfl⟩
theorem LeastInv.skip (h : LeastInv n is k least ss) (hk : least < (bitsN n k).length ∨ is k = false) : LeastInv n is (k + 1) least ss:=by
 refine ⟨h.asc,fun s => ?_,fun s hs hi => ?_,h.le,h.emp⟩
 ·rw [h.mem]
  constructor
  ·rintro ⟨h1,h2⟩; exact ⟨by omega,h2⟩
  ·rintro ⟨h1,h2,h3⟩
   refine ⟨?_,h2,h3⟩
   by_cases e : s = k
   ·subst e
    rcases hk with hk | hk
    ·omega
    ·rw [hk] at h2; cases h2
   ·omega
 ·by_cases e : s = k
  ·subst e
   rcases hk with hk | hk
   ·omega
   ·rw [hk] at hi; cases hi
  ·exact h.low s (by omega) hi
theorem LeastInv.new (h : LeastInv n is k least ss) (hi : is k = true) (hl : (bitsN n k).length < least) : LeastInv n is (k + 1) (bitsN n k).length [k]:=by
 refine ⟨by simp,fun s => ?_,fun s hs hs2 => ?_,bits_len n k,fun e => by cases e⟩
 ·rw [List.mem_singleton]
  constructor
  ·rintro rfl; exact ⟨by omega,hi,rfl⟩
  ·rintro ⟨h1,h2,h3⟩
   by_cases e : s = k
   ·exact e
   ·have:=h.low s (by omega) h2; omega
 ·by_cases e : s = k
  ·subst e; exact Nat.le_refl _
  ·have:=h.low s (by omega) hs2; omega
theorem LeastInv.more (h : LeastInv n is k least ss) (hi : is k = true) (hl : (bitsN n k).length = least) : LeastInv n is (k + 1) least (ss ++ [k]):=by
 refine ⟨List.pairwise_append.2 ⟨h.asc,by simp,fun a ha b hb => by rw [List.mem_singleton] at hb; subst hb; exact ((h.mem a).1 ha).1⟩,fun s => ?_,fun s hs hs2 => ?_,h.le,fun e => by simp at e⟩
 ·rw [List.mem_append,List.mem_singleton,h.mem]
  constructor
  ·rintro (⟨h1,h2⟩ | rfl)
   ·exact ⟨by omega,h2⟩
   ·exact ⟨by omega,hi,hl⟩
  ·rintro ⟨h1,h2,h3⟩
   by_cases e : s = k
   ·exact .inr e
   ·exact .inl ⟨by omega,h2,h3⟩
 ·by_cases e : s = k
  ·subst e; omega
  ·exact h.low s (by omega) hs2
theorem LeastInv.min (h : LeastInv n is k least ss) (x : List Nat) : MinS n is k x ↔ ∃ s ∈ ss,x = bitsN n s:=by
 constructor
 ·rintro ⟨⟨s,h1,h2,rfl⟩,h4⟩
  refine ⟨s,(h.mem s).2 ⟨h1,h2, ?_⟩,rfl⟩
  have hlow:=h.low s h1 h2;cases ss with
  | nil => have:=h.emp rfl; have:=bits_len n s; omega
  | cons t ss =>
   obtain ⟨a1,a2,a3⟩ := (h.mem t).1 (by simp)
   have:=h4 t a1 a2;omega
 ·rintro ⟨s,hs,rfl⟩
  obtain ⟨a1,a2,a3⟩ := (h.mem s).1 hs;exact ⟨⟨s,a1,a2,rfl⟩,fun t ht hi => by rw [a3]; exact h.low t ht hi⟩
end
def rev5 (s : Nat) : Nat:=(if s.testBit 0 then 16 else 0) + (if s.testBit 1 then 8 else 0) + (if s.testBit 2 then 4 else 0) + (if s.testBit 3 then 2 else 0) + (if s.testBit 4 then 1 else 0)
def kS (s : Nat) : Int:=31 - (rev5 s : Int)
def iS (x : Int) : Nat:=rev5 (31 - x).toNat
def decS5 (x : Int) : List Int:=nInts (bitsN 10 (iS x))
theorem iS_all : ∀ s : Fin 32,iS (kS s.val) = s.val:=by decide +kernel
theorem cmpS_all : ∀ s t : Fin 32,(bitsN 10 s.val).length = (bitsN 10 t.val).length → (cmpL (decS5 (kS s.val)) (decS5 (kS t.val)) < 0 ↔ kS s.val < kS t.val):=by decide +kernel
theorem smallS_all : ∀ s t : Fin 32,(bitsN 10 s.val).length = (bitsN 10 t.val).length → kS s.val < kS t.val → smallerN (bitsN 10 s.val) (bitsN 10 t.val) = true:=by decide +kernel
theorem few_all : ∀ c : Fin 11,((List.range 32).filter fun s => (bitsN 10 s).length == c.val).length ≤ 10:=by decide +kernel
theorem asc_nodup {ss : List Nat} (h : ss.Pairwise (· < ·)) : ss.Nodup:=h.imp fun h => by omega
theorem LeastInv.few {n : Nat} {is : Nat → Bool} {k least : Nat} {ss : List Nat} (h : LeastInv n is k least ss) (hn : n ≤ 5) (hk : k ≤ 2 ^ n) : ss.length ≤ 10:=by
 have h5 : 2 ^ n ≤ 32:=Nat.le_trans (Nat.pow_le_pow_right (by decide) hn) (by decide)
 have hle:=h.le;refine Nat.le_trans (List.Nodup.length_le_of_subset (asc_nodup h.asc) fun s hs => ?_) (few_all ⟨least,by omega⟩)
 obtain ⟨a1,a2,a3⟩ := (h.mem s).1 hs;rw [List.mem_filter,List.mem_range];refine ⟨by omega, ?_⟩
 rw [bits_few ⟨n,by omega⟩ ⟨s,by omega⟩ (by simp only; omega),a3]
 simp
theorem LeastInv.done {n : Nat} {is : Nat → Bool} {least : Nat} {ss : List Nat} (h : LeastInv n is (2 ^ n) least ss) (hn : n ≤ 5) {ys : List Int} (hp : ys.Perm (ss.map kS)) (hs : ∀ p q,p < q → q < max 1 ss.length → at0 ys p ≤ at0 ys q) :
  IsMin n is (2 ^ n) (ys.map fun y => bitsN n (iS y)):=by
 have h5 : 2 ^ n ≤ 32:=Nat.le_trans (Nat.pow_le_pow_right (by decide) hn) (by decide)
 have hlt : ∀ s ∈ ss,s < 32 ∧ s < 2 ^ n:=fun s hs => by have:=((h.mem s).1 hs).1; omega
 have hyl : ys.length = ss.length:=by have:=hp.length_eq; simpa using this
 have hmem : ∀ y,y ∈ ys ↔ ∃ s ∈ ss,kS s = y:=fun y => by rw [hp.mem_iff,List.mem_map]
 have hnd : (ss.map kS).Nodup:=List.Pairwise.map kS (R:=fun a b => a < b ∧ a < 32 ∧ b < 32) (fun a b hab e => by
  have e1:=iS_all ⟨a,hab.2.1⟩;have e2:=iS_all ⟨b,hab.2.2⟩;simp only at e1 e2;rw [e,e2] at e1;omega) (h.asc.imp_of_mem fun {a b} ha hb hab => ⟨hab,(hlt a ha).1,(hlt b hb).1⟩)
 have hnd2 : ys.Nodup:=hp.nodup_iff.2 hnd;refine ⟨?_,fun x => ?_⟩
 ·rw [List.pairwise_map]
  refine List.pairwise_iff_getElem.2 fun p q hp' hq' hpq => ?_
  have hle:=hs p q hpq (by omega)
  rw [at0_eq hp',at0_eq hq'] at hle;have hne : ys[p] ≠ ys[q]:=fun e => by have:=(List.getElem_inj hnd2).1 e; omega
  obtain ⟨s,hs1,e1⟩ := (hmem ys[p]).1 (List.getElem_mem _);obtain ⟨t,ht1,e2⟩ := (hmem ys[q]).1 (List.getElem_mem _);rw [← e1,← e2] at hle hne ⊢;rw [show iS (kS s) = s from iS_all ⟨s,(hlt s hs1).1⟩,show iS (kS t) = t from iS_all ⟨t,(hlt t ht1).1⟩]
  have b1:=bits_few ⟨n,by omega⟩ ⟨s,by have:=(hlt s hs1).1; omega⟩ (hlt s hs1).2
  have b2:=bits_few ⟨n,by omega⟩ ⟨t,by have:=(hlt t ht1).1; omega⟩ (hlt t ht1).2
  simp only at b1 b2;rw [← b1,← b2];refine smallS_all ⟨s,(hlt s hs1).1⟩ ⟨t,(hlt t ht1).1⟩ ?_ (by simp only; omega)
  simp only;rw [b1,b2,((h.mem s).1 hs1).2.2,((h.mem t).1 ht1).2.2]
 ·rw [h.min,List.mem_map]
  constructor
  ·rintro ⟨y,hy,rfl⟩
   obtain ⟨s,hs1,rfl⟩ := (hmem y).1 hy;exact ⟨s,hs1,by rw [show iS (kS s) = s from iS_all ⟨s,(hlt s hs1).1⟩]⟩
  ·rintro ⟨s,hs1,rfl⟩
   exact ⟨kS s,(hmem _).2 ⟨s,hs1,rfl⟩,by rw [show iS (kS s) = s from iS_all ⟨s,(hlt s hs1).1⟩]⟩
theorem Sl.of_ownsB {base n : Nat} {e : TypeId} {w : World} {v : Value} {xs : List Value} (h : w.ownsRow base e 1 v n xs) : Sl (fun k => base ≤ k ∧ v.ownBlock = some k) w v xs:=by
 obtain ⟨hl,h | ⟨g,cap,cur,rfl,hb,hg,hn,hm,hs,ht⟩⟩ := h
 ·obtain ⟨rfl,rfl⟩ := h
  have : xs = []:=List.eq_nil_of_length_eq_zero (by simpa using hl)
  subst this;exact Sl.nil _ _
 ·refine ⟨some ⟨g,0,none⟩,cap,by simp [hl],by omega,hm,fun i x hx => ⟨g,0,rfl,⟨hb,rfl⟩, ?_⟩⟩
  have hi : i < xs.length:=(List.getElem?_eq_some_iff.1 hx).1
  simp only [World.cell?,hg,Nat.zero_add];rw [← ht,List.getElem?_take] at hx
  split at hx
  ·simpa using hx
  ·cases hx
structure SetsRow (N : Nat) (V : Int → Value) (ss : List Nat) (v : Value) (W : World) : Prop where
 row : W.ownsRow N 33 1 v ss.length ((ss.map kS).map V)
 reads : ∀ s ∈ ss,Sl (fun q => N ≤ q ∧ v.ownBlock ≠ some q) W (V (kS s)) (ints (nInts (bitsN 10 s)))
section
variable {N : Nat} {V : Int → Value} {ss : List Nat} {v : Value} {W W' : World}
theorem SetsRow.zero (N : Nat) (V : Int → Value) (W : World) : SetsRow N V [] (.slice none 0 0) W:=⟨World.ownsRow_nil _ _ _ _,fun s hs => by cases hs⟩
theorem SetsRow.chg {O : Nat → Prop} (h : SetsRow N V ss v W) (hc : Chg O W W') (hO : ∀ q,O q → q < N) : SetsRow N V ss v W' :=
 ⟨ownsN_kept h.row fun g hg => hc.block g (h.row.lt g hg).2 fun e => by have:=hO g e; have:=(h.row.lt g hg).1; omega,fun s hs => (h.reads s hs).cells fun b o hb hs2 => by
  obtain ⟨x,hx⟩ := Option.isSome_iff_exists.1 hs2;exact World.cell?_of_block (w:=W) (hc.block b (World.block_lt_of_cell? W _ hx) fun e => by have:=hO b e; have:=hb.1; omega)⟩
theorem SetsRow.below (h : SetsRow N V ss v W) (hb : Below W.heap.size W W') : SetsRow N V ss v W':=h.chg (O:=fun _ => False) (Chg.below hb) fun _ e => e.elim
theorem SetsRow.add {g c k : Nat} {u : Value} (h : SetsRow N V ss v W) (hk : ∀ s ∈ ss,s < k) (hk32 : k < 32) (hu : Sl (fun q => N ≤ q ∧ v.ownBlock ≠ some q ∧ q < W.heap.size) W u (ints (nInts (bitsN 10 k))))
  (ho : W'.ownsRow N 33 1 (.slice (some ⟨g,0,none⟩) (ss.length + 1) c) (ss.length + 1) ((ss.map kS).map V ++ [u])) (hg : W.grownBy W' v.ownBlock) (hat : v.ownBlock = some g ∨ W.heap.size ≤ g) :
  SetsRow N (fun x => if x = kS k then u else V x) (ss ++ [k]) (.slice (some ⟨g,0,none⟩) (ss.length + 1) c) W':=by
 have hne : ∀ s ∈ ss,kS s ≠ kS k:=fun s hs e => by
  have e1:=iS_all ⟨s,by have:=hk s hs; omega⟩
  have e2:=iS_all ⟨k,hk32⟩;simp only at e1 e2;rw [e,e2] at e1;have:=hk s hs;omega
 have keep : ∀ (x : Value) (l : List Value) (T : Nat → Prop),(∀ q,T q → N ≤ q ∧ v.ownBlock ≠ some q) → Sl T W x l → Sl (fun q => N ≤ q ∧ (Value.slice (some ⟨g,0,none⟩) (ss.length + 1) c).ownBlock ≠ some q) W' x l:=fun x l T hT hsl => by
  refine ((hsl.lt).cells fun b o hb hs2 => ?_).mono fun q hq => ⟨(hT q hq.1).1,fun e => ?_⟩
  ·obtain ⟨y,hy⟩ := Option.isSome_iff_exists.1 hs2
   exact World.cell?_of_block (w:=W) (hg.block b hb.2 fun e => (hT b hb.1).2 e.symm)
  ·have e2 : g = q:=by simpa [Value.ownBlock] using e
   subst e2;rcases hat with h1 | h1
   ·exact (hT g hq.1).2 h1
   ·have:=hq.2; omega
 refine ⟨?_,fun s hs => ?_⟩
 ·have e : ((ss ++ [k]).map kS).map (fun x => if x = kS k then u else V x) = (ss.map kS).map V ++ [u]:=by
   rw [List.map_append,List.map_append]
   congr 1
   ·rw [List.map_map,List.map_map]
    refine List.map_congr_left fun s hs => ?_
    simp only [Function.comp_apply,if_neg (hne s hs)]
   ·simp
  rw [e,List.length_append];exact ho
 ·rcases List.mem_append.1 hs with hs | hs
  ·simp only [if_neg (hne s hs)]
   exact keep _ _ _ (fun q hq => hq) (h.reads s hs)
  ·rw [List.mem_singleton] at hs
   subst hs;simp only [if_true];exact keep _ _ _ (fun q hq => ⟨hq.1,hq.2.1⟩) hu
theorem SetsRow.apart {u : Value} {M m : Nat} {xs : List Value} (h : SetsRow N V ss v W) (ho : W.ownsRow M 3 1 u m xs) (hM : N ≤ M) : Sl (fun q => N ≤ q ∧ v.ownBlock ≠ some q ∧ q < W.heap.size) W u xs :=
 ((Sl.of_ownsB ho).lt).mono fun q hq => ⟨by have:=hq.1.1; omega,fun e => by
  rcases ownsN_ne h.row ho (by decide) with z | z
  ·rw [z] at e; cases e
  ·exact z (by rw [e,hq.1.2]),hq.2⟩
end
end Go.Proofs.YtnbmgkmcaoafnaaGreatDoor
