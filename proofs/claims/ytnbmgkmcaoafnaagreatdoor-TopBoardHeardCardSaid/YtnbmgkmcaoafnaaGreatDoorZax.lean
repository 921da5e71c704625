/- The texts BK, Ins, BS, XJ, in build order. -/
import Derived.Test.YtnbmgkmcaoafnaaGreatDoorZaw
import Derived.Handy
import Derived.RangeFuncBound
import Derived.RangeFuncLeaves
import Derived.Shelf.Abstract
import Derived.Shelf.RegionOpen
import Derived.OwnWalkIn
import Derived.TacticsInMore
import Derived.LoopNIn
import Derived.LoopIn
import Derived.Lib.MinMax

/- The keys of a map of beds, collected; slices.Sort of at most 12 beds. -/
namespace Go.Proofs.YtnbmgkmcaoafnaaGreatDoor
open Go Go.RowKit Go.Oche Go.Proofs
attribute [local go_sem] Oper.semAt_some

theorem info_bedB : (Tryz.prog.info? 47).map (fun i => (i.zero,i.size,i.bytes)) = some (some (.int .i64 0),1,8):=by kernel_rfl
def decIBb (v : Value) : Int:=match v with
 | .int _ a => a
 | _ => 0
theorem decI_eqBb (k : Int) : decIBb (Value.int .i64 k) = k:=rfl
def encIBb : Int → Array Value → (Nat → Prop) → World → Prop:=fun k args _ _ => args = #[.int .i64 k]
set_option maxRecDepth 100000 in
set_option maxHeartbeats 1000000 in
theorem keys1_inBb (L : List (Int × Value)) (pb b : Nat) (w : World) (Rs : Nat → Prop)
  (cb : w.cell? ⟨pb,0,none⟩ = some (.map (some b))) (hm : MapAt (Value.int .i64) w b L) (hn : (L.map (·.1)).Nodup) (_r1 : Rs pb) (r2 : Rs b) :
  IterA 47 Tryz.prog 38 #[] #[.pointer (some ⟨pb,0,none⟩)] encIBb (fun ks => ks.Nodup ∧ ∀ k ∈ ks,k ∈ L.map (·.1)) (fun ks => ks.Perm (L.map (·.1))) Rs w:=by
 intro l J Jx O W hBW hO hRs hJ hJx hY h0
 have cb':=bAt hBW cb;have hm':=hm.below hBW;obtain ⟨W1,hrg,hS1,hb1,hz1⟩ := MapAt.range (P:=Tryz.prog) (T:=75) (by rfl) hm'
 have hbW : b < w.heap.size:=hm.lt;have hbO:=(hRs b r2).2;have hWs:=hBW.size;have HS:=Lib.hid (SeenD.of hS1);have HY:=Lib.hid hY;have HN:=Lib.hid hn;have HB1:=Lib.hid hb1;have HJ1 : Hid (J [] O W1):=Lib.hid (Stab.ext hJ h0 hb1);clear cb hm hm' hRs hY hn hS1 hb1 h0;refine callsIn_of_wp Tryz.func38 rfl trivial ?_ rfl
 simp only [Tryz.ntmps38,List.size_toArray,List.length_cons,List.length_nil,Nat.reduceAdd,Nat.reduceSub,Array.replicate_succ,Array.replicate_zero,List.push_toArray,List.append_toArray,List.nil_append,List.cons_append]
 gi_wp2
 clear hrg cb'
 gi_loopw [3] (fun _ wr => ∃ (ks : List Int) (O₁ : Nat → Prop),Hid (Rel O W O₁ wr) ∧ Hid (J ks O₁ wr) ∧ Hid (SeenD (Value.int .i64) wr W.heap.size b L L ks) ∧ Hid (¬ O₁ W.heap.size) ∧ Hid (ks.Nodup ∧ ∀ k ∈ ks,k ∈ L.map (·.1))) (fun _ wr => L.length - seenN wr W.heap.size)
 case atStart => exact ⟨[],O,Lib.hid (Rel.of_below HB1.out hO),HJ1,HS,Lib.hid (fun h => by have:=hO _ h; omega),Lib.hid ⟨List.nodup_nil,fun k hk => by cases hk⟩⟩
 case round =>
  obtain ⟨ks,O₁,HR,HJ,HSn,HO1,HK⟩ := hrel;obtain ⟨wo,rfl⟩ : ∃ wo : World,wo = wr:=⟨_,rfl⟩;rcases HSn.out.next (P:=Tryz.prog) (dec:=decIBb) decI_eqBb HN.out 0 with ⟨hnx,hperm⟩ | ⟨x,vx,w2,hmem,hkn,hlen,hnx,hS2,hg2,hz2,hen⟩
  ·have HP:=Lib.hid hperm
   clear hperm
   gi_wp2
   go_end0
   exact ⟨⟨_,rfl⟩,O₁,HR.out,.inl ⟨ks,HP.out,HJ.out⟩⟩
  ·have hlt:=HSn.out.lt
   have hJ2 : J ks O₁ w2:=hJ ks O₁ wo w2 HJ.out hg2.os hg2.tape hg2.output hg2.size fun k hk h => hg2.block k hk fun e => by
    cases e;rcases h with h | h | h
    ·exact HO1.out h
    ·omega
    ·obtain ⟨es0,es,c,s,c0,sn,q,h1,h2,_⟩ := HSn.out
     obtain ⟨cc,fz,h⟩ := h;rw [h2] at h; cases h
   have hR2 : Rel O W O₁ w2:=⟨hg2.os.trans HR.out.os,hg2.tape.trans HR.out.tape,hg2.output.trans HR.out.output,Nat.le_trans HR.out.size hg2.size,fun k hk hn => (hg2.block k (Nat.lt_of_lt_of_le hk HR.out.size) (fun e => by cases e; omega)).trans (HR.out.block k hk hn),HR.out.own,fun k hk => Nat.lt_of_lt_of_le (HR.out.lt k hk) hg2.size⟩
   have hAdm : (ks ++ [x]).Nodup ∧ ∀ k ∈ ks ++ [x],k ∈ L.map (·.1):=by
    refine ⟨List.nodup_append.2 ⟨HK.out.1,by simp,fun a ha b hb e => hkn (by simp at hb; rw [← hb,← e]; exact ha)⟩,fun k hk => ?_⟩
    rcases List.mem_append.1 hk with hk | hk
    ·exact HK.out.2 k hk
    ·simp at hk; subst hk; exact List.mem_map_of_mem (f:=(·.1)) hmem
   obtain ⟨fn,tmps,assign,body,hy',hRo⟩ := HY.out ks x #[.int .i64 x] O₁ w2 hAdm hR2 hJ2 rfl;have HRo:=Lib.hid hRo;have HADM:=Lib.hid hAdm;have HR2:=Lib.hid hR2;have HS2:=Lib.hid hS2;have hLo : Hid (ks.length < L.length ∧ seenN wo W.heap.size = ks.length):=Lib.hid ⟨hlen,SeenD.count HSn.out⟩;clear hRo hAdm hR2 hJ2 hS2 hg2 hmem hkn hlen hz2 HSn HR HJ
   gi_wp2_with fail
   refine ⟨rfl,RoundIn.mono HRo.out ?_⟩
   rintro e W3 ⟨O',hr3,(⟨rfl,hj3⟩ | ⟨rfl,hj3⟩)⟩
   ·have HJ3:=Lib.hid hj3
    have hlt2:=HS2.out.lt;have HS3:=Lib.hid (HS2.out.keep (hr3.block _ hlt2.2.1 fun h => by rcases HR2.out.own _ h with h | h; exact hbO h; omega) (hr3.block _ hlt2.1 HO1.out))
    have HR3:=Lib.hid (HR2.out.trans hr3);have HO3 : Hid (¬ O' W.heap.size):=Lib.hid fun h => by rcases hr3.own _ h with h | h; exact HO1.out h; omega
    have HL3 : Hid (L.length - seenN W3 W.heap.size < L.length - seenN wo W.heap.size):=Lib.hid (by
     have e1:=SeenD.count HS3.out;have e2:=hLo.out;rw [e1,e2.2,List.length_append,List.length_singleton]; omega)
    clear hj3 hr3 hnx hen hy'
    gi_wp2
    go_roundw
    case rel => exact ⟨ks ++ [x],O',HR3,HJ3,HS3,HO3,HADM⟩
    case measure => exact HL3.out
   ·have HJ3:=Lib.hid hj3
    have HR3:=Lib.hid (HR2.out.trans hr3);clear hj3 hr3 hnx hen hy'
    gi_wp2
    refine bodyPost_ret (results_none rfl _ _ _) rfl ?_
    exact ⟨⟨_,rfl⟩,O',HR3.out,.inr ⟨_,HADM.out,HJ3.out⟩⟩
def KIBb (bx : Nat) (pre : List Int) (O : Nat → Prop) (W : World) : Prop := ∃ lv,BoxRow bx 36 47 1 pre.length (ints pre) O lv W
set_option maxRecDepth 100000 in
set_option maxHeartbeats 4000000 in
theorem appendKeys_anyBb (L : List (Int × Value)) (pb b : Nat) (w : World) (cb : w.cell? ⟨pb,0,none⟩ = some (.map (some b))) (hm : MapAt (Value.int .i64) w b L) (hn : (L.map (·.1)).Nodup) (hl : L.length ≤ 90000) :
  Calls Tryz.prog 70 #[.slice none 0 0,.func (.func 38) #[] #[.pointer (some ⟨pb,0,none⟩)]] w fun e w' =>
   ∃ v' ks,e = .returned v' ∧ Below w.heap.size w w' ∧ ks.Perm (L.map (·.1)) ∧ w'.ownsRow w.heap.size 47 1 v' ks.length (ints ks):=by
 obtain ⟨w0,hw0⟩ : ∃ w0,w.alloc (.cells #[.slice none 0 0] 36) = w0:=⟨_,rfl⟩;have hb0 : Below w.heap.size w w0:=by rw [← hw0]; exact aB _ _
 have hz0 : w0.heap.size = w.heap.size + 1:=by rw [← hw0]; simp
 have hbx : w0.heap[w.heap.size]? = some (.cells #[.slice none 0 0] 36 (0,0)):=by rw [← hw0]; exact World.alloc_heap_new _ _
 have HBX:=Lib.hid hbx;have HPB:=Lib.hid (World.block_lt_of_cell? w _ cb);have HCB:=Lib.hid (bAt hb0 cb);have HM:=Lib.hid (hm.below hb0);have HBL:=Lib.hid hm.lt;have HNN:=Lib.hid hn;have HW:=Lib.hid hw0;have HZ:=Lib.hid hz0;clear hw0 hbx cb hm hz0 hn;refine (callsIn_wide (n:=0)).1 (callsIn_of_wp_marks Tryz.func70 rfl trivial ?_ rfl)
 simp only [Tryz.ntmps70,List.size_toArray,List.length_cons,List.length_nil,Nat.reduceAdd,Nat.reduceSub,Array.replicate_succ,Array.replicate_zero,List.push_toArray,List.append_toArray,List.nil_append,List.cons_append]
 gi_wp2_with fail
 rw [HW.out];obtain ⟨N,hN⟩ : ∃ N,w.heap.size = N:=⟨_,rfl⟩;rw [hN] at HBX HBL HPB HZ hb0 ⊢;have HN:=Lib.hid hN;clear hN;refine wpIn_rangeA (t:=47) (gf:=38) (fa:=#[]) (lb:=#[.pointer (some ⟨pb,0,none⟩)]) rfl (enters_of Tryz.func38 (by kernel_rfl) rfl)
  (keys1_inBb L pb b w0 (fun j => j < N) HCB.out HM.out HNN.out HPB.out HBL.out)
  (KIBb N) (fun _ _ _ _ => False) (fun pre O A B h _ _ _ _ hk => by obtain ⟨lv,h⟩ := h; exact ⟨lv,h.stab fun k h1 h2 => hk k h1 (.inl h2)⟩) (fun _ _ _ _ _ h => h.elim)
  (fun j => j = N) (fun j hj => by have:=HZ.out; omega) (fun j hj => by have:=HZ.out; omega) ⟨.slice none 0 0,⟨fun k => by simp [Value.ownBlock],HBX.out,World.ownsRow_nil _ _ _ _⟩⟩
  (fun b args O W' h => by subst h; rfl) ?round ?done ?stop
 case round =>
  rintro l pre x args O₁ W₁ hAdm hl1 hl2 hnl hnl' hrel hI henc;subst henc;clear hI;have hpre : pre.length + 1 ≤ 90000:=by
   have h1:=List.Nodup.length_le_of_subset hAdm.1 (l₂ := L.map (·.1)) (fun k hk => hAdm.2 k hk)
   rw [List.length_append,List.length_map] at h1;simp at h1; omega
  clear hAdm
  gi_wp2_with fail
  refine ⟨Below.refl _ _, ?_⟩
  rintro W₃ hon ⟨lv,hB⟩;obtain ⟨la,lc,rfl⟩ : ∃ a c,lv = .slice a pre.length c:=owns_form hB.row;have xb : W₃.cell? ⟨N,0,none⟩ = some (.slice la pre.length lc):=by rw [cell_of_heap hB.box]; rfl
  have hNW : N + 1 ≤ W₃.heap.size:=(Array.getElem?_eq_some_iff.1 hB.box).1
  have hn9 : ∀ j u,([.int .i64 x] : List Value)[j]? = some u → (W₃.alloc (.cells #[.int .i64 x] 47)).cell? ⟨W₃.heap.size,0 + j,none⟩ = some u:=by
   intro j u hj
   unfold World.cell?;rw [World.alloc_heap_new]
   simpa using hj
  have HB:=Lib.hid hB;have HN9:=Lib.hid hn9;clear hB hon hn9
  gi_wp2_with (refine wpListIn_appendN (open_round l) rfl (.tmp 8) (.tmp 10) 36 rfl (N + 1) 47 (.int .i64 0) 1 8 Tryz.underlying36 info_bedB rfl (by decide) _ pre.length _ rfl (HB.out.row.alloc _) W₃.heap.size 0 1 1 [.int .i64 x] rfl rfl HN9.out (by intro u hu; simp at hu; subst hu; rfl) (by omega) (by decide) (by simp; omega) ?_)
  intro lv' W4 ho hg hat
  obtain ⟨m1,m2,y4,f4⟩ := HB.out.more (aB W₃ _) ho hg (by simpa using hat)
  obtain ⟨la',lc',rfl⟩ : ∃ a c,lv' = .slice a (pre.length + 1) c:=owns_form ho;have M1:=Lib.hid m1;have M2:=Lib.hid m2;clear m1 m2 ho hg hat xb
  gi_wp2_with fail
  exact ⟨_,M2.out,_,by rw [List.length_append,ints_append]; exact M1.out⟩
 case done =>
  intro D ks O₁ W' hD hnD hrel hP hI hDD
  obtain ⟨lv,hB⟩ := hI;obtain ⟨la,lc,rfl⟩ : ∃ a c,lv = .slice a ks.length c:=owns_form hB.row;have xb : W'.cell? ⟨N,0,none⟩ = some (.slice la ks.length lc):=by rw [cell_of_heap hB.box]; rfl
  have hB' : Below N w W':=hb0.trans (hrel.below (by have:=HZ.out; omega) (fun j hj e => by omega))
  have HR:=Lib.hid hB.row;have HB':=Lib.hid hB';have HDD:=Lib.hid hDD;have HDN:=Lib.hid hnD;have HOO : Hid ((Value.slice la ks.length lc).ownBlock = some D → O₁ D):=Lib.hid (fun h => (hB.o D).2 (.inr h))
  clear hB hB' hDD hrel hnD
  gi_wp2_with fail
  have hmk : Marks 0 W' [D]:=(Marks.nil _ _).cons HDD.out (Nat.zero_le _) (by simp)
  refine leave_marks [D] _ hmk fun W'' hp => ?_
  refine ⟨.slice la ks.length lc,by simp [results,go_sem],_,ks,rfl, ?_,hP, ?_⟩
  ·rw [HN.out]; exact HB'.out.trans (hp.below fun E hE => by simp at hE; have:=HZ.out; omega)
  ·rw [HN.out]
   exact ownsN_base (ownsN_kept HR.out fun g hg => hp.block g fun h => by simp at h; subst h; exact HDN.out (HOO.out hg)) (by omega)
 case stop => intro D c pre O₁ W' _ _ _ _ h; exact h.elim
theorem keys_anyBb (b : Nat) (w : World) : Calls Tryz.prog 17 #[.map (some b)] w fun e w' => e = .returned (.func (.func 38) #[] #[.pointer (some ⟨w.heap.size,0,none⟩)]) ∧ w' = w.alloc (.cells #[.map (some b)] 75):=by
 go_enter Tryz.func17,Tryz.ntmps17
 go_wp2;go_returns;exact ⟨rfl,rfl⟩
theorem collect_anyBb (L : List (Int × Value)) (pb b : Nat) (w : World) (cb : w.cell? ⟨pb,0,none⟩ = some (.map (some b))) (hm : MapAt (Value.int .i64) w b L) (hn : (L.map (·.1)).Nodup) (hl : L.length ≤ 90000) :
  Calls Tryz.prog 36 #[.func (.func 38) #[] #[.pointer (some ⟨pb,0,none⟩)]] w fun e w' =>
   ∃ v' ks,e = .returned v' ∧ Below w.heap.size w w' ∧ ks.Perm (L.map (·.1)) ∧ w'.ownsRow w.heap.size 47 1 v' ks.length (ints ks):=by
 have HC:=Lib.hid (appendKeys_anyBb L pb b w cb hm hn hl);clear cb hm hn
 go_enter Tryz.func36,Tryz.ntmps36
 go_wp2_with fail;refine HC.out.mono ?_
 rintro e w1 ⟨v',ks,rfl,hb,hp,ho⟩;obtain ⟨a,c,rfl⟩ := owns_form ho;have HB:=Lib.hid hb;have HP:=Lib.hid hp;have HO:=Lib.hid ho;clear hb hp ho;go_wp2;go_returns;exact ⟨_,ks,rfl,HB.out,HP.out,HO.out⟩
end Go.Proofs.YtnbmgkmcaoafnaaGreatDoor

/- Insertion sort of distinct things, in plain Lean: r is greater first; of equals the lesser number first. -/
namespace Go.Oche
open Go Go.RowKit

def befo (r : Int → Int) (x y : Int) : Prop:=r y < r x ∨ (r x = r y ∧ x < y)
def at0 (l : List Int) (i : Nat) : Int:=l.getD i 0
theorem at0_eq {l : List Int} {i : Nat} (h : i < l.length) : at0 l i = l[i]:=by rw [at0,List.getD_eq_getElem?_getD,List.getElem?_eq_getElem h]; rfl
structure SegOk (r : Int → Int) (xs : List Int) (a b i : Nat) (ys : List Int) : Prop where
 len : ys.length = xs.length
 out : ∀ q,q < a ∨ i ≤ q → at0 ys q = at0 xs q
 ord : ∀ p q,a ≤ p → p < q → q < i → befo r (at0 ys p) (at0 ys q)
 low : ∀ p q,a ≤ p → p < i → i ≤ q → q < b → at0 ys p < at0 xs q
 perm : ys.Perm xs
structure SlideOk (r : Int → Int) (ys : List Int) (a i j : Nat) (zs : List Int) : Prop where
 len : zs.length = ys.length
 at_ : ∀ q,q < ys.length → at0 zs q = if q < j then at0 ys q else if q = j then at0 ys i else if q ≤ i then at0 ys (q - 1) else at0 ys q
 gt : ∀ q,j ≤ q → q < i → r (at0 ys q) < r (at0 ys i)
 perm : zs.Perm ys
 rng : a ≤ j ∧ j ≤ i
theorem SegOk.start {r : Int → Int} {xs : List Int} {a b : Nat} (_hb : b ≤ xs.length) (h : ∀ p q,a ≤ p → p < q → q < b → at0 xs p < at0 xs q) : SegOk r xs a b (a + 1) xs :=
 ⟨rfl,fun _ _ => rfl,fun p q h1 h2 h3 => by omega,fun p q h1 h2 h3 h4 => h p q h1 (by omega) h4,List.Perm.refl _⟩
theorem SlideOk.start {r : Int → Int} {ys : List Int} {a i : Nat} (ha : a ≤ i) : SlideOk r ys a i i ys:=by
 refine ⟨rfl,fun q hq => ?_,fun q h1 h2 => by omega,List.Perm.refl _,ha,Nat.le_refl _⟩
 by_cases h1 : q < i
 ·rw [if_pos h1]
 ·rw [if_neg h1]
  by_cases h2 : q = i
  ·rw [if_pos h2,h2]
  ·rw [if_neg h2,if_neg (by omega)]
theorem at0_set {l : List Int} {i : Nat} (h : i < l.length) (x : Int) (q : Nat) : at0 (l.set i x) q = if q = i then x else at0 l q:=by
 unfold at0;by_cases e : q = i
 ·subst e; rw [if_pos rfl,List.getD_eq_getElem?_getD,List.getElem?_set_self h]; rfl
 ·rw [if_neg e,List.getD_eq_getElem?_getD,List.getElem?_set_ne (fun h => e h.symm),← List.getD_eq_getElem?_getD]
theorem SlideOk.step {r : Int → Int} {ys zs : List Int} {a i j : Nat} (h : SlideOk r ys a i j zs) (hj : a < j) (hi : i < ys.length) (hlt : r (at0 zs (j - 1)) < r (at0 zs j)) :
  SlideOk r ys a i (j - 1) ((zs.set j (at0 zs (j - 1))).set (j - 1) (at0 zs j)):=by
 obtain ⟨hl,hat,hgt,hp,hr1,hr2⟩ := h;have e1 : at0 zs (j - 1) = at0 ys (j - 1):=by rw [hat _ (by omega),if_pos (by omega)]
 have e2 : at0 zs j = at0 ys i:=by rw [hat _ (by omega),if_neg (by omega),if_pos rfl]
 refine ⟨by simp [hl],fun q hq => ?_,fun q h1 h2 => ?_, ?_,by omega,by omega⟩
 ·rw [at0_set (by simp; omega),at0_set (by omega),e1,e2]
  by_cases h1 : q = j - 1
  ·rw [if_pos h1,if_neg (by omega),if_pos h1]
  ·rw [if_neg h1]
   by_cases h2 : q = j
   ·rw [if_pos h2,if_neg (by omega),if_neg (by omega),if_pos (by omega),h2]
   ·rw [if_neg h2,hat q hq]
    by_cases h3 : q < j
    ·rw [if_pos h3,if_pos (by omega)]
    ·rw [if_neg h3,if_neg h2,if_neg (show ¬ q < j - 1 by omega),if_neg h1]
 ·by_cases e : q = j - 1
  ·subst e; rw [e1,e2] at hlt; exact hlt
  ·exact hgt q (by omega) h2
 ·refine List.Perm.trans ?_ hp
  have hz1 : j < zs.length:=by omega
  have hz2 : j - 1 < zs.length:=by omega
  have:=List.set_set_perm hz1 hz2;rw [← at0_eq hz1,← at0_eq hz2] at this;exact this
theorem SegOk.next {r : Int → Int} {xs ys zs : List Int} {a b i j : Nat} (h : SegOk r xs a b i ys) (s : SlideOk r ys a i j zs) (hi : i < b) (hb : b ≤ xs.length) (ha : a ≤ i) (hx : ∀ p q,a ≤ p → p < q → q < b → at0 xs p < at0 xs q)
  (hend : j = a ∨ ¬ r (at0 zs (j - 1)) < r (at0 zs j)) : SegOk r xs a b (i + 1) zs:=by
 obtain ⟨hl,hout,hord,hlow,hperm⟩ := h;obtain ⟨sl,sat,sgt,sp,sr1,sr2⟩ := s;have xi : at0 ys i = at0 xs i:=hout i (.inr (Nat.le_refl _));have lo : ∀ p,a ≤ p → p < i → at0 ys p < at0 ys i:=fun p h1 h2 => by rw [xi]; exact hlow p i h1 h2 (Nat.le_refl _) hi
 have hend' : j = a ∨ r (at0 ys i) ≤ r (at0 ys (j - 1)):=by
  rcases hend with h | h
  ·exact .inl h
  ·by_cases hja : j = a
   ·exact .inl hja
   ·right
    rw [sat _ (by omega),if_pos (by omega),sat _ (by omega),if_neg (by omega),if_pos rfl] at h
    omega
 refine ⟨by omega,fun q hq => ?_,fun p q h1 h2 h3 => ?_,fun p q h1 h2 h3 h4 => ?_,sp.trans hperm⟩
 ·by_cases hql : q < ys.length
  ·rw [sat q hql]
   rcases hq with hq | hq
   ·rw [if_pos (by omega)]; exact hout q (.inl hq)
   ·rw [if_neg (by omega),if_neg (by omega),if_neg (by omega)]; exact hout q (.inr (by omega))
  ·have e1 : at0 zs q = 0:=by rw [at0,List.getD_eq_getElem?_getD,List.getElem?_eq_none (by omega)]; rfl
   have e2 : at0 xs q = 0:=by rw [at0,List.getD_eq_getElem?_getD,List.getElem?_eq_none (by omega)]; rfl
   rw [e1,e2]
 ·rw [sat p (by omega),sat q (by omega)]
  by_cases p1 : p < j
  ·rw [if_pos p1]
   by_cases q1 : q < j
   ·rw [if_pos q1]; exact hord p q h1 h2 (by omega)
   ·rw [if_neg q1]
    by_cases q2 : q = j
    ·rw [if_pos q2]
     have l1:=lo p h1 (by omega)
     rcases hend' with e | e
     ·omega
     ·by_cases e3 : p = j - 1
      ·subst e3; unfold befo; omega
      ·have:=hord p (j - 1) h1 (by omega) (by omega)
       have l2:=lo (j - 1) (by omega) (by omega)
       unfold befo at this ⊢;omega
    ·rw [if_neg q2,if_pos (by omega)]; exact hord p (q - 1) h1 (by omega) (by omega)
  ·rw [if_neg p1,if_neg (show ¬ q < j by omega),if_neg (show ¬ q = j by omega),if_pos (show q ≤ i by omega)]
   by_cases p2 : p = j
   ·rw [if_pos p2]; exact .inl (sgt (q - 1) (by omega) (by omega))
   ·rw [if_neg p2,if_pos (by omega)]; exact hord (p - 1) (q - 1) (by omega) (by omega) (by omega)
 ·rw [sat p (by omega)]
  by_cases p1 : p < j
  ·rw [if_pos p1]; exact hlow p q h1 (by omega) (by omega) h4
  ·rw [if_neg p1]
   by_cases p2 : p = j
   ·rw [if_pos p2,xi]; exact hx i q ha (by omega) h4
   ·rw [if_neg p2,if_pos (by omega)]; exact hlow (p - 1) q (by omega) (by omega) (by omega) h4
end Go.Oche

/- slices.Sort of at most 12 beds. -/
namespace Go.Proofs.YtnbmgkmcaoafnaaGreatDoor
open Go Go.RowKit Go.Oche Go.Proofs

theorem rowLenBs {W : World} {base n : Nat} {e : TypeId} {v : Value} {xs : List Value} (h : W.ownsRow base e 1 v n xs) : xs.length = n:=by have:=h.1; simpa using this
theorem ints_setBs (xs : List Int) (i : Nat) (x : Int) : (ints xs).set i (.int .i64 x) = ints (xs.set i x):=by simp [ints,List.map_set]
structure SegK (xs : List Int) (i : Nat) (ys : List Int) : Prop where
 perm : ys.Perm xs
 asc : ∀ p q,p < q → q < i → at0 ys p ≤ at0 ys q
structure SlideK (xs : List Int) (i j : Nat) (zs : List Int) : Prop where
 perm : zs.Perm xs
 le : j ≤ i
 asc : ∀ p q,p < q → q ≤ i → p ≠ j → q ≠ j → at0 zs p ≤ at0 zs q
 low : ∀ q,j < q → q ≤ i → at0 zs j ≤ at0 zs q
theorem SegK.start (xs : List Int) : SegK xs 1 xs:=⟨List.Perm.refl _,fun p q h1 h2 => by omega⟩
theorem SegK.slide {xs : List Int} {i : Nat} {ys : List Int} (h : SegK xs i ys) : SlideK xs i i ys :=
 ⟨h.perm,Nat.le_refl _,fun p q h1 h2 _ h4 => h.asc p q h1 (by omega),fun q h1 h2 => by omega⟩
theorem SlideK.next {xs : List Int} {i j : Nat} {zs : List Int} (h : SlideK xs i j zs) (hj : j = 0 ∨ at0 zs (j - 1) ≤ at0 zs j) : SegK xs (i + 1) zs:=by
 refine ⟨h.perm,fun p q h1 h2 => ?_⟩
 by_cases e : p = j
 ·subst e; exact h.low q h1 (by omega)
 by_cases e2 : q = j
 ·subst e2
  rcases hj with e3 | e3
  ·omega
  by_cases e4 : p = q - 1
  ·subst e4; exact e3
  ·exact Int.le_trans (h.asc p (q - 1) (by omega) (by omega) e (by omega)) e3
 ·exact h.asc p q h1 (by omega) e e2
theorem swap_permK {l : List Int} {i j : Nat} (hi : i < l.length) (hj : j < l.length) : ((l.set j (at0 l i)).set i (at0 l j)).Perm l:=by
 rw [at0_eq hi,at0_eq hj];exact List.set_set_perm hj hi
theorem SlideK.step {xs : List Int} {i j : Nat} {zs : List Int} (h : SlideK xs i j zs) (hj : 0 < j) (hi : i < zs.length) (hlt : at0 zs j < at0 zs (j - 1)) : SlideK xs i (j - 1) ((zs.set j (at0 zs (j - 1))).set (j - 1) (at0 zs j)):=by
 have hle:=h.le;have key : ∀ p,at0 ((zs.set j (at0 zs (j - 1))).set (j - 1) (at0 zs j)) p = if p = j - 1 then at0 zs j else if p = j then at0 zs (j - 1) else at0 zs p:=fun p => by
  rw [at0_set (by simp; omega),at0_set (by omega)]
 refine ⟨(swap_permK (by omega) (by omega)).trans h.perm,by omega,fun p q h1 h2 h3 h4 => ?_,fun q h1 h2 => ?_⟩
 ·rw [key,key,if_neg h3,if_neg h4]
  by_cases e : p = j
  ·rw [if_pos e,if_neg (by omega)]; exact h.asc (j - 1) q (by omega) h2 (by omega) (by omega)
  ·rw [if_neg e]
   by_cases e2 : q = j
   ·rw [if_pos e2]; exact h.asc p (j - 1) (by omega) (by omega) (by omega) (by omega)
   ·rw [if_neg e2]; exact h.asc p q h1 h2 e e2
 ·rw [key,key,if_pos rfl,if_neg (by omega)]
  by_cases e : q = j
  ·rw [if_pos e]; omega
  ·rw [if_neg e]; exact h.low q (by omega) h2
theorem isNaNB_any (a : Int) (w : World) : Calls Tryz.prog 122 #[.int .i64 a] w fun e w' => e = .returned (.bool false) ∧ w = w':=by
 go_enter Tryz.func122,Tryz.ntmps122
 go_wp2
 go_ret
 exact ⟨ret_bool (by simp),rfl⟩
theorem less_any (a b : Int) (w : World) : Calls Tryz.prog 114 #[.int .i64 a,.int .i64 b] w fun e w' => e = .returned (.bool (decide (a < b))) ∧ Below w.heap.size w w':=by
 go_enter Tryz.func114,Tryz.ntmps114
 go_wp2_with fail;refine (isNaNB_any a w).mono ?_
 rintro e w1 ⟨rfl,rfl⟩;go_wp2;go_returns;exact ⟨rfl,Below.refl _ _⟩
set_option maxRecDepth 100000 in
set_option maxHeartbeats 4000000 in
theorem insB_any (base g c n : Nat) (xs : List Int) (w : World) (ho : w.ownsRow base 47 1 (.slice (some ⟨g,0,none⟩) n c) n (ints xs)) (hn : n ≤ 100) :
  Calls Tryz.prog 108 #[.slice (some ⟨g,0,none⟩) n c,.int .i64 0,.int .i64 n] w fun e w' =>
   e = .returned (.tuple #[]) ∧ ∃ ys,w'.ownsRow base 47 1 (.slice (some ⟨g,0,none⟩) n c) n (ints ys) ∧ w.grownBy w' (some g) ∧ SegK xs (max 1 n) ys:=by
 have hxl:=rowLenBs ho;simp only [ints_length] at hxl;have HO:=Lib.hid ho;have hw0 : IntKind.i64.wrap ((0 : Int) + 1) = 1:=by decide
 clear ho
 go_enter Tryz.func108,Tryz.ntmps108
 go_wp2_with fail;clear hw0;go_loopw [6] (fun iv wr => ∃ (i : Nat) (ys : List Int),1 ≤ i ∧ i ≤ max 1 n ∧ iv = .int .i64 i ∧ Hid (SegK xs i ys) ∧ Hid (wr.ownsRow base 47 1 (.slice (some ⟨g,0,none⟩) n c) n (ints ys)) ∧ Hid (w.grownBy wr (some g))) (fun iv _ => n - (intOf iv).toNat)
 case atStart => exact ⟨1,xs,by omega,by omega,by go_num,Lib.hid (SegK.start xs),HO,Lib.hid ⟨rfl,rfl,rfl,Nat.le_refl _,fun _ _ _ => rfl⟩⟩
 case round =>
  clear HO;obtain ⟨i,ys,hi1,hi2,rfl,HS,HO,HG⟩ := hrel;by_cases hlt : i < n
  ·obtain ⟨wo,rfl⟩ : ∃ wo : World,wo = wr:=⟨_,rfl⟩
   go_wp2_with fail;go_loopw [7] (fun jv wi => ∃ (j : Nat) (zs : List Int),jv = .int .i64 j ∧ Hid (SlideK xs i j zs) ∧ Hid (wi.ownsRow base 47 1 (.slice (some ⟨g,0,none⟩) n c) n (ints zs)) ∧ Hid (w.grownBy wi (some g))) (fun jv _ => (intOf jv).toNat)
   case atStart => exact ⟨i,ys,rfl,Lib.hid HS.out.slide,HO,HG⟩
   case round =>
    clear HO HG;obtain ⟨j,zs,rfl,HZ,HO,HG⟩ := hrel;have hj2:=HZ.out.le;have HZL : zs.length = n:=by have:=HZ.out.perm.length_eq; omega
    obtain ⟨wi,rfl⟩ : ∃ wi : World,wi = wr:=⟨_,rfl⟩;by_cases hja : 0 < j
    ·have d1 : decide ((0 : Int) < (j : Int)) = true:=decide_eq_true (by omega)
     have d1n : decide (0 < j) = true:=decide_eq_true hja;obtain ⟨m,hm⟩ : ∃ m,j = m + 1:=⟨j - 1,by omega⟩
     have hwm : IntKind.i64.wrap ((j : Int) - 1) = (m : Int):=by rw [IntKind.wrap_i64]; omega
     obtain ⟨x,hx⟩ : ∃ x,at0 zs j = x:=⟨_,rfl⟩;obtain ⟨y,hy⟩ : ∃ y,at0 zs m = y:=⟨_,rfl⟩;have k1 : wi.cell? ⟨g,j,none⟩ = some (.int .i64 x):=by rw [HO.out.cellAt j (by omega),intsAt (by omega),← at0_eq (by omega),hx]
     have k0 : wi.cell? ⟨g,m,none⟩ = some (.int .i64 y):=by rw [HO.out.cellAt m (by omega),intsAt (by omega),← at0_eq (by omega),hy]
     have hm1n : j < n:=by omega
     have hmn : m < n:=by omega
     obtain ⟨bb,hbb⟩ : ∃ bb,decide (x < y) = bb:=⟨_,rfl⟩;have HX:=Lib.hid hx;have HY:=Lib.hid hy;have HBB:=Lib.hid hbb;have HM:=Lib.hid hm;clear hx hy hbb hm;go_wp2_with fail;refine wp_region_seq 15 [.is ?_,.is ?_,.is (.bool true),.is (.bool true),.is ?_,.is ?_,.is ?_,.is ?_,.is ?_,.is ?_,.is ?_,.is ?_,.is ?_,.is (.bool bb),.is (.bool bb)] rfl mix (by kernel_rfl) (by kernel_rfl) ?seqm
     case seqm =>
      simp only [List.take_succ_cons,List.take_zero]
      iterate 4
       refine seq_is rfl (fun w1 hb1 _ => ?_) ?_
       ·simp [opOK,go_sem,hja,Below.refl]
        try exact rfl
       simp only [Act.put,List.setIfInBounds_toArray,List.set_cons_succ,List.set_cons_zero]
      iterate 9
       refine seq_on (by rfl) (fun w1 hb1 _ => ?_) ?_
       ·have k0':=bAt hb1 k0
        have k1':=bAt hb1 k1;simp [opOK,go_sem,k0',k1',hwm,hm1n,hmn,Below.refl]
        try exact rfl
       simp only [Act.put,List.setIfInBounds_toArray,List.set_cons_succ,List.set_cons_zero]
      refine seq_on (by rfl) (fun w1 hb1 _ => ?_) ?_
      ·refine opOK_call (f:=114) (args:=#[.int .i64 x,.int .i64 y]) (by simp [go_sem]) ?_
       refine (less_any x y w1).mono ?_
       rintro e w2 ⟨rfl,hb2⟩;exact ⟨_,rfl,by rw [HBB.out],hb2⟩
      simp only [Act.put,List.setIfInBounds_toArray,List.set_cons_succ,List.set_cons_zero];refine seq_is rfl (fun w1 hb1 _ => ?_) ?_
      ·simp [opOK,go_sem,Below.refl]
       try exact rfl
      simp only [Act.put,List.setIfInBounds_toArray,List.set_cons_succ,List.set_cons_zero];refine seq_end fun w6 hb6 _ => ?_
      simp only [List.drop_succ_cons,List.drop_zero];have hO6:=ownsN_below HO.out hb6;have HO6:=Lib.hid hO6;have hg6:=grownBy_trans HG.out (grownBy_below _ hb6);have HG6:=Lib.hid hg6;have l1:=bAt hb6 k1;have l0:=bAt hb6 k0;have l1f:=hO6.frozenAt j;have l0f:=hO6.frozenAt m;clear k0 k1 hO6 hg6 hb6;cases bb
      ·go_wp2_with fail
       go_roundw
       case rel => exact ⟨i + 1,zs,by omega,by omega,by go_num,Lib.hid (HZ.out.next (.inr (by
        have h1:=of_decide_eq_false HBB.out;have h2:=HM.out;subst h2;rw [Nat.add_sub_cancel,HX.out,HY.out]; omega))),HO6,HG6⟩
       case measure => simp [intOf]; omega
      ·go_wp2_with fail
       have hO6:=HO6.out;obtain ⟨hO8,hg8⟩ := hO6.stored j (.int .i64 y);rw [ints_setBs] at hO8;have HO8:=Lib.hid hO8;have HG8:=Lib.hid (grownBy_trans HG6.out hg8);have HZ9 : Hid (SlideK xs i m ((zs.set j y).set m x)):=Lib.hid (by
        have h2:=HM.out;subst h2;have h1:=of_decide_eq_true HBB.out;have:=HZ.out.step hja (by omega) (by rw [Nat.add_sub_cancel,HX.out,HY.out]; exact h1)
        rw [Nat.add_sub_cancel,HX.out,HY.out] at this;exact this)
       have hmj : ¬ m = j:=by have:=HM.out; omega
       obtain ⟨w8,hw8⟩ : ∃ w8,w6.setCell ⟨g,j,none⟩ (.int .i64 y) = w8:=⟨_,rfl⟩;rw [hw8] at HO8 HG8;have HW8:=Lib.hid hw8;clear hO6 hO8 hg8 hw8;refine wp_region_gen 17 (fun i v _ => match i with
        | 0 | 2 | 5 | 10 => v = .slice (some ⟨g,0,none⟩) n c
        | 1 | 3 | 6 | 11 => v = .int .i64 j
        | 4 | 7 => v = .int .i64 m
        | 8 | 16 => v = .pointer (some ⟨g,m,none⟩)
        | 9 => v = .int .i64 y
        | 12 | 14 => v = .pointer (some ⟨g,j,none⟩)
        | 13 => v = .int .i64 x
        | _ => True) (JSt 15 [9,13] (fun W => W = w6.drew) (fun W => W = w8.drew)) mix (by kernel_rfl) (JSt.start rfl) ?_ ?_
       ·refine ⟨?_, ?_, ?_, ?_, ?_, ?_, ?_, ?_, ?_, ?_, ?_, ?_, ?_, ?_, ?_, ?_, ?_,trivial⟩
        all_goals refine gen_plain rfl fun a W S hSi hJ hpre ht' => ?_
        all_goals
         simp [Region.binds] at hpre
         have t0:=ht' 0 rfl;have t9:=ht' 7 rfl;simp at t0 t9
        iterate 9
         (·simp [opOK,go_sem,hpre,t0,t9,hwm,hmn]
           refine ⟨hJ.read (by omega), ?_⟩
           intro j _ _ v h _
           exact h)
        ·have hW:=hJ.look (i:=9) (by simp) hSi
         have q0 : W.cell? ⟨g,m,none⟩ = some (.int .i64 y):=by rw [hW]; exact l0
         simp [opOK,go_sem,hpre,q0]
         refine ⟨hJ.read (by omega), ?_⟩
         intro j _ _ v h _
         exact h
        iterate 3
         (·simp [opOK,go_sem,hpre,t0,t9,hm1n]
           refine ⟨hJ.read (by omega), ?_⟩
           intro j _ _ v h _
           exact h)
        ·have hW:=hJ.look (i:=13) (by simp) hSi
         have q0 : W.cell? ⟨g,j,none⟩ = some (.int .i64 x):=by rw [hW]; exact l1
         simp [opOK,go_sem,hpre,q0]
         refine ⟨hJ.read (by omega), ?_⟩
         intro j _ _ v h _
         exact h
        ·simp [opOK,go_sem,hpre,hm1n]
         refine ⟨hJ.read (by omega), ?_⟩
         intro j _ _ v h _
         exact h
        ·have hW:=hJ.off hSi
         have q0 : W.cell? ⟨g,j,none⟩ = some (.int .i64 x):=by rw [hW]; exact l1
         have q1 : W.frozen? ⟨g,j,none⟩ = false:=by rw [hW]; exact l1f
         have e8 : W.setCell ⟨g,j,none⟩ (.int .i64 y) = w8.drew:=by rw [hW,← HW8.out]; rfl
         simp [opOK,go_sem,hpre,q0,q1,e8]
         refine ⟨JSt.write (by simp [hpre]) rfl, ?_⟩
         intro j hj _ v h _
         exact h
        ·simp [opOK,go_sem,hpre,hmn]
         refine ⟨hJ.read (by omega), ?_⟩
         intro j _ _ v h _
         exact h
       ·intro W' hJ
        have hW:=hJ.on (by decide)
        subst hW;simp only [List.take_succ_cons,List.take_zero,List.drop_succ_cons,List.drop_zero,EndAll];rintro _ rfl _ rfl _ rfl _ rfl _ rfl _ rfl _ rfl _ rfl _ rfl _ rfl _ rfl _ rfl _ rfl _ rfl _ rfl v15 - _ rfl;have q0 : w8.cell? ⟨g,m,none⟩ = some (.int .i64 y):=by rw [← HW8.out,World.cell?_setCell_other _ _ _ _ (by intro e; cases e; exact hmj rfl)]; exact l0
        have q0f:=HO8.out.frozenAt m;obtain ⟨hO9,hg9⟩ := HO8.out.stored m (.int .i64 x);rw [ints_setBs] at hO9;have HO9:=Lib.hid hO9;have HG9:=Lib.hid (grownBy_trans HG8.out hg9);clear hO9 hg9 l0 l1 l0f l1f hJ;go_wp2_with fail;go_roundw
        case rel => exact ⟨m,_,rfl,HZ9,HO9,Lib.hid ⟨HG9.out.os,HG9.out.tape,HG9.out.output,HG9.out.size,HG9.out.block⟩⟩
        case measure => simp [intOf]; have:=HM.out; omega
    ·have d1 : decide ((0 : Int) < (j : Int)) = false:=decide_eq_false (by omega)
     have d1n : decide (0 < j) = false:=decide_eq_false hja;go_wp2_with fail;refine wp_region_seq 15 [.is ?_,.is ?_,.is (.bool false),.is (.bool false),.is undef,.is undef,.is undef,.is undef,.is undef,.is undef,.is undef,.is undef,.is undef,.is undef,.is (.bool false)] rfl mix (by kernel_rfl) (by kernel_rfl) ?seqm
     case seqm =>
      simp only [List.take_succ_cons,List.take_zero]
      iterate 4
       refine seq_is rfl (fun w1 hb1 _ => ?_) ?_
       ·simp [opOK,go_sem,hja,Below.refl]
        try exact rfl
       simp only [Act.put,List.setIfInBounds_toArray,List.set_cons_succ,List.set_cons_zero]
      iterate 10
       refine seq_off (by rfl) ?_
       simp only [Act.put,List.setIfInBounds_toArray,List.set_cons_succ,List.set_cons_zero]
      refine seq_is rfl (fun w1 hb1 _ => ?_) ?_
      ·simp [opOK,go_sem,Below.refl]
       try exact rfl
      simp only [Act.put,List.setIfInBounds_toArray,List.set_cons_succ,List.set_cons_zero];refine seq_end fun w6 hb6 _ => ?_
      simp only [List.drop_succ_cons,List.drop_zero];have HO6:=Lib.hid (ownsN_below HO.out hb6);have HG6:=Lib.hid (grownBy_trans HG.out (grownBy_below _ hb6));clear hb6;go_wp2_with fail;go_roundw
      case rel => exact ⟨i + 1,zs,by omega,by omega,by go_num,Lib.hid (HZ.out.next (.inl (by omega))),HO6,HG6⟩
      case measure => simp [intOf]; omega
  ·obtain rfl : i = max 1 n:=by omega
   go_wp2;go_returns;exact ⟨rfl,ys,HO.out,HG.out,HS.out⟩
set_option maxRecDepth 100000 in
set_option maxHeartbeats 4000000 in
theorem bitsLen_small (n : Nat) (hn : n ≤ 12) (w : World) : Calls Tryz.prog 72 #[.int .u64 n] w fun e w' => ∃ L : Int,e = .returned (.int .i64 L) ∧ w = w':=by
 have h : n = 0 ∨ n = 1 ∨ n = 2 ∨ n = 3 ∨ n = 4 ∨ n = 5 ∨ n = 6 ∨ n = 7 ∨ n = 8 ∨ n = 9 ∨ n = 10 ∨ n = 11 ∨ n = 12:=by omega
 rcases h with rfl | rfl | rfl | rfl | rfl | rfl | rfl | rfl | rfl | rfl | rfl | rfl | rfl
 all_goals
  go_enter Tryz.func72,Tryz.ntmps72
  go_wp2_with fail;refine Calls.mono (R:=fun e w' => ∃ L : Int,e = .returned (.int .i64 L) ∧ w = w') ?_ ?_
  ·go_enter Tryz.func118,Tryz.ntmps118
   go_wp2;go_returns;exact ⟨_,rfl,rfl⟩
  ·rintro e w1 ⟨L,rfl,rfl⟩
   go_wp2;go_returns;exact ⟨_,rfl,rfl⟩
set_option maxRecDepth 100000 in
set_option maxHeartbeats 4000000 in
theorem pdqB_any (base g c n : Nat) (L : Int) (xs : List Int) (w : World) (ho : w.ownsRow base 47 1 (.slice (some ⟨g,0,none⟩) n c) n (ints xs)) (hn : n ≤ 12) :
  Calls Tryz.prog 71 #[.slice (some ⟨g,0,none⟩) n c,.int .i64 0,.int .i64 n,.int .i64 L] w fun e w' =>
   e = .returned (.tuple #[]) ∧ ∃ ys,w'.ownsRow base 47 1 (.slice (some ⟨g,0,none⟩) n c) n (ints ys) ∧ w.grownBy w' (some g) ∧ SegK xs (max 1 n) ys:=by
 have d1 : decide ((n : Int) ≤ 12) = true:=decide_eq_true (by omega)
 have d1n : decide (n ≤ 12) = true:=decide_eq_true hn;have hw0 : IntKind.i64.wrap (n : Int) = n:=wrap_small _ (by omega) (by omega)
 have HO:=Lib.hid ho;clear ho
 go_enter Tryz.func71,Tryz.ntmps71
 go_wp2_with fail;go_loopw [1,2,3] (fun av bv lv wr => av = .int .i64 0 ∧ bv = .int .i64 n ∧ lv = .int .i64 L ∧ Hid (wr = w)) (fun _ _ _ _ => 0)
 case atStart => exact ⟨rfl,rfl,rfl,Lib.hid rfl⟩
 case round =>
  obtain ⟨rfl,rfl,rfl,HW⟩ := hrel;go_wp2_with fail;have hw:=HW.out;subst hw;refine (insB_any base g c n xs _ HO.out (by omega)).mono ?_
  rintro e w1 ⟨rfl,ys,h1,h2,h3⟩;have H1:=Lib.hid h1;have H2:=Lib.hid h2;have H3:=Lib.hid h3;clear h1 h2 h3;go_wp2;go_returns;exact ⟨rfl,ys,H1.out,H2.out,H3.out⟩
set_option maxRecDepth 100000 in
set_option maxHeartbeats 4000000 in
theorem sortB_any (base g c n : Nat) (xs : List Int) (w : World) (ho : w.ownsRow base 47 1 (.slice (some ⟨g,0,none⟩) n c) n (ints xs)) (hn : n ≤ 12) :
  Calls Tryz.prog 37 #[.slice (some ⟨g,0,none⟩) n c] w fun e w' =>
   e = .returned (.tuple #[]) ∧ ∃ ys,w'.ownsRow base 47 1 (.slice (some ⟨g,0,none⟩) n c) n (ints ys) ∧ w.grownBy w' (some g) ∧ SegK xs (max 1 n) ys:=by
 have hw0 : IntKind.u64.wrap (n : Int) = n:=by rw [IntKind.wrap_u64]; omega
 have HO:=Lib.hid ho;clear ho
 go_enter Tryz.func37,Tryz.ntmps37
 go_wp2_with fail;refine (bitsLen_small n hn w).mono ?_
 rintro e w0 ⟨L,rfl,rfl⟩;go_wp2_with fail;refine (pdqB_any base g c n L xs _ HO.out hn).mono ?_
 rintro e w1 ⟨rfl,ys,h1,h2,h3⟩;have H1:=Lib.hid h1;have H2:=Lib.hid h2;have H3:=Lib.hid h3;clear h1 h2 h3;go_wp2;go_returns;exact ⟨rfl,ys,H1.out,H2.out,H3.out⟩
open Go Go.RowKit Go.Oche Go.Proofs

theorem mem_updB {κ : Type} [DecidableEq κ] {v : Value} {k x : κ} : ∀ {L : List (κ × Value)},x ∈ (upd L k v).map (·.1) ↔ x = k ∨ x ∈ L.map (·.1)
 | [] => by simp [upd]
 | (k',v') :: L => by
  unfold upd;split
  ·rename_i h
   have h' : k' = k:=h;subst h';simp
  ·simp [mem_updB (L:=L)]
   constructor
   ·rintro (h | h | h)
    ·exact .inr (.inl h)
    ·exact .inl h
    ·exact .inr (.inr h)
   ·rintro (h | h | h)
    ·exact .inr (.inl h)
    ·exact .inl h
    ·exact .inr (.inr h)
theorem nodup_updB {κ : Type} [DecidableEq κ] {v : Value} {k : κ} : ∀ {L : List (κ × Value)},(L.map (·.1)).Nodup → ((upd L k v).map (·.1)).Nodup
 | [],_ => by simp [upd]
 | (k',v') :: L,h => by
  rw [List.map_cons,List.nodup_cons] at h;unfold upd;split
  ·rename_i e
   have e' : k' = k:=e;subst e';rw [List.map_cons,List.nodup_cons];exact h
  ·rename_i e
   rw [List.map_cons,List.nodup_cons];refine ⟨fun hm => ?_,nodup_updB h.2⟩
   rcases mem_updB.1 hm with h1 | h1
   ·exact e h1
   ·exact h.1 h1
def ringB (ns : List Int) (r : Int × Int) : List Int:=if 0 < r.2 then ns.map fun n => 100 * r.2 + n else []
def keysB (b : Bd) : List Int:=125 :: 225 :: b.rings.flatMap (ringB b.ns)
def KeysAt (b : Bd) (i j : Nat) (L : List (Int × Value)) : Prop:=(L.map (·.1)).Nodup ∧ ∀ x,x ∈ L.map (·.1) ↔ x ∈ 125 :: 225 :: ((b.rings.take i).flatMap (ringB b.ns) ++ (ringB (b.ns.take j) (b.rings.getD i (0,0))))
theorem KeysAt.next {b : Bd} {i : Nat} {L : List (Int × Value)} (h : KeysAt b i b.ns.length L) (hi : i < b.rings.length) : KeysAt b (i + 1) 0 L:=by
 refine ⟨h.1,fun x => (h.2 x).trans ?_⟩
 have e0 : ringB (b.ns.take 0) (b.rings.getD (i + 1) (0,0)) = []:=by unfold ringB; split <;> simp
 rw [e0,List.append_nil,List.take_length,List.take_succ_eq_append_getElem hi,List.flatMap_append,List.getD_eq_getElem?_getD,List.getElem?_eq_getElem hi]
 simp
theorem KeysAt.zero {b : Bd} {i j : Nat} {L : List (Int × Value)} {r : Int × Int} (h : KeysAt b i j L) (hr : b.rings.getD i (0,0) = r) (h0 : ¬ 0 < r.2) : KeysAt b i (j + 1) L:=by
 refine ⟨h.1,fun x => (h.2 x).trans ?_⟩
 rw [hr];unfold ringB;rw [if_neg h0,if_neg h0]
theorem KeysAt.more {b : Bd} {i j : Nat} {L : List (Int × Value)} {r : Int × Int} {n : Int} (h : KeysAt b i j L) (hr : b.rings.getD i (0,0) = r) (h0 : 0 < r.2) (hj : b.ns[j]? = some n) (v : Value) : KeysAt b i (j + 1) (upd L (100 * r.2 + n) v):=by
 refine ⟨nodup_updB h.1,fun x => ?_⟩
 rw [mem_updB,h.2 x,hr];unfold ringB;rw [if_pos h0,if_pos h0,List.take_add_one,hj];simp;constructor
 ·rintro (h | h | h | h | h)
  ·exact .inr (.inr (.inr (.inr h)))
  ·exact .inl h
  ·exact .inr (.inl h)
  ·exact .inr (.inr (.inl h))
  ·exact .inr (.inr (.inr (.inl h)))
 ·rintro (h | h | h | h | h)
  ·exact .inr (.inl h)
  ·exact .inr (.inr (.inl h))
  ·exact .inr (.inr (.inr (.inl h)))
  ·exact .inr (.inr (.inr (.inr h)))
  ·exact .inl h
theorem KeysAt.done {b : Bd} {L : List (Int × Value)} (h : KeysAt b b.rings.length 0 L) : (L.map (·.1)).Nodup ∧ ∀ x,x ∈ L.map (·.1) ↔ x ∈ keysB b:=by
 refine ⟨h.1,fun x => (h.2 x).trans ?_⟩
 have e0 : ringB (b.ns.take 0) (b.rings.getD b.rings.length (0,0)) = []:=by unfold ringB; split <;> simp
 rw [e0,List.append_nil,List.take_length]
 rfl
theorem asc_ext : ∀ {xs ys : List Int},xs.Pairwise (· < ·) → ys.Pairwise (· < ·) → (∀ x,x ∈ xs ↔ x ∈ ys) → xs = ys
 | [],[],_,_,_ => rfl
 | [],y :: ys,_,_,h => by have:=(h y).2 (List.mem_cons_self ..); cases this
 | x :: xs,[],_,_,h => by have:=(h x).1 (List.mem_cons_self ..); cases this
 | x :: xs,y :: ys,hx,hy,h => by
  rw [List.pairwise_cons] at hx hy;have e : x = y:=by
   rcases List.mem_cons.1 ((h x).1 (List.mem_cons_self ..)) with e | e
   ·exact e
   ·rcases List.mem_cons.1 ((h y).2 (List.mem_cons_self ..)) with e2 | e2
    ·exact e2.symm
    ·have:=hx.1 y e2; have:=hy.1 x e; omega
  subst e;rw [asc_ext hx.2 hy.2 fun z => ?_]
  have hz:=h z;simp only [List.mem_cons] at hz;constructor
  ·intro hm
   rcases hz.1 (.inr hm) with e | e
   ·subst e; have:=hx.1 z hm; omega
   ·exact e
  ·intro hm
   rcases hz.2 (.inr hm) with e | e
   ·subst e; have:=hy.1 z hm; omega
   ·exact e
theorem seg_asc {xs ys : List Int} {n : Nat} (h : SegK xs n ys) (hn : ys.length ≤ n) (hd : xs.Nodup) : ys.Pairwise (· < ·):=by
 have hdy : ys.Nodup:=h.perm.nodup_iff.2 hd;rw [List.pairwise_iff_getElem];intro i j hi hj hij;have h1:=h.asc i j hij (by omega)
 rw [at0_eq hi,at0_eq hj] at h1;have h2:=List.pairwise_iff_getElem.1 hdy i j hi hj hij;omega
set_option maxRecDepth 100000 in
set_option maxHeartbeats 4000000 in
theorem sortedBb_any (L : List (Int × Value)) (pb M : Nat) (w : World) (cb : w.cell? ⟨pb,0,none⟩ = some (.map (some M))) (hm : MapAt (Value.int .i64) w M L) (hn : (L.map (·.1)).Nodup) (hl : L.length ≤ 12) (h0 : 0 < L.length) :
  Calls Tryz.prog 16 #[.func (.func 38) #[] #[.pointer (some ⟨pb,0,none⟩)]] w fun e w' =>
   ∃ v ys,e = .returned v ∧ Below w.heap.size w w' ∧ ys.Pairwise (· < ·) ∧ (∀ x,x ∈ ys ↔ x ∈ L.map (·.1)) ∧ w'.ownsRow w.heap.size 47 1 v ys.length (ints ys):=by
 have HC:=Lib.hid (collect_anyBb L pb M w cb hm hn (by omega))
 have HND:=Lib.hid hn;clear cb hm hn
 go_enter Tryz.func16,Tryz.ntmps16
 go_wp2_with fail;refine HC.out.mono ?_
 rintro e w1 ⟨v',ks,rfl,hb,hp,ho⟩;have hkl : ks.length = L.length:=by rw [hp.length_eq,List.length_map]
 obtain ⟨kn,hkn⟩ : ∃ n,ks.length = n:=⟨_,rfl⟩;rw [hkn] at ho hkl;obtain ⟨g,c,rfl⟩ : ∃ g c,v' = .slice (some ⟨g,0,none⟩) kn c:=by
  rcases ho.2 with ⟨-,h⟩ | ⟨g,c,cur,e, -⟩
  ·omega
  ·exact ⟨g,c,e⟩
 have HB:=Lib.hid hb;have HP:=Lib.hid hp;have HO:=Lib.hid ho;have HKN:=Lib.hid hkn;have hk12 : kn ≤ 12:=by omega
 have hgl:=ho.lt g rfl;clear hb hp ho hkn hkl HC;go_wp2_with fail;refine (sortB_any w.heap.size g c kn ks w1 HO.out hk12).mono ?_
 rintro e w2 ⟨rfl,ys,h1,h2,h3⟩;have HYL : Hid (ys.length = kn):=Lib.hid (by rw [← HKN.out]; exact h3.perm.length_eq)
 have HB2 : Hid (Below w.heap.size w w2):=Lib.hid (HB.out.trans (below_grownBy h2 HB.out.size (fun k hk => by have:=Option.some.inj hk; omega)))
 have HY : Hid (ys.Pairwise (· < ·)):=Lib.hid (seg_asc h3 (by rw [HYL.out]; omega) (HP.out.nodup_iff.2 HND.out))
 have HM : Hid (∀ x,x ∈ ys ↔ x ∈ L.map (·.1)):=Lib.hid (fun x => (h3.perm.mem_iff).trans HP.out.mem_iff)
 have HO2:=Lib.hid h1;clear h1 h2 h3;go_wp2;go_returns;exact ⟨_,ys,rfl,HB2.out,HY.out,HM.out,by rw [HYL.out]; exact HO2.out⟩
set_option maxRecDepth 100000 in
set_option maxHeartbeats 8000000 in
theorem allB_any {S : Nat → Prop} (b : Bd) (hok : BdOk b) (h12 : (keysB b).length ≤ 12) (rv lv nv : Value) (w : World) (hat : BdAt S w b rv lv nv) :
  Calls Tryz.prog 4 #[bdV b rv lv nv] w fun e w' => ∃ v ys,e = .returned (.tuple #[v,.int .i64 0]) ∧ Below w.heap.size w w' ∧ ys.Pairwise (· < ·) ∧ (∀ x,x ∈ ys ↔ x ∈ keysB b) ∧ w'.ownsRow w.heap.size 47 1 v ys.length (ints ys):=by
 obtain ⟨ra,rc,hrv,hr2,hr3⟩ := hat.rs.form;obtain ⟨la,lc,hlv, -, -⟩ := hat.ls.form;obtain ⟨na,nc,hnv,hn2,hn3⟩ := hat.ns.form;rw [List.length_map] at hrv hr2;rw [ints_length] at hnv hn2;obtain ⟨n,hn⟩ : ∃ n,b.rings.length = n:=⟨_,rfl⟩;obtain ⟨ln,hln⟩ : ∃ n,(b.lines.map ptRow).length = n:=⟨_,rfl⟩;obtain ⟨m,hm⟩ : ∃ n,b.ns.length = n:=⟨_,rfl⟩;rw [hn] at hrv hr2;rw [hln] at hlv;rw [hm] at hnv hn2;unfold maxLen at hr3 hn3;subst hrv hlv hnv;obtain ⟨w1,hw1,hb1,hz1,kb⟩ := one_bd b (.slice ra n rc) (.slice la ln lc) (.slice na m nc) 35 w;obtain ⟨N,hN⟩ : ∃ N,w.heap.size = N:=⟨_,rfl⟩;rw [hN] at hz1 kb;have hr0:=hok.r0.2;rw [hn] at hr0;have hn0:=hok.n0;have hl0:=hok.l0.2;have hm20 : m ≤ 20:=by omega
 have HAT:=Lib.hid (hat.inn.below hb1);have HAT0:=Lib.hid hat.inn;have HB : Hid (Below N w w1):=Lib.hid (by rw [← hN]; exact hb1)
 have HW:=Lib.hid hw1;have HN:=Lib.hid hN;have HOK:=Lib.hid hok;have HRN:=Lib.hid hn;have HNN:=Lib.hid hm;have HZ1:=Lib.hid hz1;have HKB:=Lib.hid kb;obtain ⟨b0,b1,b2,b3,b4,b5⟩ := bd_cells kb;have H12:=Lib.hid h12;unfold bdV bdA at *;clear hw1 hb1 hz1 kb hat hok hN hn hln hm hn0 hl0 h12
 go_enter Tryz.func4,Tryz.ntmps4
 go_upto_region 1 with fail
 rw [HW.out,HN.out];go_wp2_with fail;have hcall:=openB_any b HOK.out (.slice ra n rc) (.slice la ln lc) (.slice na m nc) w1 HAT.out;unfold bdV bdA at hcall;refine hcall.mono ?_
 rintro e w2 ⟨rfl,hb2⟩;clear hcall b0 b1 b2 b3 b4 b5;have HAT2:=Lib.hid (HAT.out.below hb2);have HKB2:=Lib.hid ((hb2.block N (by rw [HZ1.out]; omega)).trans HKB.out)
 have HB2 : Hid (Below N w w2):=Lib.hid (HB.out.trans (hb2.mono (by rw [HZ1.out]; omega)))
 have hz2 : N + 1 ≤ w2.heap.size:=by have:=hb2.size; rw [HZ1.out] at this; exact this
 obtain ⟨w3,hw3⟩ : ∃ z,w2.alloc (.cells #[.int .i64 b.eye,.int .i64 b.bull,.slice ra n rc,.slice la ln lc,.slice na m nc,.int .i64 0] 72) = z:=⟨_,rfl⟩;have hb3 : Below w2.heap.size w2 w3:=by rw [← hw3]; exact aB _ _
 have HAT3:=Lib.hid (HAT2.out.below hb3);have HKB3:=Lib.hid ((hb3.block N (by omega)).trans HKB2.out)
 have HB3 : Hid (Below N w w3):=Lib.hid (HB2.out.trans (hb3.mono (by omega)))
 have hz3 : N + 1 ≤ w3.heap.size:=by have:=hb3.size; omega
 have HW3:=Lib.hid hw3;clear hb2 hw3 hb3 HAT HAT2 HKB HKB2 HB HB2 hz2;go_upto_region 4 with fail;rw [HW3.out];obtain ⟨w4,hw4⟩ : ∃ z,w3.alloc (.map #[] 0) = z:=⟨_,rfl⟩;have hb4 : Below w3.heap.size w3 w4:=by rw [← hw4]; exact aB _ _
 have hma : MapAt (Value.int .i64) w4 w3.heap.size []:=by rw [← hw4]; exact MapAt.made _ _
 have hz4 : w4.heap.size = w3.heap.size + 1:=by rw [← hw4]; simp
 obtain ⟨w5,hi5,hm5,hg5⟩ := hma.update (KeyEq.int (q:=.i64) Tryz.underlying47) (T:=75) (E:=4) (by rfl) 125 (.bool true)
 obtain ⟨w6,hi6,hm6,hg6⟩ := hm5.update (KeyEq.int (q:=.i64) Tryz.underlying47) (T:=75) (E:=4) (by rfl) 225 (.bool true)
 have hmm := @run_makeMap Tryz.prog;have HB4 : Hid (Below N w w4):=Lib.hid (HB3.out.trans (hb4.mono (by omega)))
 have HKB4:=Lib.hid ((hb4.block N (by omega)).trans HKB3.out)
 have HAT4:=Lib.hid (HAT3.out.below hb4);have HW4:=Lib.hid hw4;obtain ⟨M,hM⟩ : ∃ M,w3.heap.size = M:=⟨_,rfl⟩;rw [hM] at hi5 hi6 hm5 hm6 hg5 hg6 hz4;have HM:=Lib.hid hM;clear hw4 hb4 hma hM;refine wp_region_lit ?_
 refine wpList_opOK (R:=fun v w' => v = .map (some M) ∧ w4 = w') rfl (opOK_val (v:=.map (some M)) (w':=w4) (by simp [go_sem,execOp,hmm,HM.out,HW4.out]) ⟨rfl,rfl⟩) ?_
 rintro _ _ ⟨rfl,rfl⟩;simp only [Act.put,List.setIfInBounds_toArray,List.set_cons_succ,List.set_cons_zero];refine wpList_opOK (R:=fun v w' => w5 = w') rfl (opOK_skip (w':=w5) (by simp [go_sem,execOp,hi5]) rfl) ?_
 rintro _ _ rfl;simp only [Act.put];refine wpList_opOK (R:=fun v w' => w6 = w') rfl (opOK_skip (w':=w6) (by simp [go_sem,execOp,hi6]) rfl) ?_
 rintro _ _ rfl;simp only [Act.put];clear hmm hi5 hi6;have HMA : Hid (∃ L,MapAt (Value.int .i64) w6 M L ∧ KeysAt b 0 0 L):=Lib.hid ⟨_,hm6,by
  unfold KeysAt;have e0 : ringB (b.ns.take 0) (b.rings.getD 0 (0,0)) = []:=by unfold ringB; split <;> simp
  rw [e0];simp [upd]⟩
 have hNM : N < M:=by rw [← HM.out]; omega
 have HKB6 : Hid (w6.heap[N]? = some (.cells #[.int .i64 b.eye,.int .i64 b.bull,.slice ra n rc,.slice la ln lc,.slice na m nc,.int .i64 0] 35 (0,0))):=Lib.hid ((hg6.block N (by have:=hg5.size; omega) (fun e => by have:=Option.some.inj e; omega)).trans ((hg5.block N (by omega) (fun e => by have:=Option.some.inj e; omega)).trans HKB4.out))
 have HB6 : Hid (Below N w w6):=Lib.hid ((HB4.out.trans (below_grownBy hg5 (by omega) (fun k hk => by have:=Option.some.inj hk; omega))).trans (below_grownBy hg6 (by have:=hg5.size; omega) (fun k hk => by have:=Option.some.inj hk; omega)))
 have hz6 : M + 1 ≤ w6.heap.size:=by have:=hg5.size; have:=hg6.size; omega
 have HATw : Hid (∀ W,Below N w W → BdAt (fun k => k < w.heap.size) W b (.slice ra n rc) (.slice la ln lc) (.slice na m nc)):=Lib.hid (fun W hb => by
  have h:=HAT0.out;exact h.below (by rw [HN.out]; exact hb))
 clear hm5 hm6 hg5 hg6 hz4 HKB4 HB4 HAT4 HAT3 HKB3 HB3 hz3;obtain ⟨b0,b1,b2,b3,b4,b5⟩ := bd_cells (b:=b) HKB6.out;go_wp2_with fail;clear b0 b1 b2 b3 b4 b5;obtain ⟨BA,hBA⟩ : ∃ c : Array Value, #[.int .i64 b.eye,.int .i64 b.bull,.slice ra n rc,.slice la ln lc,.slice na m nc,.int .i64 0] = c:=⟨_,rfl⟩;have HBA:=Lib.hid hBA;have HKB6' : Hid (w6.heap[N]? = some (.cells BA 35 (0,0))):=Lib.hid (by rw [← hBA]; exact HKB6.out)
 clear HKB6;go_loopw [24] (fun iv wr => ∃ (i : Nat),i ≤ n ∧ iv = .int .i64 (i : Int) ∧ Hid (∃ L,MapAt (Value.int .i64) wr M L ∧ KeysAt b i 0 L) ∧ Hid (wr.heap[N]? = some (.cells BA 35 (0,0))) ∧ Hid (Below N w wr) ∧ M + 1 ≤ wr.heap.size) (fun iv _ => n - (intOf iv).toNat)
 case atStart => exact ⟨0,Nat.zero_le _,rfl,HMA,HKB6',HB6,hz6⟩
 case round =>
  clear HMA HKB6' HB6 hz6;obtain ⟨i,hi,rfl,HMA,HKB,HBr,hsz⟩ := hrel;obtain ⟨wo,rfl⟩ : ∃ wo : World,wo = wr:=⟨_,rfl⟩;by_cases hlt : i < n
  ·have hil : i < b.rings.length:=by rw [HRN.out]; exact hlt
   obtain ⟨bk,off,hal, -, -,hc⟩ := (HATw.out wo HBr.out).rs.cell (show i < (b.rings.map ptRow).length by rw [List.length_map]; exact hil)
   cases hal;obtain ⟨⟨ro,rf⟩,hr⟩ : ∃ r,b.rings[i] = r:=⟨_,rfl⟩;have hrm : (ro,rf) ∈ b.rings:=by rw [← hr]; exact List.getElem_mem hil
   have hrf:=HOK.out.rf _ hrm;simp only at hrf;have z0:=hc 0 (.int .i64 ro) (by simp [ptRow,hr])
   have z1:=hc 1 (.int .i64 rf) (by simp [ptRow,hr])
   simp only [Nat.add_zero] at z0;have HRG : Hid (b.rings.getD i (0,0) = (ro,rf)):=Lib.hid (by rw [List.getD_eq_getElem?_getD,List.getElem?_eq_getElem hil,hr]; rfl)
   obtain ⟨Q,hQ⟩ : ∃ Q,wo.heap.size = Q:=⟨_,rfl⟩;obtain ⟨w7,hw7⟩ : ∃ z,wo.alloc (.cells #[.int .i64 ro,.int .i64 rf] 28) = z:=⟨_,rfl⟩;have hb7 : Below wo.heap.size wo w7:=by rw [← hw7]; exact aB _ _
   have k7 : w7.heap[Q]? = some (.cells #[.int .i64 ro,.int .i64 rf] 28 (0,0)):=by rw [← hw7,← hQ]; exact World.alloc_heap_new _ _
   have HMA7 : Hid (∃ L,MapAt (Value.int .i64) w7 M L ∧ KeysAt b i 0 L):=Lib.hid (let ⟨L,h1,h2⟩ := HMA.out; ⟨L,h1.below hb7,h2⟩);have HKB7:=Lib.hid ((hb7.block N (by omega)).trans HKB.out)
   have HB7 : Hid (Below N w w7):=Lib.hid (HBr.out.trans (hb7.mono (by omega)))
   have hz7 : Q + 1 ≤ w7.heap.size:=by rw [← hw7,← hQ]; simp
   have hMQ : M < Q:=by omega
   have HK7:=Lib.hid k7;have HW7:=Lib.hid hw7;have HQ:=Lib.hid hQ;have hii : (i : Int) < (n : Int):=by omega
   have hwi : IntKind.i64.wrap ((i : Int) + 1) = (i : Int) + 1:=wrap_small _ (by omega) (by omega)
   clear hc hr hrm hw7 hQ hb7 k7 HMA HKB HBr hil hsz;go_upto_region 8 with fail;rw [HW7.out,HQ.out];clear z0 z1;have q4 : w7.cell? ⟨N,4,none⟩ = some (.slice na m nc):=by rw [cell_of_heap HKB7.out,← HBA.out]; rfl
   go_upto_region 9 with fail
   clear q4;go_loopw [31] (fun jv wr => ∃ (j : Nat),j ≤ m ∧ jv = .int .i64 (j : Int) ∧ Hid (∃ L,MapAt (Value.int .i64) wr M L ∧ KeysAt b i j L) ∧ Hid (wr.heap[N]? = some (.cells BA 35 (0,0))) ∧ Hid (wr.heap[Q]? = some (.cells #[.int .i64 ro,.int .i64 rf] 28 (0,0))) ∧ Hid (Below N w wr) ∧ Q + 1 ≤ wr.heap.size) (fun jv _ => m - (intOf jv).toNat)
   case atStart => exact ⟨0,Nat.zero_le _,rfl,HMA7,HKB7,HK7,HB7,hz7⟩
   case round =>
    clear HMA7 HKB7 HK7 HB7 hz7;obtain ⟨j,hj,rfl,HMA,HKB,HKQ,HBr,hsz⟩ := hrel;obtain ⟨wi,rfl⟩ : ∃ wo : World,wo = wr:=⟨_,rfl⟩;by_cases hlj : j < m
    ·have hjl : j < b.ns.length:=by rw [HNN.out]; exact hlj
     obtain ⟨bn,offn,hal, -,hcn⟩ := sl_cellB (HATw.out wi HBr.out).ns hjl;cases hal;obtain ⟨x,hx⟩ : ∃ x,b.ns[j] = x:=⟨_,rfl⟩;rw [hx] at hcn;have hxr:=HOK.out.nr x (by rw [← hx]; exact List.getElem_mem hjl)
     have HJX : Hid (b.ns[j]? = some x):=Lib.hid (by rw [List.getElem?_eq_getElem hjl,hx])
     have hjj : (j : Int) < (m : Int):=by omega
     have hwj : IntKind.i64.wrap ((j : Int) + 1) = (j : Int) + 1:=wrap_small _ (by omega) (by omega)
     have q1 : wi.cell? ⟨Q,1,none⟩ = some (.int .i64 rf):=by rw [cell_of_heap HKQ.out]; rfl
     by_cases h0 : 0 < rf
     ·have t1 : decide (0 < rf) = true:=decide_eq_true h0
      have w1' : IntKind.i64.wrap (100 * rf) = 100 * rf:=wrap_small _ (by omega) (by omega)
      have w2' : IntKind.i64.wrap (100 * rf + x) = 100 * rf + x:=wrap_small _ (by omega) (by omega)
      obtain ⟨L,hL1,hL2⟩ := HMA.out;obtain ⟨wu,hup,hmu,hgu⟩ := hL1.update (KeyEq.int (q:=.i64) Tryz.underlying47) (T:=75) (E:=4) (by rfl) (100 * rf + x) (.bool true)
      have HMU : Hid (∃ L,MapAt (Value.int .i64) wu M L ∧ KeysAt b i (j + 1) L):=Lib.hid ⟨_,hmu,hL2.more HRG.out h0 HJX.out _⟩;have HKU:=Lib.hid ((hgu.block N (by omega) (fun e => by have:=Option.some.inj e; omega)).trans HKB.out)
      have HQU:=Lib.hid ((hgu.block Q (by omega) (fun e => by have:=Option.some.inj e; omega)).trans HKQ.out)
      have HBU : Hid (Below N w wu):=Lib.hid (HBr.out.trans (below_grownBy hgu (by omega) (fun x hx => by have:=Option.some.inj hx; omega)))
      have hszu : Q + 1 ≤ wu.heap.size:=by have:=hgu.size; omega
      clear hx hxr hjl hL1 hL2 hmu hgu h0 HMA HKB HKQ HBr;go_wp2_with fail;go_roundw
      case rel => exact ⟨j + 1,by omega,by go_num,HMU,HKU,HQU,HBU,hszu⟩
      case measure => simp [intOf]; omega
     ·have t1 : decide (0 < rf) = false:=decide_eq_false h0
      have HMU : Hid (∃ L,MapAt (Value.int .i64) wi M L ∧ KeysAt b i (j + 1) L):=Lib.hid (let ⟨L,h1,h2⟩ := HMA.out; ⟨L,h1,h2.zero HRG.out h0⟩);clear hx hxr hjl h0 HMA;go_wp2_with fail;go_roundw
      case rel => exact ⟨j + 1,by omega,by go_num,HMU,HKB,HKQ,HBr,hsz⟩
      case measure => simp [intOf]; omega
    ·obtain rfl : j = m:=by omega
     have HMN : Hid (∃ L,MapAt (Value.int .i64) wi M L ∧ KeysAt b (i + 1) 0 L):=Lib.hid (let ⟨L,h1,h2⟩ := HMA.out; ⟨L,h1,(show KeysAt b i b.ns.length L by rw [HNN.out]; exact h2).next (by rw [HRN.out]; exact hlt)⟩)
     have hszM : M + 1 ≤ wi.heap.size:=by omega
     clear HMA;go_wp2_with fail;go_roundw
     case rel => exact ⟨i + 1,by omega,by go_num,HMN,HKB,HBr,hszM⟩
     case measure => simp [intOf]; omega
  ·obtain rfl : i = n:=by omega
   obtain ⟨L,hL1,hL2⟩ := HMA.out;rw [← HRN.out] at hL2;obtain ⟨hnd,hmem⟩ := hL2.done;have hlen : L.length ≤ 12:=by
    have h1:=List.Nodup.length_le_of_subset hnd (l₂ := keysB b) (fun k hk => (hmem k).1 hk)
    rw [List.length_map] at h1;have:=H12.out; omega
   have h0 : 0 < L.length:=by
    have h1:=(hmem 125).2 (by unfold keysB; simp)
    cases L with
    | nil => cases h1
    | cons x xs => simp
   have HM1:=Lib.hid hL1;have HND:=Lib.hid hnd;have HMEM:=Lib.hid hmem;clear hL1 hL2 hnd hmem HMA;go_wp2_with fail;refine (keys_anyBb M wo).mono ?_
   rintro e w7 ⟨rfl,hw7⟩;have hb7 : Below wo.heap.size wo w7:=by rw [hw7]; exact aB _ _
   have k7 : w7.cell? ⟨wo.heap.size,0,none⟩ = some (.map (some M)):=by rw [hw7]; exact cell_new _ _ _
   have HB7 : Hid (Below N w w7):=Lib.hid (HBr.out.trans (hb7.mono (by omega)))
   have HM7:=Lib.hid (HM1.out.below hb7);have hz7 : N ≤ w7.heap.size:=by have:=hb7.size; omega
   clear hw7 hb7;go_wp2_with fail;refine (sortedBb_any L wo.heap.size M w7 k7 HM7.out HND.out hlen h0).mono ?_
   rintro e w8 ⟨v,ys,rfl,hb8,hy,hm,ho⟩;obtain ⟨va,vc,rfl⟩ := owns_form ho;have HB8 : Hid (Below N w w8):=Lib.hid (HB7.out.trans (hb8.mono hz7));have HY:=Lib.hid hy;have HMM : Hid (∀ x,x ∈ ys ↔ x ∈ keysB b):=Lib.hid (fun x => (hm x).trans (HMEM.out x))
   have HO:=Lib.hid (own_mono ho (show w.heap.size ≤ w7.heap.size by rw [HN.out]; exact hz7))
   clear hb8 hy hm ho k7 hlen h0;go_wp2;go_returns;exact ⟨_,ys,rfl,by rw [HN.out]; exact HB8.out,HY.out,HMM.out,HO.out⟩
end Go.Proofs.YtnbmgkmcaoafnaaGreatDoor
