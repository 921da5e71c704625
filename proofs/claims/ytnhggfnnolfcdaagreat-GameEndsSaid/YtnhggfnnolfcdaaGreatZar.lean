/- The texts ID, Ins, IE, GI, in build order. -/
import Derived.Test.YtnhggfnnolfcdaaGreatZaq
import Derived.Handy
import Derived.Shelf.Abstract

/- Chapter 4: the beds that do something (Useful). -/
namespace Go.Proofs.YtnhggfnnolfcdaaGreat
open Go.RowKit Go.Oche Go.Proofs
def sameG (a b : Gam) : Bool:=decide (a.pls = b.pls) && decide (a.win = b.win)
def usesB (r : Rul) (g : Gam) (b : Int) : Bool:=okBed b && !sameG (throwG r g (b.tdiv 100) (b.tmod 100)) (throwG r g 0 0)
def usesL (r : Rul) (g : Gam) (k : Nat) : List Int:=((List.range k).filter fun (b : Nat) => usesB r g (b : Int)).map fun (b : Nat) => (b : Int)
theorem usesL_succ (r : Rul) (g : Gam) (k : Nat) : usesL r g (k + 1) = usesL r g k ++ if usesB r g k = true then [(k : Int)] else []:=by
 unfold usesL
 rw [List.range_succ,List.filter_append,List.map_append]
 congr 1
 cases h : usesB r g k <;> simp [h]
theorem usesL_len (r : Rul) (g : Gam) (k : Nat) : (usesL r g k).length ≤ k:=by
 unfold usesL
 rw [List.length_map]
 exact Nat.le_trans (List.length_filter_le _ _) (by simp)
theorem usesL_no {r : Rul} {g : Gam} {k : Nat} (h : usesB r g k = false) : usesL r g (k + 1) = usesL r g k:=by rw [usesL_succ,h]; simp
theorem usesL_yes {r : Rul} {g : Gam} {k : Nat} (h : usesB r g k = true) : usesL r g (k + 1) = usesL r g k ++ [(k : Int)]:=by rw [usesL_succ,h]; simp
theorem info_bed : (Tryz.prog.info? 45).map (fun i => (i.zero,i.size,i.bytes)) = some (some (.int .i64 0),1,8):=by kernel_rfl
def UsefulPost (r : Rul) (w : World) (x : Option Gam × Nat × Int) (e : Ending) (w' : World) : Prop :=
 Below w.heap.size w w' ∧ ((∃ er,er ≠ 0 ∧ (x.1 = none ∧ x.2.2 = er ∨ (∃ g,x.1 = some g ∧ g.win ≠ []) ∧ er = 9) ∧ e = .returned (.tuple #[.slice none 0 0,.int .i64 er])) ∨
  ∃ g bv,x = (some g,0,0) ∧ g.win = [] ∧ e = .returned (.tuple #[bv,.int .i64 0]) ∧ Sl (fun q => w.heap.size ≤ q) w' bv (ints (usesL r g 500)))
theorem same_r (t1 pb1 cap1 t2 pb2 cap2 : Nat) (r : Rul) (g1 g2 : Gam) (wv1 nv1 wv2 nv2 : Value) (M1 M2 : Int) (sb : Bool) (hsb : Hid (sameG g1 g2 = sb)) (w : World) (h1 : TabAt w t1 pb1 r g1 cap1 wv1 nv1) (h2 : TabAt w t2 pb2 r g2 cap2 wv2 nv2) (i1 : Inv r M1 g1) (i2 : Inv r M2 g2) :
  Calls Tryz.prog 40 #[.pointer (some ⟨t1,0,none⟩),.pointer (some ⟨t2,0,none⟩)] w fun e w' => e = .returned (.bool sb) ∧ Below w.heap.size w w':=by
 rw [← hsb.out]; exact same_any t1 pb1 cap1 t2 pb2 cap2 r g1 g2 wv1 nv1 wv2 nv2 M1 M2 w h1 h2 i1 i2
set_option maxRecDepth 100000 in
set_option maxHeartbeats 4000000 in
theorem useful_any {S S' : Nat → Prop} (r : Rul) (va : Option Addr) (nl vc : Nat) (da : Option Addr) (n dc : Nat) (darts : List Int) (hn : darts.length = n) (h64 : ∀ b ∈ darts, -9223372036854775808 ≤ b ∧ b ≤ 9223372036854775807) (w : World) (hs : Sl S w (.slice va nl vc) (ints r.nums)) (hd : Sl S' w (.slice da n dc) (ints darts)) :
  Calls Tryz.prog 25 #[.agg #[.int .i64 r.kind,.int .i64 r.players,.int .i64 r.last,.bool r.bull,.bool r.jump,.int .i64 r.rounds,.bool r.cut,.slice va nl vc,.int .i64 r.lives,.bool r.own],.slice da n dc] w (UsefulPost r w (playG r darts)):=by
 obtain ⟨w0,hw0⟩ : ∃ w0,w.alloc (.cells #[.int .i64 r.kind,.int .i64 r.players,.int .i64 r.last,.bool r.bull,.bool r.jump,.int .i64 r.rounds,.bool r.cut,.slice va nl vc,.int .i64 r.lives,.bool r.own] 29) = w0:=⟨_,rfl⟩
 have hb0 : Below w.heap.size w w0:=by rw [← hw0]; exact aB _ _
 have hc:=playing_any r va nl vc da n dc darts hn h64 w0 (hs.below hb0) (hd.below hb0)
 obtain ⟨x,hx⟩ : ∃ x,playG r darts = x:=⟨_,rfl⟩
 rw [hx] at hc ⊢
 have HC:=Lib.hid hc
 have HX:=Lib.hid hx
 have HB0:=Lib.hid hb0
 have HW0:=Lib.hid hw0
 clear hs hd hc hx hb0 hw0 h64 hn
 go_enter Tryz.func25,Tryz.ntmps25
 go_wp2_with fail
 rw [HW0.out]
 refine HC.out.mono ?_
 rintro e w1 ⟨hb1,(⟨er,p,hne,hcs,rfl⟩ | ⟨g,t,pb,cap,wv,he,hw,rfl,ht,q1,q2⟩)⟩
 ·have eb : (er != 0) = true:=by simp [hne]
  have HB1:=Lib.hid (bThen HB0.out hb1)
  have HR:=Lib.hid (And.intro hne hcs)
  clear hb1 hne hcs
  go_wp2
  go_returns
  exact ⟨HB1.out,.inl ⟨er,HR.out.1,HR.out.2,rfl⟩⟩
 ·have HB1:=Lib.hid (bThen HB0.out hb1)
  have HT:=Lib.hid ht
  have HE:=Lib.hid he
  have HWN:=Lib.hid hw
  have HQ : Hid (w.heap.size ≤ t ∧ w.heap.size ≤ pb):=Lib.hid (by have:=HB0.out.size; omega)
  have hgd:=playG_good (by rw [HX.out]; exact he : playG r darts = (some g,0,0))
  have HLV:=Lib.hid (hgd.1.live hw)
  have HM : Hid ((9 + 100 * (darts.length : Int)) ≤ 700000):=Lib.hid (by have:=hgd.2; omega)
  have HRD : Hid (g.round < 100000):=Lib.hid (by have:=hgd.1.rd; have:=hgd.2; omega)
  have HGD:=Lib.hid hgd.1
  obtain ⟨M,hM⟩ : ∃ M,(9 + 100 * (darts.length : Int)) = M:=⟨_,rfl⟩
  rw [hM] at HLV HM
  clear hb1 ht he hw q1 q2 hgd hM
  go_wp2_with fail
  refine (clone_any t pb cap r g wv _ M w1 HT.out HLV.out.toInv HWN.out).mono ?_
  rintro e w2 ⟨t1,pb1,cap1,rfl,hb2,ht2,q1,q2⟩
  have HC2:=Lib.hid ht2
  have HB2:=Lib.hid hb2
  have HQ2 : Hid (w1.heap.size ≤ t1 ∧ w1.heap.size ≤ pb1):=Lib.hid ⟨q1,q2⟩
  clear hb2 ht2 q1 q2
  go_wp2_with fail
  refine (throw_any t1 pb1 cap1 r g wv _ 0 0 M w2 HC2.out HLV.out (by have:=HM.out; omega) (.inl ⟨rfl,rfl⟩) HRD.out).mono ?_
  rintro e w5 ⟨⟨v,rfl⟩,hr5,wv1,ht5⟩
  have hb5 : Below w1.heap.size w1 w5:=HB2.out.trans (hr5.below HB2.out.size (fun q hq e => by have:=HQ2.out; rcases e with e | e <;> omega))
  have HT5:=Lib.hid (HT.out.below hb5)
  have HC5:=Lib.hid ht5
  have HB5:=Lib.hid (bThen HB1.out hb5)
  obtain ⟨g0,hg0⟩ : ∃ g0,throwG r g 0 0 = g0:=⟨_,rfl⟩
  rw [hg0] at HC5
  have HG0:=Lib.hid hg0
  have HI0 : Hid (Inv r (M + 100) g0):=Lib.hid (by rw [← hg0]; exact (throw_thrown HLV.out (.inl ⟨rfl,rfl⟩)).inv)
  clear hr5 hb5 ht5 hg0 HT HC2 HB2
  go_wp2_with fail
  go_loopw [4,8,9,10,11,26] (fun bv _ _ _ _ iv wr => ∃ k : Nat,k ≤ 500 ∧ iv = .int .i64 k ∧ Hid (wr.ownsRow w5.heap.size 45 1 bv (usesL r g k).length (ints (usesL r g k))) ∧ Hid (Below w5.heap.size w5 wr)) (fun _ _ _ _ _ iv _ => 500 - (intOf iv).toNat)
  case atStart => exact ⟨0,by omega,by go_num,Lib.hid (by rw [show usesL r g 0 = [] from rfl]; exact World.ownsRow_nil w5 w5.heap.size 45 1),Lib.hid (Below.refl _ _)⟩
  case round =>
   obtain ⟨k,hk,rfl,HO,HB⟩ := hrel
   obtain ⟨wo,rfl⟩ : ∃ wo : World,wo = wr:=⟨_,rfl⟩
   obtain ⟨m,hm⟩ : ∃ m,(usesL r g k).length = m:=⟨_,rfl⟩
   have hmk : m ≤ k:=by rw [← hm]; exact usesL_len r g k
   rw [hm] at HO
   have hform:=owns_form HO.out
   obtain ⟨bva,bvc,rfl⟩ := hform
   have HMM:=Lib.hid hm
   clear hm
   by_cases hlt : k < 500
   ·obtain ⟨ob,hob⟩ : ∃ ob,okBed k = ob:=⟨_,rfl⟩
    have HOB:=Lib.hid hob
    obtain ⟨hf,hhf⟩ : ∃ f,(k : Int).tdiv 100 = f:=⟨_,rfl⟩
    obtain ⟨hn,hhn⟩ : ∃ f,(k : Int).tmod 100 = f:=⟨_,rfl⟩
    have hnew:=newHit_r k ob HOB (by omega) wo
    rw [hhf,hhn] at hnew
    have HNEW:=Lib.hid hnew
    have HHF:=Lib.hid (And.intro hhf hhn)
    clear hob hnew hhf hhn
    go_wp2_with fail
    refine HNEW.out.mono ?_
    rintro e w6 ⟨rfl,hb6⟩
    obtain ⟨w7,hw7⟩ : ∃ w7,w6.alloc (.cells #[.int .i64 hf,.int .i64 hn] 61) = w7:=⟨_,rfl⟩
    obtain ⟨q7,hq7⟩ : ∃ q7,w6.heap.size = q7:=⟨_,rfl⟩
    have hb7 : Below wo.heap.size wo w7:=by rw [← hw7]; exact bThen hb6 (aB _ _)
    have k7 : w7.heap[q7]? = some (.cells #[.int .i64 hf,.int .i64 hn] 61 (0,0)):=by rw [← hw7,← hq7]; exact World.alloc_heap_new _ _
    have HO7:=Lib.hid (ownsN_below HO.out hb7)
    have HB7:=Lib.hid (HB.out.trans (hb7.mono HB.out.size))
    have K7:=Lib.hid k7
    have HW7:=Lib.hid hw7
    have HQ7:=Lib.hid hq7
    clear hb6 hw7 hq7 hb7 k7 HO HB
    cases ob
    ·have HU : Hid (usesL r g (k + 1) = usesL r g k):=Lib.hid (usesL_no (by unfold usesB; rw [HOB.out]; rfl))
     go_wp2_with fail
     rw [HW7.out]
     go_roundw
     case rel => exact ⟨k + 1,by omega,by go_num,by rw [HU.out,HMM.out]; exact HO7,HB7⟩
     case measure => simp [intOf]; omega
    ·have HH : Hid (okHit hf hn):=Lib.hid (by rw [← HHF.out.1,← HHF.out.2]; exact okBed_hit HOB.out)
     go_wp2_with fail
     rw [HW7.out,HQ7.out]
     refine (clone_any t pb cap r g wv _ M w7 (HT5.out.below HB7.out) HLV.out.toInv HWN.out).mono ?_
     rintro e w8 ⟨t2,pb2,cap2,rfl,hb8,ht8,q1,q2⟩
     have k8:=(hb8.block _ (Array.getElem?_eq_some_iff.1 K7.out).1).trans K7.out
     have c0 : w8.cell? ⟨q7,0,none⟩ = some (.int .i64 hf):=by rw [cell_of_heap k8]; rfl
     have c1 : w8.cell? ⟨q7,1,none⟩ = some (.int .i64 hn):=by rw [cell_of_heap k8]; rfl
     have HC8:=Lib.hid ht8
     have HB8:=Lib.hid hb8
     have HQ8 : Hid (w7.heap.size ≤ t2 ∧ w7.heap.size ≤ pb2):=Lib.hid ⟨q1,q2⟩
     clear hb8 ht8 q1 q2 k8
     go_wp2_with fail
     refine (throw_any t2 pb2 cap2 r g wv _ _ _ M w8 HC8.out HLV.out (by have:=HM.out; omega) HH.out HRD.out).mono ?_
     rintro e w9 ⟨⟨v,rfl⟩,hr9,wv2,ht9⟩
     have hb9 : Below w7.heap.size w7 w9:=HB8.out.trans (hr9.below HB8.out.size (fun q hq e => by have:=HQ8.out; rcases e with e | e <;> omega))
     have HC9:=Lib.hid ht9
     have HB9:=Lib.hid (HB7.out.trans (hb9.mono HB7.out.size))
     have HO9:=Lib.hid (ownsN_below HO7.out hb9)
     have HI9 : Hid (Inv r (M + 100) (throwG r g hf hn)):=Lib.hid (throw_thrown HLV.out HH.out).inv
     obtain ⟨sb,hsb⟩ : ∃ sb,sameG (throwG r g hf hn) g0 = sb:=⟨_,rfl⟩
     have HSB:=Lib.hid hsb
     clear hr9 hb9 ht9 hsb c0 c1 HC8 HB8 HO7 HB7 K7
     go_wp2_with fail
     refine (same_r t2 pb2 cap2 t1 pb1 cap1 r _ g0 wv2 _ wv1 _ _ _ sb HSB w9 HC9.out (HC5.out.below HB9.out) HI9.out HI0.out).mono ?_
     rintro e w10 ⟨rfl,hb10⟩
     have HO10:=Lib.hid (ownsN_below HO9.out hb10)
     have HB10:=Lib.hid (HB9.out.trans (hb10.mono HB9.out.size))
     clear hb10 HO9 HB9 HC9
     cases sb
     ·have HU : Hid (usesL r g (k + 1) = usesL r g k ++ [(k : Int)]):=Lib.hid (usesL_yes (by unfold usesB; rw [HOB.out,HHF.out.1,HHF.out.2,HG0.out,HSB.out]; rfl))
      obtain ⟨wA,hwA⟩ : ∃ wA,w10.alloc (.cells #[.int .i64 k] 45) = wA:=⟨_,rfl⟩
      have hbA : Below w10.heap.size w10 wA:=by rw [← hwA]; exact aB _ _
      have hcA : wA.cell? ⟨w10.heap.size,0,none⟩ = some (.int .i64 k):=by rw [← hwA]; simp
      have HOA:=Lib.hid (ownsN_below HO10.out hbA)
      have HBA:=Lib.hid (HB10.out.trans (hbA.mono HB10.out.size))
      have HWA:=Lib.hid hwA
      clear hbA hwA HO10 HB10
      go_wp2_with (at_builtin; rw [HWA.out]; refine wpList_append1 rfl _ _ 30 rfl w5.heap.size 45 (.int .i64 0) 8 Tryz.underlying30 info_bed rfl _ m _ rfl HOA.out w10.heap.size 0 1 (.int .i64 k) rfl hcA rfl (by omega) (by decide) HBA.out.size ?_)
      intro g1 cp wB ho1 hg1 hat1
      have HO11 : Hid (wB.ownsRow w5.heap.size 45 1 (.slice (some ⟨g1,0,none⟩) (m + 1) cp) (usesL r g (k + 1)).length (ints (usesL r g (k + 1)))):=Lib.hid (by
       rw [HU.out,List.length_append,HMM.out,ints_append]; exact ho1)
      have HB11:=Lib.hid (HBA.out.trans (below_grownBy hg1 HBA.out.size (fun q hq => (HOA.out.lt q hq).1)))
      clear ho1 hg1 hat1 hcA
      go_wp2
      go_roundw
      case rel => exact ⟨k + 1,by omega,by go_num,HO11,HB11⟩
      case measure => simp [intOf]; omega
     ·have HU : Hid (usesL r g (k + 1) = usesL r g k):=Lib.hid (usesL_no (by unfold usesB; rw [HOB.out,HHF.out.1,HHF.out.2,HG0.out,HSB.out]; rfl))
      go_wp2
      go_roundw
      case rel => exact ⟨k + 1,by omega,by go_num,by rw [HU.out,HMM.out]; exact HO10,HB10⟩
      case measure => simp [intOf]; omega
   ·obtain rfl : k = 500:=by omega
    have HF:=Lib.hid (bThen HB5.out (HB.out.mono (Nat.le_refl _)))
    have HS : Hid (Sl (fun q => w.heap.size ≤ q) wo (.slice bva m bvc) (ints (usesL r g 500))):=Lib.hid ((Sl.of_owns HO.out).mono fun q hq => by have:=HB5.out.size; omega)
    go_wp2
    go_returns
    exact ⟨HF.out,.inr ⟨g,_,HE.out,HWN.out,rfl,HS.out⟩⟩
end Go.Proofs.YtnhggfnnolfcdaaGreat

/- Insertion sort of distinct things, in plain Lean: r is greater first; of equals the lesser number first. -/
namespace Go.Oche
open Go Go.RowKit

def befo (r : Int → Int) (x y : Int) : Prop:=r y < r x ∨ (r x = r y ∧ x < y)
def at0 (l : List Int) (i : Nat) : Int:=l.getD i 0
theorem at0_eq {l : List Int} {i : Nat} (h : i < l.length) : at0 l i = l[i]:=by rw [at0,List.getD_eq_getElem?_getD,List.getElem?_eq_getElem h]; rfl
structure SegOk (r : Int → Int) (xs : List Int) (a b i : Nat) (ys : List Int) : Prop where
 len : ys.length = xs.length
 out : ∀ q,q < a ∨ i ≤ q → at0 ys q = at0 xs q
 ord : ∀ p q,a ≤ p → p < q → q < i → befo r (at0 ys p) (at0 ys q)
 low : ∀ p q,a ≤ p → p < i → i ≤ q → q < b → at0 ys p < at0 xs q
 perm : ys.Perm xs
structure SlideOk (r : Int → Int) (ys : List Int) (a i j : Nat) (zs : List Int) : Prop where
 len : zs.length = ys.length
 at_ : ∀ q,q < ys.length → at0 zs q = if q < j then at0 ys q else if q = j then at0 ys i else if q ≤ i then at0 ys (q - 1) else at0 ys q
 gt : ∀ q,j ≤ q → q < i → r (at0 ys q) < r (at0 ys i)
 perm : zs.Perm ys
 rng : a ≤ j ∧ j ≤ i
theorem SegOk.start {r : Int → Int} {xs : List Int} {a b : Nat} (_hb : b ≤ xs.length) (h : ∀ p q,a ≤ p → p < q → q < b → at0 xs p < at0 xs q) : SegOk r xs a b (a + 1) xs :=
 ⟨rfl,fun _ _ => rfl,fun p q h1 h2 h3 => by omega,fun p q h1 h2 h3 h4 => h p q h1 (by omega) h4,List.Perm.refl _⟩
theorem SlideOk.start {r : Int → Int} {ys : List Int} {a i : Nat} (ha : a ≤ i) : SlideOk r ys a i i ys:=by
 refine ⟨rfl,fun q hq => ?_,fun q h1 h2 => by omega,List.Perm.refl _,ha,Nat.le_refl _⟩
 by_cases h1 : q < i
 ·rw [if_pos h1]
 ·rw [if_neg h1]
  by_cases h2 : q = i
  ·rw [if_pos h2,h2]
  ·rw [if_neg h2,if_neg (by omega)]
theorem at0_set {l : List Int} {i : Nat} (h : i < l.length) (x : Int) (q : Nat) : at0 (l.set i x) q = if q = i then x else at0 l q:=by
 unfold at0
 by_cases e : q = i
 ·subst e; rw [if_pos rfl,List.getD_eq_getElem?_getD,List.getElem?_set_self h]; rfl
 ·rw [if_neg e,List.getD_eq_getElem?_getD,List.getElem?_set_ne (fun h => e h.symm),← List.getD_eq_getElem?_getD]
theorem SlideOk.step {r : Int → Int} {ys zs : List Int} {a i j : Nat} (h : SlideOk r ys a i j zs) (hj : a < j) (hi : i < ys.length) (hlt : r (at0 zs (j - 1)) < r (at0 zs j)) :
  SlideOk r ys a i (j - 1) ((zs.set j (at0 zs (j - 1))).set (j - 1) (at0 zs j)):=by
 obtain ⟨hl,hat,hgt,hp,hr1,hr2⟩ := h
 have e1 : at0 zs (j - 1) = at0 ys (j - 1):=by rw [hat _ (by omega),if_pos (by omega)]
 have e2 : at0 zs j = at0 ys i:=by rw [hat _ (by omega),if_neg (by omega),if_pos rfl]
 refine ⟨by simp [hl],fun q hq => ?_,fun q h1 h2 => ?_, ?_,by omega,by omega⟩
 ·rw [at0_set (by simp; omega),at0_set (by omega),e1,e2]
  by_cases h1 : q = j - 1
  ·rw [if_pos h1,if_neg (by omega),if_pos h1]
  ·rw [if_neg h1]
   by_cases h2 : q = j
   ·rw [if_pos h2,if_neg (by omega),if_neg (by omega),if_pos (by omega),h2]
   ·rw [if_neg h2,hat q hq]
    by_cases h3 : q < j
    ·rw [if_pos h3,if_pos (by omega)]
    ·rw [if_neg h3,if_neg h2,if_neg (show ¬ q < j - 1 by omega),if_neg h1]
 ·by_cases e : q = j - 1
  ·subst e; rw [e1,e2] at hlt; exact hlt
  ·exact hgt q (by omega) h2
 ·refine List.Perm.trans ?_ hp
  have hz1 : j < zs.length:=by omega
  have hz2 : j - 1 < zs.length:=by omega
  have:=List.set_set_perm hz1 hz2
  rw [← at0_eq hz1,← at0_eq hz2] at this
  exact this
theorem SegOk.next {r : Int → Int} {xs ys zs : List Int} {a b i j : Nat} (h : SegOk r xs a b i ys) (s : SlideOk r ys a i j zs) (hi : i < b) (hb : b ≤ xs.length) (ha : a ≤ i) (hx : ∀ p q,a ≤ p → p < q → q < b → at0 xs p < at0 xs q)
  (hend : j = a ∨ ¬ r (at0 zs (j - 1)) < r (at0 zs j)) : SegOk r xs a b (i + 1) zs:=by
 obtain ⟨hl,hout,hord,hlow,hperm⟩ := h
 obtain ⟨sl,sat,sgt,sp,sr1,sr2⟩ := s
 have xi : at0 ys i = at0 xs i:=hout i (.inr (Nat.le_refl _))
 have lo : ∀ p,a ≤ p → p < i → at0 ys p < at0 ys i:=fun p h1 h2 => by rw [xi]; exact hlow p i h1 h2 (Nat.le_refl _) hi
 have hend' : j = a ∨ r (at0 ys i) ≤ r (at0 ys (j - 1)):=by
  rcases hend with h | h
  ·exact .inl h
  ·by_cases hja : j = a
   ·exact .inl hja
   ·right
    rw [sat _ (by omega),if_pos (by omega),sat _ (by omega),if_neg (by omega),if_pos rfl] at h
    omega
 refine ⟨by omega,fun q hq => ?_,fun p q h1 h2 h3 => ?_,fun p q h1 h2 h3 h4 => ?_,sp.trans hperm⟩
 ·by_cases hql : q < ys.length
  ·rw [sat q hql]
   rcases hq with hq | hq
   ·rw [if_pos (by omega)]; exact hout q (.inl hq)
   ·rw [if_neg (by omega),if_neg (by omega),if_neg (by omega)]; exact hout q (.inr (by omega))
  ·have e1 : at0 zs q = 0:=by rw [at0,List.getD_eq_getElem?_getD,List.getElem?_eq_none (by omega)]; rfl
   have e2 : at0 xs q = 0:=by rw [at0,List.getD_eq_getElem?_getD,List.getElem?_eq_none (by omega)]; rfl
   rw [e1,e2]
 ·rw [sat p (by omega),sat q (by omega)]
  by_cases p1 : p < j
  ·rw [if_pos p1]
   by_cases q1 : q < j
   ·rw [if_pos q1]; exact hord p q h1 h2 (by omega)
   ·rw [if_neg q1]
    by_cases q2 : q = j
    ·rw [if_pos q2]
     have l1:=lo p h1 (by omega)
     rcases hend' with e | e
     ·omega
     ·by_cases e3 : p = j - 1
      ·subst e3; unfold befo; omega
      ·have:=hord p (j - 1) h1 (by omega) (by omega)
       have l2:=lo (j - 1) (by omega) (by omega)
       unfold befo at this ⊢
       omega
    ·rw [if_neg q2,if_pos (by omega)]; exact hord p (q - 1) h1 (by omega) (by omega)
  ·rw [if_neg p1,if_neg (show ¬ q < j by omega),if_neg (show ¬ q = j by omega),if_pos (show q ≤ i by omega)]
   by_cases p2 : p = j
   ·rw [if_pos p2]; exact .inl (sgt (q - 1) (by omega) (by omega))
   ·rw [if_neg p2,if_pos (by omega)]; exact hord (p - 1) (q - 1) (by omega) (by omega) (by omega)
 ·rw [sat p (by omega)]
  by_cases p1 : p < j
  ·rw [if_pos p1]; exact hlow p q h1 (by omega) (by omega) h4
  ·rw [if_neg p1]
   by_cases p2 : p = j
   ·rw [if_pos p2,xi]; exact hx i q ha (by omega) h4
   ·rw [if_neg p2,if_pos (by omega)]; exact hlow (p - 1) q (by omega) (by omega) (by omega) h4
end Go.Oche

/- Insertion sort and stable sort (less than 20) of one's own row of integers, by whatever comparison: r is greater first. -/
namespace Go.Proofs.YtnhggfnnolfcdaaGreat
open Go.RowKit Go.Oche Go.Proofs

theorem ints_set (xs : List Int) (i : Nat) (x : Int) : (ints xs).set i (.int .i64 x) = ints (xs.set i x):=by simp [ints,List.map_set]
theorem rowLen {W : World} {base n : Nat} {e : TypeId} {v : Value} {xs : List Value} (h : W.ownsRow base e 1 v n xs) : xs.length = n:=by have:=h.1; simpa using this
structure CmpFn (F : Nat) (caps : Array Value) (wB : World) (D : Int → Prop) (r : Int → Int) (cv : Int → Int → Int) : Prop where
 enters : Enters Tryz.prog F
 sgn : ∀ x y,D x → D y → (cv x y < 0 ↔ r y < r x)
 call : ∀ w x y,Below wB.heap.size wB w → D x → D y → Calls Tryz.prog F (#[.int .i64 x,.int .i64 y] ++ caps) w fun e w' => e = .returned (.int .i64 (cv x y)) ∧ Below w.heap.size w w'
set_option maxRecDepth 100000 in
set_option maxHeartbeats 4000000 in
theorem insG_any {F : Nat} {caps : Array Value} {wB : World} {D : Int → Prop} {r : Int → Int} {cv : Int → Int → Int} (hcmp : CmpFn F caps wB D r cv) (g c n : Nat) (xs : List Int) (a b : Nat) (w : World) (hbw : Below wB.heap.size wB w) (ho : w.ownsRow wB.heap.size 3 1 (.slice (some ⟨g,0,none⟩) n c) n (ints xs))
  (hab : a ≤ b) (hbn : b ≤ n) (hn : n ≤ 100) (hix : ∀ x ∈ xs,D x) (hasc : ∀ p q,a ≤ p → p < q → q < b → at0 xs p < at0 xs q) :
  Calls Tryz.prog 70 #[.slice (some ⟨g,0,none⟩) n c,.int .i64 a,.int .i64 b,.func (.func F) #[] caps] w fun e w' =>
   e = .returned (.tuple #[]) ∧ ∃ ys,w'.ownsRow wB.heap.size 3 1 (.slice (some ⟨g,0,none⟩) n c) n (ints ys) ∧ w.grownBy w' (some g) ∧ SegOk r xs a b (max (a + 1) b) ys:=by
 have hxl:=rowLen ho
 simp only [ints_length] at hxl
 have HO:=Lib.hid ho
 have HC:=Lib.hid hcmp
 have HBW:=Lib.hid hbw
 have hbg : wB.heap.size ≤ g:=(ho.lt g rfl).1
 have HBG:=Lib.hid hbg
 obtain ⟨base,hbase⟩ : ∃ base,wB.heap.size = base:=⟨_,rfl⟩
 have HBA:=Lib.hid hbase
 rw [hbase] at HO ⊢
 have HIX:=Lib.hid hix
 have HA:=Lib.hid hasc
 have hw0 : IntKind.i64.wrap ((a : Int) + 1) = (a : Int) + 1:=wrap_small _ (by omega) (by omega)
 clear ho hcmp hix hasc hbw hbg hbase
 go_enter Tryz.func70,Tryz.ntmps70
 go_wp2_with fail
 clear hw0
 go_loopw [8] (fun iv wr => ∃ (i : Nat) (ys : List Int),a + 1 ≤ i ∧ i ≤ max (a + 1) b ∧ iv = .int .i64 i ∧ Hid (SegOk r xs a b i ys) ∧ Hid (wr.ownsRow base 3 1 (.slice (some ⟨g,0,none⟩) n c) n (ints ys)) ∧ Hid (w.grownBy wr (some g))) (fun iv _ => b - (intOf iv).toNat)
 case atStart => exact ⟨a + 1,xs,by omega,by omega,by go_num,Lib.hid (SegOk.start (by omega) HA.out),HO,Lib.hid ⟨rfl,rfl,rfl,Nat.le_refl _,fun _ _ _ => rfl⟩⟩
 case round =>
  clear HO
  obtain ⟨i,ys,hi1,hi2,rfl,HS,HO,HG⟩ := hrel
  by_cases hlt : i < b
  ·have HYL:=HS.out.len
   obtain ⟨wo,rfl⟩ : ∃ wo : World,wo = wr:=⟨_,rfl⟩
   go_wp2_with fail
   go_loopw [9] (fun jv wi => ∃ (j : Nat) (zs : List Int),jv = .int .i64 j ∧ Hid (SlideOk r ys a i j zs) ∧ Hid (wi.ownsRow base 3 1 (.slice (some ⟨g,0,none⟩) n c) n (ints zs)) ∧ Hid (w.grownBy wi (some g))) (fun jv _ => (intOf jv).toNat)
   case atStart => exact ⟨i,ys,rfl,Lib.hid (SlideOk.start (by omega)),HO,HG⟩
   case round =>
    clear HO HG
    obtain ⟨j,zs,rfl,HZ,HO,HG⟩ := hrel
    obtain ⟨hj1,hj2⟩ := HZ.out.rng
    have HZL:=HZ.out.len
    obtain ⟨wi,rfl⟩ : ∃ wi : World,wi = wr:=⟨_,rfl⟩
    have HCW : Hid (Below wB.heap.size wB wi):=Lib.hid (HBW.out.trans (below_grownBy HG.out HBW.out.size (fun k hk => by cases hk; exact HBG.out)))
    by_cases hja : a < j
    ·have d1 : decide ((a : Int) < (j : Int)) = true:=decide_eq_true (by omega)
     have d1n : decide (a < j) = true:=decide_eq_true hja
     obtain ⟨m,hm⟩ : ∃ m,j = m + 1:=⟨j - 1,by omega⟩
     have hwm : IntKind.i64.wrap ((j : Int) - 1) = (m : Int):=by rw [IntKind.wrap_i64]; omega
     obtain ⟨x,hx⟩ : ∃ x,at0 zs j = x:=⟨_,rfl⟩
     obtain ⟨y,hy⟩ : ∃ y,at0 zs m = y:=⟨_,rfl⟩
     have k1 : wi.cell? ⟨g,j,none⟩ = some (.int .i64 x):=by rw [HO.out.cellAt j (by omega),intsAt (by omega),← at0_eq (by omega),hx]
     have k0 : wi.cell? ⟨g,m,none⟩ = some (.int .i64 y):=by rw [HO.out.cellAt m (by omega),intsAt (by omega),← at0_eq (by omega),hy]
     have hxb:=HIX.out x ((HZ.out.perm.trans HS.out.perm).mem_iff.1 (by rw [← hx,at0_eq (by omega)]; exact List.getElem_mem _))
     have hyb:=HIX.out y ((HZ.out.perm.trans HS.out.perm).mem_iff.1 (by rw [← hy,at0_eq (by omega)]; exact List.getElem_mem _))
     have hm1n : j < n:=by omega
     have hmn : m < n:=by omega
     obtain ⟨D0,hD⟩ : ∃ D0,cv x y = D0:=⟨_,rfl⟩
     obtain ⟨bb,hbb⟩ : ∃ bb,decide (D0 < 0) = bb:=⟨_,rfl⟩
     have HX:=Lib.hid hx
     have HY:=Lib.hid hy
     have HD:=Lib.hid hD
     have HBB:=Lib.hid hbb
     have HXB:=Lib.hid (And.intro hxb hyb)
     have HM:=Lib.hid hm
     clear hx hy hD hxb hyb hm
     go_wp2_with fail
     refine wp_region_seq 17 [.is ?_,.is ?_,.is (.bool true),.is (.bool true),.is ?_,.is ?_,.is ?_,.is ?_,.is ?_,.is ?_,.is ?_,.is ?_,.is ?_,.is ?_,.is (.int .i64 D0),.is ?_,.is (.bool bb)] rfl mix (by kernel_rfl) (by kernel_rfl) ?seqm
     case seqm =>
      simp only [List.take_succ_cons,List.take_zero]
      iterate 4
       refine seq_is rfl (fun w1 hb1 _ => ?_) ?_
       ·simp [opOK,go_sem,hja,Below.refl]
        try exact rfl
       simp only [Act.put,List.setIfInBounds_toArray,List.set_cons_succ,List.set_cons_zero]
      iterate 10
       refine seq_on (by rfl) (fun w1 hb1 _ => ?_) ?_
       ·have k0':=bAt hb1 k0
        have k1':=bAt hb1 k1
        simp [opOK,go_sem,k0',k1',hwm,hm1n,hmn,Below.refl]
        try exact rfl
       simp only [Act.put,List.setIfInBounds_toArray,List.set_cons_succ,List.set_cons_zero]
      refine seq_on (by rfl) (fun w1 hb1 _ => ?_) ?_
      ·have hen:=HC.out.enters
       unfold Enters at hen
       refine opOK_call (f:=F) (args:=#[.int .i64 x,.int .i64 y] ++ caps) (by simp [go_sem,hen]) ?_
       refine (HC.out.call w1 x y (HCW.out.trans (hb1.mono HCW.out.size)) HXB.out.1 HXB.out.2).mono ?_
       rintro e w2 ⟨rfl,hb2⟩
       exact ⟨_,rfl,by rw [HD.out],hb2⟩
      simp only [Act.put,List.setIfInBounds_toArray,List.set_cons_succ,List.set_cons_zero]
      refine seq_on (by rfl) (fun w1 hb1 _ => ?_) ?_
      ·simp [opOK,go_sem,Below.refl]
       try exact rfl
      simp only [Act.put,List.setIfInBounds_toArray,List.set_cons_succ,List.set_cons_zero]
      refine seq_is rfl (fun w1 hb1 _ => ?_) ?_
      ·simp [opOK,go_sem,HBB.out,Below.refl]
       try exact rfl
      simp only [Act.put,List.setIfInBounds_toArray,List.set_cons_succ,List.set_cons_zero]
      refine seq_end fun w6 hb6 _ => ?_
      simp only [List.drop_succ_cons,List.drop_zero]
      have hO6:=ownsN_below HO.out hb6
      have HO6:=Lib.hid hO6
      have hg6:=grownBy_trans HG.out (grownBy_below _ hb6)
      have HG6:=Lib.hid hg6
      have l1:=bAt hb6 k1
      have l0:=bAt hb6 k0
      have l1f:=hO6.frozenAt j
      have l0f:=hO6.frozenAt m
      clear k0 k1 hO6 hg6 hb6
      cases bb
      ·go_wp2_with fail
       go_roundw
       case rel => exact ⟨i + 1,zs,by omega,by omega,by go_num,Lib.hid (HS.out.next HZ.out hlt (by omega) (by omega) HA.out (.inr (by
        have h1:=of_decide_eq_false HBB.out
        have h2:=HM.out
        subst h2
        rw [Nat.add_sub_cancel,HX.out,HY.out]
        have h3:=(HC.out.sgn x y HXB.out.1 HXB.out.2).2
        rw [HD.out] at h3
        exact fun h => h1 (h3 h)))),HO6,HG6⟩
       case measure => simp [intOf]; omega
      ·go_wp2_with fail
       have hO6:=HO6.out
       obtain ⟨hO8,hg8⟩ := hO6.stored j (.int .i64 y)
       rw [ints_set] at hO8
       have HO8:=Lib.hid hO8
       have HG8:=Lib.hid (grownBy_trans HG6.out hg8)
       have HZ9 : Hid (SlideOk r ys a i m ((zs.set j y).set m x)):=Lib.hid (by
        have h2:=HM.out
        subst h2
        have h1:=of_decide_eq_true HBB.out
        have:=HZ.out.step hja (by omega) (by rw [Nat.add_sub_cancel,HX.out,HY.out]; exact (HC.out.sgn x y HXB.out.1 HXB.out.2).1 (by rw [HD.out]; exact h1))
        rw [Nat.add_sub_cancel,HX.out,HY.out] at this
        exact this)
       have hmj : ¬ m = j:=by have:=HM.out; omega
       obtain ⟨w8,hw8⟩ : ∃ w8,w6.setCell ⟨g,j,none⟩ (.int .i64 y) = w8:=⟨_,rfl⟩
       rw [hw8] at HO8 HG8
       have HW8:=Lib.hid hw8
       clear hO6 hO8 hg8 hw8
       refine wp_region_gen 17 (fun i v _ => match i with
        | 0 | 2 | 5 | 10 => v = .slice (some ⟨g,0,none⟩) n c
        | 1 | 3 | 6 | 11 => v = .int .i64 j
        | 4 | 7 => v = .int .i64 m
        | 8 | 16 => v = .pointer (some ⟨g,m,none⟩)
        | 9 => v = .int .i64 y
        | 12 | 14 => v = .pointer (some ⟨g,j,none⟩)
        | 13 => v = .int .i64 x
        | _ => True) (JSt 15 [9,13] (fun W => W = w6.drew) (fun W => W = w8.drew)) mix (by kernel_rfl) (JSt.start rfl) ?_ ?_
       ·refine ⟨?_, ?_, ?_, ?_, ?_, ?_, ?_, ?_, ?_, ?_, ?_, ?_, ?_, ?_, ?_, ?_, ?_,trivial⟩
        all_goals refine gen_plain rfl fun a W S hSi hJ hpre ht' => ?_
        all_goals
         simp [Region.binds] at hpre
         have t0:=ht' 0 rfl
         have t9:=ht' 9 rfl
         simp at t0 t9
        iterate 9
         (·simp [opOK,go_sem,hpre,t0,t9,hwm,hmn]
           refine ⟨hJ.read (by omega), ?_⟩
           intro j _ _ v h _
           exact h)
        ·have hW:=hJ.look (i:=9) (by simp) hSi
         have q0 : W.cell? ⟨g,m,none⟩ = some (.int .i64 y):=by rw [hW]; exact l0
         simp [opOK,go_sem,hpre,q0]
         refine ⟨hJ.read (by omega), ?_⟩
         intro j _ _ v h _
         exact h
        iterate 3
         (·simp [opOK,go_sem,hpre,t0,t9,hm1n]
           refine ⟨hJ.read (by omega), ?_⟩
           intro j _ _ v h _
           exact h)
        ·have hW:=hJ.look (i:=13) (by simp) hSi
         have q0 : W.cell? ⟨g,j,none⟩ = some (.int .i64 x):=by rw [hW]; exact l1
         simp [opOK,go_sem,hpre,q0]
         refine ⟨hJ.read (by omega), ?_⟩
         intro j _ _ v h _
         exact h
        ·simp [opOK,go_sem,hpre,hm1n]
         refine ⟨hJ.read (by omega), ?_⟩
         intro j _ _ v h _
         exact h
        ·have hW:=hJ.off hSi
         have q0 : W.cell? ⟨g,j,none⟩ = some (.int .i64 x):=by rw [hW]; exact l1
         have q1 : W.frozen? ⟨g,j,none⟩ = false:=by rw [hW]; exact l1f
         have e8 : W.setCell ⟨g,j,none⟩ (.int .i64 y) = w8.drew:=by rw [hW,← HW8.out]; rfl
         simp [opOK,go_sem,hpre,q0,q1,e8]
         refine ⟨JSt.write (by simp [hpre]) rfl, ?_⟩
         intro j hj _ v h _
         exact h
        ·simp [opOK,go_sem,hpre,hmn]
         refine ⟨hJ.read (by omega), ?_⟩
         intro j _ _ v h _
         exact h
       ·intro W' hJ
        have hW:=hJ.on (by decide)
        subst hW
        simp only [List.take_succ_cons,List.take_zero,List.drop_succ_cons,List.drop_zero,EndAll]
        rintro _ rfl _ rfl _ rfl _ rfl _ rfl _ rfl _ rfl _ rfl _ rfl _ rfl _ rfl _ rfl _ rfl _ rfl _ rfl v15 - _ rfl
        have q0 : w8.cell? ⟨g,m,none⟩ = some (.int .i64 y):=by rw [← HW8.out,World.cell?_setCell_other _ _ _ _ (by intro e; cases e; exact hmj rfl)]; exact l0
        have q0f:=HO8.out.frozenAt m
        obtain ⟨hO9,hg9⟩ := HO8.out.stored m (.int .i64 x)
        rw [ints_set] at hO9
        have HO9:=Lib.hid hO9
        have HG9:=Lib.hid (grownBy_trans HG8.out hg9)
        clear hO9 hg9 l0 l1 l0f l1f hJ
        go_wp2_with fail
        go_roundw
        case rel => exact ⟨m,_,rfl,HZ9,HO9,Lib.hid ⟨HG9.out.os,HG9.out.tape,HG9.out.output,HG9.out.size,HG9.out.block⟩⟩
        case measure => simp [intOf]; have:=HM.out; omega
    ·have d1 : decide ((a : Int) < (j : Int)) = false:=decide_eq_false (by omega)
     have d1n : decide (a < j) = false:=decide_eq_false hja
     go_wp2_with fail
     refine wp_region_seq 17 [.is ?_,.is ?_,.is (.bool false),.is (.bool false),.is undef,.is undef,.is undef,.is undef,.is undef,.is undef,.is undef,.is undef,.is undef,.is undef,.is undef,.is undef,.is (.bool false)] rfl mix (by kernel_rfl) (by kernel_rfl) ?seqm
     case seqm =>
      simp only [List.take_succ_cons,List.take_zero]
      iterate 4
       refine seq_is rfl (fun w1 hb1 _ => ?_) ?_
       ·simp [opOK,go_sem,hja,Below.refl]
        try exact rfl
       simp only [Act.put,List.setIfInBounds_toArray,List.set_cons_succ,List.set_cons_zero]
      iterate 12
       refine seq_off (by rfl) ?_
       simp only [Act.put,List.setIfInBounds_toArray,List.set_cons_succ,List.set_cons_zero]
      refine seq_is rfl (fun w1 hb1 _ => ?_) ?_
      ·simp [opOK,go_sem,Below.refl]
       try exact rfl
      simp only [Act.put,List.setIfInBounds_toArray,List.set_cons_succ,List.set_cons_zero]
      refine seq_end fun w6 hb6 _ => ?_
      simp only [List.drop_succ_cons,List.drop_zero]
      have HO6:=Lib.hid (ownsN_below HO.out hb6)
      have HG6:=Lib.hid (grownBy_trans HG.out (grownBy_below _ hb6))
      clear hb6
      go_wp2_with fail
      go_roundw
      case rel => exact ⟨i + 1,zs,by omega,by omega,by go_num,Lib.hid (HS.out.next HZ.out hlt (by omega) (by omega) HA.out (.inl (by omega))),HO6,HG6⟩
      case measure => simp [intOf]; omega
  ·obtain rfl : i = max (a + 1) b:=by omega
   go_wp2
   go_returns
   exact ⟨rfl,ys,HO.out,HG.out,HS.out⟩
set_option maxRecDepth 100000 in
set_option maxHeartbeats 4000000 in
theorem stableG_any {F : Nat} {caps : Array Value} {wB : World} {D : Int → Prop} {r : Int → Int} {cv : Int → Int → Int} (hcmp : CmpFn F caps wB D r cv) (g c n : Nat) (xs : List Int) (w : World) (hbw : Below wB.heap.size wB w) (ho : w.ownsRow wB.heap.size 3 1 (.slice (some ⟨g,0,none⟩) n c) n (ints xs))
  (hn0 : 1 ≤ n) (hn : n < 20) (hix : ∀ x ∈ xs,D x) (hasc : ∀ p q,p < q → q < n → at0 xs p < at0 xs q) :
  Calls Tryz.prog 57 #[.slice (some ⟨g,0,none⟩) n c,.int .i64 n,.func (.func F) #[] caps] w fun e w' =>
   e = .returned (.tuple #[]) ∧ ∃ ys,w'.ownsRow wB.heap.size 3 1 (.slice (some ⟨g,0,none⟩) n c) n (ints ys) ∧ w.grownBy w' (some g) ∧ SegOk r xs 0 n n ys:=by
 have HC:=Lib.hid hcmp
 have HBW:=Lib.hid hbw
 have HO:=Lib.hid ho
 have HIX:=Lib.hid hix
 have HA:=Lib.hid hasc
 clear hcmp hbw ho hix hasc
 go_enter Tryz.func57,Tryz.ntmps57
 go_wp2_with fail
 go_loopw [7,8] (fun av bv wr => av = .int .i64 0 ∧ bv = .int .i64 20 ∧ Hid (wr = w)) (fun _ _ _ => 0)
 case atStart => exact ⟨rfl,rfl,Lib.hid rfl⟩
 case round =>
  obtain ⟨rfl,rfl,HW⟩ := hrel
  obtain ⟨wo,rfl⟩ : ∃ wo : World,wo = wr:=⟨_,rfl⟩
  have d1 : decide ((20 : Int) ≤ (n : Int)) = false:=decide_eq_false (by omega)
  have d1n : decide (20 ≤ n) = false:=decide_eq_false (by omega)
  have e1 : decide ((20 : Int) < (n : Int)) = false:=decide_eq_false (by omega)
  have e1n : decide (20 < n) = false:=decide_eq_false (by omega)
  go_wp2_with fail
  refine (insG_any HC.out g c n xs 0 n wo (by rw [HW.out]; exact HBW.out) (by rw [HW.out]; exact HO.out) (by omega) (by omega) (by omega) HIX.out (fun p q _ h1 h2 => HA.out p q h1 h2)).mono ?_
  rintro e w1 ⟨rfl,ys,ho1,hg1,hs1⟩
  rw [show max (0 + 1) n = n by omega] at hs1
  have HO1:=Lib.hid ho1
  have HG1 : Hid (w.grownBy w1 (some g)):=Lib.hid (by rw [← HW.out]; exact hg1)
  have HS1:=Lib.hid hs1
  clear ho1 hg1 hs1
  go_wp2_with fail
  go_loopw [6] (fun bv wr => bv = .int .i64 20 ∧ Hid (wr = w1)) (fun _ _ => 0)
  case atStart => exact ⟨rfl,Lib.hid rfl⟩
  case round =>
   obtain ⟨rfl,HW⟩ := hrel
   go_wp2
   go_returns
   have hw:=HW.out
   subst hw
   exact ⟨rfl,ys,HO1.out,HG1.out,HS1.out⟩
set_option maxRecDepth 100000 in
set_option maxHeartbeats 4000000 in
theorem ins0_any (v : Value) (w : World) : Calls Tryz.prog 70 #[.slice none 0 0,.int .i64 0,.int .i64 0,v] w fun e w' => e = .returned (.tuple #[]) ∧ w = w':=by
 go_enter Tryz.func70,Tryz.ntmps70
 go_wp2_with fail
 go_loopw [8] (fun bv wr => bv = .int .i64 1 ∧ Hid (wr = w)) (fun _ _ => 0)
 case atStart => exact ⟨rfl,Lib.hid rfl⟩
 case round =>
  obtain ⟨rfl,HW⟩ := hrel
  go_wp2
  go_returns
  have hw:=HW.out
  subst hw
  exact ⟨rfl,rfl⟩
set_option maxRecDepth 100000 in
set_option maxHeartbeats 4000000 in
theorem stable0_any (v : Value) (w : World) : Calls Tryz.prog 57 #[.slice none 0 0,.int .i64 0,v] w fun e w' => e = .returned (.tuple #[]) ∧ w = w':=by
 go_enter Tryz.func57,Tryz.ntmps57
 go_wp2_with fail
 go_loopw [7,8] (fun av bv wr => av = .int .i64 0 ∧ bv = .int .i64 20 ∧ Hid (wr = w)) (fun _ _ _ => 0)
 case atStart => exact ⟨rfl,rfl,Lib.hid rfl⟩
 case round =>
  obtain ⟨rfl,rfl,HW⟩ := hrel
  go_wp2_with fail
  refine (ins0_any v _).mono ?_
  rintro e w1 ⟨rfl,rfl⟩
  go_wp2_with fail
  go_loopw [6] (fun bv wr => bv = .int .i64 20 ∧ Hid (wr = w)) (fun _ _ => 0)
  case atStart => exact ⟨rfl,HW⟩
  case round =>
   obtain ⟨rfl,HW⟩ := hrel
   go_wp2
   go_returns
   have hw:=HW.out
   subst hw
   exact ⟨rfl,rfl⟩
set_option maxRecDepth 100000 in
theorem sortStable0_any (v : Value) (w : World) : Calls Tryz.prog 42 #[.slice none 0 0,v] w fun e w' => e = .returned (.tuple #[]) ∧ w = w':=by
 go_enter Tryz.func42,Tryz.ntmps42
 go_wp2_with fail
 refine (stable0_any v w).mono ?_
 rintro e w1 ⟨rfl,rfl⟩
 go_wp2
 go_returns
 exact ⟨rfl,rfl⟩
set_option maxRecDepth 100000 in
theorem sortStableG_any {F : Nat} {caps : Array Value} {wB : World} {D : Int → Prop} {r : Int → Int} {cv : Int → Int → Int} (hcmp : CmpFn F caps wB D r cv) (g c n : Nat) (xs : List Int) (w : World) (hbw : Below wB.heap.size wB w) (ho : w.ownsRow wB.heap.size 3 1 (.slice (some ⟨g,0,none⟩) n c) n (ints xs))
  (hn0 : 1 ≤ n) (hn : n < 20) (hix : ∀ x ∈ xs,D x) (hasc : ∀ p q,p < q → q < n → at0 xs p < at0 xs q) :
  Calls Tryz.prog 42 #[.slice (some ⟨g,0,none⟩) n c,.func (.func F) #[] caps] w fun e w' =>
   e = .returned (.tuple #[]) ∧ ∃ ys,w'.ownsRow wB.heap.size 3 1 (.slice (some ⟨g,0,none⟩) n c) n (ints ys) ∧ w.grownBy w' (some g) ∧ SegOk r xs 0 n n ys:=by
 have HC:=Lib.hid hcmp
 have HBW:=Lib.hid hbw
 have HO:=Lib.hid ho
 have HIX:=Lib.hid hix
 have HA:=Lib.hid hasc
 clear hcmp hbw ho hix hasc
 go_enter Tryz.func42,Tryz.ntmps42
 go_wp2_with fail
 refine (stableG_any HC.out g c n xs w HBW.out HO.out hn0 hn HIX.out HA.out).mono ?_
 rintro e w1 ⟨rfl,ys,ho1,hg1,hs1⟩
 have H:=Lib.hid (And.intro ho1 (And.intro hg1 hs1))
 clear ho1 hg1 hs1
 go_wp2
 go_returns
 exact ⟨rfl,ys,H.out.1,H.out.2.1,H.out.2.2⟩
theorem seg_pair {r : Int → Int} {xs ys : List Int} {n : Nat} (h : SegOk r xs 0 n n ys) (hn : xs.length = n) : ys.Pairwise (befo r):=by
 rw [List.pairwise_iff_getElem]
 intro i j hi hj hij
 have:=h.ord i j (by omega) hij (by have:=h.len; omega)
 rwa [at0_eq hi,at0_eq hj] at this
theorem sortStableV_any {F : Nat} {caps : Array Value} {wB : World} {D : Int → Prop} {r : Int → Int} {cv : Int → Int → Int} (hcmp : CmpFn F caps wB D r cv) (v : Value) (n : Nat) (xs : List Int) (w : World) (hbw : Below wB.heap.size wB w) (ho : w.ownsRow wB.heap.size 3 1 v n (ints xs))
  (h0 : xs = [] → v = .slice none 0 0) (hn : n < 20) (hix : ∀ x ∈ xs,D x) (hasc : xs.Pairwise (· < ·)) :
  Calls Tryz.prog 42 #[v,.func (.func F) #[] caps] w fun e w' =>
   e = .returned (.tuple #[]) ∧ ∃ ys,w'.ownsRow wB.heap.size 3 1 v n (ints ys) ∧ w.grownBy w' v.ownBlock ∧ ys.Perm xs ∧ ys.Pairwise (befo r):=by
 have hl:=rowLen ho
 rw [ints_length] at hl
 by_cases hx : xs = []
 ·subst hx
  rw [h0 rfl] at ho ⊢
  refine (sortStable0_any _ w).mono fun e w' ⟨he,hw⟩ => ?_
  subst hw
  exact ⟨he,[],ho,⟨rfl,rfl,rfl,Nat.le_refl _,fun _ _ _ => rfl⟩,List.Perm.refl _,List.Pairwise.nil⟩
 ·have hpos : 0 < n:=by rw [← hl]; exact List.length_pos_iff.2 hx
  rcases ho.2 with ⟨_,h⟩ | ⟨g,c,cur,rfl,_⟩
  ·omega
  refine (sortStableG_any hcmp g c n xs w hbw ho hpos hn hix (fun p q h1 h2 => ?_)).mono fun e w' ⟨he,ys,ho',hg',hs'⟩ => ⟨he,ys,ho',hg',hs'.perm,seg_pair hs' hl⟩
  have:=List.pairwise_iff_getElem.1 hasc p q (by omega) (by omega) h1
  rwa [at0_eq (by omega),at0_eq (by omega)]
end Go.Proofs.YtnhggfnnolfcdaaGreat

/- Chapter 4, games, in plain Lean: the ranking; groups of a sorted list are the best of what is left, again and again. -/
namespace Go.Proofs.YtnhggfnnolfcdaaGreat
open Go.RowKit Go.Oche Go.Proofs

def rkG (r : Rul) (g : Gam) (i : Int) : Int:=((List.range g.pls.length).countP fun j => decide (cmpP r (plr g i.toNat) (plr g j) < 0) : Nat)
def cvG (r : Rul) (g : Gam) (x y : Int) : Int:=cmpP r (plr g x.toNat) (plr g y.toNat)
theorem countP_lt {α : Type} {p q : α → Bool} : ∀ {l : List α},(∀ a ∈ l,p a = true → q a = true) → (∃ a ∈ l,p a = false ∧ q a = true) → l.countP p < l.countP q
 | [],_,h => by obtain ⟨_,h,_⟩ := h; cases h
 | b :: l,h1,⟨a,ha,h2,h3⟩ => by
  rw [List.countP_cons,List.countP_cons]
  have hle : l.countP p ≤ l.countP q:=List.countP_mono_left fun a ha hp => h1 a (by simp [ha]) hp
  rcases List.mem_cons.1 ha with rfl | ha
  ·rw [h2,h3]; simp; omega
  ·have:=countP_lt (fun a ha hp => h1 a (by simp [ha]) hp) ⟨a,ha,h2,h3⟩
   have hb : (if p b = true then 1 else 0) ≤ (if q b = true then 1 else 0):=by
    split
    ·rw [if_pos (h1 b (by simp) ‹_›)]; exact Nat.le_refl _
    ·exact Nat.zero_le _
   omega
theorem cv_rk {r : Rul} {g : Gam} {x y : Int} (_hx : x.toNat < g.pls.length) (hy : y.toNat < g.pls.length) : cvG r g x y < 0 ↔ rkG r g y < rkG r g x:=by
 unfold cvG rkG
 constructor
 ·intro h
  have:=countP_lt (p:=fun j => decide (cmpP r (plr g y.toNat) (plr g j) < 0)) (q:=fun j => decide (cmpP r (plr g x.toNat) (plr g j) < 0)) (l:=List.range g.pls.length)
   (fun a _ hp => decide_eq_true (cmpP_trans h (of_decide_eq_true hp))) ⟨y.toNat,List.mem_range.2 hy,decide_eq_false (cmpP_self r _),decide_eq_true h⟩
  omega
 ·intro h
  by_cases hc : cmpP r (plr g x.toNat) (plr g y.toNat) < 0
  ·exact hc
  ·exfalso
   have : (List.range g.pls.length).countP (fun j => decide (cmpP r (plr g x.toNat) (plr g j) < 0)) ≤ (List.range g.pls.length).countP (fun j => decide (cmpP r (plr g y.toNat) (plr g j) < 0)) :=
    List.countP_mono_left fun a _ hp => by
     by_cases hd : cmpP r (plr g y.toNat) (plr g a) < 0
     ·exact decide_eq_true hd
     ·exact (cmpP_trans' hc hd (of_decide_eq_true hp)).elim
   omega
def idxG (r : Rul) (g : Gam) (x : Int) (l : List Int) : Nat:=l.findIdx fun y => decide (cvG r g x y < 0)
def grpL (r : Rul) (g : Gam) : Nat → List Int → List (List Int)
 | 0,_ => []
 | _ + 1,[] => []
 | k + 1,x :: l => (x :: l).take (idxG r g x (x :: l)) :: grpL r g k ((x :: l).drop (idxG r g x (x :: l)))
def bestsL (r : Rul) (g : Gam) : Nat → List Int → List (List Int)
 | 0,_ => []
 | _ + 1,[] => []
 | k + 1,x :: l => ((x :: l).filter fun i => (x :: l).all fun j => !decide (cvG r g j i < 0)) :: bestsL r g k ((x :: l).filter fun i => !(x :: l).all fun j => !decide (cvG r g j i < 0))
def restG (g : Gam) : List Int:=((List.range g.pls.length).filter fun (i : Nat) => !g.win.contains (i : Int)).map fun (i : Nat) => (i : Int)
def rankG (r : Rul) (g : Gam) : List (List Int):=(if g.win = [] then [] else [g.win]) ++ bestsL r g g.pls.length (restG g)
theorem idx_pos (r : Rul) (g : Gam) (x : Int) (l : List Int) : 0 < idxG r g x (x :: l):=by
 unfold idxG
 rw [List.findIdx_cons]
 have : decide (cvG r g x x < 0) = false:=decide_eq_false (cmpP_self r _)
 rw [this]; simp
theorem idx_le (r : Rul) (g : Gam) (x : Int) (l : List Int) : idxG r g x l ≤ l.length:=List.findIdx_le_length
theorem asc_eq {a b : List Int} (ha : a.Pairwise (· < ·)) (hb : b.Pairwise (· < ·)) (h : ∀ x,x ∈ a ↔ x ∈ b) : a = b:=by
 induction a generalizing b with
 | nil =>
  cases b with
  | nil => rfl
  | cons y b => have:=(h y).2 (by simp); cases this
 | cons x a ih =>
  cases b with
  | nil => have:=(h x).1 (by simp); cases this
  | cons y b =>
   rw [List.pairwise_cons] at ha hb
   have hxy : x = y:=by
    have h1:=(h x).1 (by simp)
    have h2:=(h y).2 (by simp)
    rcases List.mem_cons.1 h1 with e | e
    ·exact e
    ·rcases List.mem_cons.1 h2 with e2 | e2
     ·exact e2.symm
     ·have:=ha.1 y e2; have:=hb.1 x e; omega
   subst hxy
   congr 1
   refine ih ha.2 hb.2 fun z => ?_
   constructor
   ·intro hz
    rcases List.mem_cons.1 ((h z).1 (by simp [hz])) with e | e
    ·have:=ha.1 z hz; omega
    ·exact e
   ·intro hz
    rcases List.mem_cons.1 ((h z).2 (by simp [hz])) with e | e
    ·have:=hb.1 z hz; omega
    ·exact e
theorem take_idx {r : Rul} {g : Gam} : ∀ {x : Int} {l : List Int},x.toNat < g.pls.length → (∀ y ∈ l,y.toNat < g.pls.length) → l.Pairwise (befo (rkG r g)) → (∀ y ∈ l,rkG r g y ≤ rkG r g x) →
  l.take (idxG r g x l) = (l.filter fun y => decide (rkG r g y = rkG r g x)) ∧ l.drop (idxG r g x l) = (l.filter fun y => !decide (rkG r g y = rkG r g x))
 | x,[],_,_,_,_ => by simp [idxG]
 | x,y :: l,hx,hl,hp,hle => by
  rw [List.pairwise_cons] at hp
  unfold idxG
  rw [List.findIdx_cons]
  by_cases h : cvG r g x y < 0
  ·have hk:=(cv_rk (r:=r) hx (hl y (by simp))).1 h
   rw [decide_eq_true h]
   have hall : ∀ z ∈ y :: l, ¬ rkG r g z = rkG r g x:=fun z hz => by
    rcases List.mem_cons.1 hz with rfl | hz
    ·omega
    ·have:=hp.1 z hz; unfold befo at this; omega
   simp only [cond_true,List.take_zero,List.drop_zero]
   exact ⟨(List.filter_eq_nil_iff.2 fun z hz => by simpa using hall z hz).symm,(List.filter_eq_self.2 fun z hz => by simpa using hall z hz).symm⟩
  ·have hk : ¬ rkG r g y < rkG r g x:=fun e => h ((cv_rk (r:=r) hx (hl y (by simp))).2 e)
   have he : rkG r g y = rkG r g x:=by have:=hle y (by simp); omega
   rw [decide_eq_false h]
   simp only [cond_false,List.take_succ_cons,List.drop_succ_cons]
   have:=take_idx hx (fun z hz => hl z (by simp [hz])) hp.2 (fun z hz => hle z (by simp [hz]))
   unfold idxG at this
   rw [this.1,this.2,List.filter_cons,List.filter_cons,if_pos (by simpa using he),if_neg (by simpa using he)]
   exact ⟨rfl,rfl⟩
theorem grp_bests (r : Rul) (g : Gam) : ∀ (k : Nat) (s l : List Int),(∀ y ∈ l,0 ≤ y ∧ y.toNat < g.pls.length) → l.Pairwise (· < ·) → s.Pairwise (befo (rkG r g)) → s.Perm l → grpL r g k s = bestsL r g k l
 | 0,_,_,_,_,_,_ => rfl
 | k + 1,s,[],_,_,_,h => by rw [List.perm_nil.1 h]; rfl
 | k + 1,[],y :: l,_,_,_,h => by have:=h.length_eq; simp at this
 | k + 1,x :: s,y :: l,hl,ha,hs,h => by
  have hmem : ∀ z,z ∈ x :: s ↔ z ∈ y :: l:=fun z => h.mem_iff
  have hxl:=hl x ((hmem x).1 (by simp))
  have hle : ∀ z ∈ x :: s,rkG r g z ≤ rkG r g x:=fun z hz => by
   rcases List.mem_cons.1 hz with rfl | hz
   ·exact Int.le_refl _
   ·have:=(List.pairwise_cons.1 hs).1 z hz; unfold befo at this; omega
  have hti:=take_idx (r:=r) hxl.2 (fun z hz => (hl z ((hmem z).1 hz)).2) hs hle
  have hbest : ∀ i ∈ y :: l,((y :: l).all fun j => !decide (cvG r g j i < 0)) = decide (rkG r g i = rkG r g x):=fun i hi => by
   rw [Bool.eq_iff_iff,List.all_eq_true,decide_eq_true_eq]
   constructor
   ·intro hall
    have h1:=hall x ((hmem x).1 (by simp))
    have h2 : ¬ cvG r g x i < 0:=by simpa using h1
    have h3 : ¬ rkG r g i < rkG r g x:=fun e => h2 ((cv_rk (r:=r) hxl.2 (hl i hi).2).2 e)
    have:=hle i ((hmem i).2 hi); omega
   ·intro e j hj
    have h2 : ¬ cvG r g j i < 0:=fun e2 => by
     have:=(cv_rk (r:=r) (hl j hj).2 (hl i hi).2).1 e2
     have:=hle j ((hmem j).2 hj); omega
    simpa using h2
  have f1 : ((y :: l).filter fun i => (y :: l).all fun j => !decide (cvG r g j i < 0)) = (y :: l).filter fun i => decide (rkG r g i = rkG r g x):=List.filter_congr fun i hi => hbest i hi
  have f2 : ((y :: l).filter fun i => !(y :: l).all fun j => !decide (cvG r g j i < 0)) = (y :: l).filter fun i => !decide (rkG r g i = rkG r g x):=List.filter_congr fun i hi => by rw [hbest i hi]
  rw [grpL,bestsL,f1,f2,hti.1,hti.2]
  congr 1
  ·refine asc_eq ?_ (ha.filter _) (fun z => by rw [List.mem_filter,List.mem_filter,hmem])
   refine (List.pairwise_filter.2 ?_)
   refine hs.imp fun {a b} hab h1 h2 => ?_
   have h1':=of_decide_eq_true h1
   have h2':=of_decide_eq_true h2
   unfold befo at hab; omega
  ·exact grp_bests r g k _ _ (fun z hz => hl z (List.mem_filter.1 hz).1) (ha.filter _) (hs.filter _) (h.filter _)
theorem restG_asc (g : Gam) : (restG g).Pairwise (· < ·):=by
 unfold restG
 rw [List.pairwise_map]
 exact ((List.pairwise_lt_range).filter _).imp fun h => by omega
theorem restG_mem {g : Gam} {x : Int} (h : x ∈ restG g) : 0 ≤ x ∧ x.toNat < g.pls.length:=by
 unfold restG at h
 obtain ⟨i,hi,rfl⟩ := List.mem_map.1 h
 have:=List.mem_range.1 (List.mem_filter.1 hi).1
 exact ⟨by omega,by simpa using this⟩
end Go.Proofs.YtnhggfnnolfcdaaGreat
