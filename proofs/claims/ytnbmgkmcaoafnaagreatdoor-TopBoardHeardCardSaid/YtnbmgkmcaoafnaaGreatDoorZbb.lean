/- The texts SH, SI, JBox2, Cpy3, XR0, in build order. -/
import Derived.Test.YtnbmgkmcaoafnaaGreatDoorZba
import Derived.ArgAppend

/- Chapter 5: the smallest sets with some property. -/
namespace Go.Proofs.YtnbmgkmcaoafnaaGreatDoor
open Go Go.RowKit Go.Oche Go.Proofs

theorem info_sl5 : (Tryz.prog.info? 33).map (fun i => (i.zero,i.size,i.bytes)) = some (some (.slice none 0 0),1,24):=by kernel_rfl
structure PredOk (l : Lg) (w0 : World) (gb hb kb n fn : Nat) (lb : Array Value) (isN : Nat → Bool) : Prop where
 enters : Enters Tryz.prog fn
 run : ∀ (F : Nat → Prop) (s : Nat) (W : World),s < 2 ^ n → GameAt l F W gb hb kb → Chg (fun q => q = kb) w0 W → (∀ q,F q → q < W.heap.size) →
  Calls Tryz.prog fn (#[.int .u64 (s : Int)] ++ lb) W fun e W' => e = .returned (.bool (isN s)) ∧ GameAt l F W' gb hb kb ∧ Chg (fun q => q = kb) W W'
structure SmSt (l : Lg) (w0 : World) (gb hb kb n : Nat) (F0 : Nat → Prop) (isN : Nat → Bool) (k least : Nat) (ss : List Nat) (V : Int → Value) (v : Value) (F : Nat → Prop) (W : World) : Prop where
 inv : LeastInv n isN k least ss
 row : SetsRow w0.heap.size V ss v W
 game : GameAt l F W gb hb kb
 chg : Chg (fun q => q = kb) w0 W
 sub : ∀ q,F0 q → F q
 lt : ∀ q,F q → q < W.heap.size
 own : ∀ g,v.ownBlock = some g → F g
set_option maxRecDepth 100000 in
set_option maxHeartbeats 2000000 in
theorem smallest_any {F0 : Nat → Prop} {gb hb kb : Nat} (l : Lg) (n fn : Nat) (lb : Array Value) (isN : Nat → Bool) (hn : n ≤ 5) (w : World) (hp : PredOk l w gb hb kb n fn lb isN) (hG : GameAt l F0 w gb hb kb) (hF0 : ∀ q,F0 q → q < w.heap.size) (hT : Tab5 w) (hk1 : kb ≠ 1) :
  Calls Tryz.prog 29 #[.int .i64 (n : Int),.func (.func fn) #[] lb] w fun e w' => ∃ v out,e = .returned v ∧ IsMin n isN (2 ^ n) out ∧ SlSl (fun q => w.heap.size ≤ q) w' v (out.map nInts) ∧ GameAt l F0 w' gb hb kb ∧ Chg (fun q => q = kb) w w':=by
 obtain ⟨m,hm⟩ : ∃ m,2 ^ n = m:=⟨_,rfl⟩;have hm32 : 1 ≤ m ∧ m ≤ 32:=⟨by rw [← hm]; exact Nat.one_le_two_pow,by rw [← hm]; exact Nat.le_trans (Nat.pow_le_pow_right (by decide) hn) (by decide)⟩
 have hall:=all_any n (by omega) w
 rw [hm] at hall;have hma : IntKind.u64.wrap (((m - 1 : Nat) : Int) + 1) = (m : Int):=by rw [IntKind.wrap_u64]; omega
 have hkl:=hG.lt;have HS0 : Hid (SmSt l w gb hb kb n F0 isN 0 n [] (fun _ => undef) (.slice none 0 0) F0 w):=Lib.hid
  ⟨LeastInv.start,SetsRow.zero _ _ _,hG,Chg.refl,fun _ h => h,hF0,fun g h => by simp [Value.ownBlock] at h⟩
 have HM:=Lib.hid hm;have HP:=Lib.hid hp;have HF0:=Lib.hid hF0;have HT:=Lib.hid hT;have HFF : Hid (F0 gb ∧ F0 hb ∧ F0 kb):=Lib.hid ⟨hG.fg,hG.fh,hG.fk⟩;clear hm hp hF0 hT hG
 go_enter Tryz.func29,Tryz.ntmps29
 go_wp2_with fail;refine hall.mono ?_
 rintro e w1 ⟨rfl,rfl⟩;clear hall;go_wp2;go_loopw [4,5,12] (fun v lv sv wr => ∃ (k least : Nat) (ss : List Nat) (V : Int → Value) (F : Nat → Prop),lv = .int .i64 least ∧ sv = .int .u64 k ∧ k ≤ m ∧ Hid (SmSt l w1 gb hb kb n F0 isN k least ss V v F wr)) (fun _ _ sv _ => m - (intOf sv).toNat)
 case atStart => exact ⟨0,n,[],fun _ => undef,F0,rfl,rfl,by omega,HS0⟩
 case round =>
  clear HS0;obtain ⟨k,least,ss,V,F,rfl,rfl,hk,HS⟩ := hrel;obtain ⟨wo,rfl⟩ : ∃ wo : World,wo = wr:=⟨_,rfl⟩;obtain ⟨va,vc,rfl⟩ := owns_form HS.out.row.row;have hle:=HS.out.inv.le;by_cases hlt : k < m
  ·have hbn:=bits_few ⟨n,by omega⟩ ⟨k,by omega⟩ (by simp only; rw [HM.out]; exact hlt)
   simp only at hbn;have hones:=ones_any k (by omega) wo
   rw [hbn] at hones;obtain ⟨c,hc⟩ : ∃ c,(bitsN n k).length = c:=⟨_,rfl⟩;rw [hc] at hones;have hcn : c ≤ n:=by rw [← hc]; exact bits_len n k
   have HC:=Lib.hid hc;have HBN:=Lib.hid hbn;have hwk : IntKind.u64.wrap ((k : Int) + 1) = (k : Int) + 1:=by rw [IntKind.wrap_u64]; omega
   clear hc hbn;go_wp2_with fail;refine hones.mono ?_
   rintro e w2 ⟨rfl,rfl⟩;clear hones;by_cases hgt : least < c
   ·have HS2 : Hid (SmSt l w1 gb hb kb n F0 isN (k + 1) least ss V (.slice va ss.length vc) F w2):=Lib.hid
     ⟨HS.out.inv.skip (.inl (by rw [HC.out]; exact hgt)),HS.out.row,HS.out.game,HS.out.chg,HS.out.sub,HS.out.lt,HS.out.own⟩
    have d1 : decide (least < c) = true:=decide_eq_true hgt;have d1i : decide ((least : Int) < (c : Int)) = true:=decide_eq_true (by omega)
    clear HS;go_wp2;go_roundw
    case rel => exact ⟨k + 1,least,ss,V,F,rfl,by go_num,by omega,HS2⟩
    case measure => simp [intOf]; omega
   ·have d1 : decide (least < c) = false:=decide_eq_false hgt
    have d1i : decide ((least : Int) < (c : Int)) = false:=decide_eq_false (by omega)
    have hen:=HP.out.enters;unfold Enters at hen;have hrun:=HP.out.run F k w2 (by rw [HM.out]; exact hlt) HS.out.game HS.out.chg HS.out.lt
    go_wp2_with fail;refine hrun.mono ?_
    rintro e w3 ⟨rfl,hG3,hC3⟩;have HROW:=Lib.hid (HS.out.row.chg hC3 fun q e => by rw [e]; exact hkl.2.2)
    have HG3:=Lib.hid hG3;have HC3:=Lib.hid (HS.out.chg.trans hC3);have HT3:=Lib.hid (HT.out.chg HC3.out (fun e => hk1 e.symm))
    have hsz3:=HC3.out.size;have hsz23:=hC3.size;clear hen hrun hG3 hC3;cases his : isN k
    ·have HS3 : Hid (SmSt l w1 gb hb kb n F0 isN (k + 1) least ss V (.slice va ss.length vc) F w3):=Lib.hid
      ⟨HS.out.inv.skip (.inr his),HROW.out,HG3.out,HC3.out,HS.out.sub,fun q hq => by have:=HS.out.lt q hq; omega,HS.out.own⟩
     go_wp2;go_roundw
     case rel => exact ⟨k + 1,least,ss,V,F,rfl,by go_num,by omega,HS3⟩
     case measure => simp [intOf]; omega
    ·have HIS:=Lib.hid his
     clear his;by_cases hnew : c < least
     ·have d2 : decide (c < least) = true:=decide_eq_true hnew
      have d2i : decide ((c : Int) < (least : Int)) = true:=decide_eq_true (by omega)
      have hk' : ∀ s ∈ ([] : List Nat),s < k:=fun s hs => by cases hs
      have hsl : ([] : List Nat).length ≤ 10:=by decide
      have HR3:=Lib.hid (SetsRow.zero w1.heap.size V w3);have HKK:=Lib.hid hk';clear hk';have hnum:=numbers_any k (by omega) w3 (HT3.out)
      go_wp2_with fail;refine hnum.mono ?_
      rintro e w4 ⟨u,rfl,hb4,ho4⟩;obtain ⟨ua,uc,rfl⟩ := owns_form ho4;have HR4:=Lib.hid (HR3.out.below hb4);have HU4:=Lib.hid (SetsRow.apart HR4.out ho4 hsz3);have HG4:=Lib.hid (HG3.out.below hb4);have HC4:=Lib.hid (HC3.out.thenB hb4);have hsz4:=hb4.size;clear hnum hb4 ho4 HR3
      go_wp2_with (at_builtin; refine wpList_append1 rfl (.tmp 30) (.tmp 33) 66 rfl w1.heap.size 33 (.slice none 0 0) 24 Tryz.underlying66 info_sl5 rfl (.slice none 0 0) 0 _ rfl (HR4.out.row.alloc _) w4.heap.size 0 1 (.slice ua (bitsN 10 k).length uc) rfl (cell_new _ _ _) rfl (by omega) (by decide) (by simp; omega) ?_)
      intro g' c' w5 ho5 hg5 hat5
      have hba:=aB w4 (.cells #[.slice ua (bitsN 10 k).length uc] 33);have hR5:=(HR4.out.below hba).add (g:=g') (c:=c') (k:=k) HKK.out (by omega) ((HU4.out.below hba).mono fun q hq => ⟨hq.1,hq.2.1,by have:=hba.size; omega⟩) ho5 hg5 (hat5.elim .inl fun e => .inr (by rw [e]; simp))
      have hgl:=hR5.row.lt g' (by simp [Value.ownBlock])
      have HS5 : Hid (SmSt l w1 gb hb kb n F0 isN (k + 1) c ([] ++ [k]) (fun x => if x = kS k then .slice ua (bitsN 10 k).length uc else V x) (.slice (some ⟨g',0,none⟩) (0 + 1) c') (fun q => F q ∨ q = g') w5):=Lib.hid
       ⟨by
        have:=HS.out.inv.new HIS.out (by rw [HC.out]; exact hnew); rw [HC.out] at this; exact this,hR5,((HG4.out.below hba).more (F':=fun q => F q ∨ q = g') (fun q hq => hq.elim .inl fun e => by
        rcases hat5 with z | z
        ·left; rw [e]; cases z
        ·right; rw [e,z]; simp) (fun q hq => .inl hq)).grown hg5 (fun x hx => by
        have h1:=(HR4.out.row.lt x hx).1;exact ⟨by omega,by omega,by omega,.inl (.inl (by cases hx))⟩),
        (HC4.out.thenB hba).thenG hg5 (fun x hx hlt => by have:=(HR4.out.row.lt x hx).1; omega),fun q hq => .inl (HS.out.sub q hq),fun q hq => by
         rcases hq with hq | hq
         ·have h1:=HS.out.lt q hq; have h2:=hg5.size; have h3:=hba.size; omega
         ·rw [hq]; exact hgl.2,fun g hg => .inr (by simpa [Value.ownBlock] using hg.symm)⟩
      clear hba hR5 hgl ho5 hg5 hat5 HR4 HU4 HG4 HC4;go_wp2;go_roundw
      case rel => exact ⟨k + 1,c,[] ++ [k],_,_,rfl,by go_num,by omega,HS5⟩
      case measure => simp [intOf]; omega
     ·have d2 : decide (c < least) = false:=decide_eq_false hnew
      have d2i : decide ((c : Int) < (least : Int)) = false:=decide_eq_false (by omega)
      have hk' : ∀ s ∈ (ss : List Nat),s < k:=fun s hs => ((HS.out.inv.mem s).1 hs).1
      have hsl : (ss : List Nat).length ≤ 10:=by have:=HS.out.inv.few hn (by rw [HM.out]; omega); omega
      have HR3:=Lib.hid (HROW.out);have HKK:=Lib.hid hk';clear hk';have hnum:=numbers_any k (by omega) w3 (HT3.out)
      go_wp2_with fail;refine hnum.mono ?_
      rintro e w4 ⟨u,rfl,hb4,ho4⟩;obtain ⟨ua,uc,rfl⟩ := owns_form ho4;have HR4:=Lib.hid (HR3.out.below hb4);have HU4:=Lib.hid (SetsRow.apart HR4.out ho4 hsz3);have HG4:=Lib.hid (HG3.out.below hb4);have HC4:=Lib.hid (HC3.out.thenB hb4);have hsz4:=hb4.size;clear hnum hb4 ho4 HR3
      go_wp2_with (at_builtin; refine wpList_append1 rfl (.tmp 30) (.tmp 33) 66 rfl w1.heap.size 33 (.slice none 0 0) 24 Tryz.underlying66 info_sl5 rfl (.slice va ss.length vc) ss.length _ rfl (HR4.out.row.alloc _) w4.heap.size 0 1 (.slice ua (bitsN 10 k).length uc) rfl (cell_new _ _ _) rfl (by omega) (by decide) (by simp; omega) ?_)
      intro g' c' w5 ho5 hg5 hat5
      have hba:=aB w4 (.cells #[.slice ua (bitsN 10 k).length uc] 33);have hR5:=(HR4.out.below hba).add (g:=g') (c:=c') (k:=k) HKK.out (by omega) ((HU4.out.below hba).mono fun q hq => ⟨hq.1,hq.2.1,by have:=hba.size; omega⟩) (by rw [List.map_map]; exact ho5) hg5 (hat5.elim .inl fun e => .inr (by rw [e]; simp))
      have hgl:=hR5.row.lt g' (by simp [Value.ownBlock])
      have HS5 : Hid (SmSt l w1 gb hb kb n F0 isN (k + 1) least (ss ++ [k]) (fun x => if x = kS k then .slice ua (bitsN 10 k).length uc else V x) (.slice (some ⟨g',0,none⟩) (ss.length + 1) c') (fun q => F q ∨ q = g') w5):=Lib.hid
       ⟨HS.out.inv.more HIS.out (by rw [HC.out]; omega),hR5,((HG4.out.below hba).more (F':=fun q => F q ∨ q = g') (fun q hq => hq.elim .inl fun e => by
         rcases hat5 with z | z
         ·left; rw [e]; exact HS.out.own g' z
         ·right; rw [e,z]; simp) (fun q hq => .inl hq)).grown hg5 (fun x hx => by
         have h1:=(HR4.out.row.lt x hx).1;exact ⟨by omega,by omega,by omega,.inl (.inl (HS.out.own x hx))⟩),
        (HC4.out.thenB hba).thenG hg5 (fun x hx hlt => by have:=(HR4.out.row.lt x hx).1; omega),fun q hq => .inl (HS.out.sub q hq),fun q hq => by
         rcases hq with hq | hq
         ·have h1:=HS.out.lt q hq; have h2:=hg5.size; have h3:=hba.size; omega
         ·rw [hq]; exact hgl.2,fun g hg => .inr (by simpa [Value.ownBlock] using hg.symm)⟩
      clear hba hR5 hgl ho5 hg5 hat5 HR4 HU4 HG4 HC4;go_wp2;go_roundw
      case rel => exact ⟨k + 1,least,ss ++ [k],_,_,rfl,by go_num,by omega,HS5⟩
      case measure => simp [intOf]; omega
  ·obtain rfl : k = m:=by omega
   have hfew:=HS.out.inv.few hn (by rw [HM.out]; exact Nat.le_refl _)
   have hinv:=HS.out.inv;rw [← HM.out] at hinv;have HINV:=Lib.hid hinv;have hss : ∀ s ∈ ss,s < 32 ∧ s < 2 ^ n:=fun s hs => by have:=((hinv.mem s).1 hs).1; rw [HM.out] at this ⊢; omega
   have HSS:=Lib.hid hss;clear hinv hss;rcases HS.out.row.row.2 with ⟨hnil,h0⟩ | ⟨g,cap,cur,hsome, -⟩
   ·simp only [Value.slice.injEq] at hnil
    obtain ⟨rfl,h00,rfl⟩ := hnil;have hss0 : ss = []:=List.eq_nil_of_length_eq_zero h00;subst hss0;have HMIN : Hid (IsMin n isN (2 ^ n) []):=Lib.hid (HINV.out.done hn (ys:=[]) (by simp) (fun p q h1 h2 => by simp at h2; omega))
    have hsort:=sortK0_any wo;go_wp2_with fail;refine hsort.mono ?_
    rintro e w2 ⟨rfl,rfl⟩;go_wp2;go_returns;exact ⟨_,[],rfl,HMIN.out,⟨[],Sl.nil _ _,rfl,fun i hi => by simp at hi⟩,HS.out.game.less HS.out.sub HFF.out.1 HFF.out.2.1 HFF.out.2.2,HS.out.chg⟩
   ·cases hsome
    have hsort:=sortK_any V decS5 w1.heap.size g vc ss.length (ss.map kS) wo (fun x hx => by
      obtain ⟨s,hs,rfl⟩ := List.mem_map.1 hx;have h1:=HS.out.row.reads s hs;unfold decS5;rw [show iS (kS s) = s from iS_all ⟨s,(HSS.out s hs).1⟩]
      exact h1.mono fun q hq e => hq.2 (by rw [e]; rfl)) (fun x hx y hy => by
      obtain ⟨s,hs,rfl⟩ := List.mem_map.1 hx;obtain ⟨t,ht,rfl⟩ := List.mem_map.1 hy;have b1:=bits_few ⟨n,by omega⟩ ⟨s,by have:=(HSS.out s hs).1; omega⟩ (HSS.out s hs).2
      have b2:=bits_few ⟨n,by omega⟩ ⟨t,by have:=(HSS.out t ht).1; omega⟩ (HSS.out t ht).2
      simp only at b1 b2;exact cmpS_all ⟨s,(HSS.out s hs).1⟩ ⟨t,(HSS.out t ht).1⟩ (by simp only; rw [b1,b2,((HINV.out.mem s).1 hs).2.2,((HINV.out.mem t).1 ht).2.2])) HS.out.row.row (by omega)
    go_wp2_with fail;refine hsort.mono ?_
    rintro e w2 ⟨rfl,ys,ho2,hg2,hseg⟩;have hyl : ys.length = ss.length:=by have:=hseg.perm.length_eq; simpa using this
    have HMIN:=Lib.hid (HINV.out.done hn (ys:=ys) hseg.perm hseg.asc);have HSL : Hid (SlSl (fun q => w1.heap.size ≤ q) w2 (.slice (some ⟨g,0,none⟩) ss.length vc) ((ys.map fun y => bitsN n (iS y)).map nInts)):=Lib.hid (by
     refine ⟨ys.map V,Sl.of_owns ho2,by simp,fun i hi => ?_⟩
     simp only [List.length_map] at hi;obtain ⟨s,hs,e1⟩ := List.mem_map.1 (hseg.perm.mem_iff.1 (List.getElem_mem hi));refine ⟨V ys[i],by simp [hi], ?_⟩
     have h1:=HS.out.row.reads s hs;have b1:=bits_few ⟨n,by omega⟩ ⟨s,by have:=(HSS.out s hs).1; omega⟩ (HSS.out s hs).2
     simp only at b1;simp only [List.getElem_map];rw [← e1,show iS (kS s) = s from iS_all ⟨s,(HSS.out s hs).1⟩,← b1]
     refine (h1.cells fun b o hb hs2 => ?_).mono fun q hq => hq.1
     obtain ⟨x,hx⟩ := Option.isSome_iff_exists.1 hs2;exact World.cell?_of_block (w:=wo) (hg2.block b (World.block_lt_of_cell? wo _ hx) fun e => hb.2 e.symm))
    have HG2 : Hid (GameAt l F0 w2 gb hb kb):=Lib.hid ((HS.out.game.grown hg2 (fun x hx => by
     cases hx;have h1:=(HS.out.row.row.lt g rfl).1;exact ⟨by omega,by omega,by omega,.inl (HS.out.own g rfl)⟩)).less HS.out.sub HFF.out.1 HFF.out.2.1 HFF.out.2.2)
    have HC2 : Hid (Chg (fun q => q = kb) w1 w2):=Lib.hid (HS.out.chg.thenG hg2 fun x hx hlt => by cases hx; have h1:=(HS.out.row.row.lt g rfl).1; omega)
    clear hsort ho2 hg2 hseg;go_wp2;go_returns;exact ⟨_,_,rfl,HMIN.out,HSL.out,HG2.out,HC2.out⟩
open Go Go.RowKit Go.Oche Go.Proofs

set_option maxRecDepth 100000 in
set_option maxHeartbeats 2000000 in
theorem blame1_ok {S : Nat → Prop} {gb hb kb : Nat} (l : Lg) (hv : Valid l) (list : List Rp) (lv : Value) (r : Nat) (w0 : World) (hl : SlN 3 S w0 lv (list.map rpRow)) (hS : ¬ S kb) (hlen : list.length ≤ 5)
  (hr : w0.heap[r]? = some (.cells #[.pointer (some ⟨gb,0,none⟩),lv] 93 (0,0))) (hrk : r ≠ kb) : PredOk l w0 gb hb kb list.length 30 #[.pointer (some ⟨r,0,none⟩)] (isBlame l list):=by
 refine ⟨enters_of Tryz.func30 (by kernel_rfl) rfl,fun F s W hs hG hC hF => ?_⟩
 obtain ⟨a,cap,rfl,h2,h3⟩ := hl.form;simp only [List.length_map] at *;unfold maxLen at h3;obtain ⟨n,hn⟩ : ∃ n,list.length = n:=⟨_,rfl⟩;have hlW : SlN 3 S W (.slice a list.length cap) (list.map rpRow):=hl.chg hC fun q hq e => hS (by rw [← e]; exact hq)
 have hs10 : s < 1024:=Nat.lt_of_lt_of_le hs (Nat.le_trans (Nat.pow_le_pow_right (by decide) hlen) (by decide))
 have hcan:=can_any l hv list (.slice a list.length cap) s hs10 (by omega) W hlW hS hG hF
 obtain ⟨res,hres⟩ : ∃ b,canL l list (fun i => s.testBit i) = b:=⟨_,rfl⟩
 have hib : isBlame l list s = !res:=by unfold isBlame; rw [hres]
 rw [hib];rw [hres] at hcan;have hk:=(hC.block r (Array.getElem?_eq_some_iff.1 hr).1 hrk).trans hr
 rw [hn] at hk hcan;have b0 : W.cell? ⟨r,0,none⟩ = some (.pointer (some ⟨gb,0,none⟩)):=by rw [cell_of_heap hk]; rfl
 have b1 : W.cell? ⟨r,1,none⟩ = some (.slice a n cap):=by rw [cell_of_heap hk]; rfl
 clear hl hlW hr hk hG hC hF hib hres hn hs h2;show Calls Tryz.prog 30 #[.int .u64 (s : Int),.pointer (some ⟨r,0,none⟩)] W _
 go_enter Tryz.func30,Tryz.ntmps30
 go_wp2_with fail;refine hcan.mono ?_
 rintro e w' ⟨rfl,hG,hC⟩;have HG:=Lib.hid hG;have HC:=Lib.hid hC;clear hG hC hcan b0 b1;go_wp2;go_returns;exact ⟨rfl,HG.out,HC.out⟩
def blameE (l : Lg) (list : List Rp) : Int:=checkR l list 10
set_option maxRecDepth 100000 in
set_option maxHeartbeats 2000000 in
theorem blame_any {S S' : Nat → Prop} (l : Lg) (bv lv : Value) (list : List Rp) (w : World) (hs : Sl S w bv (ints l.beds)) (hbd : BedsIn l) (hl : SlN 3 S' w lv (list.map rpRow)) (hlen : list.length ≤ 5 ∨ 10 < list.length) (hT : Tab5 w) :
  Calls Tryz.prog 12 #[legV l bv,lv] w fun e w' => ∃ v out,e = .returned (.tuple #[v,.int .i64 (blameE l list)]) ∧ Below w.heap.size w w' ∧
   (blameE l list ≠ 0 → v = .slice none 0 0) ∧ (blameE l list = 0 → Blames l list out ∧ SlSl (fun q => w.heap.size ≤ q) w' v (out.map nInts)):=by
 obtain ⟨a,cap,rfl,h2,h3⟩ := hs.form;obtain ⟨a',cap',rfl,h2',h3'⟩ := hl.form;simp only [ints_length,List.length_map] at *;unfold maxLen at h3 h3';obtain ⟨n,hn⟩ : ∃ n,list.length = n:=⟨_,rfl⟩;rw [hn] at h2' hl ⊢;obtain ⟨w1,hw1⟩ : ∃ x,w.alloc (.cells #[.int .i64 l.start,.int .i64 l.gin,.int .i64 l.gout,.slice a l.beds.length cap,.int .i64 l.players,.int .i64 l.turns,.bool l.won] 53) = x:=⟨_,rfl⟩;have hb1 : Below w.heap.size w w1:=by rw [← hw1]; exact aB _ _
 have k : w1.heap[w.heap.size]? = some (.cells #[.int .i64 l.start,.int .i64 l.gin,.int .i64 l.gout,.slice a l.beds.length cap,.int .i64 l.players,.int .i64 l.turns,.bool l.won] 53 (0,0)):=by rw [← hw1]; exact World.alloc_heap_new _ _
 have c0 : w1.cell? ⟨w.heap.size,0,none⟩ = some (.int .i64 l.start):=by rw [cell_of_heap k]; rfl
 have c1 : w1.cell? ⟨w.heap.size,1,none⟩ = some (.int .i64 l.gin):=by rw [cell_of_heap k]; rfl
 have c2 : w1.cell? ⟨w.heap.size,2,none⟩ = some (.int .i64 l.gout):=by rw [cell_of_heap k]; rfl
 have c3 : w1.cell? ⟨w.heap.size,3,none⟩ = some (.slice a l.beds.length cap):=by rw [cell_of_heap k]; rfl
 have c4 : w1.cell? ⟨w.heap.size,4,none⟩ = some (.int .i64 l.players):=by rw [cell_of_heap k]; rfl
 have c5 : w1.cell? ⟨w.heap.size,5,none⟩ = some (.int .i64 l.turns):=by rw [cell_of_heap k]; rfl
 have c6 : w1.cell? ⟨w.heap.size,6,none⟩ = some (.bool l.won):=by rw [cell_of_heap k]; rfl
 obtain ⟨ec,hec⟩ : ∃ e,checkR l list 10 = e:=⟨_,rfl⟩;have HEC:=Lib.hid hec;rw [show blameE l list = ec from hec]
 have HN:=Lib.hid hn;have HW:=Lib.hid hw1;have HB:=Lib.hid hb1;have HS:=Lib.hid (hs.below hb1);have HL:=Lib.hid ((hl.lt (by decide)).below hb1)
 have HBD:=Lib.hid hbd;have HT:=Lib.hid hT;have HLEN:=Lib.hid hlen;have hsz1:=hb1.size;clear hw1 hb1 k hs hl hbd hec hn hT hlen;unfold legV legA
 go_enter Tryz.func12,Tryz.ntmps12
 go_upto_region 1 with fail
 rw [HW.out];go_wp2_with fail;have hca:=checkR_any l (.slice a l.beds.length cap) (.slice a' n cap') list 10 w1 HS.out HBD.out HL.out;unfold legV legA at hca;rw [HEC.out] at hca;refine hca.mono ?_
 rintro e w2 ⟨rfl,hb2⟩;have HB2:=Lib.hid (bThen HB.out hb2);have HS2:=Lib.hid (HS.out.below hb2);have HL2:=Lib.hid (HL.out.below hb2);have c0:=bAt hb2 c0;have c1:=bAt hb2 c1;have c2:=bAt hb2 c2;have c3:=bAt hb2 c3;have c4:=bAt hb2 c4;have c5:=bAt hb2 c5;have c6:=bAt hb2 c6;have hsz2:=hb2.size;clear hb2 hca;obtain ⟨z,hz⟩ : ∃ z,(ec != 0) = z:=⟨_,rfl⟩;have HZ:=Lib.hid hz;cases z
 ·have he : ec = 0:=by simpa using HZ.out
  have hck : checkL l = 0:=by
   have:=HEC.out;unfold checkR at this;by_cases c : checkL l = 0
   ·exact c
   ·rw [if_pos c,he] at this; exact (c this).elim
  have hl10 : list.length ≤ 10:=by
   have:=HEC.out;unfold checkR at this;rw [if_neg (by simp [hck]),he] at this
   by_cases c : (10 : Int) < (list.length : Int)
   ·rw [if_pos (decide_eq_true c)] at this; cases this
   ·omega
  have hv:=valid_of hck;have hl5 : list.length ≤ 5:=HLEN.out.elim id fun h => by omega
  have hn5 : n ≤ 5:=by rw [← HN.out]; exact hl5
  have HV:=Lib.hid hv;subst he;clear hv hck hz;go_wp2_with fail;have hng:=newGame_any l (.slice a l.beds.length cap) w2 HV.out HS2.out HBD.out;unfold legV legA at hng;refine hng.mono ?_
  rintro e w3 ⟨gb,hb,kb,rfl,hb3,hG3,hg1,hg2,hg3⟩;have HB3:=Lib.hid (bThen HB2.out hb3);have HL3:=Lib.hid (HL2.out.below hb3);have HG3:=Lib.hid hG3;have hsz3:=hb3.size;clear hng hb3 hG3 c0 c1 c2 c3 c4 c5 c6 HS2;obtain ⟨w4,hw4⟩ : ∃ x,w3.alloc (.cells #[.pointer (some ⟨gb,0,none⟩),.slice a' n cap'] 93) = x:=⟨_,rfl⟩;have hb4 : Below w3.heap.size w3 w4:=by rw [← hw4]; exact aB _ _
  obtain ⟨R,hR⟩ : ∃ R,w3.heap.size = R:=⟨_,rfl⟩;have k4 : w4.heap[R]? = some (.cells #[.pointer (some ⟨gb,0,none⟩),.slice a' n cap'] 93 (0,0)):=by rw [← hw4,← hR]; exact World.alloc_heap_new _ _
  have HB4:=Lib.hid (bThen HB3.out hb4);have HG4:=Lib.hid (HG3.out.below hb4);have HW4:=Lib.hid hw4;have hltG:=HG3.out.lt;have hszw:=HT.out.lt;have hp:=blame1_ok (hb:=hb) (kb:=kb) l HV.out list (.slice a' n cap') R w4 (HL3.out.below hb4) (fun h => by have:=h.2; omega) hl5 k4 (by omega)
  rw [HN.out] at hp;have hsm:=smallest_any (F0:=fun q => q = gb ∨ q = hb ∨ q = kb) l n _ _ _ hn5 w4 hp (HG4.out.less (fun q h => h) (.inl rfl) (.inr (.inl rfl)) (.inr (.inr rfl))) (fun q hq => by have h1:=HG4.out.lt; rcases hq with rfl | rfl | rfl <;> omega) (HT.out.below HB4.out) (by omega)
  clear hw4 hb4 k4 HG3 HL3 hp HG4;go_upto_region 5 with fail;rw [HW4.out];go_wp2_with fail;refine hsm.mono ?_
  rintro e w5 ⟨v,out,rfl,hmin,hsl,hG5,hC5⟩;have HMIN : Hid (Blames l list out):=Lib.hid (by unfold Blames; rw [HN.out]; exact hmin)
  have hsz4:=HB4.out.size;have hsz34 : w3.heap.size ≤ w4.heap.size:=by rw [← HW4.out]; simp
  have HSL:=Lib.hid (hsl.mono (S':=fun q => w.heap.size ≤ q) fun q hq => by omega)
  have HB5 : Hid (Below w.heap.size w w5):=Lib.hid (HB4.out.trans (hC5.mono (O':=fun q => w.heap.size ≤ q) (fun q hq e => by omega) |> fun h => ⟨h.os,h.tape,h.output,h.size,fun q hq => h.block q (by omega) (by omega)⟩))
  clear hsm hmin hsl hG5 hC5;go_wp2;go_returns;exact ⟨v,rfl,HB5.out,out,HMIN.out,HSL.out⟩
 ·have HNE : Hid (ec ≠ 0):=Lib.hid (by simpa using HZ.out)
  clear c0 c1 c2 c3 c4 c5 c6;go_wp2;go_returns;exact ⟨_,[],rfl,HB2.out,fun _ => rfl,fun e => (HNE.out e).elim⟩
end Go.Proofs.YtnbmgkmcaoafnaaGreatDoor

/- A region that draws its order, with two new blocks and a store into each, among operations that only read. -/
namespace Go.Oche
open Go Go.RowKit
structure JBox2 (w0 : World) (ia ib sa sb : Nat) (t1 t2 : TypeId) (za A zb B : Array Value) (L : Nat → Bool) (vs : Nat → Value) (W : World) : Prop where
 below : Below w0.heap.size w0 W
 a : L ia = true → ∃ p,vs ia = .pointer (some ⟨p,0,none⟩) ∧ w0.heap.size ≤ p ∧ W.heap[p]? = some (.cells (if L sa = true then A else za) t1 (0,0))
 b : L ib = true → ∃ p,vs ib = .pointer (some ⟨p,0,none⟩) ∧ w0.heap.size ≤ p ∧ W.heap[p]? = some (.cells (if L sb = true then B else zb) t2 (0,0))
 ne : L ia = true → L ib = true → vs ia ≠ vs ib
 na : L ia = false → L sa = false
 nb : L ib = false → L sb = false
section
variable {w0 W W' : World} {ia ib sa sb : Nat} {t1 t2 : TypeId} {za A zb B : Array Value} {L : Nat → Bool} {vs vs' : Nat → Value}
theorem JBox2.congr (hc : ∀ j,L j = true → vs j = vs' j) (h : JBox2 w0 ia ib sa sb t1 t2 za A zb B L vs W) : JBox2 w0 ia ib sa sb t1 t2 za A zb B L vs' W :=
 ⟨h.below,fun hl => hc _ hl ▸ h.a hl,fun hl => hc _ hl ▸ h.b hl,fun h1 h2 => by rw [← hc _ h1,← hc _ h2]; exact h.ne h1 h2,h.na,h.nb⟩
theorem JBox2.start : JBox2 w0 ia ib sa sb t1 t2 za A zb B (fun _ => false) vs w0.drew :=
 ⟨⟨rfl,rfl,rfl,Nat.le_refl _,fun _ _ => rfl⟩,fun h => (by cases h),fun h => (by cases h),fun h => (by cases h),fun _ => rfl,fun _ => rfl⟩
theorem JBox2.read (h : JBox2 w0 ia ib sa sb t1 t2 za A zb B L vs W) {i : Nat} {v : Value} (h1 : ia ≠ i) (h2 : ib ≠ i) (h3 : sa ≠ i) (h4 : sb ≠ i) : JBox2 w0 ia ib sa sb t1 t2 za A zb B (setB L i) (updV vs i v) W:=by
 refine ⟨h.below, ?_, ?_, ?_, ?_, ?_⟩ <;> simp only [setB_ne h1,setB_ne h2,setB_ne h3,setB_ne h4,updV_ne h1,updV_ne h2]
 ·exact h.a
 ·exact h.b
 ·exact h.ne
 ·exact h.na
 ·exact h.nb
theorem JBox2.mkA (h : JBox2 w0 ia ib sa sb t1 t2 za A zb B L vs W) (hL : L ia = false) (h2 : ib ≠ ia) (h3 : sa ≠ ia) (h4 : sb ≠ ia) : JBox2 w0 ia ib sa sb t1 t2 za A zb B (setB L ia) (updV vs ia (.pointer (some ⟨W.heap.size,0,none⟩))) (W.alloc (.cells za t1)):=by
 have hb : Below W.heap.size W (W.alloc (.cells za t1)):=aB _ _;refine ⟨h.below.trans (hb.mono h.below.size), ?_, ?_, ?_, ?_, ?_⟩
 ·intro _
  rw [setB_ne h3,h.na hL,updV_eq];exact ⟨_,rfl,h.below.size,World.alloc_heap_new _ _⟩
 ·rw [setB_ne h2,setB_ne h4,updV_ne h2]
  intro hl
  obtain ⟨p,e1,e2,e3⟩ := h.b hl;exact ⟨p,e1,e2,(hb.block p (Array.getElem?_eq_some_iff.1 e3).1).trans e3⟩
 ·rw [setB_ne h2,updV_ne h2,updV_eq]
  intro _ hl e
  obtain ⟨p,e1,e2,e3⟩ := h.b hl;rw [e1] at e;simp only [Value.pointer.injEq,Option.some.injEq,Addr.mk.injEq] at e;have:=(Array.getElem?_eq_some_iff.1 e3).1
  omega
 ·rw [setB_eq]; intro h; cases h
 ·rw [setB_ne h2,setB_ne h4]; exact h.nb
theorem JBox2.mkB (h : JBox2 w0 ia ib sa sb t1 t2 za A zb B L vs W) (hL : L ib = false) (h2 : ia ≠ ib) (h3 : sa ≠ ib) (h4 : sb ≠ ib) : JBox2 w0 ia ib sa sb t1 t2 za A zb B (setB L ib) (updV vs ib (.pointer (some ⟨W.heap.size,0,none⟩))) (W.alloc (.cells zb t2)):=by
 have hb : Below W.heap.size W (W.alloc (.cells zb t2)):=aB _ _;refine ⟨h.below.trans (hb.mono h.below.size), ?_, ?_, ?_, ?_, ?_⟩
 ·rw [setB_ne h2,setB_ne h3,updV_ne h2]
  intro hl
  obtain ⟨p,e1,e2,e3⟩ := h.a hl;exact ⟨p,e1,e2,(hb.block p (Array.getElem?_eq_some_iff.1 e3).1).trans e3⟩
 ·intro _
  rw [setB_ne h4,h.nb hL,updV_eq];exact ⟨_,rfl,h.below.size,World.alloc_heap_new _ _⟩
 ·rw [setB_ne h2,updV_ne h2,updV_eq]
  intro hl _ e
  obtain ⟨p,e1,e2,e3⟩ := h.a hl;rw [e1] at e;simp only [Value.pointer.injEq,Option.some.injEq,Addr.mk.injEq] at e;have:=(Array.getElem?_eq_some_iff.1 e3).1
  omega
 ·rw [setB_ne h2,setB_ne h3]; exact h.na
 ·rw [setB_eq]; intro h; cases h
theorem JBox2.stA (h : JBox2 w0 ia ib sa sb t1 t2 za A zb B L vs W) (hL : L ia = true) {p : Nat} (hp : vs ia = .pointer (some ⟨p,0,none⟩)) {v : Value} (h1 : ia ≠ sa) (h2 : ib ≠ sa) (h4 : sb ≠ sa) : JBox2 w0 ia ib sa sb t1 t2 za A zb B (setB L sa) (updV vs sa v) (W.setRow p A):=by
 obtain ⟨p',e1,e2,e3⟩ := h.a hL;have hpp : p' = p:=by rw [hp] at e1; simp at e1; exact e1.symm
 subst hpp;refine ⟨below_setRow h.below e2 _, ?_, ?_, ?_, ?_, ?_⟩
 ·rw [setB_ne h1,setB_eq,updV_ne h1]
  exact fun _ => ⟨p',hp,e2,setRow_heap _ _ _ _ _ _ e3⟩
 ·rw [setB_ne h2,setB_ne h4,updV_ne h2]
  intro hl
  obtain ⟨q,f1,f2,f3⟩ := h.b hl;refine ⟨q,f1,f2,(setRow_other _ _ _ _ fun e => ?_).trans f3⟩
  subst e;exact h.ne hL hl (by rw [hp,f1])
 ·rw [setB_ne h1,setB_ne h2,updV_ne h1,updV_ne h2]; exact h.ne
 ·rw [setB_ne h1]; intro hf; rw [hL] at hf; cases hf
 ·rw [setB_ne h2,setB_ne h4]; exact h.nb
theorem JBox2.stB (h : JBox2 w0 ia ib sa sb t1 t2 za A zb B L vs W) (hL : L ib = true) {p : Nat} (hp : vs ib = .pointer (some ⟨p,0,none⟩)) {v : Value} (h1 : ia ≠ sb) (h2 : ib ≠ sb) (h3 : sa ≠ sb) : JBox2 w0 ia ib sa sb t1 t2 za A zb B (setB L sb) (updV vs sb v) (W.setRow p B):=by
 obtain ⟨p',e1,e2,e3⟩ := h.b hL;have hpp : p' = p:=by rw [hp] at e1; simp at e1; exact e1.symm
 subst hpp;refine ⟨below_setRow h.below e2 _, ?_, ?_, ?_, ?_, ?_⟩
 ·rw [setB_ne h1,setB_ne h3,updV_ne h1]
  intro hl
  obtain ⟨q,f1,f2,f3⟩ := h.a hl;refine ⟨q,f1,f2,(setRow_other _ _ _ _ fun e => ?_).trans f3⟩
  subst e;exact h.ne hl hL (by rw [hp,f1])
 ·rw [setB_ne h2,setB_eq,updV_ne h2]
  exact fun _ => ⟨p',hp,e2,setRow_heap _ _ _ _ _ _ e3⟩
 ·rw [setB_ne h1,setB_ne h2,updV_ne h1,updV_ne h2]; exact h.ne
 ·rw [setB_ne h1,setB_ne h3]; exact h.na
 ·rw [setB_ne h2]; intro hf; rw [hL] at hf; cases hf
end
open Go Go.RowKit
theorem opOK_copyB {P : Program} {w : World} {o : Oper} {a : Act} (s x : Operand) (t : TypeId) (ho : o.op = .call { callee:=.builtin .append,args:=#[s,x],argTypes:=#[t,t] })
  (e : TypeId) (z : Value) (size bytes : Nat) (ht : P.underlying t = some (.slice e)) (hi : (P.info? e).map (fun i => (i.zero,i.size,i.bytes)) = some (some z,size,bytes)) (hzs : z.cells.size = size) (hsz : 0 < size)
  (q : Nat) (hs : a.eval s = .slice (some ⟨q,0,none⟩) 0 0) {S : Nat → Prop} (v : Value) (rows : List (List Value)) (hx : a.eval x = v) (hsl : SlN size S w v rows) (_h1 : ∀ r ∈ rows, ∀ u ∈ r,u.oneCell' = true)
  (h63 : rows.length ≤ 100000) (hbytes : bytes ≤ 1000) :
  opOK P o a w (fun v' w' => Below w.heap.size w w' ∧ SlN size (fun _ => True) w' v' rows):=by
 obtain ⟨i,hi',hz0,hz1,hz2⟩ := info_parts hi;obtain ⟨al,cap,rfl,hc1,hc2,hcell⟩ := hsl;by_cases h0 : rows = []
 ·subst h0
  unfold opOK execOp;simp only [ho,resolve,invoke,builtin,Sem.run_bind,Sem.run_pure,Result.andThen_ok,List.map_toArray,List.map_cons,List.map_nil,hs,hx,List.length_nil,run_append_empty t o.type e i z ht hi' hz0];exact ⟨⟨rfl,rfl,rfl,Nat.le_refl _,fun _ _ => rfl⟩,_,_,rfl,Nat.le_refl _,Nat.zero_le _,fun i r hr => by simp at hr⟩
 ·have hlen : 0 < rows.length:=List.length_pos_iff.2 h0
  have hr : ∀ r ∈ rows,r.length = size:=fun r hr => by
   obtain ⟨i,hi⟩ := List.getElem?_of_mem hr
   exact (hcell i r hi).1
  obtain ⟨_,b,off,rfl,_,_⟩ := hcell 0 rows[0] (List.getElem?_eq_getElem hlen)
  have hfl : rows.flatten.length = rows.length * size:=flat_len hr;have hmul : rows.length * bytes ≤ 100000 * 1000:=Nat.mul_le_mul h63 hbytes;have hnews : ∀ j u,rows.flatten[j]? = some u → w.cell? ((⟨b,off,none⟩ : Addr).add j) = some u:=fun j u hj => by
   rw [addr_at];have hjl : j < rows.length * size:=by rw [← hfl]; exact (List.getElem?_eq_some_iff.1 hj).1
   have hi2 : j / size < rows.length:=(Nat.div_lt_iff_lt_mul hsz).2 hjl;have hr2:=hr rows[j / size] (List.getElem_mem hi2);have hm : j % size < size:=Nat.mod_lt _ hsz;obtain ⟨_,b',off',hal,_,hc⟩ := hcell (j / size) _ (List.getElem?_eq_getElem hi2)
   cases hal;have h3:=SlN.of_owns.flat_at (n:=0) (c:=0) (rows:=[]) hr (List.getElem?_eq_getElem hi2) (List.getElem?_eq_getElem (by rw [hr2]; exact hm))
   have hj2 : j / size * size + j % size = j:=by rw [Nat.mul_comm]; exact Nat.div_add_mod j size
   rw [hj2,hj] at h3;have h4:=hc (j % size) _ (List.getElem?_eq_getElem (by rw [hr2]; exact hm))
   rw [Nat.add_assoc,hj2] at h4;rw [h4,h3]
  obtain ⟨v',W',hrun,hown,hg⟩ := run_append_arg_grows (P:=P) w t o.type e i z size bytes ht hi' hz0 hz1 hz2 hzs hsz ⟨q,0,none⟩ 0 0 [] (by simp) (fun j u hj => by simp at hj) ⟨b,off,none⟩ rows.length cap rows.flatten hfl hnews (by omega) (by unfold maxLen; omega) (by rw [Nat.zero_add]; exact Nat.le_trans hmul (by decide))
  unfold opOK execOp;simp only [ho,resolve,invoke,builtin,Sem.run_bind,Sem.run_pure,Result.andThen_ok,List.map_toArray,List.map_cons,List.map_nil,hs,hx,hrun];refine ⟨below_grownBy hg (Nat.le_refl _) (fun k hk => by cases hk), ?_⟩
  rw [Nat.zero_add,List.nil_append] at hown;exact (SlN.of_ownsN hown hr).mono fun _ _ => trivial
end Go.Oche

/- TopBoardHeard: Truth's spans, and what the law says of them (texts of chapter 5's QE). -/
namespace Go.Proofs.YtnbmgkmcaoafnaaGreatDoor
open Go Go.RowKit Go.Oche Go.Proofs

def SpansAt (W : World) (g n : Nat) (f : Nat → Int × Int) : Prop:=W.heap[g]? = some (.cells (spFlat ((List.range n).map f)).toArray 65 (0,0))
theorem SpansAt.below {W W' : World} {g n : Nat} {f : Nat → Int × Int} (h : SpansAt W g n f) (hb : Below W.heap.size W W') : SpansAt W' g n f:=(hb.block g (Array.getElem?_eq_some_iff.1 h).1).trans h
theorem SpansAt.cells {W : World} {g n : Nat} {f : Nat → Int × Int} (h : SpansAt W g n f) {i : Nat} (hi : i < n) : W.cell? ⟨g,i * 2,none⟩ = some (.int .i64 (f i).1) ∧ W.cell? ⟨g,i * 2 + 1,none⟩ = some (.int .i64 (f i).2):=by
 have h2:=spFlat_at (L:=(List.range n).map f) (k:=i) (by simpa using hi)
 rw [cell_of_heap h,cell_of_heap h]
 simpa using h2
section
variable {l : Lg}
theorem trL_in (hP : 1 ≤ l.players) (hT : 0 ≤ l.turns) {list : List Rp} (h : HasTruth l (allS list)) {t : Nat} (ht : t < l.turns.toNat) {sp : Sp} (hm : sp ∈ keptL l (allS list) t) :
  ((trL (keptL l (allS list) t)).score.1 ≤ sp.score ∧ sp.score ≤ (trL (keptL l (allS list) t)).score.2) ∧ ((trL (keptL l (allS list) t)).left.1 ≤ sp.en.left ∧ sp.en.left ≤ (trL (keptL l (allS list) t)).left.2) ∧ ((trL (keptL l (allS list) t)).darts.1 ≤ (sp.darts : Int) ∧ (sp.darts : Int) ≤ (trL (keptL l (allS list) t)).darts.2):=by
 have hne:=kept_ne hP hT h ht;exact ⟨(spanL_is (xs:=(keptL l (allS list) t).map Sp.score) (by simpa using hne)).2.2 _ (List.mem_map_of_mem hm),(spanL_is (xs:=(keptL l (allS list) t).map fun s => s.en.left) (by simpa using hne)).2.2 _ (List.mem_map_of_mem (f:=fun s : Sp => s.en.left) hm),(spanL_is (xs:=(keptL l (allS list) t).map fun s => (s.darts : Int)) (by simpa using hne)).2.2 _ (List.mem_map_of_mem (f:=fun s : Sp => (s.darts : Int)) hm)⟩
theorem truthE_zero (hc : checkL l = 0) {list : List Rp} (hlen : list.length ≤ 100) (hb : ∀ r ∈ list,badR l.turns r = false) (h : HasTruth l (allS list)) : truthE l list = 0:=by
 have h1 : checkR l list 100 = 0:=by
  unfold checkR;rw [if_neg (by rw [hc]; simp),if_neg (by simp; omega),if_neg]
  rw [List.any_eq_true];rintro ⟨r,hr,hbr⟩;rw [hb r hr] at hbr; cases hbr
 unfold truthE;rw [if_neg (by rw [h1]; simp),if_pos]
 rw [List.all_eq_true];exact fun p hp => player_some.2 (h p (List.mem_range.1 hp))
theorem truthE_nine (hc : checkL l = 0) {list : List Rp} (hlen : list.length ≤ 100) (hb : ∀ r ∈ list,badR l.turns r = false) (h : ¬ HasTruth l (allS list)) : truthE l list = 9:=by
 have h1 : checkR l list 100 = 0:=by
  unfold checkR;rw [if_neg (by rw [hc]; simp),if_neg (by simp; omega),if_neg]
  rw [List.any_eq_true];rintro ⟨r,hr,hbr⟩;rw [hb r hr] at hbr; cases hbr
 unfold truthE;rw [if_neg (by rw [h1]; simp),if_neg]
 rw [List.all_eq_true];exact fun hh => h fun p hp => player_some.1 (hh p (List.mem_range.2 hp))
end
def scF (l : Lg) (list : List Rp) (t : Nat) : Int × Int:=(trL (keptL l (allS list) t)).score
def leF (l : Lg) (list : List Rp) (t : Nat) : Int × Int:=(trL (keptL l (allS list) t)).left
def daF (l : Lg) (list : List Rp) (t : Nat) : Int × Int:=(trL (keptL l (allS list) t)).darts
theorem truth_ok {S S' : Nat → Prop} (l : Lg) (bv lv : Value) (list : List Rp) (n : Nat) (hn : l.turns = (n : Int)) (w : World) (hs : Sl S w bv (ints l.beds)) (hbd : BedsIn l) (hl : SlN 3 S' w lv (list.map rpRow)) (hc : checkL l = 0) (hlen : list.length ≤ 100) (hb : ∀ r ∈ list,badR l.turns r = false) (h : HasTruth l (allS list)) :
  Calls Tryz.prog 10 #[legV l bv,lv] w fun e w' => ∃ g1 g2 g3,e = .returned (.tuple #[.slice (some ⟨g1,0,none⟩) n n,.slice (some ⟨g2,0,none⟩) n n,.slice (some ⟨g3,0,none⟩) n n,.int .i64 0]) ∧ Below w.heap.size w w' ∧ SpansAt w' g1 n (scF l list) ∧ SpansAt w' g2 n (leF l list) ∧ SpansAt w' g3 n (daF l list):=by
 refine (truth_any l bv lv list w hs hbd hl).mono ?_
 rintro e w' ⟨v1,v2,v3,rfl,hb', -,hz⟩;have h0:=truthE_zero hc hlen hb h;obtain ⟨g1,g2,g3,rfl,rfl,rfl, -, -, -,k1,k2,k3⟩ := hz h0;have e : l.turns.toNat = n:=by rw [hn]; rfl
 rw [h0];rw [e] at k1 k2 k3 ⊢;exact ⟨g1,g2,g3,rfl,hb',k1,k2,k3⟩
theorem badR_no {T : Int} {r : Rp} (h : 0 ≤ r.turn ∧ r.turn ≤ T - 1) (hs : -1 ≤ r.score ∧ r.score ≤ 240) (hl : -1 ≤ r.left ∧ r.left ≤ 1001) : badR T r = false:=by
 unfold badR isIn;rw [decide_eq_true h.1,decide_eq_true h.2,decide_eq_true hs.1,decide_eq_true hs.2,decide_eq_true hl.1,decide_eq_true hl.2]; rfl
theorem legF_turns (x : Ovh) : (legF x).turns = ((playH x).out.length : Int):=rfl
theorem legF_in (x : Ovh) : BedsIn (legF x):=fun b hb => by
 have:=bed10_ok b (show b ∈ beds10 from hb); omega
theorem bad_of (x : Ovh) {list : List Rp} (h : ∀ r ∈ list,(0 ≤ r.turn ∧ r.turn ≤ (legF x).turns - 1) ∧ (-1 ≤ r.score ∧ r.score ≤ 40) ∧ (-1 ≤ r.left ∧ r.left ≤ 40)) : ∀ r ∈ list,badR (legF x).turns r = false:=fun r hr => by
 have hb:=h r hr;exact badR_no hb.1 (by omega) (by omega)
theorem playH_in (x : Ovh) (i : Nat) (sp : Sp) (hi : (playH x).out[i]? = some sp) : ((scF (legF x) (saidH x) i).1 ≤ sp.score ∧ sp.score ≤ (scF (legF x) (saidH x) i).2) ∧ ((leF (legF x) (saidH x) i).1 ≤ sp.en.left ∧ sp.en.left ≤ (leF (legF x) (saidH x) i).2) ∧ ((daF (legF x) (saidH x) i).1 ≤ (sp.darts : Int) ∧ (sp.darts : Int) ≤ (daF (legF x) (saidH x) i).2):=by
 have ht:=saidH_truth x;have hl:=(List.getElem?_eq_some_iff.1 hi).1
 exact trL_in (l:=legF x) (show (1 : Int) ≤ 2 by decide) (by rw [legF_turns]; omega) ht.1 (by rw [legF_turns]; simpa using hl) (ht.2 i sp hi)
theorem rp_one (list : List Rp) : ∀ r ∈ list.map rpRow, ∀ u ∈ r,u.oneCell' = true:=fun r hr u hu => by
 obtain ⟨x,_,rfl⟩ := List.mem_map.1 hr;simp [rpRow] at hu;rcases hu with rfl | rfl | rfl <;> rfl
section
variable {l : Lg} {list : List Rp}
theorem checkR_zero (hc : checkL l = 0) (hlen : list.length ≤ 10) (hb : ∀ r ∈ list,badR l.turns r = false) : checkR l list 10 = 0:=by
 unfold checkR;rw [if_neg (by rw [hc]; simp),if_neg (by simp; omega),if_neg]
 simp only [List.any_eq_true,not_exists,not_and];intro r hr;rw [hb r hr]; simp
theorem blameE_zero (hc : checkL l = 0) (hlen : list.length ≤ 10) (hb : ∀ r ∈ list,badR l.turns r = false) : blameE l list = 0:=checkR_zero hc hlen hb
end
theorem blamesIs {S S' : Nat → Prop} (l : Lg) (bv lv : Value) (list : List Rp) (w : World) (hs : Sl S w bv (ints l.beds)) (hbd : BedsIn l) (hl : SlN 3 S' w lv (list.map rpRow)) (hlen : list.length ≤ 5) (hT : Tab5 w) (h0 : blameE l list = 0) :
  Calls Tryz.prog 12 #[legV l bv,lv] w fun e w' => ∃ v,e = .returned (.tuple #[v,.int .i64 0]) ∧ Below w.heap.size w w' ∧ ∃ out,Blames l list out ∧ SlSl (fun _ => True) w' v (out.map nInts):=by
 refine (blame_any l bv lv list w hs hbd hl (.inl hlen) hT).mono ?_
 rintro e w' ⟨v,out,rfl,hb, -,h2⟩;obtain ⟨h3,h4⟩ := h2 h0;exact ⟨v,by rw [h0],hb,out,h3,h4.mono fun _ _ => trivial⟩
theorem sets_at {S : Nat → Prop} {W : World} {a : Option Addr} {n c i : Nat} {out : List (List Nat)} {x : List Nat} (h : SlSl S W (.slice a n c) (out.map nInts)) (hx : out[i]? = some x) :
  ∃ b off ua uc,a = some ⟨b,off,none⟩ ∧ W.cell? ⟨b,off + i,none⟩ = some (.slice ua x.length uc) ∧ Sl S W (.slice ua x.length uc) (ints (nInts x)):=by
 obtain ⟨hl,e⟩ := List.getElem?_eq_some_iff.1 hx
 obtain ⟨b,off,u,rfl, -,h1,h2⟩ := h.cell (i:=i) (by rw [List.length_map]; exact hl)
 have e2 : (out.map nInts)[i]'(by rw [List.length_map]; exact hl) = nInts x:=by rw [List.getElem_map,e]
 rw [e2] at h2;obtain ⟨ua,uc,rfl, -, -⟩ := h2.form;have e3 : (ints (nInts x)).length = x.length:=by simp [nInts]
 rw [e3] at h1 h2;exact ⟨b,off,ua,uc,rfl,h1,h2⟩
theorem lied_in_all (x : Ovh) {out : List (List Nat)} (h : Blames (legF x) (liedH x) out) : ∀ y ∈ out,lieI x ∈ y:=fun y hy => lied_in x ((h.mem y).1 hy)
def kAny : Kn:=⟨fun _ => True,fun _ _ => True,fun _ _ _ _ _ => trivial⟩
def kTold (L : List Rp) (n : Nat) : Kn where
 s:=fun v => ∃ a c,v = .slice a n c
 p:=fun v w => ∃ a c,v = .slice a n c ∧ SlN 3 (fun _ => True) w (.slice a n c) (L.map rpRow)
 m:=fun _ _ _ hb ⟨a,c,e,h⟩ => ⟨a,c,e,h.below hb⟩
def kSets (P : List (List Nat) → Prop) : Kn where
 s:=fun _ => True
 p:=fun v w => ∃ out,P out ∧ SlSl (fun _ => True) w v (out.map nInts)
 m:=fun _ _ _ hb ⟨o,e,h⟩ => ⟨o,e,h.below hb⟩
def kSetsT (P : List (List Nat) → Prop) : Kn where
 s:=fun v => ∃ u,v = .tuple #[u,.int .i64 0]
 p:=fun v w => ∃ u out,v = .tuple #[u,.int .i64 0] ∧ P out ∧ SlSl (fun _ => True) w u (out.map nInts)
 m:=fun _ _ _ hb ⟨u,o,e,h1,h⟩ => ⟨u,o,e,h1,h.below hb⟩
theorem rp_setS : ∀ {l : List Rp} {i : Nat} {r : Rp} (s : Int),l[i]? = some r → (((l.set i ⟨r.turn,s,r.left⟩).map rpRow).flatten) = ((l.map rpRow).flatten).set (i * 3 + 1) (.int .i64 s)
 | [],_,_,_,h => by simp at h
 | a :: l,0,r,s,h => by
  have : a = r:=by simpa using h
  subst this; rfl
 | a :: l,i + 1,r,s,h => by
  have ih:=rp_setS (l:=l) (i:=i) s (by simpa using h)
  have e : (i + 1) * 3 + 1 = i * 3 + 1 + 3:=by omega
  rw [List.set_cons_succ,List.map_cons,List.flatten_cons,ih,e]
  rfl
theorem rp_setL : ∀ {l : List Rp} {i : Nat} {r : Rp} (s : Int),l[i]? = some r → (((l.set i ⟨r.turn,r.score,s⟩).map rpRow).flatten) = ((l.map rpRow).flatten).set (i * 3 + 2) (.int .i64 s)
 | [],_,_,_,h => by simp at h
 | a :: l,0,r,s,h => by
  have : a = r:=by simpa using h
  subst this; rfl
 | a :: l,i + 1,r,s,h => by
  have ih:=rp_setL (l:=l) (i:=i) s (by simpa using h)
  have e : (i + 1) * 3 + 2 = i * 3 + 2 + 3:=by omega
  rw [List.set_cons_succ,List.map_cons,List.flatten_cons,ih,e]
  rfl
theorem rows_sl {W : World} {base m : Nat} {v : Value} {L : List Rp} (h : W.ownsRow base 58 3 v m ((L.map rpRow).flatten)) (hm : L.length = m) : SlN 3 (fun q => base ≤ q) W v (L.map rpRow) :=
 SlN.of_ownsN (by rw [List.length_map,hm]; exact h) (fun r hr => by obtain ⟨s,_,rfl⟩ := List.mem_map.1 hr; rfl)
theorem own_frozen {W : World} {base k n g c o : Nat} {e : TypeId} {xs : List Value} (h : W.ownsRow base e k (.slice (some ⟨g,0,none⟩) n c) n xs) : W.frozen? ⟨g,o,none⟩ = false:=by
 rcases h.2 with ⟨e1,_⟩ | ⟨g',cap,cur,e1,h1,h2,_⟩
 ·cases e1
 ·cases e1
  exact frozen_of_heap h2
theorem rp_cells {S : Nat → Prop} {W : World} {b m c f : Nat} {L : List Rp} {i : Nat} {rt rs rl : Int} (h : SlN 3 S W (.slice (some ⟨b,f,none⟩) m c) (L.map rpRow)) (hr : L[i]? = some ⟨rt,rs,rl⟩) :
  W.cell? ⟨b,f + i * 3,none⟩ = some (.int .i64 rt) ∧ W.cell? ⟨b,f + i * 3 + 1,none⟩ = some (.int .i64 rs) ∧ W.cell? ⟨b,f + i * 3 + 2,none⟩ = some (.int .i64 rl):=by
 obtain ⟨hl,e⟩ := List.getElem?_eq_some_iff.1 hr
 obtain ⟨b',f',hra, -, -,hc⟩ := h.cell (i:=i) (by rw [List.length_map]; exact hl)
 cases hra;have hrow : (L.map rpRow)[i]'(by rw [List.length_map]; exact hl) = [.int .i64 rt,.int .i64 rs,.int .i64 rl]:=by rw [List.getElem_map,e]; rfl
 rw [hrow] at hc;have p0:=hc 0 _ rfl;rw [Nat.add_zero] at p0;exact ⟨p0,hc 1 _ rfl,hc 2 _ rfl⟩
def kEmp : Kn:=⟨fun v => ∃ q,v = .slice (some ⟨q,0,none⟩) 0 0,fun _ _ => True,fun _ _ _ _ _ => trivial⟩
def slH (n g : Nat) : Value:=.slice (some ⟨g,0,none⟩) n n
def tupH (n g1 g2 g3 : Nat) : Value:=.tuple #[slH n g1,slH n g2,slH n g3,.int .i64 0]
def kTr (n : Nat) (f1 f2 f3 : Nat → Int × Int) : Kn where
 s:=fun v => ∃ g1 g2 g3,v = tupH n g1 g2 g3
 p:=fun v w => ∃ g1 g2 g3,v = tupH n g1 g2 g3 ∧ SpansAt w g1 n f1 ∧ SpansAt w g2 n f2 ∧ SpansAt w g3 n f3
 m:=fun _ _ _ hb ⟨g1,g2,g3,e,h1,h2,h3⟩ => ⟨g1,g2,g3,e,h1.below hb,h2.below hb,h3.below hb⟩
def kSp (n : Nat) (f : Nat → Int × Int) : Kn where
 s:=fun v => ∃ g,v = slH n g
 p:=fun v w => ∃ g,v = slH n g ∧ SpansAt w g n f
 m:=fun _ _ _ hb ⟨g,e,h⟩ => ⟨g,e,h.below hb⟩
def kTe (te : Int) : Kn:=⟨fun v => ∃ a b c,v = .tuple #[a,b,c,.int .i64 te],fun _ _ => True,fun _ _ _ _ _ => trivial⟩
theorem armIn_yes {n a b : Int} (h : a ≤ n ∧ n ≤ b) (w : World) : Calls Tryz.prog 11 #[.int .i64 n,.agg #[.int .i64 a,.int .i64 b]] w fun e w' => e = .returned (.bool true) ∧ Below w.heap.size w w' :=
 (armIn_any n a b w).mono fun e w' ⟨h1,h2⟩ => ⟨by rw [h1,decide_eq_true h.1,decide_eq_true h.2]; rfl,h2⟩
end Go.Proofs.YtnbmgkmcaoafnaaGreatDoor
