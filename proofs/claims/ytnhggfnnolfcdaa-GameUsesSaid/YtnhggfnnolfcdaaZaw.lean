/- The texts KI, in build order. -/
import Derived.Test.YtnhggfnnolfcdaaZav
import Derived.BigQuiet
import Derived.Deep.QuietTactic
import Derived.Deep.DeepCutAuto
import Derived.Deep.CutRange
import Derived.Deep.CutBlock

/- Chapter 4, the reference: a dart of cricket. -/
namespace Go.Proofs.Ytnhggfnnolfcdaa
open Go.RowKit Go.Oche Go.Proofs
set_option maxRecDepth 100000 in
set_option maxHeartbeats 4000000 in
theorem refCricket_any (t pb cap : Nat) (r : Rul) (g : Gam) (wv nv : Value) (f : Nat) (n M : Int) (w : World) (h : GamAt w t pb r g cap wv nv) (hi : Run r M g) (k : r.kind = 2) (hM : M ≤ 900000) (hf : f ≤ 4) (hn : 0 ≤ n ∧ n ≤ 25) :
  Calls Try.prog 52 #[.pointer (some ⟨t,0,none⟩),.int .i64 f,.int .i64 n,.int .i64 g.player] w (RefPost t pb r cap nv wv w (dartCricket r g f n)):=by
 rw [← cricket_eq hi.toInv k (f:=f) (n:=n) (by omega)]
 obtain ⟨d,hd⟩ : ∃ d,cricketR r g f n = d:=⟨_,rfl⟩
 rw [hd]
 obtain ⟨np,hnp⟩ : ∃ x,g.pls.length = x:=⟨_,rfl⟩
 obtain ⟨pl,hpe⟩ : ∃ x,g.player = x:=⟨_,rfl⟩
 obtain ⟨cu,hcu⟩ : ∃ x,r.cut = x:=⟨_,rfl⟩
 have htw : t < w.heap.size:=h.lt t (.inl rfl)
 have hcap:=h.cap
 rw [hnp] at hcap
 have hpl : pl < np:=by rw [← hnp,← hpe]; exact hi.pl
 have hpli : (pl : Int) < (np : Int):=by omega
 have hnp8 : np ≤ 8:=by rw [← hnp]; have:=hi.len; have:=players_of hi.ok; omega
 have c13 : w.cell? ⟨t,13,none⟩ = some (.slice (some ⟨pb,0,none⟩) np cap):=by rw [← hnp]; exact h.at_ rfl
 rw [hpe]
 have HT:=Lib.hid h
 have HD:=Lib.hid hd
 have HNP:=Lib.hid hnp
 have HPE:=Lib.hid hpe
 have HCU:=Lib.hid hcu
 have HI:=Lib.hid hi
 have HK:=Lib.hid k
 clear h hd hnp hi k hpe hcu
 go_enter Try.func52,Try.ntmps52
 go_upto_block 0 with fail
 go_cut [1,9,10,11] from 19 to 101 (fun _ _ _ _ wx => ∃ g2,Hid (cricM r g f n = g2 ∧ Inv r (M + 100) g2 ∧ Kept g g2 ∧ GamAt wx t pb r g2 cap wv nv ∧ Rel (TO t pb) w (TO t pb) wx))
 case first =>
  go_wp2_with fail
  go_loopw [1,9] (fun fv iv wr => ∃ (i x : Nat) (g2 : Gam),i ≤ 7 ∧ x ≤ 4 ∧ iv = .int .i64 i ∧ fv = .int .i64 x ∧ Hid (CrAt r M g n f i x g2 ∧ Inv r (M + 100) g2 ∧ Kept g g2 ∧ GamAt wr t pb r g2 cap wv nv ∧ Rel (TO t pb) w (TO t pb) wr)) (fun _ iv _ => 7 - (intOf iv).toNat)
  case atStart => exact ⟨0,f,g,by omega,hf,by go_num,rfl,Lib.hid ⟨.inr ⟨fun p hp => by omega,rfl,rfl⟩,HI.out.toInv.mono (by omega),Kept.refl g,HT.out,Rel.of_below (Below.refl _ _) HT.out.lt⟩⟩
  case round =>
   obtain ⟨i,x,g2,hi7,hx4,rfl,rfl,HG⟩ := hrel
   obtain ⟨wi,rfl⟩ : ∃ y : World,y = wr:=⟨_,rfl⟩
   by_cases hin : i < 7
   ·have hini : (i : Int) < 7:=by omega
    have d1 : decide ((i : Int) < 7) = true:=decide_eq_true hini
    have d1n : decide (i < 7) = true:=decide_eq_true hin
    have zi : IntKind.i64.wrap ((i : Int) + 1) = (i : Int) + 1:=wrap_small _ (by omega) (by omega)
    obtain ⟨b,hb⟩ : ∃ b,(n != numA i) = b:=⟨_,rfl⟩
    obtain ⟨nn,hnn⟩ : ∃ y,numA i = y:=⟨_,rfl⟩
    have HNN:=Lib.hid hnn
    have HIDX:=Lib.hid (fun w => idxC i hin w)
    rw [hnn] at hb HIDX
    have HB:=Lib.hid hb
    clear hnn
    cases b with
    | true =>
     have HN : Hid (n ≠ numA i):=Lib.hid (by rw [HNN.out]; have:=HB.out; simpa using this)
     go_wp2
     rw [HIDX.out]
     go_wp2
     go_roundw
     case rel => exact ⟨i + 1,x,g2,by omega,hx4,by go_num,rfl,Lib.hid ⟨HG.out.1.miss hin HN.out,HG.out.2⟩⟩
     case measure => simp [intOf]; omega
    | false =>
     have HN : Hid (n = numA i):=Lib.hid (by rw [HNN.out]; have:=HB.out; simpa using this)
     have HX:=Lib.hid (HG.out.1.hit hin HN.out)
     have HG3 : Hid (MkOk r M g i n f x g2 ∧ GamAt wi t pb r g2 cap wv nv ∧ Rel (TO t pb) w (TO t pb) wi):=Lib.hid ⟨by rw [HX.out.1,HX.out.2]; exact MkOk.start HI.out.toInv i n hf,HG.out.2.2.2⟩
     clear HG HX
     go_wp2
     rw [HIDX.out]
     clear HIDX
     go_wp2_with fail
     go_loopw [1] (fun fv wr => ∃ (x : Nat) (g3 : Gam),x ≤ 4 ∧ fv = .int .i64 x ∧ Hid (MkOk r M g i n f x g3 ∧ GamAt wr t pb r g3 cap wv nv ∧ Rel (TO t pb) w (TO t pb) wr)) (fun fv _ => (intOf fv).toNat)
     case atStart => exact ⟨x,g2,hx4,rfl,HG3⟩
     case round =>
      clear HG3
      obtain ⟨x,g3,hx4,rfl,HG⟩ := hrel
      obtain ⟨wi,rfl⟩ : ∃ y : World,y = wr:=⟨_,rfl⟩
      by_cases hx0 : 0 < x
      ·have e1 : decide ((0 : Int) < (x : Int)) = true:=decide_eq_true (by omega)
       have e1n : decide (0 < x) = true:=decide_eq_true hx0
       have zx : IntKind.i64.wrap ((x : Int) - 1) = (x : Int) - 1:=wrap_small _ (by omega) (by omega)
       have hx1 : ((x - 1 : Nat) : Int) = (x : Int) - 1:=by omega
       have HX1:=Lib.hid hx1
       have hk3:=HG.out.1.kept
       have HP3 : Hid (g3.player = pl):=Lib.hid (by rw [hk3.player]; exact HPE.out)
       have HN3 : Hid (g3.pls.length = np):=Lib.hid (by rw [hk3.len]; exact HNP.out)
       have hme:=HG.out.1.inv.each _ (plr_mem HG.out.1.inv.pl)
       rw [HP3.out] at hme
       have hmb:=mark_bd hme.1 (i:=i)
       obtain ⟨m,hm⟩ : ∃ y,(plr g3 pl).mks.getD i 0 = y:=⟨_,rfl⟩
       rw [hm] at hmb
       have h3 : pl < g3.pls.length:=by rw [HN3.out]; exact hpl
       have km : wi.cell? ⟨pb,pl * 9 + 1 + i,none⟩ = some (.int .i64 m):=by rw [← hm,← plr_at h3]; exact HG.out.2.1.pls.mark h3 hin
       have HM3:=Lib.hid hm
       have HME:=Lib.hid hme
       clear hx1 hk3 hm h3 hme
       by_cases hm3 : m < 3
       ·have dm : decide (m < 3) = true:=decide_eq_true hm3
        have zm : IntKind.i64.wrap (m + 1) = m + 1:=wrap_small _ (by omega) (by omega)
        have HEQ : Hid (markR r i n g3 = setP g3 pl { plr g3 pl with mks:=(plr g3 pl).mks.set i (m + 1) }):=Lib.hid (by
         unfold markR; dsimp only; rw [HP3.out,HM3.out,if_pos hm3])
        go_upto_region 8 with fail
        refine wp_region_seq 11 [.is (.slice (some ⟨pb,0,none⟩) np cap),.is (.int .i64 pl),.is (.int .i64 i),.is (.pointer (some ⟨pb,pl * 9,none⟩)),.is (.pointer (some ⟨pb,(pl * 9 + 1),none⟩)),.is (.pointer (some ⟨pb,(pl * 9 + 1 + i),none⟩)),.is (.int .i64 m),.is (.int .i64 (m + 1)),.is (.pointer (some ⟨pb,pl * 9,none⟩)),.is (.pointer (some ⟨pb,(pl * 9 + 1),none⟩)),.is (.pointer (some ⟨pb,(pl * 9 + 1 + i),none⟩))] rfl mix (by kernel_rfl) (by kernel_rfl) ?seqm
        case seqm =>
         simp only [List.take_succ_cons,List.take_zero]
         iterate 11
          refine seq_on (by rfl) (fun w3 hb3 _ => ?_) ?_
          ·have y1:=bAt hb3 km
           simp [opOK,go_sem,y1,hpli,hini,zm,Below.refl]
           try exact rfl
          simp only [Act.put,List.setIfInBounds_toArray,List.set_cons_succ,List.set_cons_zero]
         refine seq_end fun w3 hb_w3 _ => ?_
         simp only [List.drop_succ_cons,List.drop_zero]
         replace km:=bAt hb_w3 km
         have fz : w3.frozen? ⟨pb,pl * 9 + 1 + i,none⟩ = false:=(HG.out.2.1.below hb_w3).pls.free _
         have HG4:=Lib.hid (And.intro (HG.out.2.1.below hb_w3) (HG.out.2.2.ext hb_w3))
         clear hb_w3 dm
         go_wp2
         go_roundw
         case rel =>
          refine ⟨x - 1,_,by omega,by rw [HX1.out],Lib.hid ⟨HG.out.1.next HK.out hn hx0 HEQ.out,HG4.out.1.setMark (by rw [HN3.out]; exact hpl) hin (m + 1),HG4.out.2.setCell (.inr rfl) _⟩⟩
         case measure => simp [intOf]; omega
       ·have dm : decide (m < 3) = false:=decide_eq_false hm3
        have HEQ : Hid (markR r i n g3 = extraG r g3 i n):=Lib.hid (by
         unfold markR; dsimp only; rw [HP3.out,HM3.out,if_neg hm3])
        have HEX : Hid ((if opF g3.pls i (othK pl np) = true ∧ r.cut = false then setP { g3 with pls:=exF r i n g3.pls (othK pl np) } pl { plr g3 pl with pts:=(plr g3 pl).pts + n } else { g3 with pls:=exF r i n g3.pls (othK pl np) }) = extraG r g3 i n):=Lib.hid (by
         have:=extra_fold (r:=r) (i:=i) (pt:=n) HG.out.1.inv.pl
         simpa only [HP3.out,HN3.out] using this)
        go_wp2_with fail
        clear km
        go_loopw [10,11] (fun ov kv wr => ∃ (k : Nat) (o : Bool),k ≤ np ∧ kv = .int .i64 k ∧ ov = .bool o ∧ Hid (o = opF g3.pls i (othK pl k) ∧ GamAt wr t pb r { g3 with pls:=exF r i n g3.pls (othK pl k) } cap wv nv ∧ Rel (TO t pb) w (TO t pb) wr)) (fun _ kv _ => np - (intOf kv).toNat)
        case atStart => exact ⟨0,false,by omega,by go_num,rfl,Lib.hid ⟨rfl,HG.out.2⟩⟩
        case round =>
         obtain ⟨k,o,hkn,rfl,rfl,HK3⟩ := hrel
         obtain ⟨wi,rfl⟩ : ∃ y : World,y = wr:=⟨_,rfl⟩
         obtain ⟨G,hG⟩ : ∃ G : Gam,G = { g3 with pls:=exF r i n g3.pls (othK pl k) }:=⟨_,rfl⟩
         have HGG:=Lib.hid hG
         have HNG : Hid (G.pls.length = np):=Lib.hid (by rw [hG]; dsimp only; rw [exF_len,HN3.out])
         have HTG : Hid (GamAt wi t pb r G cap wv nv):=Lib.hid (by rw [hG]; exact HK3.out.2.1)
         clear hG
         by_cases hkl : k < np
         ·have d2 : decide ((k : Int) < (np : Int)) = true:=decide_eq_true (by omega)
          have d2n : decide (k < np) = true:=decide_eq_true hkl
          have zk : IntKind.i64.wrap ((k : Int) + 1) = (k : Int) + 1:=wrap_small _ (by omega) (by omega)
          by_cases hkp : k = pl
          ·have z1 : ((k : Int) != (pl : Int)) = false:=by rw [hkp]; simp
           have z1n : (k != pl) = false:=by rw [hkp]; simp
           have HOK : Hid (othK pl (k + 1) = othK pl k):=Lib.hid (by rw [othK_succ,if_pos hkp]; simp)
           clear hkp
           go_wp2
           go_roundw
           case rel => exact ⟨k + 1,o,by omega,by go_num,rfl,Lib.hid ⟨by rw [HOK.out]; exact HK3.out.1,by rw [HOK.out]; exact HK3.out.2.1,HK3.out.2.2⟩⟩
           case measure => simp [intOf]; omega
          ·have z1 : ((k : Int) != (pl : Int)) = true:=by simp; omega
           have z1n : (k != pl) = true:=by simp; omega
           have HOK : Hid (othK pl (k + 1) = othK pl k ++ [k]):=Lib.hid (by rw [othK_succ,if_neg hkp])
           clear hkp
           have hkG : k < G.pls.length:=by rw [HNG.out]; exact hkl
           have hk3 : k < g3.pls.length:=by rw [HN3.out]; exact hkl
           obtain ⟨mk,hmk⟩ : ∃ y,(plr g3 k).mks.getD i 0 = y:=⟨_,rfl⟩
           obtain ⟨P,hP⟩ : ∃ y,(plr g3 k).pts = y:=⟨_,rfl⟩
           have hGk : plr G k = plr g3 k:=by rw [HGG.out]; exact exF_pts r i n g3.pls pl k hk3 (.inl (Nat.le_refl _))
           have hPb:=HG.out.1.inv.each _ (plr_mem hk3)
           have hPn:=hPb.1.nn
           have hPm:=hPb.2
           rw [hP] at hPn hPm
           have km : wi.cell? ⟨pb,k * 9 + 1 + i,none⟩ = some (.int .i64 mk):=by rw [← hmk,← hGk,← plr_at hkG]; exact HTG.out.pls.mark hkG hin
           have kp : wi.cell? ⟨pb,k * 9,none⟩ = some (.int .i64 P):=by rw [← hP,← hGk,← plr_at hkG]; exact HTG.out.pls.pts hkG
           have kc : wi.cell? ⟨t,6,none⟩ = some (.bool cu):=by rw [← HCU.out]; exact HTG.out.at_ rfl
           have HGK:=Lib.hid (And.intro hmk (And.intro hP hGk))
           have HST : Hid (exF r i n g3.pls (othK pl (k + 1)) = if cu = true ∧ mk < 3 then G.pls.set k { plr G k with pts:=P + n } else G.pls):=Lib.hid (by
            have e1 : exF r i n g3.pls (othK pl k) = G.pls:=by rw [HGG.out]
            have e2 : G.pls.getD k default = plr g3 k:=hGk
            rw [HOK.out,exF_snoc,e1,exStep,HCU.out,e2,hmk,hP,hGk])
           have HOP : Hid (opF g3.pls i (othK pl (k + 1)) = (o || decide (mk < 3))):=Lib.hid (by
            have e2 : g3.pls.getD k default = plr g3 k:=rfl
            rw [HOK.out,opF_snoc,← HK3.out.1,e2,hmk])
           have zP : IntKind.i64.wrap (P + n) = P + n:=wrap_small _ (by omega) (by omega)
           clear hmk hP hGk hPb
           by_cases hq : mk < 3
           ·have dq : decide (mk < 3) = true:=decide_eq_true hq
            have HOP2 : Hid (true = opF g3.pls i (othK pl (k + 1))):=Lib.hid (by rw [HOP.out,dq]; simp)
            cases cu with
            | true =>
             have HST2 : Hid (exF r i n g3.pls (othK pl (k + 1)) = G.pls.set k { plr G k with pts:=P + n }):=Lib.hid (by rw [HST.out,if_pos ⟨rfl,hq⟩])
             have fz:=HTG.out.pls.free (k * 9)
             clear hq
             go_wp2
             go_roundw
             case rel =>
              refine ⟨k + 1,true,by omega,by go_num,rfl,Lib.hid ⟨HOP2.out, ?_,HK3.out.2.2.setCell (.inr rfl) _⟩⟩
              refine (HTG.out.setPts hkG (P + n)).same ?_
              rw [HST2.out]
              have:=HGG.out
              rw [this]; rfl
             case measure => simp [intOf]; omega
            | false =>
             have HST2 : Hid (exF r i n g3.pls (othK pl (k + 1)) = G.pls):=Lib.hid (by rw [HST.out,if_neg (by simp)])
             clear hq
             go_wp2
             go_roundw
             case rel =>
              refine ⟨k + 1,true,by omega,by go_num,rfl,Lib.hid ⟨HOP2.out, ?_,HK3.out.2.2⟩⟩
              refine HTG.out.same ?_
              rw [HST2.out]
              have:=HGG.out
              rw [this]
             case measure => simp [intOf]; omega
           ·have dq : decide (mk < 3) = false:=decide_eq_false hq
            have HOP2 : Hid (o = opF g3.pls i (othK pl (k + 1))):=Lib.hid (by rw [HOP.out,dq]; simp)
            have HST2 : Hid (exF r i n g3.pls (othK pl (k + 1)) = G.pls):=Lib.hid (by rw [HST.out,if_neg (fun h => hq h.2)])
            clear hq
            go_wp2
            go_roundw
            case rel =>
             refine ⟨k + 1,o,by omega,by go_num,rfl,Lib.hid ⟨HOP2.out, ?_,HK3.out.2.2⟩⟩
             refine HTG.out.same ?_
             rw [HST2.out]
             have:=HGG.out
             rw [this]
            case measure => simp [intOf]; omega
         ·obtain rfl : k = np:=by omega
          obtain ⟨np,rfl⟩ : ∃ x : Nat,x = k:=⟨_,rfl⟩
          have d2 : decide ((np : Int) < (np : Int)) = false:=decide_eq_false (by omega)
          have kc : wi.cell? ⟨t,6,none⟩ = some (.bool cu):=by rw [← HCU.out]; exact HTG.out.at_ rfl
          by_cases hgo : o = true ∧ cu = false
          ·obtain ⟨rfl,rfl⟩ := hgo
           have hG3 : pl < G.pls.length:=by rw [HNG.out]; exact hpl
           have hG4 : pl < g3.pls.length:=by rw [HN3.out]; exact hpl
           obtain ⟨P,hP⟩ : ∃ y,(plr g3 pl).pts = y:=⟨_,rfl⟩
           have hGk : plr G pl = plr g3 pl:=by rw [HGG.out]; exact exF_pts r i n g3.pls pl np hG4 (.inr rfl)
           have hPn:=HME.out.1.nn
           have hPm:=HME.out.2
           rw [hP] at hPn hPm
           have kp : wi.cell? ⟨pb,pl * 9,none⟩ = some (.int .i64 P):=by rw [← hP,← hGk,← plr_at hG3]; exact HTG.out.pls.pts hG3
           have zP : IntKind.i64.wrap (P + n) = P + n:=wrap_small _ (by omega) (by omega)
           have HEQ2 : Hid (markR r i n g3 = setP G pl { plr G pl with pts:=P + n }):=Lib.hid (by
            rw [HEQ.out,← HEX.out,if_pos ⟨HK3.out.1.symm,HCU.out⟩,hGk,hP,HGG.out])
           have fz:=HTG.out.pls.free (pl * 9)
           clear hP hGk
           go_wp2
           go_roundw
           case rel =>
            refine ⟨x - 1,_,by omega,by rw [HX1.out],Lib.hid ⟨HG.out.1.next HK.out hn hx0 HEQ2.out,HTG.out.setPts hG3 (P + n),HK3.out.2.2.setCell (.inr rfl) _⟩⟩
           case measure => simp [intOf]; omega
          ·have HEQ2 : Hid (markR r i n g3 = G):=Lib.hid (by
            rw [HEQ.out,← HEX.out,if_neg (by rw [← HK3.out.1,HCU.out]; exact hgo),HGG.out])
           have HNX : Hid (MkOk r M g i n f (x - 1) G):=Lib.hid (HG.out.1.next HK.out hn hx0 HEQ2.out)
           cases o with
           | false =>
            clear hgo
            go_wp2
            go_roundw
            case rel => exact ⟨x - 1,G,by omega,by rw [HX1.out],Lib.hid ⟨HNX.out,HTG.out,HK3.out.2.2⟩⟩
            case measure => simp [intOf]; omega
           | true =>
            cases cu with
            | false => exact (hgo ⟨rfl,rfl⟩).elim
            | true =>
             clear hgo
             go_wp2
             go_roundw
             case rel => exact ⟨x - 1,G,by omega,by rw [HX1.out],Lib.hid ⟨HNX.out,HTG.out,HK3.out.2.2⟩⟩
             case measure => simp [intOf]; omega
      ·obtain rfl : x = 0:=by omega
       have e1 : decide ((0 : Int) < ((0 : Nat) : Int)) = false:=by simp
       have HG4 : Hid (CrAt r M g n f (i + 1) 0 g3 ∧ Inv r (M + 100) g3 ∧ Kept g g3 ∧ GamAt wi t pb r g3 cap wv nv ∧ Rel (TO t pb) w (TO t pb) wi):=Lib.hid ⟨CrAt.done hin HN.out (by have:=HG.out.1.eq; exact this),by have:=HG.out.1.inv; simpa using this,HG.out.1.kept,HG.out.2⟩
       go_wp2
       go_roundw
       case rel => exact ⟨i + 1,0,g3,by omega,by omega,by go_num,rfl,HG4⟩
       case measure => simp [intOf]; omega
   ·obtain rfl : i = 7:=by omega
    have d1 : decide (((7 : Nat) : Int) < 7) = false:=by simp
    have HG3 : Hid (cricM r g f n = g2 ∧ Inv r (M + 100) g2 ∧ Kept g g2 ∧ GamAt wi t pb r g2 cap wv nv ∧ Rel (TO t pb) w (TO t pb) wi):=Lib.hid ⟨HG.out.1.all,HG.out.2⟩
    go_wp2
    go_meet
    case rel => exact ⟨g2,HG3⟩
 case rest =>
  obtain ⟨g2,HG2⟩ := hcut
  obtain ⟨wi,rfl⟩ : ∃ x : World,x = wc:=⟨_,rfl⟩
  have hk2:=HG2.out.2.2.1
  have HP2 : Hid (g2.player = pl):=Lib.hid (by rw [hk2.player]; exact HPE.out)
  have HN2 : Hid (g2.pls.length = np):=Lib.hid (by rw [hk2.len]; exact HNP.out)
  have HW2 : Hid (g2.win = []):=Lib.hid (by rw [hk2.win]; exact HI.out.win)
  have HD2 : Hid (d = (g2,if wonK r g2 np = true then [(pl : Int)] else [])):=Lib.hid (by
   rw [← HD.out]; unfold cricketR; rw [HG2.out.1,HP2.out,← HN2.out]; rfl)
  have HG3:=Lib.hid HG2.out.2.2.2
  have h2 : pl < g2.pls.length:=by rw [HN2.out]; exact hpl
  have hme:=(HG2.out.2.1.each _ (plr_mem h2)).1
  obtain ⟨X,hX⟩ : ∃ X,plr g2 pl = X:=⟨_,rfl⟩
  rw [hX] at hme
  obtain ⟨S,hS⟩ : ∃ S,sumM X = S:=⟨_,rfl⟩
  have HC : Hid (∀ j v,(plrRow X)[j]? = some v → wi.cell? ⟨pb,pl * 9 + j,none⟩ = some v):=Lib.hid fun j v hv => HG3.out.1.pls.cell h2 (by rw [plr_at h2,hX]; exact hv)
  have H7:=Lib.hid hme.len
  have hsum:=refSum_any X hme.len (fun m hm => ⟨hme.mlo m hm,hme.mhi m hm⟩) wi
  rw [hS] at hsum
  have HSM:=Lib.hid hsum
  obtain ⟨bs,hbs⟩ : ∃ b,(S == 21) = b:=⟨_,rfl⟩
  have HW0 : Hid (bs = wonK r g2 0):=Lib.hid (by unfold wonK; rw [HP2.out,hX,hS,hbs]; simp)
  have HX:=Lib.hid (And.intro hX hS)
  clear hk2 HD HG2 c13 hme hX hS hsum h2
  go_wp2_with (first | (refine wpList_opOK (o:=⟨some 105,Op.load 62 (.tmp 104),_,_,_,_⟩) (R:=fun v w' => v = plrV X ∧ w' = wi) rfl (opOK_load_plr9 (.tmp 104) rfl pb (pl * 9) X H7.out (by simp [Act.eval]) HC.out ⟨rfl,rfl⟩) ?_; rintro _ _ ⟨rfl,rfl⟩) | fail)
  refine HSM.out.mono ?_
  rintro e w5 ⟨rfl,hb5⟩
  have HG5:=Lib.hid (And.intro (HG3.out.1.below hb5) (HG3.out.2.ext hb5))
  clear hb5 HC HSM
  go_wp2_with fail
  go_loopw [12,13] (fun ov iv wr => ∃ (k : Nat) (o : Bool),k ≤ np ∧ iv = .int .i64 k ∧ ov = .bool o ∧ Hid (o = wonK r g2 k ∧ GamAt wr t pb r g2 cap wv nv ∧ Rel (TO t pb) w (TO t pb) wr)) (fun _ iv _ => np - (intOf iv).toNat)
  case atStart => exact ⟨0,bs,by omega,by go_num,rfl,Lib.hid ⟨HW0.out,HG5.out⟩⟩
  case round =>
   clear HG5 HG3
   obtain ⟨k,o,hkn,rfl,rfl,HK3⟩ := hrel
   obtain ⟨wi,rfl⟩ : ∃ y : World,y = wr:=⟨_,rfl⟩
   by_cases hkl : k < np
   ·have hkli : (k : Int) < (np : Int):=by omega
    have d2 : decide ((k : Int) < (np : Int)) = true:=decide_eq_true (by omega)
    have zk : IntKind.i64.wrap ((k : Int) + 1) = (k : Int) + 1:=wrap_small _ (by omega) (by omega)
    have hkG : k < g2.pls.length:=by rw [HN2.out]; exact hkl
    have hpG : pl < g2.pls.length:=by rw [HN2.out]; exact hpl
    obtain ⟨P,hP⟩ : ∃ y,(plr g2 pl).pts = y:=⟨_,rfl⟩
    obtain ⟨Q,hQ⟩ : ∃ y,(plr g2 k).pts = y:=⟨_,rfl⟩
    have kp : wi.cell? ⟨pb,pl * 9,none⟩ = some (.int .i64 P):=by rw [← hP,← plr_at hpG]; exact HK3.out.2.1.pls.pts hpG
    have kq : wi.cell? ⟨pb,k * 9,none⟩ = some (.int .i64 Q):=by rw [← hQ,← plr_at hkG]; exact HK3.out.2.1.pls.pts hkG
    have kc : wi.cell? ⟨t,6,none⟩ = some (.bool cu):=by rw [← HCU.out]; exact HK3.out.2.1.at_ rfl
    have HWS : Hid (wonK r g2 (k + 1) = (o && !((!cu && decide (P < Q)) || (cu && decide (Q < P))))):=Lib.hid (by
     rw [wonK_succ,← HK3.out.1,HP2.out,HCU.out,hP,hQ])
    clear hP hQ hkG hpG
    cases cu with
    | false =>
     obtain ⟨b,hb⟩ : ∃ b,decide (P < Q) = b:=⟨_,rfl⟩
     have HWT : Hid (wonK r g2 (k + 1) = (o && !b)):=Lib.hid (by rw [HWS.out,hb]; simp)
     cases b with
     | true =>
      have HWO : Hid (false = wonK r g2 (k + 1)):=Lib.hid (by rw [HWT.out]; simp)
      go_upto_region 23 with fail
      refine wp_region_seq 39 [.is (.pointer (some ⟨t,0,none⟩)),.is (.pointer (some ⟨t,0,none⟩)),.is (.pointer (some ⟨t,0,none⟩)),.is (.pointer (some ⟨t,6,none⟩)),.is (.bool false),.is (.bool true),.is (.bool true),.is (.slice (some ⟨pb,0,none⟩) np cap),.is (.int .i64 k),.is (.pointer (some ⟨pb,k * 9,none⟩)),.is (.pointer (some ⟨pb,k * 9,none⟩)),.is (.int .i64 Q),.is (.slice (some ⟨pb,0,none⟩) np cap),.is (.int .i64 pl),.is (.pointer (some ⟨pb,pl * 9,none⟩)),.is (.pointer (some ⟨pb,pl * 9,none⟩)),.is (.int .i64 P),.is (.bool true),.is (.bool true),.is (.bool true),.is undef,.is undef,.is undef,.is undef,.is undef,.is undef,.is undef,.is undef,.is undef,.is undef,.is undef,.is undef,.is undef,.is undef,.is undef,.is undef,.is undef,.is undef,.is (.bool true)] rfl mix (by kernel_rfl) (by kernel_rfl) ?seqm
      case seqm =>
       simp only [List.take_succ_cons,List.take_zero]
       iterate 20
        refine seq_on (by rfl) (fun w3 hb3 _ => ?_) ?_
        ·have y1:=bAt hb3 kp
         have y2:=bAt hb3 kq
         have y3:=bAt hb3 kc
         simp [opOK,go_sem,y1,y2,y3,hpli,hkli,hb,Below.refl]
         try exact rfl
        simp only [Act.put,List.setIfInBounds_toArray,List.set_cons_succ,List.set_cons_zero]
       iterate 18
        refine seq_off (by rfl) ?_
        simp only [Act.put,List.setIfInBounds_toArray,List.set_cons_succ,List.set_cons_zero]
       refine seq_on (by rfl) (fun w3 hb3 _ => ?_) ?_
       ·have y1:=bAt hb3 kp
        have y2:=bAt hb3 kq
        have y3:=bAt hb3 kc
        simp [opOK,go_sem,Below.refl]
        try exact rfl
       simp only [Act.put,List.setIfInBounds_toArray,List.set_cons_succ,List.set_cons_zero]
       refine seq_end fun w3 hb_w3 _ => ?_
       simp only [List.drop_succ_cons,List.drop_zero]
       have HG4:=Lib.hid (And.intro (HK3.out.2.1.below hb_w3) (HK3.out.2.2.ext hb_w3))
       clear hb_w3 kp kq kc hb
       go_wp2
       go_roundw
       case rel => exact ⟨k + 1,false,by omega,by go_num,rfl,Lib.hid ⟨HWO.out,HG4.out⟩⟩
       case measure => simp [intOf]; omega
     | false =>
      have HWO : Hid (o = wonK r g2 (k + 1)):=Lib.hid (by rw [HWT.out]; simp)
      go_upto_region 23 with fail
      refine wp_region_seq 39 [.is (.pointer (some ⟨t,0,none⟩)),.is (.pointer (some ⟨t,0,none⟩)),.is (.pointer (some ⟨t,0,none⟩)),.is (.pointer (some ⟨t,6,none⟩)),.is (.bool false),.is (.bool true),.is (.bool true),.is (.slice (some ⟨pb,0,none⟩) np cap),.is (.int .i64 k),.is (.pointer (some ⟨pb,k * 9,none⟩)),.is (.pointer (some ⟨pb,k * 9,none⟩)),.is (.int .i64 Q),.is (.slice (some ⟨pb,0,none⟩) np cap),.is (.int .i64 pl),.is (.pointer (some ⟨pb,pl * 9,none⟩)),.is (.pointer (some ⟨pb,pl * 9,none⟩)),.is (.int .i64 P),.is (.bool false),.is (.bool false),.is (.bool false),.is (.pointer (some ⟨t,0,none⟩)),.is (.pointer (some ⟨t,0,none⟩)),.is (.pointer (some ⟨t,0,none⟩)),.is (.pointer (some ⟨t,6,none⟩)),.is (.bool false),.is (.bool false),.is undef,.is undef,.is undef,.is undef,.is undef,.is undef,.is undef,.is undef,.is undef,.is undef,.is undef,.is (.bool false),.is (.bool false)] rfl mix (by kernel_rfl) (by kernel_rfl) ?seqm
      case seqm =>
       simp only [List.take_succ_cons,List.take_zero]
       iterate 26
        refine seq_on (by rfl) (fun w3 hb3 _ => ?_) ?_
        ·have y1:=bAt hb3 kp
         have y2:=bAt hb3 kq
         have y3:=bAt hb3 kc
         simp [opOK,go_sem,y1,y2,y3,hpli,hkli,hb,Below.refl]
         try exact rfl
        simp only [Act.put,List.setIfInBounds_toArray,List.set_cons_succ,List.set_cons_zero]
       iterate 11
        refine seq_off (by rfl) ?_
        simp only [Act.put,List.setIfInBounds_toArray,List.set_cons_succ,List.set_cons_zero]
       iterate 2
        refine seq_on (by rfl) (fun w3 hb3 _ => ?_) ?_
        ·have y1:=bAt hb3 kp
         have y2:=bAt hb3 kq
         have y3:=bAt hb3 kc
         simp [opOK,go_sem,Below.refl]
         try exact rfl
        simp only [Act.put,List.setIfInBounds_toArray,List.set_cons_succ,List.set_cons_zero]
       refine seq_end fun w3 hb_w3 _ => ?_
       simp only [List.drop_succ_cons,List.drop_zero]
       have HG4:=Lib.hid (And.intro (HK3.out.2.1.below hb_w3) (HK3.out.2.2.ext hb_w3))
       clear hb_w3 kp kq kc hb
       go_wp2
       go_roundw
       case rel => exact ⟨k + 1,o,by omega,by go_num,rfl,Lib.hid ⟨HWO.out,HG4.out⟩⟩
       case measure => simp [intOf]; omega
    | true =>
     obtain ⟨b,hb⟩ : ∃ b,decide (Q < P) = b:=⟨_,rfl⟩
     have HWT : Hid (wonK r g2 (k + 1) = (o && !b)):=Lib.hid (by rw [HWS.out,hb]; simp)
     cases b with
     | true =>
      have HWO : Hid (false = wonK r g2 (k + 1)):=Lib.hid (by rw [HWT.out]; simp)
      go_upto_region 23 with fail
      refine wp_region_seq 39 [.is (.pointer (some ⟨t,0,none⟩)),.is (.pointer (some ⟨t,0,none⟩)),.is (.pointer (some ⟨t,0,none⟩)),.is (.pointer (some ⟨t,6,none⟩)),.is (.bool true),.is (.bool false),.is (.bool false),.is undef,.is undef,.is undef,.is undef,.is undef,.is undef,.is undef,.is undef,.is undef,.is undef,.is undef,.is (.bool false),.is (.bool false),.is (.pointer (some ⟨t,0,none⟩)),.is (.pointer (some ⟨t,0,none⟩)),.is (.pointer (some ⟨t,0,none⟩)),.is (.pointer (some ⟨t,6,none⟩)),.is (.bool true),.is (.bool true),.is (.slice (some ⟨pb,0,none⟩) np cap),.is (.int .i64 k),.is (.pointer (some ⟨pb,k * 9,none⟩)),.is (.pointer (some ⟨pb,k * 9,none⟩)),.is (.int .i64 Q),.is (.slice (some ⟨pb,0,none⟩) np cap),.is (.int .i64 pl),.is (.pointer (some ⟨pb,pl * 9,none⟩)),.is (.pointer (some ⟨pb,pl * 9,none⟩)),.is (.int .i64 P),.is (.bool true),.is (.bool true),.is (.bool true)] rfl mix (by kernel_rfl) (by kernel_rfl) ?seqm
      case seqm =>
       simp only [List.take_succ_cons,List.take_zero]
       iterate 7
        refine seq_on (by rfl) (fun w3 hb3 _ => ?_) ?_
        ·have y1:=bAt hb3 kp
         have y2:=bAt hb3 kq
         have y3:=bAt hb3 kc
         simp [opOK,go_sem,y3,Below.refl]
         try exact rfl
        simp only [Act.put,List.setIfInBounds_toArray,List.set_cons_succ,List.set_cons_zero]
       iterate 11
        refine seq_off (by rfl) ?_
        simp only [Act.put,List.setIfInBounds_toArray,List.set_cons_succ,List.set_cons_zero]
       iterate 21
        refine seq_on (by rfl) (fun w3 hb3 _ => ?_) ?_
        ·have y1:=bAt hb3 kp
         have y2:=bAt hb3 kq
         have y3:=bAt hb3 kc
         simp [opOK,go_sem,y1,y2,y3,hpli,hkli,hb,Below.refl]
         try exact rfl
        simp only [Act.put,List.setIfInBounds_toArray,List.set_cons_succ,List.set_cons_zero]
       refine seq_end fun w3 hb_w3 _ => ?_
       simp only [List.drop_succ_cons,List.drop_zero]
       have HG4:=Lib.hid (And.intro (HK3.out.2.1.below hb_w3) (HK3.out.2.2.ext hb_w3))
       clear hb_w3 kp kq kc hb
       go_wp2
       go_roundw
       case rel => exact ⟨k + 1,false,by omega,by go_num,rfl,Lib.hid ⟨HWO.out,HG4.out⟩⟩
       case measure => simp [intOf]; omega
     | false =>
      have HWO : Hid (o = wonK r g2 (k + 1)):=Lib.hid (by rw [HWT.out]; simp)
      go_upto_region 23 with fail
      refine wp_region_seq 39 [.is (.pointer (some ⟨t,0,none⟩)),.is (.pointer (some ⟨t,0,none⟩)),.is (.pointer (some ⟨t,0,none⟩)),.is (.pointer (some ⟨t,6,none⟩)),.is (.bool true),.is (.bool false),.is (.bool false),.is undef,.is undef,.is undef,.is undef,.is undef,.is undef,.is undef,.is undef,.is undef,.is undef,.is undef,.is (.bool false),.is (.bool false),.is (.pointer (some ⟨t,0,none⟩)),.is (.pointer (some ⟨t,0,none⟩)),.is (.pointer (some ⟨t,0,none⟩)),.is (.pointer (some ⟨t,6,none⟩)),.is (.bool true),.is (.bool true),.is (.slice (some ⟨pb,0,none⟩) np cap),.is (.int .i64 k),.is (.pointer (some ⟨pb,k * 9,none⟩)),.is (.pointer (some ⟨pb,k * 9,none⟩)),.is (.int .i64 Q),.is (.slice (some ⟨pb,0,none⟩) np cap),.is (.int .i64 pl),.is (.pointer (some ⟨pb,pl * 9,none⟩)),.is (.pointer (some ⟨pb,pl * 9,none⟩)),.is (.int .i64 P),.is (.bool false),.is (.bool false),.is (.bool false)] rfl mix (by kernel_rfl) (by kernel_rfl) ?seqm
      case seqm =>
       simp only [List.take_succ_cons,List.take_zero]
       iterate 7
        refine seq_on (by rfl) (fun w3 hb3 _ => ?_) ?_
        ·have y1:=bAt hb3 kp
         have y2:=bAt hb3 kq
         have y3:=bAt hb3 kc
         simp [opOK,go_sem,y3,Below.refl]
         try exact rfl
        simp only [Act.put,List.setIfInBounds_toArray,List.set_cons_succ,List.set_cons_zero]
       iterate 11
        refine seq_off (by rfl) ?_
        simp only [Act.put,List.setIfInBounds_toArray,List.set_cons_succ,List.set_cons_zero]
       iterate 21
        refine seq_on (by rfl) (fun w3 hb3 _ => ?_) ?_
        ·have y1:=bAt hb3 kp
         have y2:=bAt hb3 kq
         have y3:=bAt hb3 kc
         simp [opOK,go_sem,y1,y2,y3,hpli,hkli,hb,Below.refl]
         try exact rfl
        simp only [Act.put,List.setIfInBounds_toArray,List.set_cons_succ,List.set_cons_zero]
       refine seq_end fun w3 hb_w3 _ => ?_
       simp only [List.drop_succ_cons,List.drop_zero]
       have HG4:=Lib.hid (And.intro (HK3.out.2.1.below hb_w3) (HK3.out.2.2.ext hb_w3))
       clear hb_w3 kp kq kc hb
       go_wp2
       go_roundw
       case rel => exact ⟨k + 1,o,by omega,by go_num,rfl,Lib.hid ⟨HWO.out,HG4.out⟩⟩
       case measure => simp [intOf]; omega
   ·obtain rfl : k = np:=by omega
    obtain ⟨np,rfl⟩ : ∃ x : Nat,x = k:=⟨_,rfl⟩
    have d2 : decide ((np : Int) < (np : Int)) = false:=decide_eq_false (by omega)
    cases o with
    | true =>
     have HD3 : Hid (d = (g2,[(pl : Int)])):=Lib.hid (by rw [HD2.out,← HK3.out.1]; rfl)
     go_upto_region 26 with fail
     have fz : (wi.alloc (.cells #[.int .i64 pl] 3)).frozen? ⟨t,14,none⟩ = false:=(HK3.out.2.1.below (aB _ _)).free 14
     have c14 : (wi.alloc (.cells #[.int .i64 pl] 3)).cell? ⟨t,14,none⟩ = some wv:=(HK3.out.2.1.below (aB _ _)).at_ rfl
     go_wp2
     go_end0
     refine ⟨⟨_,rfl⟩,⟨.slice (some ⟨wi.heap.size,0,none⟩) 1 1,(.inr ⟨by rw [HD3.out]; simp,by rw [HD3.out]; exact sl_set (Sl.new1 (fun q => w.heap.size ≤ q) _ HK3.out.2.2.size 3 _) _ (fun q hq e => by (dsimp only at e; omega))⟩), ?_⟩, ?_⟩
     ·rw [HD3.out]
      exact (HK3.out.2.1.below (aB wi (.cells #[.int .i64 pl] 3))).setWin (Sl.new1 _ _ ⟨HK3.out.2.1.lt t (.inl rfl),by have:=HK3.out.2.1.lt pb (.inr rfl); omega⟩ 3 _)
     ·exact (HK3.out.2.2.ext (aB wi (.cells #[.int .i64 pl] 3))).setCell (.inl rfl) _
    | false =>
     have HD3 : Hid (d = (g2,[])):=Lib.hid (by rw [HD2.out,← HK3.out.1]; rfl)
     go_wp2
     go_end0
     refine ⟨⟨_,rfl⟩,⟨wv,(.inl ⟨by rw [HD3.out],rfl⟩), ?_⟩,HK3.out.2.2⟩
     rw [HD3.out]
     exact noWin HW2.out ▸ HK3.out.2.1
end Go.Proofs.Ytnhggfnnolfcdaa
