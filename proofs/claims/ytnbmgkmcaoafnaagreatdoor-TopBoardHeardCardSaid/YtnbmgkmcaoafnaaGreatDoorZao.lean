/- The texts HL, HM, HN, VM, in build order. -/
import Derived.Test.YtnbmgkmcaoafnaaGreatDoorZan
import Derived.Shelf.Abstract

/- Chapter 5: Ways. -/
namespace Go.Proofs.YtnbmgkmcaoafnaaGreatDoor
open Go.RowKit Go.Oche Go.Proofs

def waysE (l : Lg) (s : Std) (score : Int) : Int:=if openE l s = 0 then (if isIn score 0 240 = true then (if waysO l s score = none then 7 else 0) else 3) else openE l s
def waysR (l : Lg) (s : Std) (score : Int) : Sm:=if waysE l s score = 0 then (waysO l s score).getD ⟨0,0,0⟩ else ⟨0,0,0⟩
def e05 : En:=⟨0,false,false,false⟩
theorem waysF (l : Lg) (s : Std) {ks : List En} (hn : ks.Nodup) (hm : ∀ x,x ∈ ks ↔ (agg (vis5 l s) x).isSome = true) (score : Int) : aggF (vis5 l s) (fun x => s.left - x.left) ks score = waysO l s score :=
 aggF_all (fun x : En => s.left - x.left) hn (fun p hp => (hm p.1).2 (agg_some.2 ⟨p,hp,rfl⟩)) score
theorem vis_len {l : Lg} (ok : LegOk l) (s : Std) : (vis5 l s).length ≤ 571787:=by
 unfold vis5;rw [List.length_map];exact Nat.le_trans (from_len l 3 s) (Nat.le_trans (Nat.pow_le_pow_left (show l.beds.length + 1 ≤ 83 by have:=ok.beds; omega) _) (by decide))
theorem vis_d3 (l : Lg) (s : Std) : ∀ p ∈ vis5 l s,p.2 ≤ 3:=fun _ hp => (vis_darts l hp).2
set_option maxRecDepth 100000 in
set_option maxHeartbeats 4000000 in
theorem ways_any {S : Nat → Prop} (l : Lg) (bv : Value) (s : Std) (score : Int) (w : World) (hs : Sl S w bv (ints l.beds)) (hbd : BedsIn l) :
  Calls Tryz.prog 33 #[legV l bv,stV s,.int .i64 score] w fun e w' => e = .returned (.tuple #[.int .i64 ((waysR l s score).ways : Int),.agg #[.int .i64 ((waysR l s score).lo : Int),.int .i64 ((waysR l s score).hi : Int)],.int .i64 (waysE l s score)]) ∧ Below w.heap.size w w':=by
 obtain ⟨a,cap,rfl,h2,h3⟩ := hs.form;simp only [ints_length] at *;unfold maxLen at h3;obtain ⟨sl,si⟩ := s;obtain ⟨er,her⟩ : ∃ e,openE l ⟨sl,si⟩ = e:=⟨_,rfl⟩;obtain ⟨b1,hb1⟩ : ∃ b,isIn score 0 240 = b:=⟨_,rfl⟩;obtain ⟨we,hwe⟩ : ∃ e,waysE l ⟨sl,si⟩ score = e:=⟨_,rfl⟩;obtain ⟨⟨rn,rl,rh⟩,hwr⟩ : ∃ e,waysR l ⟨sl,si⟩ score = e:=⟨_,rfl⟩;have HWE : Hid (we = if er = 0 then (if b1 = true then (if waysO l ⟨sl,si⟩ score = none then 7 else 0) else 3) else er):=Lib.hid (by rw [← hwe,← her,← hb1]; rfl)
 have HWR : Hid ((⟨rn,rl,rh⟩ : Sm) = if we = 0 then (waysO l ⟨sl,si⟩ score).getD ⟨0,0,0⟩ else ⟨0,0,0⟩):=Lib.hid (by rw [← hwr,← hwe]; rfl)
 have HSC:=Lib.hid hb1;rw [hwe,hwr];clear hwe hwr hb1;have HER:=Lib.hid her;have HS:=Lib.hid hs;have HBD:=Lib.hid hbd;obtain ⟨w1,hw1⟩ : ∃ x,((w.alloc (.cells #[.int .i64 l.start,.int .i64 l.gin,.int .i64 l.gout,.slice a l.beds.length cap,.int .i64 l.players,.int .i64 l.turns,.bool l.won] 53)).alloc (.cells #[.int .i64 sl,.bool si] 106)).alloc (.cells #[.int .i64 0,.int .i64 0] 65) = x:=⟨_,rfl⟩;have hbw : Below w.heap.size w w1:=by rw [← hw1]; exact ((aB _ _).alloc (by simp) _).alloc (by simp; omega) _
 have K : Hid (w1.heap[w.heap.size]? = some (.cells #[.int .i64 l.start,.int .i64 l.gin,.int .i64 l.gout,.slice a l.beds.length cap,.int .i64 l.players,.int .i64 l.turns,.bool l.won] 53 (0,0))):=Lib.hid (by
  rw [← hw1]; exact (Below.heap_alloc _ _ _ (by simp; omega)).trans ((Below.heap_alloc _ _ _ (by simp)).trans (World.alloc_heap_new _ _)))
 have K2 : Hid (w1.heap[w.heap.size + 1]? = some (.cells #[.int .i64 sl,.bool si] 106 (0,0))):=Lib.hid (by
  rw [← hw1];refine (Below.heap_alloc _ _ _ (by simp)).trans ?_
  rw [show w.heap.size + 1 = (w.alloc (.cells #[.int .i64 l.start,.int .i64 l.gin,.int .i64 l.gout,.slice a l.beds.length cap,.int .i64 l.players,.int .i64 l.turns,.bool l.won] 53)).heap.size by simp]; exact World.alloc_heap_new _ _)
 have K3 : Hid (w1.heap[w.heap.size + 1 + 1]? = some (.cells #[.int .i64 0,.int .i64 0] 65 (0,0))):=Lib.hid (by
  rw [← hw1,show w.heap.size + 1 + 1 = ((w.alloc (.cells #[.int .i64 l.start,.int .i64 l.gin,.int .i64 l.gout,.slice a l.beds.length cap,.int .i64 l.players,.int .i64 l.turns,.bool l.won] 53)).alloc (.cells #[.int .i64 sl,.bool si] 106)).heap.size by simp]; exact World.alloc_heap_new _ _)
 have HS1:=Lib.hid (HS.out.below hbw);have HW:=Lib.hid hw1;have HB1:=Lib.hid hbw;have c0 : w1.cell? ⟨w.heap.size,0,none⟩ = some (.int .i64 l.start):=by rw [cell_of_heap K.out]; rfl
 have c1 : w1.cell? ⟨w.heap.size,1,none⟩ = some (.int .i64 l.gin):=by rw [cell_of_heap K.out]; rfl
 have c2 : w1.cell? ⟨w.heap.size,2,none⟩ = some (.int .i64 l.gout):=by rw [cell_of_heap K.out]; rfl
 have c3 : w1.cell? ⟨w.heap.size,3,none⟩ = some (.slice a l.beds.length cap):=by rw [cell_of_heap K.out]; rfl
 have c4 : w1.cell? ⟨w.heap.size,4,none⟩ = some (.int .i64 l.players):=by rw [cell_of_heap K.out]; rfl
 have c5 : w1.cell? ⟨w.heap.size,5,none⟩ = some (.int .i64 l.turns):=by rw [cell_of_heap K.out]; rfl
 have c6 : w1.cell? ⟨w.heap.size,6,none⟩ = some (.bool l.won):=by rw [cell_of_heap K.out]; rfl
 have d0 : w1.cell? ⟨w.heap.size + 1,0,none⟩ = some (.int .i64 sl):=by rw [cell_of_heap K2.out]; rfl
 have d1 : w1.cell? ⟨w.heap.size + 1,1,none⟩ = some (.bool si):=by rw [cell_of_heap K2.out]; rfl
 clear hw1 hbw hs hbd her;unfold legV legA stV
 go_enter Tryz.func33,Tryz.ntmps33
 go_upto_region 1 with fail
 rw [HW.out];go_wp2_with fail;refine (open_r l (.slice a l.beds.length cap) ⟨sl,si⟩ er HER w1 HS1.out HBD.out).mono ?_
 rintro e w2 ⟨pv,rfl,hb2,hG⟩;have HG:=Lib.hid hG;have HB2:=Lib.hid (bThen HB1.out hb2);have K22:=Lib.hid ((hb2.block _ (Array.getElem?_eq_some_iff.1 K2.out).1).trans K2.out)
 have hsz2:=hb2.size;have hb2':=hb2;clear c0 c1 c2 c3 c4 c5 c6 d0 d1 hb2 hG K;have K32:=Lib.hid ((hb2'.block _ (Array.getElem?_eq_some_iff.1 K3.out).1).trans K3.out)
 have r0 : w2.cell? ⟨w.heap.size + 1 + 1,0,none⟩ = some (.int .i64 0):=by rw [cell_of_heap K32.out]; rfl
 have r1 : w2.cell? ⟨w.heap.size + 1 + 1,1,none⟩ = some (.int .i64 0):=by rw [cell_of_heap K32.out]; rfl
 clear hb2';by_cases he0 : er = 0
 ·obtain ⟨gb,hb,kb,rfl,hG,hg1,hg2,hg3⟩ := HG.out he0
  obtain ⟨hv,hst⟩ := open_valid (HER.out.trans he0);have hbd:=okStand_bd hv hst;simp only at hbd;have hx0 : (er != 0) = false:=by simp [he0]
  have HE0:=Lib.hid he0;have HV:=Lib.hid hv;have HG2:=Lib.hid hG;clear he0 HG hG hv hst;have d0 : w2.cell? ⟨w.heap.size + 1,0,none⟩ = some (.int .i64 sl):=by rw [cell_of_heap K22.out]; rfl
  have d1 : w2.cell? ⟨w.heap.size + 1,1,none⟩ = some (.bool si):=by rw [cell_of_heap K22.out]; rfl
  go_wp2_with fail;refine (within_r 0 240 score b1 HSC _ _ (Sl.new1 (fun _ => True) w2 trivial 3 (.int .i64 score))).mono ?_
  rintro e wz ⟨rfl,hbz⟩;have hbz':=bThen (aB w2 _) hbz;have HBz:=Lib.hid (bThen HB2.out hbz');have HGz:=Lib.hid (HG2.out.below hbz');have K22z:=Lib.hid ((hbz'.block _ (Array.getElem?_eq_some_iff.1 K22.out).1).trans K22.out)
  have K32z:=Lib.hid ((hbz'.block _ (Array.getElem?_eq_some_iff.1 K32.out).1).trans K32.out)
  have hszz:=hbz'.size;have r0:=bAt hbz' r0;have r1:=bAt hbz' r1;have d0:=bAt hbz' d0;have d1:=bAt hbz' d1;clear hbz hbz' HG2 K22 K32 HB2;cases b1
  ·have hwe : we = 3:=by rw [HWE.out,if_pos HE0.out]; rfl
   have hr:=HWR.out;rw [hwe] at hr;cases hr;clear HWE HWR;subst hwe;go_upto_region 5 with fail;refine wp_region_seq 4 [.is (.agg #[.int .i64 0,.int .i64 0]),.is (.int .i64 0),.is undef,.is (.int .i64 3)] rfl mix (by kernel_rfl) (by kernel_rfl) ?seqm
   case seqm =>
    simp only [List.take_succ_cons,List.take_zero]
    iterate 2
     refine seq_on (by rfl) (fun w3 hb3 _ => ?_) ?_
     ·have r0':=bAt hb3 r0
      have r1':=bAt hb3 r1;simp [opOK,go_sem,r0',r1',Below.refl]
      try exact rfl
     simp only [Act.put,List.setIfInBounds_toArray,List.set_cons_succ,List.set_cons_zero]
    refine seq_on (by rfl) (fun w3 hb3 _ => ?_) ?_
    ·have hk:=(hb3.block _ (Array.getElem?_eq_some_iff.1 K32z.out).1).trans K32z.out
     refine opOK_store_row 65 (.tmp 7) (.tmp 31) rfl (w.heap.size + 1 + 1) #[.int .i64 0,.int .i64 0] (by simp [Act.eval]) (by simp [Act.eval]) 65 _ hk (by kernel_rfl) rfl (by simp [Value.oneCell']) ?_
     rw [setRow_self _ _ _ _ _ hk];exact ⟨rfl,Below.refl _ _⟩
    simp only [Act.put];refine seq_on (by rfl) (fun w3 hb3 _ => ?_) ?_
    ·simp [opOK,go_sem,Below.refl]
     try exact rfl
    simp only [Act.put,List.setIfInBounds_toArray,List.set_cons_succ,List.set_cons_zero];refine seq_end fun w3 hb3 _ => ?_
    simp only [List.drop_succ_cons,List.drop_zero];have HB3:=Lib.hid (bThen HBz.out hb3);have q0:=bAt hb3 r0;have q1:=bAt hb3 r1;clear hb3 r0 r1;go_wp2;refine bodyPost_ret (v:=.tuple #[.int .i64 0,.agg #[.int .i64 0,.int .i64 0],.int .i64 3]) (by simp [results,Tryz.results33,go_sem,q0,q1]) rfl ?_
    exact ⟨rfl,HB3.out⟩
  ·have HWE2 : Hid (we = if waysO l ⟨sl,si⟩ score = none then 7 else 0):=Lib.hid (by rw [HWE.out,if_pos HE0.out,if_pos rfl])
   clear HWE;obtain ⟨w3,hw3⟩ : ∃ x,wz.alloc (.map #[] 0) = x:=⟨_,rfl⟩;obtain ⟨A,hA⟩ : ∃ A,wz.heap.size = A:=⟨_,rfl⟩;have hb3 : Below wz.heap.size wz w3:=by rw [← hw3]; exact aB _ _
   have HM3 : Hid (EndsAt w3 A fun _ => none):=Lib.hid (by rw [← hw3,← hA]; exact EndsAt.made _)
   have HG3:=Lib.hid (HGz.out.below hb3);have e0:=bAt hb3 d0;have e1:=bAt hb3 d1;have K23:=Lib.hid ((hb3.block _ (Array.getElem?_eq_some_iff.1 K22z.out).1).trans K22z.out)
   have K33:=Lib.hid ((hb3.block _ (Array.getElem?_eq_some_iff.1 K32z.out).1).trans K32z.out)
   have HB3:=Lib.hid (bThen HBz.out hb3);have hs3 : w3.heap.size = A + 1:=by rw [← hw3,← hA]; simp
   have hmm := @run_makeMap Tryz.prog;have HW3:=Lib.hid hw3;have hlt2:=HGz.out.lt;clear hw3 hb3 HGz K22z K32z;go_upto_region 7 with fail;rw [HW3.out];clear hmm d0 d1 r0 r1;go_wp2_with fail;refine (visits_any HV.out.ok ⟨sl,si⟩ w3 (by simp only; omega) HG3.out (fun q hq => by rcases hq with rfl | rfl | rfl <;> omega)).mono ?_
   rintro e wa ⟨b,rfl,hga,hGa,⟨L,hL,hLn,hLk⟩,hbs⟩;obtain ⟨w5,hrg,hS5,hb5,hz5⟩ := MapAt.range (P:=Tryz.prog) (T:=147) (by rfl) hL
   obtain ⟨r,hr⟩ : ∃ r,wa.heap.size = r:=⟨_,rfl⟩;rw [hr] at hrg hS5;have hsza : w3.heap.size ≤ wa.heap.size:=hga.size;have hs1w : w.heap.size + 1 + 1 < w1.heap.size:=(Array.getElem?_eq_some_iff.1 K3.out).1
   have HS5:=Lib.hid (SeenD.of hS5);have HM5:=Lib.hid ((HM3.out.grown hga fun e => by cases e; omega).below hb5)
   have K5:=Lib.hid ((hb5.block _ (by omega)).trans ((hga.block _ (by omega) (fun e => by cases e; omega)).trans K23.out))
   have K6:=Lib.hid ((hb5.block _ (by omega)).trans ((hga.block _ (by omega) (fun e => by cases e; omega)).trans K33.out))
   have HB5:=Lib.hid ((HB3.out.trans (below_grownBy hga HB3.out.size fun x hx => by cases hx; omega)).trans (hb5.mono (by have:=HB3.out.size; omega)))
   have HLN:=Lib.hid hLn;have HLK : Hid (∀ k,lookM L k = Option.map smV (agg (vis5 l ⟨sl,si⟩) k)):=Lib.hid hLk;have hvl:=vis_len HV.out.ok ⟨sl,si⟩;have hLb : Hid (L.length ≤ 571787):=Lib.hid (by
    have h1 : (L.map (·.1)).length ≤ ((vis5 l ⟨sl,si⟩).map (·.1)).length:=List.Nodup.length_le_of_subset hLn fun x hx => by
     have:=key_isSome.1 hx;rw [hLk,Option.isSome_map,agg_some] at this;obtain ⟨p,hp,rfl⟩ := this;exact List.mem_map_of_mem hp
    rw [List.length_map,List.length_map] at h1;omega)
   clear hga hGa hL hLn hLk hS5 hb5 HG3 HM3 e0 e1 K23 K33;go_wp2;clear hrg;go_loopw [11] (fun _ wr => ∃ ks : List En,Hid (SeenD enV wr r b L L ks) ∧ Hid (EndsAt wr A fun x => if x = e05 then aggF (vis5 l ⟨sl,si⟩) (fun x => sl - x.left) ks score else none) ∧ Hid (Below w.heap.size w wr) ∧ Hid (wr.heap[w.heap.size + 1]? = some (.cells #[.int .i64 sl,.bool si] 106 (0,0))) ∧ Hid (wr.heap[w.heap.size + 1 + 1]? = some (.cells #[.int .i64 0,.int .i64 0] 65 (0,0)))) (fun _ wr => L.length - seenN wr r)
   case atStart => exact ⟨[],HS5,Lib.hid (HM5.out.congr fun x => by rw [aggF]; simp),HB5,K5,K6⟩
   case round =>
    obtain ⟨ks,HSi,HMi,HBi,Ki,K3i⟩ := hrel;obtain ⟨wi,rfl⟩ : ∃ wi : World,wi = wr:=⟨_,rfl⟩;rcases HSi.out.next (P:=Tryz.prog) (dec:=decE) decE_eq HLN.out 0 with ⟨hnx,hperm⟩ | ⟨y,vy,wj,hmem,hyn,hlen,hnx,hSj,hgj,hzj,henj⟩
    ·have HMF : Hid (EndsAt wi A fun x => if x = e05 then waysO l ⟨sl,si⟩ score else none):=Lib.hid (HMi.out.congr fun x => by
      rw [waysF l ⟨sl,si⟩ (hperm.nodup_iff.2 HLN.out) (fun x => by rw [hperm.mem_iff,key_isSome,HLK.out]; simp) score])
     clear hperm HMi;go_upto_region 12 with fail;clear hnx;obtain ⟨⟨n,lo,hi⟩,hx⟩ : ∃ t,(waysO l ⟨sl,si⟩ score).getD ⟨0,0,0⟩ = t:=⟨_,rfl⟩;obtain ⟨hasx,hh⟩ : ∃ t,(waysO l ⟨sl,si⟩ score).isSome = t:=⟨_,rfl⟩;have hlk : (Instr.lookup 147 (.map (some A)) (.agg #[.int .i64 0,.bool false,.bool false,.bool false]) true).run Tryz.prog wi = .ok (.tuple #[.agg #[.int .i64 (n : Int),.int .i64 (lo : Int),.int .i64 (hi : Int)],.bool hasx]) wi:=by
      have:=(HoldsM.lookup en_key (T:=147) (E:=109) (by rfl) (zero_some wi) HMF.out e05 true)
      unfold enV e05 at this
      dsimp only at this
      rw [this,← hh];simp only [if_pos];cases e : waysO l ⟨sl,si⟩ score with
      | none => rw [e] at hx; cases hx; rfl
      | some t => rw [e] at hx; simp at hx; subst hx; rfl
     have HWN : Hid (we = if hasx = true then 0 else 7):=Lib.hid (by
      rw [HWE2.out,← hh];cases waysO l ⟨sl,si⟩ score <;> simp)
     have HX:=Lib.hid hx;clear hx hh HWE2;go_upto_region 13 with fail;clear hlk;obtain ⟨wm,hwm⟩ : ∃ x,wi.alloc (.cells #[.int .i64 (n : Int),.int .i64 (lo : Int),.int .i64 (hi : Int)] 109) = x:=⟨_,rfl⟩;have hbm : Below wi.heap.size wi wm:=by rw [← hwm]; exact aB _ _
     have km : wm.heap[wi.heap.size]? = some (.cells #[.int .i64 (n : Int),.int .i64 (lo : Int),.int .i64 (hi : Int)] 109 (0,0)):=by rw [← hwm]; exact World.alloc_heap_new _ _
     have m0 : wm.cell? ⟨wi.heap.size,0,none⟩ = some (.int .i64 (n : Int)):=by rw [cell_of_heap km]; rfl
     have m1 : wm.cell? ⟨wi.heap.size,1,none⟩ = some (.int .i64 (lo : Int)):=by rw [cell_of_heap km]; rfl
     have m2 : wm.cell? ⟨wi.heap.size,2,none⟩ = some (.int .i64 (hi : Int)):=by rw [cell_of_heap km]; rfl
     have HBm:=Lib.hid (bThen HBi.out hbm);have K3m:=Lib.hid ((hbm.block _ (Array.getElem?_eq_some_iff.1 K3i.out).1).trans K3i.out)
     have hlt3:=(Array.getElem?_eq_some_iff.1 K3i.out).1
     have r0 : wm.cell? ⟨w.heap.size + 1 + 1,0,none⟩ = some (.int .i64 0):=by rw [cell_of_heap K3m.out]; rfl
     have r1 : wm.cell? ⟨w.heap.size + 1 + 1,1,none⟩ = some (.int .i64 0):=by rw [cell_of_heap K3m.out]; rfl
     have HWM:=Lib.hid hwm;clear hwm hbm km HSi HBi Ki K3i HMF;rw [HWM.out];cases hasx
     ·have hwe : we = 7:=HWN.out
      have hr:=HWR.out;rw [hwe] at hr;cases hr;clear HWN HWR;subst hwe;clear m0 m1 m2;go_upto_region 14 with fail;refine wp_region_seq 4 [.is (.agg #[.int .i64 0,.int .i64 0]),.is (.int .i64 0),.is undef,.is (.int .i64 7)] rfl mix (by kernel_rfl) (by kernel_rfl) ?seqm
      case seqm =>
       simp only [List.take_succ_cons,List.take_zero]
       iterate 2
        refine seq_on (by rfl) (fun w3 hb3 _ => ?_) ?_
        ·have r0':=bAt hb3 r0
         have r1':=bAt hb3 r1;simp [opOK,go_sem,r0',r1',Below.refl]
         try exact rfl
        simp only [Act.put,List.setIfInBounds_toArray,List.set_cons_succ,List.set_cons_zero]
       refine seq_on (by rfl) (fun w3 hb3 _ => ?_) ?_
       ·have hk:=(hb3.block _ (Array.getElem?_eq_some_iff.1 K3m.out).1).trans K3m.out
        refine opOK_store_row 65 (.tmp 7) (.tmp 62) rfl (w.heap.size + 1 + 1) #[.int .i64 0,.int .i64 0] (by simp [Act.eval]) (by simp [Act.eval]) 65 _ hk (by kernel_rfl) rfl (by simp [Value.oneCell']) ?_
        rw [setRow_self _ _ _ _ _ hk];exact ⟨rfl,Below.refl _ _⟩
       simp only [Act.put];refine seq_on (by rfl) (fun w3 hb3 _ => ?_) ?_
       ·simp [opOK,go_sem,Below.refl]
        try exact rfl
       simp only [Act.put,List.setIfInBounds_toArray,List.set_cons_succ,List.set_cons_zero];refine seq_end fun w3 hb3 _ => ?_
       simp only [List.drop_succ_cons,List.drop_zero];have HB3:=Lib.hid (bThen HBm.out hb3);have q0:=bAt hb3 r0;have q1:=bAt hb3 r1;clear hb3 r0 r1;go_wp2;refine bodyPost_ret (v:=.tuple #[.int .i64 0,.agg #[.int .i64 0,.int .i64 0],.int .i64 7]) (by simp [results,Tryz.results33,go_sem,q0,q1]) rfl ?_
       exact ⟨rfl,HB3.out⟩
     ·have hwe : we = 0:=HWN.out
      have hr:=HWR.out;rw [hwe,if_pos rfl,HX.out] at hr;cases hr;clear HWN HWR;subst hwe;go_upto_region 15 with fail;refine wp_region_seq 5 [.is (.pointer (some ⟨wi.heap.size,0,none⟩)),.is (.int .i64 (rn : Int)),.is (.pointer (some ⟨wi.heap.size,1,none⟩)),.is (.agg #[.int .i64 (rl : Int),.int .i64 (rh : Int)]),.is (.int .i64 (rn : Int))] rfl mix (by kernel_rfl) (by kernel_rfl) ?seqm
      case seqm =>
       simp only [List.take_succ_cons,List.take_zero]
       iterate 5
        refine seq_on (by rfl) (fun w3 hb3 _ => ?_) ?_
        ·have m0':=bAt hb3 m0
         have m1':=bAt hb3 m1;have m2':=bAt hb3 m2;simp [opOK,go_sem,m0',m1',m2',Below.refl]
         try exact rfl
        simp only [Act.put,List.setIfInBounds_toArray,List.set_cons_succ,List.set_cons_zero]
       refine seq_end fun w3 hb3 _ => ?_
       simp only [List.drop_succ_cons,List.drop_zero];have HB3':=Lib.hid (bThen HBm.out hb3);have hk:=(hb3.block _ (Array.getElem?_eq_some_iff.1 K3m.out).1).trans K3m.out
       have q0:=bAt hb3 r0;have q1:=bAt hb3 r1;have z0 : w3.frozen? ⟨w.heap.size + 1 + 1,0,none⟩ = false:=frozen_of_heap hk;have z1 : w3.frozen? ⟨w.heap.size + 1 + 1,1,none⟩ = false:=frozen_of_heap hk;obtain ⟨w4,hw4⟩ : ∃ x,(w3.setCell ⟨w.heap.size + 1 + 1,0,none⟩ (.int .i64 (rl : Int))).setCell ⟨w.heap.size + 1 + 1,1,none⟩ (.int .i64 (rh : Int)) = x:=⟨_,rfl⟩;have hk4 : w4.heap[w.heap.size + 1 + 1]? = some (.cells #[.int .i64 (rl : Int),.int .i64 (rh : Int)] 65 (0,0)):=by rw [← hw4]; exact heap_setCell_at (heap_setCell_at hk _) _
       have p0 : w4.cell? ⟨w.heap.size + 1 + 1,0,none⟩ = some (.int .i64 (rl : Int)):=by rw [cell_of_heap hk4]; rfl
       have p1 : w4.cell? ⟨w.heap.size + 1 + 1,1,none⟩ = some (.int .i64 (rh : Int)):=by rw [cell_of_heap hk4]; rfl
       have HB4 : Hid (Below w.heap.size w w4):=Lib.hid (by rw [← hw4]; exact (HB3'.out.setCell (by simp; omega) _).setCell (by simp; omega) _)
       have HW4:=Lib.hid hw4;clear hw4 hk4 hk hb3 r0 r1 m0 m1 m2;go_wp2;rw [HW4.out];refine bodyPost_ret (v:=.tuple #[.int .i64 (rn : Int),.agg #[.int .i64 (rl : Int),.int .i64 (rh : Int)],.int .i64 0]) (by simp [results,Tryz.results33,go_sem,p0,p1]) rfl ?_
       exact ⟨rfl,HB4.out⟩
    ·have hy1:=HLK.out y
     rw [mem_lookM HLN.out hmem] at hy1;obtain ⟨⟨n,lo,hi⟩,ht,rfl⟩ := Option.map_eq_some_iff.1 hy1.symm;have hyb:=vis_bd HV.out (s:=⟨sl,si⟩) (by simp only; omega) ht
     have hbt:=agg_b (vis_d3 l ⟨sl,si⟩) y _ ht;simp only at hbt;have HT:=Lib.hid ht;obtain ⟨yl,yi,yb,yw⟩ := y;simp only at hyb;unfold enV smV at hnx henj;simp only at hnx henj;have hli:=HSi.out.lt;have hlm:=HMi.out.lt;have hszi:=HBi.out.size;have HMj:=Lib.hid (HMi.out.grown hgj fun e => by cases e; omega)
     have HBj:=Lib.hid (HBi.out.trans (below_grownBy hgj hszi fun x hx => by cases hx; omega))
     have Kj:=Lib.hid ((hgj.block _ (Array.getElem?_eq_some_iff.1 Ki.out).1 (fun e => by cases e; omega)).trans Ki.out)
     have K3j:=Lib.hid ((hgj.block _ (Array.getElem?_eq_some_iff.1 K3i.out).1 (fun e => by cases e; omega)).trans K3i.out)
     have HSj:=Lib.hid hSj;have hLi : Hid (ks.length < L.length ∧ seenN wi r = ks.length):=Lib.hid ⟨hlen,SeenD.count HSi.out⟩;have hks : ks.length ≤ 571787:=by have:=hLb.out; omega
     clear hyn hmem hlen hSj hgj hzj hy1 ht HSi HMi HBi Ki K3i hli hlm;go_upto_region 10 with fail;clear hnx henj;obtain ⟨wk,hwk⟩ : ∃ x,(wj.alloc (.cells #[.int .i64 yl,.bool yi,.bool yb,.bool yw] 150)).alloc (.cells #[.int .i64 (n : Int),.int .i64 (lo : Int),.int .i64 (hi : Int)] 109) = x:=⟨_,rfl⟩;have hbk : Below wj.heap.size wj wk:=by rw [← hwk]; exact ((aB _ _)).alloc (by simp) _
     have k12 : wk.heap[wj.heap.size]? = some (.cells #[.int .i64 yl,.bool yi,.bool yb,.bool yw] 150 (0,0)):=by
      rw [← hwk]; exact (Below.heap_alloc _ _ _ (by simp)).trans (World.alloc_heap_new _ _)
     have k13 : wk.heap[wj.heap.size + 1]? = some (.cells #[.int .i64 (n : Int),.int .i64 (lo : Int),.int .i64 (hi : Int)] 109 (0,0)):=by
      rw [← hwk,show wj.heap.size + 1 = (wj.alloc (.cells #[.int .i64 yl,.bool yi,.bool yb,.bool yw] 150)).heap.size by simp]; exact World.alloc_heap_new _ _
     have HSk:=Lib.hid (HSj.out.keep (hbk.block _ HSj.out.lt.2.1) (hbk.block _ HSj.out.lt.1));have HMk:=Lib.hid (HMj.out.below hbk);have HBk:=Lib.hid (bThen HBj.out hbk);have Kk:=Lib.hid ((hbk.block _ (Array.getElem?_eq_some_iff.1 Kj.out).1).trans Kj.out)
     have K3k:=Lib.hid ((hbk.block _ (Array.getElem?_eq_some_iff.1 K3j.out).1).trans K3j.out)
     have f0 : wk.cell? ⟨wj.heap.size,0,none⟩ = some (.int .i64 yl):=by rw [cell_of_heap k12]; rfl
     have f4 : wk.cell? ⟨wj.heap.size + 1,0,none⟩ = some (.int .i64 (n : Int)):=by rw [cell_of_heap k13]; rfl
     have f5 : wk.cell? ⟨wj.heap.size + 1,1,none⟩ = some (.int .i64 (lo : Int)):=by rw [cell_of_heap k13]; rfl
     have f6 : wk.cell? ⟨wj.heap.size + 1,2,none⟩ = some (.int .i64 (hi : Int)):=by rw [cell_of_heap k13]; rfl
     have g0 : wk.cell? ⟨w.heap.size + 1,0,none⟩ = some (.int .i64 sl):=by rw [cell_of_heap Kk.out]; rfl
     have HWK:=Lib.hid hwk;clear hwk hbk k12 k13 HSj HMj HBj Kj K3j;rw [HWK.out];have hws : IntKind.i64.wrap (sl - yl) = sl - yl:=wrap_small _ (by omega) (by omega)
     obtain ⟨q,hq⟩ : ∃ q,(sl - yl == score) = q:=⟨_,rfl⟩;have HQ:=Lib.hid hq;cases q
     ·have hne : ¬ sl - yl = score:=by have:=HQ.out; simpa using this
      have HMl : Hid (EndsAt wk A fun x => if x = e05 then aggF (vis5 l ⟨sl,si⟩) (fun x => sl - x.left) (ks ++ [⟨yl,yi,yb,yw⟩]) score else none):=Lib.hid (HMk.out.congr fun x => by
       rw [aggF_snoc];simp only [if_neg hne,addO_none])
      have HLl : Hid (L.length - seenN wk r < L.length - seenN wi r):=Lib.hid (by
       have e1:=SeenD.count HSk.out;have e2:=hLi.out;rw [e1,e2.2,List.length_append,List.length_singleton]; omega)
      clear hne;go_wp2;clear f0 f4 f5 f6 g0 hws hq;go_roundw
      case rel => exact ⟨ks ++ [⟨yl,yi,yb,yw⟩],HSk,HMl,HBk,Kk,K3k⟩
      case measure => exact HLl.out
     ·have heq : sl - yl = score:=by have:=HQ.out; simpa using this
      have HEQ:=Lib.hid heq;clear heq;go_wp2_with fail;refine (add_any A e05 ⟨n,lo,hi⟩ 0 (fun x => if x = e05 then aggF (vis5 l ⟨sl,si⟩) (fun x => sl - x.left) ks score else none) wk HMk.out ⟨by simp only; omega,by simp only; omega,by simp only; omega⟩ (by omega) (by
       rw [if_pos rfl];exact (((aggF_b (vis_d3 l ⟨sl,si⟩) (fun x => sl - x.left) score ks).le (Nat.mul_le_mul hks hvl)).le (by decide)).le2 (by omega))).mono ?_
      rintro e wl ⟨rfl,hgl,hEl⟩;have HMl : Hid (EndsAt wl A fun x => if x = e05 then aggF (vis5 l ⟨sl,si⟩) (fun x => sl - x.left) (ks ++ [⟨yl,yi,yb,yw⟩]) score else none):=Lib.hid (hEl.congr fun x => by
       rw [aggF_snoc,HT.out];simp only [if_pos HEQ.out];by_cases e : x = e05
       ·rw [if_pos e,if_pos e]; simp [Sm.shift]
       ·rw [if_neg e,if_neg e,if_neg e])
      have hlk:=HSk.out.lt;have hblt:=HBk.out.size;have hk3:=(Array.getElem?_eq_some_iff.1 K3k.out).1
      have HSl:=Lib.hid (HSk.out.keep (hgl.block _ hlk.2.1 fun e => by cases e; omega) (hgl.block _ hlk.1 fun e => by cases e; omega))
      have HBl:=Lib.hid (HBk.out.trans (below_grownBy hgl HBk.out.size fun x hx => by cases hx; omega))
      have Kl:=Lib.hid ((hgl.block _ (Array.getElem?_eq_some_iff.1 Kk.out).1 (fun e => by cases e; omega)).trans Kk.out)
      have K3l:=Lib.hid ((hgl.block _ hk3 (fun e => by cases e; omega)).trans K3k.out)
      have HLl : Hid (L.length - seenN wl r < L.length - seenN wi r):=Lib.hid (by
       have e1:=SeenD.count HSl.out;have e2:=hLi.out;rw [e1,e2.2,List.length_append,List.length_singleton]; omega)
      clear hgl hEl HSk HMk HBk Kk K3k f0 f4 f5 f6 g0 hws hq hlk hk3;go_wp2;go_roundw
      case rel => exact ⟨ks ++ [⟨yl,yi,yb,yw⟩],HSl,HMl,HBl,Kl,K3l⟩
      case measure => exact HLl.out
 ·have hx0 : (er != 0) = true:=by simp [he0]
  have hwe : we = er:=by rw [HWE.out,if_neg he0]
  have hr:=HWR.out;rw [hwe,if_neg he0] at hr;cases hr;clear HWE HWR he0;subst hwe;go_upto_region 3 with fail;refine wp_region_seq 5 [.is (.agg #[.int .i64 0,.int .i64 0]),.is (.int .i64 we),.is (.int .i64 0),.is undef,.is (.int .i64 we)] rfl mix (by kernel_rfl) (by kernel_rfl) ?seqm
  case seqm =>
   simp only [List.take_succ_cons,List.take_zero]
   iterate 3
    refine seq_on (by rfl) (fun w3 hb3 _ => ?_) ?_
    ·have r0':=bAt hb3 r0
     have r1':=bAt hb3 r1;simp [opOK,go_sem,r0',r1',Below.refl]
     try exact rfl
    simp only [Act.put,List.setIfInBounds_toArray,List.set_cons_succ,List.set_cons_zero]
   refine seq_on (by rfl) (fun w3 hb3 _ => ?_) ?_
   ·have hk:=(hb3.block _ (Array.getElem?_eq_some_iff.1 K32.out).1).trans K32.out
    refine opOK_store_row 65 (.tmp 7) (.tmp 24) rfl (w.heap.size + 1 + 1) #[.int .i64 0,.int .i64 0] (by simp [Act.eval]) (by simp [Act.eval]) 65 _ hk (by kernel_rfl) rfl (by simp [Value.oneCell']) ?_
    rw [setRow_self _ _ _ _ _ hk];exact ⟨rfl,Below.refl _ _⟩
   simp only [Act.put];refine seq_on (by rfl) (fun w3 hb3 _ => ?_) ?_
   ·simp [opOK,go_sem,Below.refl]
    try exact rfl
   simp only [Act.put,List.setIfInBounds_toArray,List.set_cons_succ,List.set_cons_zero];refine seq_end fun w3 hb3 _ => ?_
   simp only [List.drop_succ_cons,List.drop_zero];have HB3:=Lib.hid (bThen HB2.out hb3);have q0:=bAt hb3 r0;have q1:=bAt hb3 r1;clear hb3 r0 r1;go_wp2;refine bodyPost_ret (v:=.tuple #[.int .i64 0,.agg #[.int .i64 0,.int .i64 0],.int .i64 we]) (by simp [results,Tryz.results33,go_sem,q0,q1]) rfl ?_
   exact ⟨rfl,HB3.out⟩
open Go.RowKit Go.Oche Go.Proofs

def rpRow (r : Rp) : List Value:=[.int .i64 r.turn,.int .i64 r.score,.int .i64 r.left]
def rpV (r : Rp) : Value:=.agg #[.int .i64 r.turn,.int .i64 r.score,.int .i64 r.left]
def misR (s : Std) (x : En) (r : Rp) : Bool := !((r.score == -1 || r.score == s.left - x.left) && (r.left == -1 || r.left == x.left))
theorem fits_mis (s : Std) (x : En) (l : List Rp) : fitsP s x l = !l.any (misR s x):=by
 unfold fitsP;rw [List.all_eq_not_any_not]
 rfl
set_option maxRecDepth 100000 in
set_option maxHeartbeats 4000000 in
theorem fits1_any (s : Std) (x : En) (r : Rp) (ps px : Nat) (m : Bool) (hm : Hid (misR s x r = m)) (hs : -1000000 ≤ s.left ∧ s.left ≤ 1000000) (hx : -1000000 ≤ x.left ∧ x.left ≤ 1000000) (w : World) (s0 : w.cell? ⟨ps,0,none⟩ = some (.int .i64 s.left)) (x0 : w.cell? ⟨px,0,none⟩ = some (.int .i64 x.left)) :
  Calls Tryz.prog 92 #[rpV r,.pointer (some ⟨ps,0,none⟩),.pointer (some ⟨px,0,none⟩)] w fun e w' => e = .returned (.bool m) ∧ Below w.heap.size w w':=by
 obtain ⟨rt,rs,rl⟩ := r;obtain ⟨sl,si⟩ := s;obtain ⟨xl,xi,xb,xw⟩ := x;simp only at hs hx s0 x0;unfold rpV;simp only;obtain ⟨w1,hw1⟩ : ∃ y,w.alloc (.cells #[.int .i64 rt,.int .i64 rs,.int .i64 rl] 58) = y:=⟨_,rfl⟩;have hb1 : Below w.heap.size w w1:=by rw [← hw1]; exact aB _ _
 have k : w1.heap[w.heap.size]? = some (.cells #[.int .i64 rt,.int .i64 rs,.int .i64 rl] 58 (0,0)):=by rw [← hw1]; exact World.alloc_heap_new _ _
 have c1 : w1.cell? ⟨w.heap.size,1,none⟩ = some (.int .i64 rs):=by rw [cell_of_heap k]; rfl
 have c2 : w1.cell? ⟨w.heap.size,2,none⟩ = some (.int .i64 rl):=by rw [cell_of_heap k]; rfl
 have s0':=bAt hb1 s0;have x0':=bAt hb1 x0;have HW:=Lib.hid hw1;have HB:=Lib.hid hb1;have hws : IntKind.i64.wrap (sl - xl) = sl - xl:=wrap_small _ (by omega) (by omega)
 obtain ⟨b1,hb1'⟩ : ∃ b,(rs != -1) = b:=⟨_,rfl⟩;obtain ⟨b2,hb2'⟩ : ∃ b,(rs != sl - xl) = b:=⟨_,rfl⟩;obtain ⟨b3,hb3'⟩ : ∃ b,(rl != -1) = b:=⟨_,rfl⟩;obtain ⟨b4,hb4'⟩ : ∃ b,(rl != xl) = b:=⟨_,rfl⟩;have HM : Hid (m = ((b1 && b2) || (b3 && b4))):=Lib.hid (by
  rw [← hm.out,← hb1',← hb2',← hb3',← hb4']; unfold misR; simp [bne])
 clear hw1 hb1 k s0 x0 hm
 go_enter Tryz.func92,Tryz.ntmps92
 go_upto_region 1 with fail
 rw [HW.out];cases b1
 ·cases b3
  ·have hm : m = false:=by rw [HM.out]; rfl
   clear HM;subst hm;go_wp2;go_returns;exact ⟨rfl,HB.out⟩
  ·have hm : m = b4:=by rw [HM.out]; rfl
   clear HM;subst hm;go_wp2;go_returns;exact ⟨rfl,HB.out⟩
 ·cases b2
  ·cases b3
   ·have hm : m = false:=by rw [HM.out]; rfl
    clear HM;subst hm;go_wp2;go_returns;exact ⟨rfl,HB.out⟩
   ·have hm : m = b4:=by rw [HM.out]; rfl
    clear HM;subst hm;go_wp2;go_returns;exact ⟨rfl,HB.out⟩
  ·have hm : m = true:=by rw [HM.out]; rfl
   clear HM;subst hm;go_wp2;go_returns;exact ⟨rfl,HB.out⟩
def idxMis (s : Std) (x : En) (l : List Rp) : Int:=if l.any (misR s x) then (l.findIdx (misR s x) : Nat) else -1
theorem idxMis_hit {s : Std} {x : En} {xs : List Rp} {k : Nat} (hk : k < xs.length) (hp : ∀ j,j < k → ∀ h : j < xs.length,misR s x xs[j] = false) (h : misR s x xs[k] = true) : idxMis s x xs = k:=by
 have h1 : xs.any (misR s x) = true:=List.any_eq_true.2 ⟨xs[k],List.getElem_mem hk,h⟩;have h2 : xs.findIdx (misR s x) = k:=by
  refine (List.findIdx_eq hk).2 ⟨h,fun j hj => ?_⟩
  simpa using hp j hj (by omega)
 simp [idxMis,h1,h2]
theorem idxMis_miss {s : Std} {x : En} {xs : List Rp} (hp : ∀ j,j < xs.length → ∀ h : j < xs.length,misR s x xs[j] = false) : idxMis s x xs = -1:=by
 have h1 : xs.any (misR s x) = false:=by
  rw [List.any_eq_false];intro y hy;obtain ⟨j,hj,rfl⟩ := List.mem_iff_getElem.1 hy;simp [hp j hj hj]
 simp [idxMis,h1]
set_option maxRecDepth 100000 in
set_option maxHeartbeats 4000000 in
theorem indexMis_any {S : Nat → Prop} (s : Std) (x : En) (l : List Rp) (v : Value) (ps px : Nat) (hs : -1000000 ≤ s.left ∧ s.left ≤ 1000000) (hx : -1000000 ≤ x.left ∧ x.left ≤ 1000000) (w : World) (hl : SlN 3 S w v (l.map rpRow)) (s0 : w.cell? ⟨ps,0,none⟩ = some (.int .i64 s.left)) (x0 : w.cell? ⟨px,0,none⟩ = some (.int .i64 x.left)) :
  Calls Tryz.prog 89 #[v,.func (.func 92) #[] #[.pointer (some ⟨ps,0,none⟩),.pointer (some ⟨px,0,none⟩)]] w fun e w' => e = .returned (.int .i64 (idxMis s x l)) ∧ Below w.heap.size w w':=by
 obtain ⟨a,cap,rfl,h2,h3⟩ := hl.form;simp only [List.length_map] at *;unfold maxLen at h3;have HS:=Lib.hid hl;clear hl
 go_enter Tryz.func89,Tryz.ntmps89
 go_wp2;go_loopw [8] (fun i wr => ∃ k : Nat,k ≤ l.length ∧ i = .int .i64 k ∧ Hid (∀ j,j < k → ∀ h : j < l.length,misR s x l[j] = false) ∧ Hid (Below w.heap.size w wr)) (fun i _ => l.length - (intOf i).toNat)
 case atStart => exact ⟨0,Nat.zero_le _,rfl,Lib.hid (fun j hj => by omega),Lib.hid (Below.refl _ _)⟩
 case round =>
  obtain ⟨k,hk,rfl,HP,HB⟩ := hrel;by_cases hlt : k < l.length
  ·obtain ⟨b,off,hal,_,_,hc⟩ := HS.out.cell (show k < (l.map rpRow).length by simpa using hlt)
   cases hal;obtain ⟨⟨rt,rs,rl⟩,hx'⟩ : ∃ y,l[k] = y:=⟨_,rfl⟩;have z0:=bAt HB.out (hc 0 (.int .i64 rt) (by simp [rpRow,hx']))
   have z1:=bAt HB.out (hc 1 (.int .i64 rs) (by simp [rpRow,hx']))
   have z2:=bAt HB.out (hc 2 (.int .i64 rl) (by simp [rpRow,hx']))
   simp only [Nat.add_zero] at z0;have s0':=bAt HB.out s0;have x0':=bAt HB.out x0;obtain ⟨o,ho⟩ : ∃ o,misR s x ⟨rt,rs,rl⟩ = o:=⟨_,rfl⟩;have HO:=Lib.hid ho;have HX:=Lib.hid hx';obtain ⟨w2,hw2⟩ : ∃ y,wr.alloc (.cells #[.int .i64 rt,.int .i64 rs,.int .i64 rl] 58) = y:=⟨_,rfl⟩;clear ho hx' hc hw2;go_wp2_with fail
   first
   | refine (fits1_any s x ⟨rt,rs,rl⟩ ps px o HO hs hx _ (bAt (aB _ _) s0') (bAt (aB _ _) x0')).mono ?_
   | refine (fits1_any s x ⟨rt,rs,rl⟩ ps px o HO hs hx _ s0' x0').mono ?_
   rintro e w3 ⟨rfl,hb3⟩;have HB3 : Hid (Below w.heap.size w w3):=Lib.hid (by first | exact bThen HB.out (bThen (aB _ _) hb3) | exact bThen HB.out hb3)
   clear hb3 z0 z1 z2 s0' x0';cases o
   ·go_wp2
    go_roundw
    case rel => exact ⟨k + 1,by omega,by go_num,Lib.hid (fun j hj h => by
     by_cases hjk : j = k
     ·subst hjk; rw [HX.out]; exact HO.out
     ·exact HP.out j (by omega) h),HB3⟩
    case measure => simp [intOf]; omega
   ·go_wp2
    go_ret
    exact ⟨ret_int (idxMis_hit hlt HP.out (by rw [HX.out]; exact HO.out)).symm,HB3.out⟩
  ·obtain rfl : k = l.length:=by omega
   go_wp2
   go_ret
   exact ⟨ret_int (idxMis_miss fun j hj h => HP.out j hj h).symm,HB.out⟩
theorem containsMis_any {S : Nat → Prop} (s : Std) (x : En) (l : List Rp) (v : Value) (ps px : Nat) (hs : -1000000 ≤ s.left ∧ s.left ≤ 1000000) (hx : -1000000 ≤ x.left ∧ x.left ≤ 1000000) (w : World) (hl : SlN 3 S w v (l.map rpRow)) (s0 : w.cell? ⟨ps,0,none⟩ = some (.int .i64 s.left)) (x0 : w.cell? ⟨px,0,none⟩ = some (.int .i64 x.left)) :
  Calls Tryz.prog 46 #[v,.func (.func 92) #[] #[.pointer (some ⟨ps,0,none⟩),.pointer (some ⟨px,0,none⟩)]] w fun e w' => e = .returned (.bool (l.any (misR s x))) ∧ Below w.heap.size w w':=by
 go_enter Tryz.func46,Tryz.ntmps46
 go_wp2_with fail;refine (indexMis_any s x l v ps px hs hx w hl s0 x0).mono ?_
 rintro e w2 ⟨rfl,hb2⟩;go_wp2
 go_ret
 refine ⟨ret_bool ?_,hb2⟩
 unfold idxMis;cases l.any (misR s x) <;> simp <;> omega
set_option maxRecDepth 100000 in
set_option maxHeartbeats 4000000 in
theorem fits_any {S : Nat → Prop} (s : Std) (x : En) (l : List Rp) (r : Bool) (hr : Hid (fitsP s x l = r)) (v : Value) (hs : -1000000 ≤ s.left ∧ s.left ≤ 1000000) (hx : -1000000 ≤ x.left ∧ x.left ≤ 1000000) (w : World) (hl : SlN 3 S w v (l.map rpRow)) :
  Calls Tryz.prog 54 #[stV s,enV x,v] w fun e w' => e = .returned (.bool r) ∧ Below w.heap.size w w':=by
 obtain ⟨a,cap,rfl,h2,h3⟩ := hl.form;obtain ⟨o,ho⟩ : ∃ o,l.any (misR s x) = o:=⟨_,rfl⟩;have HR : Hid (r = !o):=Lib.hid (by rw [← hr.out,fits_mis,ho])
 obtain ⟨sl,si⟩ := s;obtain ⟨xl,xi,xb,xw⟩ := x;obtain ⟨w1,hw1⟩ : ∃ y,(w.alloc (.cells #[.int .i64 sl,.bool si] 106)).alloc (.cells #[.int .i64 xl,.bool xi,.bool xb,.bool xw] 150) = y:=⟨_,rfl⟩;have hb1 : Below w.heap.size w w1:=by rw [← hw1]; exact (aB _ _).alloc (by simp) _
 have k1 : w1.heap[w.heap.size]? = some (.cells #[.int .i64 sl,.bool si] 106 (0,0)):=by rw [← hw1]; exact (Below.heap_alloc _ _ _ (by simp)).trans (World.alloc_heap_new _ _)
 have k2 : w1.heap[w.heap.size + 1]? = some (.cells #[.int .i64 xl,.bool xi,.bool xb,.bool xw] 150 (0,0)):=by
  rw [← hw1,show w.heap.size + 1 = (w.alloc (.cells #[.int .i64 sl,.bool si] 106)).heap.size by simp]; exact World.alloc_heap_new _ _
 have HC:=containsMis_any ⟨sl,si⟩ ⟨xl,xi,xb,xw⟩ l _ w.heap.size (w.heap.size + 1) hs hx w1 (hl.below hb1) (by rw [cell_of_heap k1]; rfl) (by rw [cell_of_heap k2]; rfl)
 rw [ho] at HC;simp only [List.length_map] at HC;have HC:=Lib.hid HC;have HB:=Lib.hid hb1;have HW:=Lib.hid hw1;clear hl hb1 hw1 k1 k2 ho hr;unfold stV enV
 go_enter Tryz.func54,Tryz.ntmps54
 go_upto_region 1 with fail
 rw [HW.out];go_wp2_with fail;refine HC.out.mono ?_
 rintro e w2 ⟨rfl,hb2⟩;have HB2:=Lib.hid (bThen HB.out hb2);have hr:=HR.out;clear hb2 HR;subst hr;go_wp2;go_returns;exact ⟨rfl,HB2.out⟩
open Go.RowKit Go.Oche Go.Proofs

set_option maxRecDepth 100000 in
set_option maxHeartbeats 4000000 in
theorem start_any {l : Lg} {F : Nat → Prop} {gb hb kb : Nat} (w : World) (h : GameAt l F w gb hb kb) :
  Calls Tryz.prog 51 #[.pointer (some ⟨gb,0,none⟩)] w fun e w' => e = .returned (stV (start5 l)) ∧ Below w.heap.size w w':=by
 obtain ⟨gz,hgz⟩ : ∃ b,(l.gin == 0) = b:=⟨_,rfl⟩;obtain ⟨w1,hw1⟩ : ∃ y,w.alloc (.cells #[.int .i64 0,.bool false] 106) = y:=⟨_,rfl⟩;have hb1 : Below w.heap.size w w1:=by rw [← hw1]; exact aB _ _
 have k : w1.heap[w.heap.size]? = some (.cells #[.int .i64 0,.bool false] 106 (0,0)):=by rw [← hw1]; exact World.alloc_heap_new _ _
 have hc:=(h.below hb1).cells;have g0:=hc.1;have g1:=hc.2.1;have K:=Lib.hid k;have HW:=Lib.hid hw1;have HB:=Lib.hid hb1;unfold stV start5;simp only;rw [hgz];clear hc hw1 hb1 k h
 go_enter Tryz.func51,Tryz.ntmps51
 go_upto_region 1 with fail
 rw [HW.out];refine wp_region_seq 14 [.is (.pointer (some ⟨gb,0,none⟩)),.is (.pointer (some ⟨gb,0,none⟩)),.is (.pointer (some ⟨gb,0,none⟩)),.is (.pointer (some ⟨gb,0,none⟩)),.is (.pointer (some ⟨gb,0,none⟩)),.is (.int .i64 l.start),.is (.pointer (some ⟨gb,0,none⟩)),.is (.pointer (some ⟨gb,0,none⟩)),.is (.pointer (some ⟨gb,0,none⟩)),.is (.pointer (some ⟨gb,0,none⟩)),.is (.pointer (some ⟨gb,1,none⟩)),.is (.int .i64 l.gin),.is (.bool gz),.is (.agg #[.int .i64 l.start,.bool gz])] rfl mix (by kernel_rfl) (by kernel_rfl) ?seqm
 case seqm =>
  simp only [List.take_succ_cons,List.take_zero]
  iterate 14
   refine seq_on (by rfl) (fun w3 hb3 _ => ?_) ?_
   ·have g0':=bAt hb3 g0
    have g1':=bAt hb3 g1;simp [opOK,go_sem,g0',g1',hgz,Below.refl]
    try exact rfl
   simp only [Act.put,List.setIfInBounds_toArray,List.set_cons_succ,List.set_cons_zero]
  refine seq_end fun w3 hb3 _ => ?_
  simp only [List.drop_succ_cons,List.drop_zero];have hk:=(hb3.block _ (Array.getElem?_eq_some_iff.1 K.out).1).trans K.out
  have q0 : w3.cell? ⟨w.heap.size,0,none⟩ = some (.int .i64 0):=by rw [cell_of_heap hk]; rfl
  have q1 : w3.cell? ⟨w.heap.size,1,none⟩ = some (.bool false):=by rw [cell_of_heap hk]; rfl
  have z0 : w3.frozen? ⟨w.heap.size,0,none⟩ = false:=frozen_of_heap hk;have z1 : w3.frozen? ⟨w.heap.size,1,none⟩ = false:=frozen_of_heap hk;obtain ⟨w4,hw4⟩ : ∃ x,(w3.setCell ⟨w.heap.size,0,none⟩ (.int .i64 l.start)).setCell ⟨w.heap.size,1,none⟩ (.bool gz) = x:=⟨_,rfl⟩;have hk4 : w4.heap[w.heap.size]? = some (.cells #[.int .i64 l.start,.bool gz] 106 (0,0)):=by rw [← hw4]; exact heap_setCell_at (heap_setCell_at hk _) _
  have p0 : w4.cell? ⟨w.heap.size,0,none⟩ = some (.int .i64 l.start):=by rw [cell_of_heap hk4]; rfl
  have p1 : w4.cell? ⟨w.heap.size,1,none⟩ = some (.bool gz):=by rw [cell_of_heap hk4]; rfl
  have HB4 : Hid (Below w.heap.size w w4):=Lib.hid (by rw [← hw4]; exact ((bThen HB.out hb3).setCell (by simp) _).setCell (by simp) _)
  have HW4:=Lib.hid hw4;clear hw4 hk4 hk hb3;go_wp2;rw [HW4.out];refine bodyPost_ret (v:=.agg #[.int .i64 l.start,.bool gz]) (by simp [results,Tryz.results51,go_sem,p0,p1]) rfl ?_
  exact ⟨rfl,HB4.out⟩
structure WhichFn (F : Nat) (pre : Array Value) (n : Nat) (which : Nat → Bool) : Prop where
 enters : Enters Tryz.prog F
 call : ∀ (i : Nat) (w : World),i < n → Calls Tryz.prog F (pre ++ #[.int .i64 (i : Int)]) w fun e w' => e = .returned (.bool (which i)) ∧ w = w'
def rpsFlat (l : List Rp) : List Value:=(l.map rpRow).flatten
theorem rpsFlat_snoc (l : List Rp) (r : Rp) : rpsFlat (l ++ [r]) = rpsFlat l ++ rpRow r:=by simp [rpsFlat]
theorem info_rp : (Tryz.prog.info? 58).map (fun i => (i.zero,i.size,i.bytes)) = some (some (.agg #[.int .i64 0,.int .i64 0,.int .i64 0]),3,24):=by kernel_rfl
def saidTo (l : List Rp) (which : Nat → Bool) (t : Int) (i : Nat) : List Rp:=saidL (l.take i) which t
theorem saidTo_succ {l : List Rp} {which : Nat → Bool} {t : Int} {i : Nat} (h : i < l.length) : saidTo l which t (i + 1) = saidTo l which t i ++ if (l[i].turn == t && which i) = true then [l[i]] else []:=by
 unfold saidTo saidL;rw [List.take_succ_eq_append_getElem h,List.zipIdx_append,List.filter_append,List.map_append]
 congr 1
 have hl : (l.take i).length = i:=by simp; omega
 rw [hl];simp only [List.zipIdx_cons,List.zipIdx_nil,Nat.zero_add];by_cases c : (l[i].turn == t && which i) = true
 ·rw [if_pos c,List.filter_cons_of_pos (by simpa using c)]; rfl
 ·rw [if_neg c,List.filter_cons_of_neg (by simpa using c)]; rfl
theorem saidTo_len (l : List Rp) (which : Nat → Bool) (t : Int) (i : Nat) : (saidTo l which t i).length ≤ i:=by
 unfold saidTo saidL;rw [List.length_map];refine Nat.le_trans (List.length_filter_le _ _) ?_
 simp; omega
set_option maxRecDepth 100000 in
set_option maxHeartbeats 4000000 in
theorem believed_any {S : Nat → Prop} {fn : Nat} {pre : Array Value} {which : Nat → Bool} (l : List Rp) (gv v : Value) (t : Int) (hwh : WhichFn fn pre l.length which) (hlen : l.length ≤ 1000) (w : World) (hl : SlN 3 S w v (l.map rpRow)) :
  Calls Tryz.prog 52 #[.agg #[gv,v],.int .i64 t,.func (.func fn) pre #[]] w fun e w' => ∃ v',e = .returned v' ∧ Below w.heap.size w w' ∧ w'.ownsRow w.heap.size 58 3 v' (saidL l which t).length (rpsFlat (saidL l which t)):=by
 obtain ⟨a,cap,rfl,h2,h3⟩ := hl.form;simp only [List.length_map] at *;unfold maxLen at h3;obtain ⟨w1,hw1⟩ : ∃ y,w.alloc (.cells #[gv,.slice a l.length cap] 93) = y:=⟨_,rfl⟩;have hb1 : Below w.heap.size w w1:=by rw [← hw1]; exact aB _ _
 have k : w1.heap[w.heap.size]? = some (.cells #[gv,.slice a l.length cap] 93 (0,0)):=by rw [← hw1]; exact World.alloc_heap_new _ _
 have hs1 : w1.heap.size = w.heap.size + 1:=by rw [← hw1]; simp
 have c1 : w1.cell? ⟨w.heap.size,1,none⟩ = some (.slice a l.length cap):=by rw [cell_of_heap k]; rfl
 have HL:=Lib.hid (hl.below hb1);have HW:=Lib.hid hw1;have HB:=Lib.hid hb1;have HWH:=Lib.hid hwh;clear hw1 hb1 k hl hwh
 go_enter Tryz.func52,Tryz.ntmps52
 go_upto_region 1 with fail
 rw [HW.out];go_wp2;clear c1;go_loopw [6,12] (fun v0 iv wr => ∃ (i : Nat) (v' : Value),i ≤ l.length ∧ iv = .int .i64 i ∧ v0 = v' ∧ Hid (wr.ownsRow w1.heap.size 58 3 v' (saidTo l which t i).length (rpsFlat (saidTo l which t i))) ∧ Hid (Below w1.heap.size w1 wr)) (fun _ iv _ => l.length - (intOf iv).toNat)
 case atStart => exact ⟨0,_,by omega,by go_num,rfl,Lib.hid (World.ownsRow_nil _ _ _ _),Lib.hid (Below.refl _ _)⟩
 case round =>
  obtain ⟨i,v',hi,rfl,rfl,HO,HBr⟩ := hrel;obtain ⟨wo,rfl⟩ : ∃ wo : World,wo = wr:=⟨_,rfl⟩;obtain ⟨la,lc,hv'⟩ := owns_form HO.out;subst hv';by_cases hlt : i < l.length
  ·obtain ⟨b,off,hal,_,_,hc⟩ := (HL.out.below HBr.out).cell (show i < (l.map rpRow).length by simpa using hlt)
   cases hal;obtain ⟨⟨rt,rs,rl⟩,hx⟩ : ∃ y,l[i] = y:=⟨_,rfl⟩;have z0:=hc 0 (.int .i64 rt) (by simp [rpRow,hx])
   have z1:=hc 1 (.int .i64 rs) (by simp [rpRow,hx])
   have z2:=hc 2 (.int .i64 rl) (by simp [rpRow,hx])
   simp only [Nat.add_zero] at z0;have HX:=Lib.hid hx;obtain ⟨q,hq⟩ : ∃ q,(rt == t) = q:=⟨_,rfl⟩;have HQ:=Lib.hid hq;have hsl : (saidTo l which t i).length ≤ 1000:=Nat.le_trans (saidTo_len l which t i) (by omega)
   obtain ⟨n,hn⟩ : ∃ n,(saidTo l which t i).length = n:=⟨_,rfl⟩;rw [hn] at HO hsl ⊢;have HN:=Lib.hid hn;have hsz:=HBr.out.size;clear hc hx hn;cases q
   ·have HO1 : Hid ((wo.alloc (.cells #[.int .i64 rt,.int .i64 rs,.int .i64 rl] 58)).ownsRow w1.heap.size 58 3 (.slice la n lc) (saidTo l which t (i + 1)).length (rpsFlat (saidTo l which t (i + 1)))):=Lib.hid (by
     rw [saidTo_succ hlt,HX.out];simp only [HQ.out,Bool.false_and,Bool.false_eq_true,if_false,List.append_nil,HN.out];exact HO.out.alloc _)
    have HB1:=Lib.hid (bThen HBr.out (aB wo (.cells #[.int .i64 rt,.int .i64 rs,.int .i64 rl] 58)));go_wp2;clear z0 z1 z2 hq;go_roundw
    case rel => exact ⟨i + 1,_,by omega,by go_num,rfl,HO1,HB1⟩
    case measure => simp [intOf]; omega
   ·have hen:=HWH.out.enters
    unfold Enters at hen;go_wp2_with fail;refine ((by simpa using HWH.out.call i _ hlt) : Calls Tryz.prog fn (pre.push (.int .i64 (i : Int))) _ fun e w' => e = .returned (.bool (which i)) ∧ _ = w').mono ?_
    rintro e w' ⟨rfl,rfl⟩;clear hen;cases hwi : which i
    ·have HO1 : Hid ((wo.alloc (.cells #[.int .i64 rt,.int .i64 rs,.int .i64 rl] 58)).ownsRow w1.heap.size 58 3 (.slice la n lc) (saidTo l which t (i + 1)).length (rpsFlat (saidTo l which t (i + 1)))):=Lib.hid (by
      rw [saidTo_succ hlt,HX.out];simp only [HQ.out,hwi,Bool.and_false,Bool.false_eq_true,if_false,List.append_nil,HN.out];exact HO.out.alloc _)
     have HB1:=Lib.hid (bThen HBr.out (aB wo (.cells #[.int .i64 rt,.int .i64 rs,.int .i64 rl] 58)));go_wp2;go_roundw
     case rel => exact ⟨i + 1,_,by omega,by go_num,rfl,HO1,HB1⟩
     case measure => simp [intOf]; omega
    ·have HWI:=Lib.hid hwi
     obtain ⟨w9,hw9⟩ : ∃ y,(wo.alloc (.cells #[.int .i64 rt,.int .i64 rs,.int .i64 rl] 58)).alloc (.cells #[.int .i64 rt,.int .i64 rs,.int .i64 rl] 58) = y:=⟨_,rfl⟩;have HO9 : Hid (w9.ownsRow w1.heap.size 58 3 (.slice la n lc) n (rpsFlat (saidTo l which t i))):=Lib.hid (by rw [← hw9]; exact (HO.out.alloc _).alloc _)
     have HP9 : Hid (w9.heap[wo.heap.size + 1]? = some (.cells #[.int .i64 rt,.int .i64 rs,.int .i64 rl] 58 (0,0))):=Lib.hid (by rw [← hw9]; have:=World.alloc_heap_new (wo.alloc (.cells #[.int .i64 rt,.int .i64 rs,.int .i64 rl] 58)) (.cells #[.int .i64 rt,.int .i64 rs,.int .i64 rl] 58); simpa using this)
     have HB9 : Hid (Below w1.heap.size w1 w9):=Lib.hid (by rw [← hw9]; exact bThen (bThen HBr.out (aB _ _)) (aB _ _))
     have HS9 : Hid (w1.heap.size ≤ w9.heap.size):=Lib.hid (by rw [← hw9]; simp; omega)
     have HW9:=Lib.hid hw9;clear hw9 hwi
     go_wp2_with (at_builtin; rw [HW9.out]; refine wpList_appendN rfl (.tmp 26) (.tmp 28) 54 rfl w1.heap.size 58 (.agg #[.int .i64 0,.int .i64 0,.int .i64 0]) 3 24 Tryz.underlying54 info_rp rfl (by decide) (.slice la n lc) n _ rfl HO9.out (wo.heap.size + 1) 0 1 1 (rpRow ⟨rt,rs,rl⟩) rfl rfl (fun j u hj => by rw [cell_of_heap HP9.out,Nat.zero_add]; simpa [rpRow] using hj) (fun u hu => by simp [rpRow] at hu; rcases hu with rfl | rfl | rfl <;> rfl) (by omega) (by decide) HS9.out ?_)
     intro v2 w10 ho2 hg2 _
     have HO2 : Hid (w10.ownsRow w1.heap.size 58 3 v2 (saidTo l which t (i + 1)).length (rpsFlat (saidTo l which t (i + 1)))):=Lib.hid (by
      rw [saidTo_succ hlt,HX.out];simp only [HQ.out,HWI.out,Bool.and_true,if_true,List.length_append,List.length_cons,List.length_nil,Nat.zero_add,HN.out,rpsFlat_snoc];rw [hs1]; exact ho2)
     have HB2 : Hid (Below w1.heap.size w1 w10):=Lib.hid (HB9.out.trans (below_grownBy hg2 HS9.out fun g hg => by have:=(HO9.out.lt g hg).1; omega))
     clear ho2 hg2;go_wp2;go_roundw
     case rel => exact ⟨i + 1,_,by omega,by go_num,rfl,HO2,HB2⟩
     case measure => simp [intOf]; omega
  ·obtain rfl : i = l.length:=by omega
   have HOF : Hid (wo.ownsRow w.heap.size 58 3 (.slice la (saidTo l which t l.length).length lc) (saidL l which t).length (rpsFlat (saidL l which t))):=Lib.hid (by
    have e : saidTo l which t l.length = saidL l which t:=by unfold saidTo; rw [List.take_length]
    have:=HO.out;rw [e] at this ⊢;exact ownsN_base this (by omega))
   have HBF:=Lib.hid (HB.out.trans (HBr.out.mono HB.out.size));clear HO;go_wp2;go_returns;exact ⟨_,rfl,HBF.out,HOF.out⟩
open Go Go.RowKit Go.Oche Go.Proofs

def lastF (l : Lg) (t : Int) : Bool:=l.won && (t == l.turns - 1)
def turnF (l : Lg) (said : List Rp) (last : Bool) (ks : List Std) (s : Std) (xs : List En) (k : Std × Std) : Option Sm :=
 if (k.1 ∈ ks ∨ (k.1 = s ∧ enOf k.2 last ∈ xs)) ∧ fitsP k.1 (enOf k.2 last) said = true then agg (vis5 l k.1) (enOf k.2 last) else none
open Classical in
noncomputable def aftF (f : Std × Std → Option Sm) (y : Std) : Option Value:=if ∃ b,(f (b,y)).isSome = true then some (.bool true) else none
section
variable {l : Lg} {said : List Rp} {last : Bool} {ks : List Std} {s : Std} {xs : List En} {x : En}
theorem turnF_start (k : Std × Std) : turnF l said last [] s [] k = none:=by unfold turnF; simp
theorem turnF_skip (h : ¬ (x.won = last ∧ fitsP s x said = true)) (k : Std × Std) : turnF l said last ks s (xs ++ [x]) k = turnF l said last ks s xs k:=by
 unfold turnF;by_cases e : k.1 = s ∧ enOf k.2 last = x
 ·have hf : ¬ fitsP k.1 (enOf k.2 last) said = true:=fun q => h ⟨by rw [← e.2]; rfl,by rw [← e.1,← e.2]; exact q⟩
  rw [if_neg fun q => hf q.2,if_neg fun q => hf q.2]
 ·have : (k.1 = s ∧ enOf k.2 last ∈ xs ++ [x]) ↔ (k.1 = s ∧ enOf k.2 last ∈ xs):=by
   rw [List.mem_append,List.mem_singleton];constructor
   ·rintro ⟨a,b | b⟩
    ·exact ⟨a,b⟩
    ·exact (e ⟨a,b⟩).elim
   ·exact fun ⟨a,b⟩ => ⟨a,.inl b⟩
  simp only [this]
theorem enOf_std {x : En} {last : Bool} (hb : x.bust = false) (hw : x.won = last) : enOf x.std last = x:=by
 cases x; simp at hb hw; subst hb hw; rfl
theorem turnF_put (hb : x.bust = false) (hw : x.won = last) (hf : fitsP s x said = true) (k : Std × Std) : turnF l said last ks s (xs ++ [x]) k = if k = (s,x.std) then agg (vis5 l s) x else turnF l said last ks s xs k:=by
 by_cases e : k = (s,x.std)
 ·rw [if_pos e]
  subst e;unfold turnF;simp only [enOf_std hb hw];rw [if_pos ⟨.inr ⟨trivial,by simp⟩,hf⟩]
 ·rw [if_neg e]
  unfold turnF;have : (k.1 = s ∧ enOf k.2 last ∈ xs ++ [x]) ↔ (k.1 = s ∧ enOf k.2 last ∈ xs):=by
   rw [List.mem_append,List.mem_singleton];constructor
   ·rintro ⟨a,b | b⟩
    ·exact ⟨a,b⟩
    ·exact (e (Prod.ext a (by rw [← b]; rfl))).elim
   ·exact fun ⟨a,b⟩ => ⟨a,.inl b⟩
  simp only [this]
theorem turnF_next (h : ∀ y,(agg (vis5 l s) y).isSome = true → y ∈ xs) (s' : Std) (k : Std × Std) : turnF l said last ks s xs k = turnF l said last (ks ++ [s]) s' [] k:=by
 unfold turnF;by_cases e : k.1 = s
 ·by_cases m : enOf k.2 last ∈ xs
  ·simp [e,m]
  ·have hn : agg (vis5 l k.1) (enOf k.2 last) = none:=by
    cases q : agg (vis5 l k.1) (enOf k.2 last) with
    | none => rfl
    | some v => exact (m (h _ (by rw [← e,q]; rfl))).elim
   simp [hn]
 ·simp [e]
theorem turnF_stand {s' : Std} (k : Std × Std) : turnF l said last ks s [] k = turnF l said last ks s' [] k:=by unfold turnF; simp
theorem turnF_all {said : Int → List Rp} {t : Int} {now : List Std} (hn : now.Nodup) (h : ∀ y,y ∈ ks ↔ y ∈ now) (k : Std × Std) : turnF l (said t) (lastF l t) ks s [] k = aggP (stepL l said t now) k:=by
 rw [aggP_step l said t k hn];unfold turnF lastF;simp [h]
theorem aftF_put {f g : Std × Std → Option Sm} {y0 : Std} {v : Sm} (h : ∀ k,g k = if k = (s,y0) then some v else f k) (y : Std) : aftF g y = if y = y0 then some (.bool true) else aftF f y:=by
 unfold aftF;by_cases e : y = y0
 ·rw [if_pos e,if_pos ⟨s,by rw [h,e,if_pos rfl]; rfl⟩]
 ·rw [if_neg e]
  have h1 : ∀ b,g (b,y) = f (b,y):=fun b => by rw [h,if_neg fun q => e (congrArg Prod.snd q)]
  by_cases c : ∃ b,(f (b,y)).isSome = true
  ·obtain ⟨b,hb⟩ := c
   rw [if_pos ⟨b,by rw [h1]; exact hb⟩,if_pos ⟨b,hb⟩]
  ·rw [if_neg fun ⟨b,hb⟩ => c ⟨b,by rw [← h1]; exact hb⟩,if_neg c]
theorem aftF_congr {f g : Std × Std → Option Sm} (h : ∀ k,f k = g k) (y : Std) : aftF f y = aftF g y:=by
 rw [show f = g from funext h]
theorem aftF_none (y : Std) : aftF (fun _ => none) y = none:=by unfold aftF; simp
theorem aftF_step (st : List Sp) (y : Std) : aftF (aggP st) y = if y ∈ firsts (st.map Sp.aft) then some (.bool true) else none:=by
 unfold aftF;have : (∃ b,(aggP st (b,y)).isSome = true) ↔ y ∈ firsts (st.map Sp.aft):=by
  rw [mem_firsts,List.mem_map];constructor
  ·rintro ⟨b,hb⟩
   obtain ⟨q,hq,_,h2⟩ := aggP_some.1 hb;exact ⟨q,hq,h2⟩
  ·rintro ⟨q,hq,rfl⟩
   exact ⟨q.bef,aggP_some.2 ⟨q,hq,rfl,rfl⟩⟩
 by_cases e : y ∈ firsts (st.map Sp.aft)
 ·rw [if_pos e,if_pos (this.2 e)]
 ·rw [if_neg e,if_neg fun q => e (this.1 q)]
end
def Along (l : Lg) (said : Int → List Rp) (p t : Int) (ts : List Int) (sts : List (List Sp)) (now : List Std) : Prop :=
 ∃ k : Nat,l.turns - t ≤ k ∧ turnsL l p = ts ++ turnsF l.players l.turns k t ∧ followL l said (turnsL l p) [start5 l] = (sts ++ (followL l said (turnsF l.players l.turns k t) now).1,(followL l said (turnsF l.players l.turns k t) now).2)
section
variable {l : Lg} {said : Int → List Rp} {p t : Int} {ts : List Int} {sts : List (List Sp)} {now : List Std}
theorem Along.start (hp : 0 ≤ p) : Along l said p p [] [] [start5 l]:=⟨l.turns.toNat,by omega,rfl,rfl⟩
theorem Along.next (h : Along l said p t ts sts now) (ht : t < l.turns) : Along l said p (t + l.players) (ts ++ [t]) (sts ++ [stepL l said t now]) (firsts ((stepL l said t now).map Sp.aft)) ∨ l.players < 1:=by
 by_cases hP : l.players < 1
 ·exact .inr hP
 left
 obtain ⟨k,h1,h2,h3⟩ := h;obtain ⟨k,rfl⟩ : ∃ j,k = j + 1:=⟨k - 1,by omega⟩
 rw [turnsF,if_pos ht] at h2 h3;refine ⟨k,by omega,by rw [h2]; simp, ?_⟩
 rw [h3,followL];simp
theorem Along.done (h : Along l said p t ts sts now) (ht : ¬ t < l.turns) : ts = turnsL l p ∧ followL l said (turnsL l p) [start5 l] = (sts,now):=by
 obtain ⟨k,h1,h2,h3⟩ := h;have e : turnsF l.players l.turns k t = []:=by
  cases k with
  | zero => rfl
  | succ k => rw [turnsF,if_neg ht]
 rw [e] at h2 h3;rw [followL] at h3;simp at h2 h3;exact ⟨h2.symm,h3⟩
end
theorem turnsF_len {P T : Int} : ∀ (k : Nat) (t : Int),(turnsF P T k t).length ≤ k
 | 0,_ => Nat.le_refl _
 | k + 1,t => by
  rw [turnsF];split
  ·rw [List.length_cons]; have:=turnsF_len (P:=P) (T:=T) k (t + P); omega
  ·exact Nat.zero_le _
theorem Along.len {l : Lg} {said : Int → List Rp} {p t : Int} {ts : List Int} {sts : List (List Sp)} {now : List Std} (h : Along l said p t ts sts now) : ts.length ≤ l.turns.toNat ∧ sts.length ≤ l.turns.toNat:=by
 obtain ⟨k,h1,h2,h3⟩ := h;have e1:=congrArg List.length h2;have e2:=congrArg (fun x => x.1.length) h3
 have e3:=turnsF_len (P:=l.players) (T:=l.turns) l.turns.toNat p;simp only [followL_len,List.length_append] at e1 e2;unfold turnsL at e1 e2;omega
def NowOk (now : List Std) : Prop:=now.Nodup ∧ ∀ s ∈ now,0 ≤ s.left ∧ s.left ≤ 1001
end Go.Proofs.YtnbmgkmcaoafnaaGreatDoor
