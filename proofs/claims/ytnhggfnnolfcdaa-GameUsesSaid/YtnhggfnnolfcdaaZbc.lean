/- The texts KO, KP0, MA, MB, in build order. -/
import Derived.Test.YtnhggfnnolfcdaaZbb

/- Chapter 4, the reference: the beds that do something. -/
namespace Go.Proofs.Ytnhggfnnolfcdaa
open Go.RowKit Go.Oche Go.Proofs
theorem ThrowPost.below {r : Rul} {g : Gam} {nv : Value} {w w' : World} {e : Ending} (h : ThrowPost r g nv w e w') : Below w.heap.size w w':=by obtain ⟨_,_,_,_,_,h,_⟩ := h; exact h
theorem JThr.other {w0 W W' : World} {r : Rul} {g : Gam} {nv v : Value} {i j : Nat} {L : Nat → Bool} {vs : Nat → Value} (h : JThr w0 r g nv i L vs W) (hb : Below W.heap.size W W') (hne : i ≠ j) : JThr w0 r g nv i (setB L j) (updV vs j v) W':=by
 refine ⟨h.below.trans (hb.mono h.below.size), ?_⟩
 rw [setB_ne hne,updV_ne hne]
 intro hl
 obtain ⟨pb,cap,wv,e,hV,hn,hs⟩ := h.res hl
 exact ⟨pb,cap,wv,e,hV.below hb,hn,hs.below hb⟩
theorem uses_zero (r : Rul) (g : Gam) : usesL r g 1 = []:=by
 have h : usesB r g 0 = false:=by
  unfold usesB sameG
  simp
 rw [show (1 : Nat) = 0 + 1 from rfl,usesL_no h]; rfl
set_option maxRecDepth 100000 in
set_option maxHeartbeats 8000000 in
theorem refUseful_any (r : Rul) (g : Gam) (pb np cap : Nat) (nv : Value) (M : Int) (w : World) (hnp : g.pls.length = np) (h : GamV w r g nv pb cap (.slice none 0 0)) (hl : Live r M g) (hM : M ≤ 800000) (hrd : g.round < 100000) :
  Calls Try.prog 24 #[.agg #[.int .i64 r.kind,.int .i64 r.players,.int .i64 r.last,.bool r.bull,.bool r.jump,.int .i64 r.rounds,.bool r.cut,nv,.int .i64 r.lives,.bool r.own,.int .i64 g.round,.int .i64 g.player,.int .i64 g.darts,.slice (some ⟨pb,0,none⟩) np cap,.slice none 0 0,.bool (hitB g 0),.bool (hitB g 1),.bool (hitB g 2),.bool (hitB g 3),.bool (hitB g 4)]] w fun e w' => ∃ bv,e = .returned bv ∧ Below w.heap.size w w' ∧ Sl (fun q => w.heap.size ≤ q) w' bv (ints (usesL r g 500)):=by
 obtain ⟨N,hN⟩ : ∃ N,w.heap.size = N:=⟨_,rfl⟩
 obtain ⟨w0,hw0⟩ : ∃ w0,w.alloc (.cells #[.int .i64 r.kind,.int .i64 r.players,.int .i64 r.last,.bool r.bull,.bool r.jump,.int .i64 r.rounds,.bool r.cut,nv,.int .i64 r.lives,.bool r.own,.int .i64 g.round,.int .i64 g.player,.int .i64 g.darts,.slice (some ⟨pb,0,none⟩) np cap,.slice none 0 0,.bool (hitB g 0),.bool (hitB g 1),.bool (hitB g 2),.bool (hitB g 3),.bool (hitB g 4)] 41) = w0:=⟨_,rfl⟩
 have hb0 : Below w.heap.size w w0:=by rw [← hw0]; exact aB _ _
 have k0 : w0.heap[N]? = some (.cells #[.int .i64 r.kind,.int .i64 r.players,.int .i64 r.last,.bool r.bull,.bool r.jump,.int .i64 r.rounds,.bool r.cut,nv,.int .i64 r.lives,.bool r.own,.int .i64 g.round,.int .i64 g.player,.int .i64 g.darts,.slice (some ⟨pb,0,none⟩) np cap,.slice none 0 0,.bool (hitB g 0),.bool (hitB g 1),.bool (hitB g 2),.bool (hitB g 3),.bool (hitB g 4)] 41 (0,0)):=by rw [← hw0,← hN]; exact World.alloc_heap_new _ _
 have hz0 : w0.heap.size = N + 1:=by rw [← hw0,← hN]; simp
 obtain ⟨w1,hw1⟩ : ∃ w1,w0.alloc (.cells #[] 63) = w1:=⟨_,rfl⟩
 have hb1 : Below w0.heap.size w0 w1:=by rw [← hw1]; exact aB _ _
 have k1:=(hb1.block N (by omega)).trans k0
 have HOWN0 : Hid (w1.ownsRow (N + 1) 63 1 (.slice (some ⟨N + 1,0,none⟩) 0 0) 0 []):=Lib.hid (by rw [← hw1,← hz0]; exact World.ownsRow_made w0 #[] 0 (Nat.le_refl _) (Nat.zero_le _) (by simp))
 have HV:=Lib.hid h
 have HB1:=Lib.hid (hb0.trans (hb1.mono hb0.size))
 have HK1:=Lib.hid k1
 have HW0:=Lib.hid hw0
 have HW1:=Lib.hid hw1
 have HZ0:=Lib.hid hz0
 have HN:=Lib.hid hN
 have HL:=Lib.hid hl
 have HNP:=Lib.hid hnp
 have HSZ1 : Hid (N + 1 ≤ w1.heap.size):=Lib.hid (by have:=hb1.size; omega)
 clear hb0 k0 hb1 k1 hw0 hw1 hz0 hN h hl hnp
 go_enter Try.func24,Try.ntmps24
 go_upto_region 1 with fail
 rw [HW0.out,HN.out]
 go_upto_region 2 with fail
 rw [HW1.out,HZ0.out]
 go_wp2_with fail
 go_loopw [3,4] (fun uv bv wr => ∃ (b : Nat) (u : Value),1 ≤ b ∧ b ≤ 500 ∧ u = uv ∧ bv = .int .i64 b ∧ Hid (wr.ownsRow (N + 1) 63 1 u (usesL r g b).length (ints (usesL r g b)) ∧ Below (N + 1) w1 wr ∧ N + 1 ≤ wr.heap.size ∧ Below w.heap.size w wr)) (fun _ bv _ => 500 - (intOf bv).toNat)
 case atStart => exact ⟨1,_,by omega,by omega,rfl,by go_num,Lib.hid ⟨by rw [uses_zero]; exact HOWN0.out,Below.refl _ _,HSZ1.out,HB1.out⟩⟩
 case round =>
  obtain ⟨b,u,hb1,hb5,hu,rfl,HR⟩ := hrel
  subst hu
  obtain ⟨wi,rfl⟩ : ∃ y : World,y = wr:=⟨_,rfl⟩
  have HVi:=Lib.hid (HV.out.below HR.out.2.2.2)
  have HBX:=Lib.hid ((HR.out.2.1.block N (by omega)).trans HK1.out)
  have hNi:=HR.out.2.2.1
  by_cases hb : b < 500
  ·have d1 : decide ((b : Int) < 500) = true:=decide_eq_true (by omega)
   have d1n : decide (b < 500) = true:=decide_eq_true hb
   have zb : IntKind.i64.wrap ((b : Int) + 1) = (b : Int) + 1:=wrap_small _ (by omega) (by omega)
   have H64 : -9223372036854775808 ≤ (b : Int) ∧ (b : Int) ≤ 9223372036854775807:=by omega
   obtain ⟨ob,hob⟩ : ∃ y,okBed (b : Int) = y:=⟨_,rfl⟩
   obtain ⟨g1,hg1⟩ : ∃ y,throwG r g ((b : Int).tdiv 100) ((b : Int).tmod 100) = y:=⟨_,rfl⟩
   obtain ⟨g2,hg2⟩ : ∃ y,throwG r g 0 0 = y:=⟨_,rfl⟩
   obtain ⟨sb,hsb⟩ : ∃ y,sameG g1 g2 = y:=⟨_,rfl⟩
   obtain ⟨nb,hnb⟩ : ∃ y,(!sb) = y:=⟨_,rfl⟩
   have HUB : Hid (usesB r g (b : Int) = (ob && nb)):=Lib.hid (by unfold usesB; rw [hob,hg1,hg2,hsb,hnb])
   have HOB:=Lib.hid hob
   have HG1:=Lib.hid hg1
   have HG2:=Lib.hid hg2
   have HSB:=Lib.hid hsb
   have HNB:=Lib.hid hnb
   clear hob hg1 hg2 hsb
   cases ob with
   | true =>
    have hok:=okBed_hit HOB.out
    have hok0 : okHit 0 0:=.inl ⟨rfl,rfl⟩
    have HGL : Hid (g2.pls.length = g1.pls.length):=Lib.hid (by
     have h1:=(throw_thrown HL.out hok).inv.len
     have h2:=(throw_thrown HL.out hok0).inv.len
     rw [HG1.out] at h1
     rw [HG2.out] at h2
     omega)
    have HTH : Hid ((∀ u,Below wi.heap.size wi u → Calls Try.prog 33 #[.agg #[.int .i64 r.kind,.int .i64 r.players,.int .i64 r.last,.bool r.bull,.bool r.jump,.int .i64 r.rounds,.bool r.cut,nv,.int .i64 r.lives,.bool r.own,.int .i64 g.round,.int .i64 g.player,.int .i64 g.darts,.slice (some ⟨pb,0,none⟩) np cap,.slice none 0 0,.bool (hitB g 0),.bool (hitB g 1),.bool (hitB g 2),.bool (hitB g 3),.bool (hitB g 4)],.int .i64 b] u (ThrowPost r g1 nv u)) ∧ (∀ u,Below wi.heap.size wi u → Calls Try.prog 33 #[.agg #[.int .i64 r.kind,.int .i64 r.players,.int .i64 r.last,.bool r.bull,.bool r.jump,.int .i64 r.rounds,.bool r.cut,nv,.int .i64 r.lives,.bool r.own,.int .i64 g.round,.int .i64 g.player,.int .i64 g.darts,.slice (some ⟨pb,0,none⟩) np cap,.slice none 0 0,.bool (hitB g 0),.bool (hitB g 1),.bool (hitB g 2),.bool (hitB g 3),.bool (hitB g 4)],.int .i64 0] u (ThrowPost r g2 nv u))):=Lib.hid (by
     have hbx:=okBed_bd HOB.out
     have hft : (((b : Int).tdiv 100).toNat : Int) = (b : Int).tdiv 100:=by have:=hok.f; omega
     refine ⟨fun u hu => ?_,fun u hu => ?_⟩
     ·have ht:=refThrow_any r g pb np cap nv M u ((b : Int).tdiv 100).toNat ((b : Int).tmod 100) b HNP.out (HVi.out.below hu) HL.out hM (by rw [hft]; exact hok) (by omega) hft.symm rfl hrd
      rw [hft,HG1.out] at ht
      exact ht
     ·have ht:=refThrow_any r g pb np cap nv M u 0 0 0 HNP.out (HVi.out.below hu) HL.out hM hok0 (by omega) rfl rfl hrd
      rw [show (((0 : Nat) : Int)) = 0 from rfl,HG2.out] at ht
      exact ht)
    clear hok hok0
    go_upto_region 5 with fail
    refine wp_region_seqV 11 ((fun v => v = .int .i64 b) :: (fun v => v = .bool true) :: (fun v => v = .bool true) :: (fun v => v = .agg #[.int .i64 r.kind,.int .i64 r.players,.int .i64 r.last,.bool r.bull,.bool r.jump,.int .i64 r.rounds,.bool r.cut,nv,.int .i64 r.lives,.bool r.own,.int .i64 g.round,.int .i64 g.player,.int .i64 g.darts,.slice (some ⟨pb,0,none⟩) np cap,.slice none 0 0,.bool (hitB g 0),.bool (hitB g 1),.bool (hitB g 2),.bool (hitB g 3),.bool (hitB g 4)]) :: (fun v => v = .int .i64 b) :: (fun v => ∃ pb cap wv,v = .agg (gamA r g1 nv (.slice (some ⟨pb,0,none⟩) g1.pls.length cap) wv)) :: (fun v => v = .agg #[.int .i64 r.kind,.int .i64 r.players,.int .i64 r.last,.bool r.bull,.bool r.jump,.int .i64 r.rounds,.bool r.cut,nv,.int .i64 r.lives,.bool r.own,.int .i64 g.round,.int .i64 g.player,.int .i64 g.darts,.slice (some ⟨pb,0,none⟩) np cap,.slice none 0 0,.bool (hitB g 0),.bool (hitB g 1),.bool (hitB g 2),.bool (hitB g 3),.bool (hitB g 4)]) :: (fun v => ∃ pb cap wv,v = .agg (gamA r g2 nv (.slice (some ⟨pb,0,none⟩) g2.pls.length cap) wv)) :: (fun v => v = .bool sb) :: (fun v => v = .bool nb) :: (fun v => v = .bool nb) :: []) (fun L vs W => JThr wi r g1 nv 5 L vs W ∧ JThr wi r g2 nv 7 L vs W) rfl mix (by kernel_rfl) (by kernel_rfl) (fun _ _ _ _ hc h => ⟨h.1.congr hc,h.2.congr hc⟩) (fun _ => ⟨.start,.start⟩) ?_
    simp only [List.take_succ_cons,List.take_zero]
    refine sv_rdG (by rfl) (fun _ _ _ h => ⟨h.1.read (by simp),h.2.read (by simp)⟩) (fun u1 L1 vs1 hvs1 hL1 hJ1 => ?_) ?_
    ·simp [opOK,go_sem]
    simp only [Act.put,List.setIfInBounds_toArray,List.set_cons_succ,List.set_cons_zero,List.nil_append]
    refine sv_rdG (by rfl) (fun _ _ _ h => ⟨h.1.read (by simp),h.2.read (by simp)⟩) (fun u1 L1 vs1 hvs1 hL1 hJ1 => ?_) ?_
    ·refine opOK_mono (opOK_call (f:=32) (args:=#[.int .i64 b]) (by simp [go_sem]) ((refBed_r b true HOB.out H64 u1).mono fun e W' ⟨h1,h2⟩ => (⟨_,h1,rfl,h2.symm⟩ : ∃ v,e = .returned v ∧ v = .bool true ∧ W' = u1))) (fun v w' h => h)
    simp only [Act.put,List.setIfInBounds_toArray,List.set_cons_succ,List.set_cons_zero,List.nil_append,List.cons_append]
    refine sv_rdG (by rfl) (fun _ _ _ h => ⟨h.1.read (by simp),h.2.read (by simp)⟩) (fun u1 L1 vs1 hvs1 hL1 hJ1 => ?_) ?_
    ·simp [opOK,go_sem]
    simp only [Act.put,List.setIfInBounds_toArray,List.set_cons_succ,List.set_cons_zero,List.nil_append,List.cons_append]
    refine sv_rdG (by rfl) (fun _ _ _ h => ⟨h.1.read (by simp),h.2.read (by simp)⟩) (fun u1 L1 vs1 hvs1 hL1 hJ1 => ?_) ?_
    ·exact opOK_load_row 41 (.tmp 1) rfl N #[.int .i64 r.kind,.int .i64 r.players,.int .i64 r.last,.bool r.bull,.bool r.jump,.int .i64 r.rounds,.bool r.cut,nv,.int .i64 r.lives,.bool r.own,.int .i64 g.round,.int .i64 g.player,.int .i64 g.darts,.slice (some ⟨pb,0,none⟩) np cap,.slice none 0 0,.bool (hitB g 0),.bool (hitB g 1),.bool (hitB g 2),.bool (hitB g 3),.bool (hitB g 4)] (by simp [Act.eval]) 41 (0,0) ((hJ1.1.below.block N (Array.getElem?_eq_some_iff.1 HBX.out).1).trans HBX.out) _ Try.underlying41 rfl (by kernel_rfl) ⟨rfl,rfl⟩
    simp only [Act.put,List.setIfInBounds_toArray,List.set_cons_succ,List.set_cons_zero,List.nil_append,List.cons_append]
    refine sv_rdG (by rfl) (fun _ _ _ h => ⟨h.1.read (by simp),h.2.read (by simp)⟩) (fun u1 L1 vs1 hvs1 hL1 hJ1 => ?_) ?_
    ·simp [opOK,go_sem]
    simp only [Act.put,List.setIfInBounds_toArray,List.set_cons_succ,List.set_cons_zero,List.nil_append,List.cons_append]
    refine sv_newG ⟨_,0,0,undef,rfl⟩ (by rfl) (fun u1 L1 vs1 hvs1 hL1 hJ1 hd => ?_) ?_
    ·refine opOK_call (f:=33) (args:=#[.agg #[.int .i64 r.kind,.int .i64 r.players,.int .i64 r.last,.bool r.bull,.bool r.jump,.int .i64 r.rounds,.bool r.cut,nv,.int .i64 r.lives,.bool r.own,.int .i64 g.round,.int .i64 g.player,.int .i64 g.darts,.slice (some ⟨pb,0,none⟩) np cap,.slice none 0 0,.bool (hitB g 0),.bool (hitB g 1),.bool (hitB g 2),.bool (hitB g 3),.bool (hitB g 4)],.int .i64 b]) (by simp [go_sem]) ?_
     exact (HTH.out.1 u1 hJ1.1.below).mono fun e W' hp => by
      have hb':=hp.below
      obtain ⟨pb',cap',wv',h1,h2⟩ := hp
      have hc:=hJ1.1.call ⟨pb',cap',wv',h1,h2⟩ h1
      exact ⟨_,h1,hc.1,hc.2,hJ1.2.other hb' (by simp)⟩
    rintro _ ⟨p1,q1,v1,rfl⟩
    simp only [Act.put,List.setIfInBounds_toArray,List.set_cons_succ,List.set_cons_zero,List.nil_append,List.cons_append]
    refine sv_rdG (by rfl) (fun _ _ _ h => ⟨h.1.read (by simp),h.2.read (by simp)⟩) (fun u1 L1 vs1 hvs1 hL1 hJ1 => ?_) ?_
    ·exact opOK_load_row 41 (.tmp 1) rfl N #[.int .i64 r.kind,.int .i64 r.players,.int .i64 r.last,.bool r.bull,.bool r.jump,.int .i64 r.rounds,.bool r.cut,nv,.int .i64 r.lives,.bool r.own,.int .i64 g.round,.int .i64 g.player,.int .i64 g.darts,.slice (some ⟨pb,0,none⟩) np cap,.slice none 0 0,.bool (hitB g 0),.bool (hitB g 1),.bool (hitB g 2),.bool (hitB g 3),.bool (hitB g 4)] (by simp [Act.eval]) 41 (0,0) ((hJ1.1.below.block N (Array.getElem?_eq_some_iff.1 HBX.out).1).trans HBX.out) _ Try.underlying41 rfl (by kernel_rfl) ⟨rfl,rfl⟩
    simp only [Act.put,List.setIfInBounds_toArray,List.set_cons_succ,List.set_cons_zero,List.nil_append,List.cons_append]
    refine sv_newG ⟨_,0,0,undef,rfl⟩ (by rfl) (fun u1 L1 vs1 hvs1 hL1 hJ1 hd => ?_) ?_
    ·refine opOK_call (f:=33) (args:=#[.agg #[.int .i64 r.kind,.int .i64 r.players,.int .i64 r.last,.bool r.bull,.bool r.jump,.int .i64 r.rounds,.bool r.cut,nv,.int .i64 r.lives,.bool r.own,.int .i64 g.round,.int .i64 g.player,.int .i64 g.darts,.slice (some ⟨pb,0,none⟩) np cap,.slice none 0 0,.bool (hitB g 0),.bool (hitB g 1),.bool (hitB g 2),.bool (hitB g 3),.bool (hitB g 4)],.int .i64 0]) (by simp [go_sem]) ?_
     exact (HTH.out.2 u1 hJ1.1.below).mono fun e W' hp => by
      have hb':=hp.below
      obtain ⟨pb',cap',wv',h1,h2⟩ := hp
      have hc:=hJ1.2.call ⟨pb',cap',wv',h1,h2⟩ h1
      exact ⟨_,h1,hc.1,hJ1.1.other hb' (by simp),hc.2⟩
    rintro _ ⟨p2,q2,v2,rfl⟩
    simp only [Act.put,List.setIfInBounds_toArray,List.set_cons_succ,List.set_cons_zero,List.nil_append,List.cons_append]
    refine sv_newG ⟨_,rfl⟩ (by rfl) (fun u1 L1 vs1 hvs1 hL1 hJ1 hd => ?_) ?_
    ·have hl5:=hd ⟨5,.data⟩ (by simp) rfl
     have hl7:=hd ⟨7,.data⟩ (by simp) rfl
     obtain ⟨pb5,cap5,wv5,e5,hV5, -, -⟩ := hJ1.1.res hl5
     obtain ⟨pb7,cap7,wv7,e7,hV7, -, -⟩ := hJ1.2.res hl7
     rw [hvs1 5 _ rfl] at e5
     rw [hvs1 7 _ rfl] at e7
     refine opOK_call (f:=46) (args:=#[.agg (gamA r g1 nv (.slice (some ⟨p1,0,none⟩) g1.pls.length q1) v1),.agg (gamA r g2 nv (.slice (some ⟨p2,0,none⟩) g2.pls.length q2) v2)]) (by simp [go_sem]) ?_
     rw [e5,e7]
     have hsm:=refSame_v r nv g1 g2 pb5 cap5 pb7 cap7 wv5 wv7 u1 HGL.out hV5 hV7
     rw [HSB.out] at hsm
     exact hsm.mono fun e W' ⟨h1,h2⟩ => ⟨_,h1,rfl,hJ1.1.other h2 (by simp),hJ1.2.other h2 (by simp)⟩
    rintro _ rfl
    simp only [Act.put,List.setIfInBounds_toArray,List.set_cons_succ,List.set_cons_zero,List.nil_append,List.cons_append]
    refine sv_rdG (by rfl) (fun _ _ _ h => ⟨h.1.read (by simp),h.2.read (by simp)⟩) (fun u1 L1 vs1 hvs1 hL1 hJ1 => ?_) ?_
    ·simp [opOK,go_sem,hnb]
    simp only [Act.put,List.setIfInBounds_toArray,List.set_cons_succ,List.set_cons_zero,List.nil_append,List.cons_append]
    refine sv_rdG (by rfl) (fun _ _ _ h => ⟨h.1.read (by simp),h.2.read (by simp)⟩) (fun u1 L1 vs1 hvs1 hL1 hJ1 => ?_) ?_
    ·simp [opOK,go_sem]
    simp only [Act.put,List.setIfInBounds_toArray,List.set_cons_succ,List.set_cons_zero,List.nil_append,List.cons_append]
    refine sv_end fun vs8 w8 hvs8 hJ8 => ?_
    simp only [List.drop_succ_cons,List.drop_zero]
    have HB8:=Lib.hid hJ8.1.below
    clear hJ8 hvs8 hnb
    obtain ⟨ln,hln⟩ : ∃ y,(usesL r g b).length = y:=⟨_,rfl⟩
    have hll : ln ≤ b:=by rw [← hln]; exact usesL_len r g b
    have ho:=ownsN_below HR.out.1 HB8.out
    rw [hln] at ho
    have HO:=Lib.hid ho
    have HLN:=Lib.hid hln
    have hN8 : N + 1 ≤ w8.heap.size:=Nat.le_trans hNi HB8.out.size
    have HW8:=Lib.hid (HR.out.2.2.2.trans (HB8.out.mono HR.out.2.2.2.size))
    have HX8:=Lib.hid (HR.out.2.1.trans (HB8.out.mono hNi))
    clear ho hln
    cases nb with
    | false =>
     have HUN : Hid (usesL r g (b + 1) = usesL r g b):=Lib.hid (usesL_no (by rw [HUB.out]; rfl))
     go_wp2
     go_roundw
     case rel => exact ⟨b + 1,u,by omega,by omega,rfl,by go_num,Lib.hid ⟨by rw [HUN.out,HLN.out]; exact HO.out,HX8.out,hN8,HW8.out⟩⟩
     case measure => simp [intOf]; omega
    | true =>
     have HUY : Hid (usesL r g (b + 1) = usesL r g b ++ [(b : Int)]):=Lib.hid (usesL_yes (by rw [HUB.out]; rfl))
     go_wp2_with (first | (at_builtin; refine wpList_append1 rfl (.tmp 21) (.tmp 23) 26 rfl (N + 1) 63 (.int .i64 0) 8 Try.underlying26 info_bed rfl u ln _ rfl (HO.out.alloc _) w8.heap.size 0 1 (.int .i64 b) rfl (cell_new _ _ _) rfl (by omega) (by decide) (by simp; omega) ?_) | fail)
     intro g' c w9 ho2 hg2' _
     have hb9 : Below (N + 1) w8 w9:=((aB w8 (.cells #[.int .i64 b] 63)).mono hN8).trans (below_grownBy hg2' (by simp; omega) fun q hq => (HO.out.lt q hq).1)
     have HO2 : Hid (w9.ownsRow (N + 1) 63 1 (.slice (some ⟨g',0,none⟩) (ln + 1) c) (usesL r g (b + 1)).length (ints (usesL r g (b + 1)))):=Lib.hid (by rw [HUY.out]; simpa [ints,HLN.out] using ho2)
     have HX9:=Lib.hid (HX8.out.trans hb9)
     have hN9 : N + 1 ≤ w9.heap.size:=Nat.le_trans hN8 hb9.size
     have HW9:=Lib.hid (HW8.out.trans (hb9.mono (by rw [HN.out]; omega)))
     clear ho2 hg2' hb9
     go_wp2
     go_roundw
     case rel => exact ⟨b + 1,_,by omega,by omega,rfl,by go_num,Lib.hid ⟨HO2.out,HX9.out,hN9,HW9.out⟩⟩
     case measure => simp [intOf]; omega
   | false =>
    go_upto_region 5 with fail
    refine wp_region_seqV 11 ((fun v => v = .int .i64 b) :: (fun v => v = .bool false) :: (fun v => v = .bool false) :: (fun v => v = undef) :: (fun v => v = undef) :: (fun v => v = undef) :: (fun v => v = undef) :: (fun v => v = undef) :: (fun v => v = undef) :: (fun v => v = undef) :: (fun v => v = .bool false) :: []) (fun _ _ W => Below wi.heap.size wi W) rfl mix (by kernel_rfl) (by kernel_rfl) (fun _ _ _ _ _ h => h) (fun _ => ⟨rfl,rfl,rfl,Nat.le_refl _,fun _ _ => rfl⟩) ?_
    simp only [List.take_succ_cons,List.take_zero]
    refine sv_rdG (by rfl) (fun _ _ _ h => h) (fun u1 L1 vs1 hvs1 hL1 hJ1 => ?_) ?_
    ·simp [opOK,go_sem]
    simp only [Act.put,List.setIfInBounds_toArray,List.set_cons_succ,List.set_cons_zero,List.nil_append]
    refine sv_rdG (by rfl) (fun _ _ _ h => h) (fun u1 L1 vs1 hvs1 hL1 hJ1 => ?_) ?_
    ·refine opOK_mono (opOK_call (f:=32) (args:=#[.int .i64 b]) (by simp [go_sem]) ((refBed_r b false HOB.out H64 u1).mono fun e W' ⟨h1,h2⟩ => (⟨_,h1,rfl,h2.symm⟩ : ∃ v,e = .returned v ∧ v = .bool false ∧ W' = u1))) (fun v w' h => h)
    simp only [Act.put,List.setIfInBounds_toArray,List.set_cons_succ,List.set_cons_zero,List.nil_append,List.cons_append]
    refine sv_rdG (by rfl) (fun _ _ _ h => h) (fun u1 L1 vs1 hvs1 hL1 hJ1 => ?_) ?_
    ·simp [opOK,go_sem]
    simp only [Act.put,List.setIfInBounds_toArray,List.set_cons_succ,List.set_cons_zero,List.nil_append,List.cons_append]
    refine sv_offG (by rfl) (fun _ _ _ h => h) ?_
    simp only [Act.put,List.setIfInBounds_toArray,List.set_cons_succ,List.set_cons_zero,List.nil_append,List.cons_append]
    refine sv_offG (by rfl) (fun _ _ _ h => h) ?_
    simp only [Act.put,List.setIfInBounds_toArray,List.set_cons_succ,List.set_cons_zero,List.nil_append,List.cons_append]
    refine sv_offG (by rfl) (fun _ _ _ h => h) ?_
    simp only [Act.put,List.setIfInBounds_toArray,List.set_cons_succ,List.set_cons_zero,List.nil_append,List.cons_append]
    refine sv_offG (by rfl) (fun _ _ _ h => h) ?_
    simp only [Act.put,List.setIfInBounds_toArray,List.set_cons_succ,List.set_cons_zero,List.nil_append,List.cons_append]
    refine sv_offG (by rfl) (fun _ _ _ h => h) ?_
    simp only [Act.put,List.setIfInBounds_toArray,List.set_cons_succ,List.set_cons_zero,List.nil_append,List.cons_append]
    refine sv_offG (by rfl) (fun _ _ _ h => h) ?_
    simp only [Act.put,List.setIfInBounds_toArray,List.set_cons_succ,List.set_cons_zero,List.nil_append,List.cons_append]
    refine sv_offG (by rfl) (fun _ _ _ h => h) ?_
    simp only [Act.put,List.setIfInBounds_toArray,List.set_cons_succ,List.set_cons_zero,List.nil_append,List.cons_append]
    refine sv_rdG (by rfl) (fun _ _ _ h => h) (fun u1 L1 vs1 hvs1 hL1 hJ1 => ?_) ?_
    ·simp [opOK,go_sem]
    simp only [Act.put,List.setIfInBounds_toArray,List.set_cons_succ,List.set_cons_zero,List.nil_append,List.cons_append]
    refine sv_end fun vs8 w8 hvs8 hJ8 => ?_
    simp only [List.drop_succ_cons,List.drop_zero]
    have HB8:=Lib.hid hJ8
    clear hJ8 hvs8 hnb
    have hN8 : N + 1 ≤ w8.heap.size:=Nat.le_trans hNi HB8.out.size
    have HUN : Hid (usesL r g (b + 1) = usesL r g b):=Lib.hid (usesL_no (by rw [HUB.out]; rfl))
    have HO:=Lib.hid (ownsN_below HR.out.1 HB8.out)
    have HW8:=Lib.hid (HR.out.2.2.2.trans (HB8.out.mono HR.out.2.2.2.size))
    have HX8:=Lib.hid (HR.out.2.1.trans (HB8.out.mono hNi))
    go_wp2
    go_roundw
    case rel => exact ⟨b + 1,u,by omega,by omega,rfl,by go_num,Lib.hid ⟨by rw [HUN.out]; exact HO.out,HX8.out,hN8,HW8.out⟩⟩
    case measure => simp [intOf]; omega
  ·obtain rfl : b = 500:=by omega
   have d1 : decide (((500 : Nat) : Int) < 500) = false:=by simp
   have HO:=Lib.hid HR.out.1
   go_wp2
   go_returns
   exact ⟨u,rfl,HR.out.2.2.2,(Sl.of_owns HR.out.1).mono fun q hq => by have:=HN.out; omega⟩
end Go.Proofs.Ytnhggfnnolfcdaa

/- Chapter 4, the reference, in plain Lean: groups of players, by who is done. -/
namespace Go.Proofs.Ytnhggfnnolfcdaa
open Go.RowKit Go.Oche Go.Proofs
def dnB (dn : List Bool) (i : Nat) : Bool:=dn.getD i false
def leftL (np : Nat) (dn : List Bool) : List Int:=((List.range np).filter fun i => !dnB dn i).map fun (i : Nat) => (i : Int)
def bsT (r : Rul) (g : Gam) (dn : List Bool) (i k : Nat) : Bool := !dnB dn i && (List.range k).all fun j => dnB dn j || !betterR r (plr g j) (plr g i)
def grpK (r : Rul) (g : Gam) (dn : List Bool) (k : Nat) : List Int:=((List.range k).filter fun i => bsT r g dn i g.pls.length).map fun (i : Nat) => (i : Int)
def dnK (dn : List Bool) (l : List Int) : List Bool:=l.foldl (fun d x => d.set x.toNat true) dn
theorem bsT_zero (r : Rul) (g : Gam) (dn : List Bool) (i : Nat) : bsT r g dn i 0 = !dnB dn i:=by unfold bsT; simp
theorem bsT_succ (r : Rul) (g : Gam) (dn : List Bool) (i k : Nat) : bsT r g dn i (k + 1) = (bsT r g dn i k && (dnB dn k || !betterR r (plr g k) (plr g i))):=by
 unfold bsT; rw [List.range_succ,List.all_append,List.all_cons,List.all_nil,Bool.and_true,Bool.and_assoc]
theorem grpK_succ (r : Rul) (g : Gam) (dn : List Bool) (k : Nat) : grpK r g dn (k + 1) = grpK r g dn k ++ if bsT r g dn k g.pls.length = true then [(k : Int)] else []:=by
 unfold grpK
 rw [List.range_succ,List.filter_append,List.map_append]
 congr 1
 rw [List.filter_cons,List.filter_nil]
 split <;> rfl
theorem dnK_len : ∀ (l : List Int) (dn : List Bool),(dnK dn l).length = dn.length
 | [],_ => rfl
 | x :: l,dn => by unfold dnK; rw [List.foldl_cons]; exact (dnK_len l _).trans (by simp)
theorem dnK_snoc (dn : List Bool) (l : List Int) (x : Int) : dnK dn (l ++ [x]) = (dnK dn l).set x.toNat true:=by unfold dnK; rw [List.foldl_append]; rfl
theorem dnK_at : ∀ (l : List Int) (dn : List Bool) (i : Nat),(∀ x ∈ l,0 ≤ x ∧ x.toNat < dn.length) → dnB (dnK dn l) i = (dnB dn i || l.contains (i : Int))
 | [],dn,i,_ => by simp [dnK]
 | x :: l,dn,i,h => by
  have hx:=h x (by simp)
  have e : dnK dn (x :: l) = dnK (dn.set x.toNat true) l:=rfl
  rw [e,dnK_at l _ i (fun y hy => by have:=h y (by simp [hy]); simpa using this)]
  have e1 : dnB (dn.set x.toNat true) i = (dnB dn i || decide (x = (i : Int))):=by
   unfold dnB
   simp only [List.getD_eq_getElem?_getD,List.getElem?_set]
   by_cases q : x.toNat = i
   ·rw [if_pos q,if_pos hx.2]
    have : x = (i : Int):=by omega
    simp [this]
   ·rw [if_neg q]
    have : ¬ x = (i : Int):=by omega
    simp [this]
  rw [e1,List.contains_cons,Bool.or_assoc]
  congr 2
  rw [Bool.eq_iff_iff]; simp only [decide_eq_true_eq,beq_iff_eq]; omega
theorem grpK_mem {r : Rul} {g : Gam} {dn : List Bool} {k : Nat} {x : Int} : x ∈ grpK r g dn k ↔ 0 ≤ x ∧ x.toNat < k ∧ bsT r g dn x.toNat g.pls.length = true:=by
 unfold grpK
 rw [List.mem_map]
 constructor
 ·rintro ⟨i,hi,rfl⟩
  rw [List.mem_filter,List.mem_range] at hi
  exact ⟨by omega,by simpa using hi.1,by simpa using hi.2⟩
 ·rintro ⟨h0,h1,h2⟩
  exact ⟨x.toNat,List.mem_filter.2 ⟨List.mem_range.2 h1,h2⟩,by omega⟩
theorem left_filter (np : Nat) (dn : List Bool) (p : Int → Bool) : (leftL np dn).filter p = ((List.range np).filter fun i => !dnB dn i && p (i : Int)).map fun (i : Nat) => (i : Int):=by
 unfold leftL
 rw [List.filter_map,List.filter_filter]
 congr 1
 apply List.filter_congr
 intro i _
 simp only [Function.comp_apply]
 rw [Bool.and_comm]
theorem left_all (np : Nat) (dn : List Bool) (p : Int → Bool) : (leftL np dn).all p = (List.range np).all fun j => dnB dn j || p (j : Int):=by
 unfold leftL
 rw [List.all_map,List.all_filter]
 congr 1
 funext j
 simp only [Function.comp_apply]
 cases dnB dn j <;> simp
section
variable {r : Rul} {g : Gam} {dn : List Bool}
def BetOk (r : Rul) (g : Gam) : Prop := ∀ i j,i < g.pls.length → j < g.pls.length → betterR r (plr g j) (plr g i) = decide (cmpP r (plr g j) (plr g i) < 0)
theorem bet_ok {M : Int} (h : Inv r M g) : BetOk r g:=fun i j hi hj => by
 have e1:=(h.each _ (plr_mem hj)).1
 have e2:=(h.each _ (plr_mem hi)).1
 refine better_cmp ?_
 by_cases k2 : r.kind = 2
 ·exact .inl k2
 ·refine .inr ⟨?_,by rw [e1.sum0 k2,e2.sum0 k2]⟩
  rcases kind_of h.ok with q | q | q | q
  ·exact (ok1 h.ok q).2.2.2.1
  ·omega
  ·exact (ok3 h.ok q).2.2.2.2.2.1
  ·exact (ok4 h.ok q).2.2.2.2.2.2.2.2.2.1
def topP (r : Rul) (g : Gam) (l : List Int) (i : Int) : Bool:=l.all fun j => !decide (cvG r g j i < 0)
theorem bsT_top (hB : BetOk r g) {i : Nat} (hi : i < g.pls.length) : bsT r g dn i g.pls.length = (!dnB dn i && topP r g (leftL g.pls.length dn) (i : Int)):=by
 unfold bsT topP
 congr 1
 rw [left_all]
 rw [Bool.eq_iff_iff,List.all_eq_true,List.all_eq_true]
 refine forall_congr' fun j => forall_congr' fun hj => ?_
 rw [List.mem_range] at hj
 rw [hB i j hi hj]; rfl
theorem grp_eq (hB : BetOk r g) : grpK r g dn g.pls.length = (leftL g.pls.length dn).filter (topP r g (leftL g.pls.length dn)):=by
 rw [left_filter]
 unfold grpK
 congr 1
 apply List.filter_congr
 intro i hi
 rw [List.mem_range] at hi
 exact bsT_top hB hi
theorem left_next (hB : BetOk r g) (hd : g.pls.length ≤ dn.length) : leftL g.pls.length (dnK dn (grpK r g dn g.pls.length)) = (leftL g.pls.length dn).filter fun i => !topP r g (leftL g.pls.length dn) i:=by
 rw [left_filter]
 show List.map _ (List.filter (fun i => !dnB (dnK dn (grpK r g dn g.pls.length)) i) (List.range g.pls.length)) = _
 congr 1
 apply List.filter_congr
 intro i hi
 rw [List.mem_range] at hi
 rw [dnK_at _ _ _ (fun x hx => by have:=grpK_mem.1 hx; omega)]
 have e : (grpK r g dn g.pls.length).contains (i : Int) = bsT r g dn i g.pls.length:=by
  rw [Bool.eq_iff_iff,List.contains_iff_mem,grpK_mem]
  simp [hi]
 rw [e,bsT_top hB hi]
 show (!(dnB dn i || (!dnB dn i && topP r g (leftL g.pls.length dn) (i : Int)))) = _
 cases dnB dn i <;> simp
theorem grp_ne (h : leftL g.pls.length dn ≠ []) : (leftL g.pls.length dn).filter (topP r g (leftL g.pls.length dn)) ≠ []:=by
 obtain ⟨l,hl⟩ : ∃ l,leftL g.pls.length dn = l:=⟨_,rfl⟩
 rw [hl] at h ⊢
 have key : ∀ m : List Int,m ≠ [] → ∃ x ∈ m, ∀ j ∈ m, ¬ cvG r g j x < 0:=by
  intro m
  induction m with
  | nil => intro h; exact (h rfl).elim
  | cons a m ih =>
   intro _
   by_cases hm : m = []
   ·subst hm
    exact ⟨a,by simp,fun j hj => by rw [List.mem_singleton.1 hj]; exact cmpP_self r _⟩
   ·obtain ⟨x,hx,hall⟩ := ih hm
    by_cases q : cvG r g a x < 0
    ·refine ⟨a,by simp,fun j hj => ?_⟩
     rcases List.mem_cons.1 hj with rfl | hj
     ·exact cmpP_self r _
     ·intro e
      exact hall j hj (cmpP_trans e q)
    ·exact ⟨x,by simp [hx],fun j hj => by
      rcases List.mem_cons.1 hj with rfl | hj
      ·exact q
      ·exact hall j hj⟩
 obtain ⟨x,hx,hall⟩ := key l h
 intro e
 have : x ∈ l.filter (topP r g l):=List.mem_filter.2 ⟨hx,by
  unfold topP
  rw [List.all_eq_true]
  intro j hj
  have:=hall j hj
  simp [this]⟩
 rw [e] at this; cases this
theorem filter_split {α : Type} (l : List α) (p : α → Bool) : (l.filter p).length + (l.filter fun x => !p x).length = l.length:=by
 induction l with
 | nil => rfl
 | cons x l ih => rw [List.filter_cons,List.filter_cons]; cases p x <;> simp <;> omega
theorem bests_step (k : Nat) (hB : BetOk r g) (hd : g.pls.length ≤ dn.length) (h : leftL g.pls.length dn ≠ []) (hk : (leftL g.pls.length dn).length ≤ k) :
  bestsL r g k (leftL g.pls.length dn) = grpK r g dn g.pls.length :: bestsL r g (k - 1) (leftL g.pls.length (dnK dn (grpK r g dn g.pls.length))) ∧
   0 < (grpK r g dn g.pls.length).length ∧ (grpK r g dn g.pls.length).length + (leftL g.pls.length (dnK dn (grpK r g dn g.pls.length))).length = (leftL g.pls.length dn).length:=by
 rw [left_next hB hd,grp_eq hB]
 refine ⟨?_,List.length_pos_iff.2 (grp_ne h),filter_split _ _⟩
 obtain ⟨l,hl⟩ : ∃ l,leftL g.pls.length dn = l:=⟨_,rfl⟩
 rw [hl] at h hk ⊢
 match l,h,k,hk with
 | x :: l,_,k + 1,_ => rfl
end
end Go.Proofs.Ytnhggfnnolfcdaa

/- Chapter 4, the plain laws' games: rules out of bytes, darts that mostly do something, the games one after another. -/
namespace Go.Proofs.Ytnhggfnnolfcdaa
open Go.RowKit Go.Oche Go.Proofs

def rulS (k p l f : Nat) : Rul :=
 if k % 4 = 0 then ⟨1,2 + (p % 3 : Nat),1 + (l % 20 : Nat),f % 2 == 1,f / 2 % 2 == 1,0,false,[],0,false⟩
 else if k % 4 = 1 then ⟨2,2 + (p % 3 : Nat),0,false,false,1 + (l % 20 : Nat),f % 2 == 1,[],0,false⟩
 else if k % 4 = 2 then ⟨3,2 + (p % 3 : Nat),0,false,false,1 + (l % 20 : Nat),false,[],0,false⟩
 else ⟨4,2 + (p % 3 : Nat),0,false,false,0,false,(List.range (2 + p % 3)).map (fun i => ((1 + (f / 2 + 3 * i) % 20 : Nat) : Int)),1 + (l % 9 : Nat),f % 2 == 1⟩
def dartS (r : Rul) (g : Gam) (y : Nat) : Int :=
 if 240 ≤ y then ((400 + y % 20 + 1 : Nat) : Int)
 else if 200 ≤ y then ([0,125,225,301] : List Int).getD (y % 4) 0
 else if r.kind = 1 then (if 20 < (plr g g.player).pts + 1 ∨ r.last < (plr g g.player).pts + 1 then 225 else 100 * (1 + (y % 3 : Nat)) + ((plr g g.player).pts + 1))
 else if r.kind = 2 then (if 15 + y / 3 % 7 = 21 then 225 else ((100 * (1 + y % 3) + (15 + y / 3 % 7) : Nat) : Int))
 else if r.kind = 3 then ((100 * (1 + y % 3) + min 20 (g.round + 1) : Nat) : Int)
 else 200 + r.nums.getD (y / 3 % r.nums.length) 0
def stepS (r : Rul) (g : Gam) (y : Nat) : Gam:=throwG r g ((dartS r g y).tdiv 100) ((dartS r g y).tmod 100)
def playS (r : Rul) : Gam → List Nat → List (Int × Gam)
 | _,[] => []
 | g,y :: l => if g.win = [] then (dartS r g y,stepS r g y) :: playS r (stepS r g y) l else []
def gamesS (r : Rul) (ys : List Nat) : List Gam:=initG r :: (playS r (initG r) ys).map (·.2)
def dartsS (r : Rul) (ys : List Nat) : List Int:=(playS r (initG r) ys).map (·.1)
def lastS (r : Rul) : Gam → List Nat → Gam
 | g,[] => g
 | g,y :: l => if g.win = [] then lastS r (stepS r g y) l else g
end Go.Proofs.Ytnhggfnnolfcdaa

/- Chapter 4, in plain Lean: dart by dart, in turn. -/
namespace Go.Proofs.Ytnhggfnnolfcdaa
open Go.RowKit Go.Oche Go.Proofs

structure StepOk (r : Rul) (me : Prop) (p q : Plr) : Prop where
 lives : r.kind = 4 → q.pts ≤ p.pts ∧ p.pts - 1 ≤ q.pts ∧ 0 ≤ q.pts
 more : r.kind ≠ 4 → p.pts ≤ q.pts
 kill : p.kl = true → q.kl = true
 other : ¬ me → q.mks = p.mks ∧ q.kl = p.kl ∧ (p.pts < q.pts → r.cut = true)
 marks : ∀ n,n < 7 → p.mks.getD n 0 ≤ q.mks.getD n 0 ∧ q.mks.getD n 0 ≤ 3
theorem StepOk.same {r : Rul} {me : Prop} {p : Plr} (h : PlOk r p) : StepOk r me p p :=
 ⟨fun _ => ⟨by omega,by omega,h.nn⟩,fun _ => by omega,id,fun _ => ⟨rfl,rfl,fun e => by omega⟩,fun n _ => ⟨by omega,(mark_bd h).2⟩⟩
theorem throw_len {r : Rul} {M : Int} {g : Gam} (h : Live r M g) {f n : Int} (hb : okHit f n) : (throwG r g f n).pls.length = g.pls.length:=by
 have h1:=(throw_thrown h hb).inv.len
 have h2:=h.len
 omega
/-! In turn. -/
structure Turn (r : Rul) (n : Nat) (g : Gam) : Prop where
 plain : r.kind ≠ 4 → g.darts = n % 3 ∧ g.player = n / 3 % g.pls.length ∧ g.round = n / 3 / g.pls.length
 kill : n ≤ 3 * (g.pls.length * g.round + g.player) + g.darts
theorem Turn.init {r : Rul} : Turn r 0 (initG r):=⟨fun _ => by simp [initG],by simp⟩
theorem Turn.throw {r : Rul} {M : Int} {n : Nat} {g : Gam} (h : Live r M g) (ht : Turn r n g) {f m : Int} (hb : okHit f m) (hw : (throwG r g f m).win = []) : Turn r (n + 1) (throwG r g f m):=by
 have hT:=throw_thrown h hb
 have hlen:=throw_len h hb
 have hd:=dart_ok (h.toRun.dart (g.darts + 1)) hb
 have hpl:=h.pl
 have h3:=h.darts
 have hK:=hd.kept
 have hKl:=hK.len; have hKp:=hK.player; have hKr:=hK.round; have hKd:=hK.darts
 dsimp only at hKl hKp hKr hKd
 by_cases hc : g.darts < 2 ∧ isOutG r (dartG r { g with darts:=g.darts + 1 } f m).1 g.player = false
 ·have e:=hT.stay hw hc.1 hc.2
  rw [e] at hlen ⊢
  refine ⟨fun k4 => ?_, ?_⟩
  ·have:=ht.plain k4
   dsimp only
   rw [hKl,hKp,hKr,hKd,this.2.1,this.2.2]
   have h5 : (n + 1) / 3 = n / 3:=by omega
   rw [h5]; exact ⟨by omega,rfl,rfl⟩
  ·have:=ht.kill
   dsimp only
   rw [hKl,hKp,hKr,hKd]; omega
 ·have hc' : g.darts = 2 ∨ isOutG r (dartG r { g with darts:=g.darts + 1 } f m).1 g.player = true:=by
   by_cases e : g.darts < 2
   ·right
    cases e2 : isOutG r (dartG r { g with darts:=g.darts + 1 } f m).1 g.player
    ·exact (hc ⟨e,e2⟩).elim
    ·rfl
   ·left; omega
  have e:=hT.next hw hc'
  have hlive:=hT.live hw
  rw [e] at hlive ⊢
  refine ⟨fun k4 => ?_, ?_⟩
  ·have:=ht.plain k4
   have hd2 : g.darts = 2:=by
    rcases hc' with e | e
    ·exact e
    ·rw [out_kind k4] at e; cases e
   dsimp only
   rw [nextP_one k4,hKl]
   have h5 : (n + 1) / 3 = n / 3 + 1:=by omega
   rw [h5]
   unfold stepP
   have hpos : 0 < g.pls.length:=by omega
   generalize n / 3 = v at *
   generalize g.pls.length = L at *
   rw [this.2.1] at *
   have hdm:=Nat.div_add_mod v L
   have hdm2:=Nat.div_add_mod (v + 1) L
   by_cases e1 : v % L + 1 = L
   ·rw [if_pos e1]
    have hv1 : v + 1 = L * (v / L + 1):=by rw [Nat.mul_add]; omega
    refine ⟨by omega, ?_, ?_⟩
    ·dsimp only; rw [hv1,Nat.mul_mod_right]
    ·dsimp only; rw [hv1,Nat.mul_div_cancel_left _ hpos,this.2.2]
   ·rw [if_neg e1]
    have hlt:=Nat.mod_lt v hpos
    have hm : (v + 1) % L = v % L + 1:=by
     rw [Nat.add_mod,Nat.mod_eq_of_lt (a:=1) (by omega),Nat.mod_eq_of_lt (by omega)]
    refine ⟨by omega,hm.symm, ?_⟩
    dsimp only
    rw [this.2.2]
    have : L * ((v + 1) / L) = L * (v / L):=by omega
    exact (Nat.eq_of_mul_eq_mul_left hpos this).symm
  ·have hk:=ht.kill
   dsimp only
   have hal : 1 ≤ alive r (dartG r { g with darts:=g.darts + 1 } f m).1:=by
    by_cases k4 : r.kind = 4
    ·have:=hlive.two k4
     have e : alive r (dartG r { g with darts:=g.darts + 1 } f m).1 = alive r { (dartG r { g with darts:=g.darts + 1 } f m).1 with win:=[],player:=(nextP r (dartG r { g with darts:=g.darts + 1 } f m).1 g.pls.length g.player g.round).1,round:=(nextP r (dartG r { g with darts:=g.darts + 1 } f m).1 g.pls.length g.player g.round).2,darts:=0,hit:=List.replicate 5 false }:=alive_pls rfl
     omega
    ·rw [alive_kind k4,hKl]; omega
   have hp : g.player < (dartG r { g with darts:=g.darts + 1 } f m).1.pls.length:=by rw [hKl]; exact h.pl
   obtain ⟨j,a,b,e2⟩ := somebody hal hp
   rw [hKl] at b
   obtain ⟨q1,q2,i,q3,q4,q5,q6⟩ := nextP_spec r (dartG r { g with darts:=g.darts + 1 } f m).1 g.pls.length g.player g.round hp ⟨j,a,by omega,by rw [hKl] at e2 ⊢; exact e2⟩
   rw [hKl] at q5 ⊢
   rw [Nat.mul_comm] at q5
   rw [Nat.mul_comm g.round] at q5
   omega
end Go.Proofs.Ytnhggfnnolfcdaa
