/- The texts XM, in build order. -/
import Derived.Test.YtnbmgkmcaoafnaaGreatDoorZay
import Derived.Deep.DeepCutAuto
import Derived.Deep.CutRange
import Derived.Deep.CutBlock

/- TopBoardHeard: armLeg, the walk. -/
namespace Go.Proofs.YtnbmgkmcaoafnaaGreatDoor
open Go Go.RowKit Go.Oche Go.Proofs

theorem legH_good (x : Ovh) : GoodBeds (legH x):=fun b hb => by
 have:=(bed10_ok b hb).2.1; omega
set_option maxRecDepth 100000 in
set_option maxHeartbeats 40000000 in
theorem armLeg_any {S : Nat → Prop} (x : Ovh) (hx : x.Ok) (pp pb po : Nat) (pv rv lv nv : Value) (w : World) (h : DartAt x S w pp pb po pv rv lv nv) :
  Calls Tryz.prog 5 #[.agg #[.int .i64 (legH x).start,.int .i64 (legH x).gin,.int .i64 (legH x).gout],.int .i64 2,.int .i64 4,.func (.func 7) #[] #[.pointer (some ⟨pp,0,none⟩),.pointer (some ⟨pb,0,none⟩),.pointer (some ⟨po,0,none⟩)]] w fun e w' =>
   ∃ v R,e = .returned (.tuple #[v,.bool (playH x).won]) ∧ Below w.heap.size w w' ∧ VisR R (playH x).out ∧ w'.ownsRow w.heap.size 56 4 v R.length R.flatten:=by
 obtain ⟨l,hl⟩ : ∃ l,legH x = l:=⟨_,rfl⟩;obtain ⟨sz,hsz⟩ : ∃ z,l.start = z:=⟨_,rfl⟩;obtain ⟨gi,hgi⟩ : ∃ z,l.gin = z:=⟨_,rfl⟩;obtain ⟨go,hgo⟩ : ∃ z,l.gout = z:=⟨_,rfl⟩;have hbd:=legH_bd x;rw [hl,hsz,hgi,hgo] at hbd;have HBD:=Lib.hid hbd;rw [hl,hsz,hgi,hgo];obtain ⟨gb,hgb⟩ : ∃ b,(gi == 0) = b:=⟨_,rfl⟩;obtain ⟨N,hN⟩ : ∃ N,w.heap.size = N:=⟨_,rfl⟩;obtain ⟨w1,hw1⟩ : ∃ z,w.alloc (.cells #[.int .i64 sz,.int .i64 gi,.int .i64 go] 45) = z:=⟨_,rfl⟩;have hb1 : Below w.heap.size w w1:=by rw [← hw1]; exact aB _ _
 have hz1 : w1.heap.size = N + 1:=by rw [← hw1,← hN]; simp
 have k1 : w1.heap[N]? = some (.cells #[.int .i64 sz,.int .i64 gi,.int .i64 go] 45 (0,0)):=by rw [← hw1,← hN]; exact World.alloc_heap_new _ _
 obtain ⟨w2,hw2⟩ : ∃ z,w1.alloc (.cells #[] 3) = z:=⟨_,rfl⟩;have hb2 : Below w1.heap.size w1 w2:=by rw [← hw2]; exact aB _ _
 have hz2 : w2.heap.size = N + 2:=by rw [← hw2]; simp [hz1]
 have k2 : w2.heap[N + 1]? = some (.cells #[] 3 (0,0)):=by rw [← hw2,← hz1]; exact World.alloc_heap_new _ _
 obtain ⟨w3,hw3⟩ : ∃ z,w2.alloc (.cells #[] 4) = z:=⟨_,rfl⟩;have hb3 : Below w2.heap.size w2 w3:=by rw [← hw3]; exact aB _ _
 have hz3 : w3.heap.size = N + 3:=by rw [← hw3]; simp [hz2]
 have k3 : w3.heap[N + 2]? = some (.cells #[] 4 (0,0)):=by rw [← hw3,← hz2]; exact World.alloc_heap_new _ _
 have HST : Hid (ArmSt (N + 1) w3 (.slice (some ⟨N + 1,0,none⟩) 0 0) (.slice (some ⟨N + 1 + 1,0,none⟩) 0 0) (.slice none 0 0) (List.replicate 0 sz) (List.replicate 0 gb) []):=Lib.hid ⟨own_empty ((hb3.block (N + 1) (by omega)).trans k2) (Nat.le_refl _),own_empty k3 (by omega),World.ownsRow_nil _ _ _ _⟩
 have HK : Hid (w3.heap[N]? = some (.cells #[.int .i64 sz,.int .i64 gi,.int .i64 go] 45 (0,0))):=Lib.hid ((hb3.block N (by omega)).trans ((hb2.block N (by omega)).trans k1))
 have HB : Hid (Below N w w3):=Lib.hid (((by rw [← hN]; exact hb1 : Below N w w1).trans (hb2.mono (by omega))).trans (hb3.mono (by omega)))
 have HM : Hid (N + 3 ≤ w3.heap.size):=Lib.hid (by omega)
 have HDW : Hid (∀ W,Below N w W → DartAt x S W pp pb po pv rv lv nv):=Lib.hid (fun W hb => h.below (by rw [hN]; exact hb))
 have HX:=Lib.hid hx;have HL:=Lib.hid hl;have HSZ:=Lib.hid hsz;have HGI:=Lib.hid hgi;have HGO:=Lib.hid hgo;have HGB:=Lib.hid hgb;have HN:=Lib.hid hN;have HW1:=Lib.hid hw1;have HW2:=Lib.hid hw2;have HW3:=Lib.hid hw3;clear h hx hl hsz hgi hgo hbd hb1 hb2 hb3 hz1 hz2 hz3 k1 k2 k3 hw1 hw2 hw3 hN
 go_enter Tryz.func5,Tryz.ntmps5
 go_upto_region 2 with fail
 rw [HW1.out,HN.out,HW2.out,HW3.out];go_wp2_with fail;go_loopw [10,11,13] (fun lx iy kv wr => ∃ (p : Nat) (lV iV : Value),lV = lx ∧ iV = iy ∧ p ≤ 2 ∧ kv = .int .i64 (p : Int) ∧ Hid (ArmSt (N + 1) wr lV iV (.slice none 0 0) (List.replicate p sz) (List.replicate p gb) []) ∧ Hid (wr.heap[N]? = some (.cells #[.int .i64 sz,.int .i64 gi,.int .i64 go] 45 (0,0))) ∧ Hid (N + 3 ≤ wr.heap.size) ∧ Hid (Below N w wr)) (fun _ _ kv _ => 2 - (intOf kv).toNat)
 case atStart => exact ⟨0,_,_,rfl,rfl,by omega,by go_num,HST,HK,HM,HB⟩
 case round =>
  clear HST HK HM HB;obtain ⟨p,lV,iV,rfl,rfl,hp2,rfl,HST,HK,HMo,HBr⟩ := hrel;obtain ⟨wo,rfl⟩ : ∃ wo : World,wo = wr:=⟨_,rfl⟩;obtain ⟨la,lc,hlv⟩ := owns_form HST.out.left;obtain ⟨ia,ic,hiv⟩ := owns_form HST.out.inn;rw [List.length_replicate] at hlv hiv;subst hlv hiv;by_cases hlt : p < 2
  ·have HO1 : Hid (wo.ownsRow (N + 1) 3 1 (.slice la p lc) p (ints (List.replicate p sz))):=Lib.hid (by have h:=HST.out.left; rw [List.length_replicate] at h; exact h)
   have HO2 : Hid (wo.ownsRow (N + 1) 4 1 (.slice ia p ic) p (boolsH (List.replicate p gb))):=Lib.hid (by have h:=HST.out.inn; rw [List.length_replicate] at h; exact h)
   have HNE:=Lib.hid (ownsN_ne HO1.out HO2.out (by decide))
   have t1 : decide ((p : Int) < 2) = true:=decide_eq_true (by omega)
   have t1n : decide (p < 2) = true:=decide_eq_true hlt;go_upto_region 5 with fail;clear t1 t1n;refine wp_region_seqV 11 ((fun v => v = .slice la p lc) :: (fun v => v = .pointer (some ⟨N,0,none⟩)) :: (fun v => v = .int .i64 sz) :: (fun v => ∃ q,v = .slice (some ⟨q,0,none⟩) 1 1) :: (fun v => ∃ g c,v = .slice (some ⟨g,0,none⟩) (p + 1) c) :: (fun v => v = .slice ia p ic) :: (fun v => v = .pointer (some ⟨N,1,none⟩)) :: (fun v => v = .int .i64 gi) :: (fun v => v = .bool gb) :: (fun v => ∃ q,v = .slice (some ⟨q,0,none⟩) 1 1) :: (fun v => ∃ g c,v = .slice (some ⟨g,0,none⟩) (p + 1) c) :: []) (JTwoV wo (.slice la p lc) (.slice ia p ic) 3 4 9 10 (N + 1) 3 4 p p (ints (List.replicate p sz)) (boolsH (List.replicate p gb)) (.int .i64 sz) (.bool gb)) rfl mix (by kernel_rfl) (by kernel_rfl) (fun _ _ _ _ hc h => h.congr hc) (fun _ => JTwoV.start) ?_
   simp only [List.take_succ_cons,List.take_zero];refine sv_rd rfl (fun _ _ _ h => h.read (by simp) (by simp) (by simp) (by simp)) (fun u1 L1 vs1 hvs1 hL1 hJ1 => ?_) ?_
   ·skip
    simp [opOK,go_sem]
   simp only [Act.put,List.setIfInBounds_toArray,List.set_cons_succ,List.set_cons_zero,List.nil_append,List.cons_append];refine sv_rd rfl (fun _ _ _ h => h.read (by simp) (by simp) (by simp) (by simp)) (fun u1 L1 vs1 hvs1 hL1 hJ1 => ?_) ?_
   ·skip
    simp [opOK,go_sem]
   simp only [Act.put,List.setIfInBounds_toArray,List.set_cons_succ,List.set_cons_zero,List.nil_append,List.cons_append];refine sv_rd rfl (fun _ _ _ h => h.read (by simp) (by simp) (by simp) (by simp)) (fun u1 L1 vs1 hvs1 hL1 hJ1 => ?_) ?_
   ·skip
    have hbx:=hJ1.b.heap HK.out (fun e => by have:=(HO1.out.lt _ e).1; omega) (fun e => by have:=(HO2.out.lt _ e).1; omega)
    have z0 : u1.cell? ⟨N,0,none⟩ = some (.int .i64 sz):=by rw [cell_of_heap hbx]; rfl
    simp [opOK,go_sem,z0]
   simp only [Act.put,List.setIfInBounds_toArray,List.set_cons_succ,List.set_cons_zero,List.nil_append,List.cons_append];refine sv_new ⟨.slice (some ⟨0,0,none⟩) 1 1,0,rfl⟩ rfl (fun u1 L1 vs1 hvs1 hL1 hJ1 hd => ?_) ?_
   ·simp [opOK,go_sem]
    exact hJ1.swapLit (aB _ _) hJ1.b.size (by rw [cell_of_heap (World.alloc_heap_new _ _)]; rfl) (by decide) (by decide) (by decide)
   rintro _ ⟨b1,rfl⟩;simp only [Act.put,List.setIfInBounds_toArray,List.set_cons_succ,List.set_cons_zero,List.nil_append,List.cons_append];refine sv_new ⟨.slice (some ⟨0,0,none⟩) (p + 1) 0,0,0,rfl⟩ rfl (fun u1 L1 vs1 hvs1 hL1 hJ1 hd => ?_) ?_
   ·obtain ⟨bq,eq,hbq,hcq⟩ := hJ1.lit1 (hd ⟨3,.data⟩ (by simp) rfl)
    rw [hvs1 3 (.slice (some ⟨b1,0,none⟩) 1 1) (by simp)] at eq
    cases eq;have hown:=hJ1.b.own1 HO1.out hL1 HNE.out;refine opOK_mono (opOK_append1_at (.tmp 29) (.tmp 32) 33 rfl (N + 1) 3 (.int .i64 0) 8 Tryz.underlying33 info_intH rfl (.slice la p lc) p _ rfl hown b1 0 1 _ rfl hcq rfl (by omega) (by decide) (by have:=HMo.out; have:=hJ1.b.size; omega)) ?_
    rintro v' w' ⟨g,c,rfl,h1,h2,h3⟩;exact ⟨⟨g,c,rfl⟩,hJ1.app1 hL1 h2 (fun q hq => (HO1.out.lt q hq).2) h1 (h3.elim (fun e => .inl e.symm) (fun e => .inr ⟨g,rfl,by rw [e]; exact hJ1.b.size⟩)) (by decide) (by decide) (by decide)⟩
   rintro _ ⟨g5,c5,rfl⟩;simp only [Act.put,List.setIfInBounds_toArray,List.set_cons_succ,List.set_cons_zero,List.nil_append,List.cons_append];refine sv_rd rfl (fun _ _ _ h => h.read (by simp) (by simp) (by simp) (by simp)) (fun u1 L1 vs1 hvs1 hL1 hJ1 => ?_) ?_
   ·skip
    simp [opOK,go_sem]
   simp only [Act.put,List.setIfInBounds_toArray,List.set_cons_succ,List.set_cons_zero,List.nil_append,List.cons_append];refine sv_rd rfl (fun _ _ _ h => h.read (by simp) (by simp) (by simp) (by simp)) (fun u1 L1 vs1 hvs1 hL1 hJ1 => ?_) ?_
   ·skip
    simp [opOK,go_sem]
   simp only [Act.put,List.setIfInBounds_toArray,List.set_cons_succ,List.set_cons_zero,List.nil_append,List.cons_append];refine sv_rd rfl (fun _ _ _ h => h.read (by simp) (by simp) (by simp) (by simp)) (fun u1 L1 vs1 hvs1 hL1 hJ1 => ?_) ?_
   ·skip
    have hbx:=hJ1.b.heap HK.out (fun e => by have:=(HO1.out.lt _ e).1; omega) (fun e => by have:=(HO2.out.lt _ e).1; omega)
    have z1 : u1.cell? ⟨N,1,none⟩ = some (.int .i64 gi):=by rw [cell_of_heap hbx]; rfl
    simp [opOK,go_sem,z1]
   simp only [Act.put,List.setIfInBounds_toArray,List.set_cons_succ,List.set_cons_zero,List.nil_append,List.cons_append];refine sv_rd rfl (fun _ _ _ h => h.read (by simp) (by simp) (by simp) (by simp)) (fun u1 L1 vs1 hvs1 hL1 hJ1 => ?_) ?_
   ·skip
    simp [opOK,go_sem,hgb]
   simp only [Act.put,List.setIfInBounds_toArray,List.set_cons_succ,List.set_cons_zero,List.nil_append,List.cons_append];refine sv_new ⟨.slice (some ⟨0,0,none⟩) 1 1,0,rfl⟩ rfl (fun u1 L1 vs1 hvs1 hL1 hJ1 hd => ?_) ?_
   ·simp [opOK,go_sem]
    exact hJ1.mkLit2 (aB _ _) hJ1.b.size (by rw [cell_of_heap (World.alloc_heap_new _ _)]; rfl) (by decide) (by decide) (by decide)
   rintro _ ⟨b9,rfl⟩;simp only [Act.put,List.setIfInBounds_toArray,List.set_cons_succ,List.set_cons_zero,List.nil_append,List.cons_append];refine sv_new ⟨.slice (some ⟨0,0,none⟩) (p + 1) 0,0,0,rfl⟩ rfl (fun u1 L1 vs1 hvs1 hL1 hJ1 hd => ?_) ?_
   ·obtain ⟨bq,eq,hbq,hcq⟩ := hJ1.lit2 (hd ⟨9,.data⟩ (by simp) rfl)
    simp only [List.length_cons,List.length_nil,Nat.zero_add,Nat.reduceAdd] at hL1 ⊢;rw [hvs1 9 (.slice (some ⟨b9,0,none⟩) 1 1) (by simp)] at eq
    cases eq;have hown:=hJ1.b.own2 HO2.out hL1 HNE.out;refine opOK_mono (opOK_append1_at (.tmp 34) (.tmp 38) 80 rfl (N + 1) 4 (.bool false) 1 Tryz.underlying80 info_boolH rfl (.slice ia p ic) p _ rfl hown b9 0 1 _ rfl hcq rfl (by omega) (by decide) (by have:=HMo.out; have:=hJ1.b.size; omega)) ?_
    rintro v' w' ⟨g,c,rfl,h1,h2,h3⟩;exact ⟨⟨g,c,rfl⟩,hJ1.app2 (hd ⟨4,.chain⟩ (by simp) rfl) h2 (fun q hq => (HO2.out.lt q hq).2) HNE.out h1 rfl h3 (by decide) (by decide) (by decide)⟩
   rintro _ ⟨g12,c12,rfl⟩;simp only [Act.put,List.setIfInBounds_toArray,List.set_cons_succ,List.set_cons_zero,List.nil_append,List.cons_append];refine sv_end fun vs6 w6 hvs6 hJ6 => ?_
   simp only [List.drop_succ_cons,List.drop_zero];have h5:=hJ6.row1 (by decide)
   have h12:=hJ6.row2 (by decide)
   rw [hvs6 4 (.slice (some ⟨g5,0,none⟩) (p + 1) c5) (by simp)] at h5
   rw [hvs6 10 (.slice (some ⟨g12,0,none⟩) (p + 1) c12) (by simp)] at h12
   have HP6 : Hid (ArmSt (N + 1) w6 (.slice (some ⟨g5,0,none⟩) (p + 1) c5) (.slice (some ⟨g12,0,none⟩) (p + 1) c12) (.slice none 0 0) (List.replicate (p + 1) sz) (List.replicate (p + 1) gb) []):=Lib.hid (by
    refine ⟨?_, ?_,World.ownsRow_nil _ _ _ _⟩
    ·rw [List.length_replicate,List.replicate_succ',ints_append]; exact h5.1
    ·rw [List.length_replicate,List.replicate_succ',show boolsH (List.replicate p gb ++ [gb]) = boolsH (List.replicate p gb) ++ [.bool gb] from List.map_append ..]; exact h12.1)
   have HK6:=Lib.hid (hJ6.b.heap HK.out (fun e => by have:=(HO1.out.lt _ e).1; omega) (fun e => by have:=(HO2.out.lt _ e).1; omega))
   have HM6 : Hid (N + 3 ≤ w6.heap.size):=Lib.hid (Nat.le_trans HMo.out hJ6.b.size);have HB6 : Hid (Below N w w6):=Lib.hid (HBr.out.trans ⟨hJ6.b.os,hJ6.b.tape,hJ6.b.output,hJ6.b.size,fun k hk => hJ6.b.block k (by have:=HMo.out; omega) (.inr fun e => by have:=(HO1.out.lt _ e).1; omega) (.inr fun e => by have:=(HO2.out.lt _ e).1; omega)⟩)
   have hwi : IntKind.i64.wrap ((p : Int) + 1) = (p : Int) + 1:=wrap_small _ (by omega) (by omega)
   clear hJ6 hvs6 h5 h12 HST HK HMo HBr HO1 HO2 HNE;go_wp2;go_roundw
   case rel => exact ⟨p + 1,_,_,rfl,rfl,by omega,by go_num,HP6,HK6,HM6,HB6⟩
   case measure => simp [intOf]; omega
  ·obtain rfl : p = 2:=by omega
   have e22 : ((2 : Nat) : Int) = 2:=rfl;rw [e22];clear e22 hp2;have HO1:=HST.out.left;have HO2:=HST.out.inn;rw [List.length_replicate] at HO1 HO2;obtain ⟨gL,lc',hla⟩ := own_posH HO1 (by decide)
   obtain ⟨gI,ic',hia⟩ := own_posH HO2 (by decide)
   have hgL:=HO1.lt gL (by rw [hla]; rfl)
   have hgI:=HO2.lt gI (by rw [hia]; rfl)
   cases hla;cases hia;have hne : gL ≠ gI:=fun e => by
    rcases ownsN_ne HO1 HO2 (by decide) with h | h
    ·cases h
    ·exact h (by rw [e]; rfl)
   obtain ⟨F,hF⟩ : ∃ F,playH x = F:=⟨_,rfl⟩;have HPP : Hid (l.players.toNat = 2):=Lib.hid (by rw [← HL.out]; rfl)
   have HPL0 : Hid (PlAt l x.D 4 F (begin5 l)):=Lib.hid (by
    have h:=PlAt.start (l:=l) (D:=x.D) (most:=4) (by rw [HSZ.out]; have:=HBD.out.1; omega)
    rw [← hF]; unfold playH; rw [HL.out]; exact h)
   have HST0 : Hid (ArmSt (N + 1) wo (.slice (some ⟨gL,0,none⟩) 2 lc) (.slice (some ⟨gI,0,none⟩) 2 ic) (.slice none 0 0) ((begin5 l).sts.map (·.left)) ((begin5 l).sts.map (·.inn)) []):=Lib.hid (by
    have e : (begin5 l).sts = List.replicate 2 ⟨sz,gb⟩ := by
     unfold begin5 start5;simp only;rw [HPP.out,HSZ.out,HGI.out,HGB.out]
    rw [e,List.map_replicate,List.map_replicate];exact HST.out)
   have HVR0 : Hid (VisR [] (begin5 l).out):=Lib.hid VisR.nil;have HGL : Hid (N + 1 ≤ gL ∧ N + 1 ≤ gI ∧ gL ≠ gI):=Lib.hid ⟨hgL.1,hgI.1,hne⟩;have HGD : Hid (GoodBeds l):=Lib.hid (by rw [← HL.out]; exact legH_good x)
   have HBS : Hid (l.beds = beds10):=Lib.hid (by rw [← HL.out]; rfl)
   have HFF:=Lib.hid hF;have e9 : (begin5 l).won = false:=rfl;have e12 : (begin5 l).at_ = 0:=rfl;clear HST HO1 HO2 hgL hgI hne hF;go_wp2_with fail;go_loopw [8,9,12] (fun ov wv av wr => ∃ (X : Pl5) (R : List (List Value)) (oV : Value),oV = ov ∧ wv = .bool X.won ∧ av = .int .i64 (X.at_ : Int) ∧ Hid (PlAt l x.D 4 F X) ∧ Hid (VisR R X.out) ∧ Hid (ArmSt (N + 1) wr (.slice (some ⟨gL,0,none⟩) 2 lc) (.slice (some ⟨gI,0,none⟩) 2 ic) oV (X.sts.map (·.left)) (X.sts.map (·.inn)) R) ∧ Hid (wr.heap[N]? = some (.cells #[.int .i64 sz,.int .i64 gi,.int .i64 go] 45 (0,0))) ∧ Hid (N + 3 ≤ wr.heap.size) ∧ Hid (Below N w wr)) (fun ov _ _ _ => 4 - (match ov with | .slice _ n _ => n | _ => 0))
   case atStart => exact ⟨begin5 l,[],_,rfl,by rw [e9],by rw [e12]; rfl,HPL0,HVR0,HST0,HK,HMo,HBr⟩
   case round =>
    clear HPL0 HVR0 HST0 HK HMo HBr e9 e12;obtain ⟨X,R,oV,rfl,rfl,rfl,HPL,HVR,HST,HK,HMo,HBr⟩ := hrel;obtain ⟨wo,rfl⟩ : ∃ wo : World,wo = wr:=⟨_,rfl⟩;obtain ⟨oa,oc,hov⟩ := owns_form HST.out.out;obtain ⟨n,hn⟩ : ∃ n,R.length = n:=⟨_,rfl⟩;rw [hn] at hov;subst hov;obtain ⟨wn,hwn⟩ : ∃ b,X.won = b:=⟨_,rfl⟩;obtain ⟨q,hq⟩ : ∃ q,X.at_ = q:=⟨_,rfl⟩;have hnX : X.out.length = n:=by rw [← HVR.out.1,hn]
    have hn4 : n ≤ 4:=by rw [← hnX]; exact HPL.out.len
    have hq12 : q ≤ 12:=by have:=HPL.out.at_; rw [hq,hnX] at this; omega
    rw [hwn,hq];have HNR:=Lib.hid hn;have HNX:=Lib.hid hnX;have HWN:=Lib.hid hwn;have HQQ:=Lib.hid hq;clear hn hnX hwn hq;by_cases hlt : n < 4
    ·have t1 : decide ((n : Int) < 4) = true:=decide_eq_true (by omega)
     have t1n : decide (n < 4) = true:=decide_eq_true hlt;cases wn
     ·skip
      have hXS : X.sts.length = 2:=HPL.out.sts.trans HPP.out;obtain ⟨j,hj⟩ : ∃ j,n % 2 = j:=⟨_,rfl⟩;have hj2 : j < 2:=by rw [← hj]; exact Nat.mod_lt _ (by decide)
      obtain ⟨⟨sl,si⟩,hs⟩ : ∃ s,X.sts[j]? = some s:=⟨_,List.getElem?_eq_getElem (by omega)⟩
      have hol:=HST.out.left;have hoi:=HST.out.inn;rw [List.length_map,hXS] at hol hoi;obtain ⟨l0,lf0⟩ := own_cellH hol (j:=j) (x:=.int .i64 sl) (by unfold ints; rw [List.map_map,List.getElem?_map,hs]; rfl)
      obtain ⟨i0,if0⟩ := own_cellH hoi (j:=j) (x:=.bool si) (by unfold boolsH; rw [List.map_map,List.getElem?_map,hs]; rfl)
      have hsb:=HPL.out.bd ⟨sl,si⟩ (List.mem_of_getElem? hs);rw [HSZ.out] at hsb;simp only at hsb;have hm : ((n : Int)).tmod 2 = (j : Int):=by rw [← hj]; exact tmodH n 2
      have hsX : X.sts[X.out.length % X.sts.length]? = some ⟨sl,si⟩ := by rw [HNX.out,hXS,hj]; exact hs
      have HSX:=Lib.hid hsX;have HS:=Lib.hid hs;have HSB:=Lib.hid hsb;have HXS:=Lib.hid hXS;have HJN:=Lib.hid hj;have hjj : (j : Int) < 2:=by omega
      clear hs hsb hol hoi hj hsX hXS;go_upto_region 8 with fail;clear t1 t1n;obtain ⟨D,hD⟩ : ∃ D,wo.heap.size = D:=⟨_,rfl⟩;refine wp_region_seqC 15 [.int .i64 (j : Int),.agg #[.slice none 0 0,.int .i64 0,.int .i64 0,.int .i64 (j : Int)],.slice (some ⟨gL,0,none⟩) 2 lc,.int .i64 (j : Int),.pointer (some ⟨gL,j,none⟩),.int .i64 sl,.slice (some ⟨gI,0,none⟩) 2 ic,.int .i64 (j : Int),.pointer (some ⟨gI,j,none⟩),.bool si,.pointer (some ⟨D,0,none⟩),undef,.int .i64 sl,.bool si,.bool false] (JBox wo 10 11 56 #[.slice none 0 0,.int .i64 0,.int .i64 0,.int .i64 0] #[.slice none 0 0,.int .i64 0,.int .i64 0,.int .i64 (j : Int)]) rfl mix (by kernel_rfl) (by kernel_rfl) JBox.start ?_
      simp only [List.take_succ_cons,List.take_zero]
      iterate 10
       refine sc_rd rfl (fun _ _ _ h => h.read (by decide) (by decide)) (fun w5 L hL hJ => ?_) ?_
       ·have l0':=bAt hJ.below l0
        have i0':=bAt hJ.below i0;simp [opOK,go_sem,l0',i0',hjj]
        try exact rfl
       simp only [Act.put,List.setIfInBounds_toArray,List.set_cons_succ,List.set_cons_zero]
      refine sc_is rfl (fun w5 L hL hJ hd => ?_) ?_
      ·obtain ⟨h1,h2⟩ := hJ.alloc hL (by decide)
       have h3 : w5.heap.size = D:=by rw [h2]; exact hD
       exact opOK_val (v:=.pointer (some ⟨D,0,none⟩)) (w':=w5.alloc (.cells #[.slice none 0 0,.int .i64 0,.int .i64 0,.int .i64 0] 56)) (by simp [go_sem,execOp,h3]) ⟨rfl,h1⟩
      simp only [Act.put,List.setIfInBounds_toArray,List.set_cons_succ,List.set_cons_zero];refine sc_is rfl (fun w5 L hL hJ hd => ?_) ?_
      ·have h10:=hd ⟨10,.data⟩ (by simp) rfl
       have h2:=hJ.on h10 hL;have h3 : wo.heap.size = D:=hD;rw [h3] at h2;have h4:=hJ.store h10 hL (by decide)
       rw [h3] at h4;exact opOK_store_row _ _ _ rfl D #[.slice none 0 0,.int .i64 0,.int .i64 0,.int .i64 (j : Int)] (by simp [Act.eval]) (by simp [Act.eval]) 56 _ h2 (by kernel_rfl) rfl (by simp [Value.oneCell']) ⟨rfl,h4⟩
      simp only [Act.put]
      iterate 3
       refine sc_rd rfl (fun _ _ _ h => h.read (by decide) (by decide)) (fun w5 L hL hJ => ?_) ?_
       ·simp [opOK,go_sem]
        try exact rfl
       simp only [Act.put,List.setIfInBounds_toArray,List.set_cons_succ,List.set_cons_zero]
      refine sc_end fun w8 hJ => ?_
      simp only [List.drop_succ_cons,List.drop_zero];have hb8 : Below wo.heap.size wo w8:=hJ.below;have HD8 : Hid (w8.heap[D]? = some (.cells #[.slice none 0 0,.int .i64 0,.int .i64 0,.int .i64 (j : Int)] 56 (0,0))):=Lib.hid (by
       have h3 : wo.heap.size = D:=hD;have:=hJ.st rfl;rw [h3] at this; exact this)
      have hDo : wo.heap.size ≤ D:=Nat.le_of_eq hD;clear l0 lf0 i0 if0 hm hJ;have HAP : Hid (gL < D ∧ gI < D ∧ (∀ q,(Value.slice oa n oc).ownBlock = some q → q < D) ∧ N + 3 ≤ D):=Lib.hid ⟨by have:=(HST.out.left.lt gL rfl).2; omega,by have:=(HST.out.inn.lt gI rfl).2; omega,fun q hq => by have:=(HST.out.out.lt q hq).2; omega,by have:=HMo.out; omega⟩
      have HST8:=Lib.hid (HST.out.below hb8);have HK8:=Lib.hid ((hb8.block N (by have:=HMo.out; omega)).trans HK.out)
      have HM8 : Hid (D + 1 ≤ w8.heap.size):=Lib.hid (Array.getElem?_eq_some_iff.1 HD8.out).1
      have HB8 : Hid (Below N w w8):=Lib.hid (HBr.out.trans (hb8.mono (by have:=HMo.out; omega)))
      have HO8 : Hid (∃ xs,w8.ownsRow (D + 1) 47 1 (.slice none 0 0) 0 xs):=Lib.hid ⟨[],World.ownsRow_nil _ _ _ _⟩;have HVA8 : Hid (VisAt l x.D (thr5 l x.D 3 ⟨sl,si⟩ q) q 0 ⟨sl,si⟩ false):=Lib.hid (VisAt.start _ _ _ _);clear hD hb8 hDo HK HBr HMo HST;go_wp2_with fail;go_loopw [9,12,16,17,18,19] (fun wv av nv sv ov dv wr => ∃ (d q' : Nat) (c : Std) (wn ov' : Bool) (bV : Value),d ≤ 3 ∧ Hid (q' = q + d) ∧ wv = .bool wn ∧ av = .int .i64 (q' : Int) ∧ nv = .int .i64 c.left ∧ sv = .bool c.inn ∧ ov = .bool ov' ∧ dv = .int .i64 (d : Int) ∧ Hid (ov' = true → VisEnd (visT l x.D ⟨sl,si⟩ q) ⟨sl,si⟩ d c wn) ∧ Hid (ov' = false → wn = false ∧ VisAt l x.D (thr5 l x.D 3 ⟨sl,si⟩ q) q d c false) ∧ Hid (0 ≤ c.left ∧ c.left ≤ sz) ∧ Hid (∃ xs,wr.ownsRow (D + 1) 47 1 bV d xs) ∧ Hid (wr.heap[D]? = some (.cells #[bV,.int .i64 0,.int .i64 0,.int .i64 (j : Int)] 56 (0,0))) ∧ Hid (ArmSt (N + 1) wr (.slice (some ⟨gL,0,none⟩) 2 lc) (.slice (some ⟨gI,0,none⟩) 2 ic) (.slice oa n oc) (X.sts.map (·.left)) (X.sts.map (·.inn)) R) ∧ Hid (wr.heap[N]? = some (.cells #[.int .i64 sz,.int .i64 gi,.int .i64 go] 45 (0,0))) ∧ Hid (D + 1 ≤ wr.heap.size) ∧ Hid (Below N w wr)) (fun _ _ _ _ _ dv _ => 3 - (intOf dv).toNat)
      case atStart => exact ⟨0,q,⟨sl,si⟩,false,false,_,by omega,Lib.hid rfl,rfl,rfl,rfl,rfl,rfl,by go_num,Lib.hid (fun h => by cases h),Lib.hid (fun _ => ⟨rfl,HVA8.out⟩),HSB,HO8,HD8,HST8,HK8,HM8,HB8⟩
      case round =>
       clear HVA8 HO8 HD8 HST8 HK8 HM8 HB8;obtain ⟨d,q',⟨cl,ci⟩,wn,ov,bV,hd3,HQ',rfl,rfl,rfl,rfl,rfl,rfl,HVE,HVA,HCB,HO,HDD,HST,HK,HMo,HBr⟩ := hrel;simp only at HVE HVA HCB;obtain ⟨wi,rfl⟩ : ∃ wo : World,wo = wr:=⟨_,rfl⟩;obtain ⟨ba,bc,hbv⟩ : ∃ a c,bV = .slice a d c:=by obtain ⟨xs,h⟩ := HO.out; exact owns_form h
       subst hbv;by_cases hgo : d < 3 ∧ ov = false
       ·obtain ⟨hd,rfl⟩ := hgo
        obtain ⟨hwn,hva⟩ := HVA.out rfl;subst hwn;have HVAT:=Lib.hid hva;have t1 : decide ((d : Int) < 3) = true:=decide_eq_true (by omega)
        have t1n : decide (d < 3) = true:=decide_eq_true hd;have hq15 : q' ≤ 15:=by have:=HQ'.out; omega
        have hwq : IntKind.i64.wrap ((q' : Int) + 1) = (q' : Int) + 1:=wrap_small _ (by omega) (by omega)
        have hwd : IntKind.i64.wrap ((d : Int) + 1) = (d : Int) + 1:=wrap_small _ (by omega) (by omega)
        have HQ1 : Hid (q' + 1 = q + (d + 1)):=Lib.hid (by have:=HQ'.out; omega)
        clear hva HVA HVE;go_wp2_with fail;refine (dartH_any x HX.out pp pb po pv rv lv nv q' wi (HDW.out wi HBr.out)).mono ?_
        rintro e w9 ⟨rfl,hb9⟩;clear t1 t1n;obtain ⟨xs,hxs⟩ := HO.out;have HSTo:=HST;have HST9:=Lib.hid (HST.out.below hb9);have HD9:=Lib.hid ((hb9.block D (by have:=HMo.out; omega)).trans HDD.out)
        have HO9:=Lib.hid (ownsN_below hxs hb9);have HK9:=Lib.hid ((hb9.block N (by have:=HMo.out; have:=HAP.out; omega)).trans HK.out)
        have HM9 : Hid (D + 1 ≤ w9.heap.size):=Lib.hid (Nat.le_trans HMo.out hb9.size);have HB9 : Hid (Below N w w9):=Lib.hid (HBr.out.trans (hb9.mono (by have:=HMo.out; have:=HAP.out; omega)))
        clear hb9 hxs HO HST HDD HK HMo HBr HSTo;have hin:=bedH_in (2 * (pointAt x q').1 - 255,2 * (pointAt x q').2 - 255);rw [show bedH (2 * (pointAt x q').1 - 255,2 * (pointAt x q').2 - 255) = bedAt x q' from rfl] at hin
        obtain ⟨b,hb⟩ : ∃ b,bedAt x q' = b:=⟨_,rfl⟩;rw [hb] at hin ⊢;have HJ : Hid (x.D (q + d) % (l.beds.length + 1) = bedIx b):=Lib.hid (by
         rw [HBS.out,← HQ'.out,← hb];exact Nat.mod_eq_of_lt (bedIx_lt _))
        have hx0 : w9.cell? ⟨D,0,none⟩ = some (.slice ba d bc):=by rw [cell_of_heap HD9.out]; rfl
        have hx1 : (w9.alloc (.cells #[.int .i64 b] 47)).cell? ⟨D,0,none⟩ = some (.slice ba d bc):=bAt (aB _ _) hx0;clear hb
        go_wp2_with (at_builtin; refine wpList_append1 rfl (.tmp 76) (.tmp 78) 36 rfl (D + 1) 47 (.int .i64 0) 8 Tryz.underlying36 info_bedB rfl (.slice ba d bc) d _ rfl (ownsN_below HO9.out (aB w9 _)) w9.heap.size 0 1 (.int .i64 b) rfl (cell_new _ _ _) rfl (by omega) (by decide) (by simp; have:=HM9.out; omega) ?_)
        intro g5 c5 w11 ho hg hat
        have hb10:=aB w9 (.cells #[.int .i64 b] 47);have hge : ∀ q,(Value.slice ba d bc).ownBlock = some q → D + 1 ≤ q:=fun q hq => ((ownsN_below HO9.out (aB w9 (.cells #[.int .i64 b] 47))).lt q hq).1
        have hD11 : w11.heap[D]? = some (.cells #[.slice ba d bc,.int .i64 0,.int .i64 0,.int .i64 (j : Int)] 56 (0,0)):=(hg.block D (by simp; have:=HM9.out; omega) (fun e => by have:=hge D e.symm; omega)).trans ((hb10.block D (by have:=HM9.out; omega)).trans HD9.out)
        have hK11:=(hg.block N (by simp; have:=HM9.out; have:=HAP.out; omega) (fun e => by have:=hge N e.symm; have:=HAP.out; omega)).trans ((hb10.block N (by have:=HM9.out; have:=HAP.out; omega)).trans HK9.out)
        have apart : ∀ (v : Value),(∀ q,v.ownBlock = some q → q < D) → v.ownBlock = none ∨ v.ownBlock ≠ (Value.slice ba d bc).ownBlock:=fun v hv => by
         cases e : v.ownBlock with
         | none => exact .inl rfl
         | some q => exact .inr fun e2 => by have h1:=hv q e; have h2:=hge q e2.symm; omega
        have hS11:=(HST9.out.below hb10).blk hg (apart _ fun q hq => by cases hq; exact HAP.out.1) (apart _ fun q hq => by cases hq; exact HAP.out.2.1) (apart _ HAP.out.2.2.1)
        have hB11 : Below N w w11:=(HB9.out.trans (hb10.mono (by have:=HM9.out; have:=HAP.out; omega))).trans (below_grownBy hg (by simp; have:=HM9.out; have:=HAP.out; omega) (fun q hq => by have:=hge q hq; have:=HAP.out; omega))
        have hM11 : D + 1 ≤ w11.heap.size:=by have h1:=hg.size; have h2:=HM9.out; simp at h1; omega
        have x0 : w11.cell? ⟨D,0,none⟩ = some (.slice ba d bc):=by rw [cell_of_heap hD11]; rfl
        have f0 : w11.frozen? ⟨D,0,none⟩ = false:=frozen_of_heap hD11;obtain ⟨w12,hw12⟩ : ∃ z,w11.setCell ⟨D,0,none⟩ (.slice (some ⟨g5,0,none⟩) (d + 1) c5) = z:=⟨_,rfl⟩;have hg12 : w11.grownBy w12 (some D):=by rw [← hw12]; exact grown_setH _ _ _ _
        have HD12 : Hid (w12.heap[D]? = some (.cells #[.slice (some ⟨g5,0,none⟩) (d + 1) c5,.int .i64 0,.int .i64 0,.int .i64 (j : Int)] 56 (0,0))):=Lib.hid (by rw [← hw12]; exact heap_setCell_at hD11 _)
        have HK12:=Lib.hid ((hg12.block N (by have:=HAP.out; omega) (fun e => by have:=Option.some.inj e; have:=HAP.out; omega)).trans hK11)
        have apart2 : ∀ (v : Value),(∀ q,v.ownBlock = some q → q < D) → v.ownBlock = none ∨ v.ownBlock ≠ some D:=fun v hv => by
         cases e : v.ownBlock with
         | none => exact .inl rfl
         | some q => exact .inr fun e2 => by have h1:=hv q e; have:=Option.some.inj e2; omega
        have HST12:=Lib.hid (hS11.blk hg12 (apart2 _ fun q hq => by cases hq; exact HAP.out.1) (apart2 _ fun q hq => by cases hq; exact HAP.out.2.1) (apart2 _ HAP.out.2.2.1))
        have HO12:=Lib.hid (ho.kept hg12 (.inr fun e => by have h1:=(ho.lt g5 rfl).1; have h2 : some g5 = some D:=e; have:=Option.some.inj h2; omega))
        have HM12 : Hid (D + 1 ≤ w12.heap.size):=Lib.hid (by have:=hg12.size; omega)
        have HB12 : Hid (Below N w w12):=Lib.hid (hB11.trans (below_grownBy hg12 (by have:=HAP.out; omega) (fun q hq => by have:=Option.some.inj hq; have:=HAP.out; omega)))
        have HW12:=Lib.hid hw12;clear hb10 hge hD11 hK11 apart hS11 hB11 hM11 hg12 apart2 hg hat ho hw12 hx0 hx1 HST9 HD9 HO9 HK9 HM9 HB9;go_upto_region 15 with fail;rw [HW12.out];clear x0 f0;have n1 : w12.cell? ⟨N,1,none⟩ = some (.int .i64 gi):=by rw [cell_of_heap HK12.out]; rfl
        have n2 : w12.cell? ⟨N,2,none⟩ = some (.int .i64 go):=by rw [cell_of_heap HK12.out]; rfl
        by_cases hb0 : b = 0
        ·subst hb0
         have HV1 : Hid (VisAt l x.D (thr5 l x.D 3 ⟨sl,si⟩ q) q (d + 1) ⟨cl,ci⟩ false):=Lib.hid (HVAT.out.next hd HJ.out (x:=Std.en ⟨cl,ci⟩) (hitK_miss (by rw [HBS.out,bedIx_zero]; rfl)))
         cases ci
         ·go_wp2_with fail
          refine (armOpens_any 0 gi ⟨HBD.out.2.2.1,HBD.out.2.2.2.1⟩ (.inl rfl) (by decide) w12).mono ?_
          rintro e w13 ⟨rfl,hb13⟩;have e1 : (decide ((0 : Int) ≠ 0) && opens5 0 gi) = false:=rfl;rw [e1];clear e1;have HST13:=Lib.hid (HST12.out.below hb13);have HD13:=Lib.hid ((hb13.block D (by have:=HM12.out; omega)).trans HD12.out)
          have HO13:=Lib.hid (ownsN_below HO12.out hb13);have HK13:=Lib.hid ((hb13.block N (by have:=HM12.out; have:=HAP.out; omega)).trans HK12.out)
          have HM13 : Hid (D + 1 ≤ w13.heap.size):=Lib.hid (Nat.le_trans HM12.out hb13.size);have HB13 : Hid (Below N w w13):=Lib.hid (HB12.out.trans (hb13.mono (by have:=HM12.out; have:=HAP.out; omega)))
          clear hb13 HST12 HD12 HO12 HK12 HM12 HB12;go_wp2_with fail;go_roundw
          case rel => exact ⟨d + 1,q' + 1,⟨cl,false⟩,false,false,_,by omega,HQ1,rfl,by go_num,rfl,rfl,rfl,by go_num,Lib.hid (fun h => by cases h),Lib.hid (fun _ => ⟨rfl,HV1.out⟩),HCB,Lib.hid ⟨_,HO13.out⟩,HD13,HST13,HK13,HM13,HB13⟩
          case measure => simp [intOf]; omega
         ·go_wp2_with fail
          go_roundw
          case rel => exact ⟨d + 1,q' + 1,⟨cl,true⟩,false,false,_,by omega,HQ1,rfl,by go_num,rfl,rfl,rfl,by go_num,Lib.hid (fun h => by cases h),Lib.hid (fun _ => ⟨rfl,HV1.out⟩),HCB,Lib.hid ⟨_,HO12.out⟩,HD12,HST12,HK12,HM12,HB12⟩
          case measure => simp [intOf]; omega
        ·skip
         have hbm : b ∈ beds10:=hin.resolve_left hb0;have hbo:=bed10_ok b hbm;have hbk : l.beds[bedIx b]? = some b:=by rw [HBS.out]; exact bedIx_at hbm
         obtain ⟨ps,hps⟩ : ∃ p,b.tdiv 100 * b.tmod 100 = p:=⟨_,rfl⟩;rw [hps] at hbo;have HPS:=Lib.hid hps;have HP80 : Hid (1 ≤ ps ∧ ps ≤ 80):=Lib.hid ⟨hbo.2.1,hbo.2.2.1⟩;have HBK : Hid (hitK l (bedIx b) = hitB5 l b):=Lib.hid (hitK_bed hbk);have hb4 : 100 ≤ b ∧ b < 400:=hbo.2.2.2;have z0 : (b == 0) = false:=beq_eq_false_iff_ne.2 hb0;have HNZ : Hid (decide (b ≠ 0) = true):=Lib.hid (decide_eq_true hb0);clear hin hbm hbo hbk hps hb0;cases ci
         ·go_wp2_with fail
          refine (armOpens_any b gi ⟨HBD.out.2.2.1,HBD.out.2.2.2.1⟩ (.inr hb4.1) (by omega) w12).mono ?_
          rintro e w13 ⟨rfl,hb13⟩;rw [HNZ.out,Bool.true_and];obtain ⟨op,hop⟩ : ∃ o,opens5 b gi = o:=⟨_,rfl⟩;have HOP : Hid (opens5 b l.gin = op):=Lib.hid (by rw [HGI.out]; exact hop)
          rw [hop];clear hop;have n2:=bAt hb13 n2;have HST13:=Lib.hid (HST12.out.below hb13);have HD13:=Lib.hid ((hb13.block D (by have:=HM12.out; omega)).trans HD12.out)
          have HO13:=Lib.hid (ownsN_below HO12.out hb13);have HK13:=Lib.hid ((hb13.block N (by have:=HM12.out; have:=HAP.out; omega)).trans HK12.out)
          have HM13 : Hid (D + 1 ≤ w13.heap.size):=Lib.hid (Nat.le_trans HM12.out hb13.size);have HB13 : Hid (Below N w w13):=Lib.hid (HB12.out.trans (hb13.mono (by have:=HM12.out; have:=HAP.out; omega)))
          clear hb13 HST12 HD12 HO12 HK12 HM12 HB12;cases op
          ·have HV1 : Hid (VisAt l x.D (thr5 l x.D 3 ⟨sl,si⟩ q) q (d + 1) ⟨cl,false⟩ false):=Lib.hid (HVAT.out.next hd HJ.out (x:=Std.en ⟨cl,false⟩) (by rw [HBK.out]; exact dart_out rfl HOP.out))
           go_wp2_with fail;go_roundw
           case rel => exact ⟨d + 1,q' + 1,⟨cl,false⟩,false,false,_,by omega,HQ1,rfl,by go_num,rfl,rfl,rfl,by go_num,Lib.hid (fun h => by cases h),Lib.hid (fun _ => ⟨rfl,HV1.out⟩),HCB,Lib.hid ⟨_,HO13.out⟩,HD13,HST13,HK13,HM13,HB13⟩
           case measure => simp [intOf]; omega
          ·have HIN : Hid ((⟨cl,false⟩ : Std).inn = true ∨ opens5 b l.gin = true):=Lib.hid (.inr HOP.out)
           obtain ⟨rs,hrs⟩ : ∃ r,cl - ps = r:=⟨_,rfl⟩;have HRS:=Lib.hid hrs;have hwr : IntKind.i64.wrap (cl - ps) = rs:=by rw [hrs]; have:=HCB.out; have:=HP80.out; have:=HBD.out; exact wrap_small _ (by omega) (by omega)
           have HDW1 : Hid (1 ≤ b.tdiv 100 * b.tmod 100):=Lib.hid (by rw [HPS.out]; exact HP80.out.1)
           clear hrs;go_wp2_with fail;refine (armScore_any b ps HPS.out ⟨by have:=HP80.out; omega,by have:=HP80.out; omega⟩ ⟨by omega,by omega⟩ w13).mono ?_
           rintro e w14 ⟨rfl,hb14⟩;have n2:=bAt hb14 n2;have HST14:=Lib.hid (HST13.out.below hb14);have HD14:=Lib.hid ((hb14.block D (by have:=HM13.out; omega)).trans HD13.out)
           have HO14:=Lib.hid (ownsN_below HO13.out hb14);have HK14:=Lib.hid ((hb14.block N (by have:=HM13.out; have:=HAP.out; omega)).trans HK13.out)
           have HM14 : Hid (D + 1 ≤ w14.heap.size):=Lib.hid (Nat.le_trans HM13.out hb14.size);have HB14 : Hid (Below N w w14):=Lib.hid (HB13.out.trans (hb14.mono (by have:=HM13.out; have:=HAP.out; omega)))
           clear hb14 HST13 HD13 HO13 HK13 HM13 HB13;by_cases hr0 : rs = 0
           ·have r0 : (rs == 0) = true:=beq_iff_eq.2 hr0
            have HR0 : Hid ((⟨cl,false⟩ : Std).left - b.tdiv 100 * b.tmod 100 = 0):=Lib.hid (by rw [HPS.out]; exact HRS.out.trans hr0)
            clear hr0;go_wp2_with fail;refine (armOpens_any b go ⟨HBD.out.2.2.2.2.1,HBD.out.2.2.2.2.2⟩ (.inr hb4.1) (by omega) w14).mono ?_
            rintro e w15 ⟨rfl,hb15⟩;rw [HNZ.out,Bool.true_and];obtain ⟨oq,hoq⟩ : ∃ o,opens5 b go = o:=⟨_,rfl⟩;have HOQ : Hid (opens5 b l.gout = oq):=Lib.hid (by rw [HGO.out]; exact hoq)
            rw [hoq];clear hoq;have n2:=bAt hb15 n2;have HST15:=Lib.hid (HST14.out.below hb15);have HD15:=Lib.hid ((hb15.block D (by have:=HM14.out; omega)).trans HD14.out)
            have HO15:=Lib.hid (ownsN_below HO14.out hb15);have HK15:=Lib.hid ((hb15.block N (by have:=HM14.out; have:=HAP.out; omega)).trans HK14.out)
            have HM15 : Hid (D + 1 ≤ w15.heap.size):=Lib.hid (Nat.le_trans HM14.out hb15.size);have HB15 : Hid (Below N w w15):=Lib.hid (HB14.out.trans (hb15.mono (by have:=HM14.out; have:=HAP.out; omega)))
            clear hb15 HST14 HD14 HO14 HK14 HM14 HB14;cases oq
            ·have HNW : Hid (¬ ((⟨cl,false⟩ : Std).left - b.tdiv 100 * b.tmod 100 = 0 ∧ opens5 b l.gout = true)):=Lib.hid (by rw [HOQ.out]; rintro ⟨-,h⟩; cases h)
             go_wp2_with fail;refine (armLowest_any go w15).mono ?_
             rintro e w16 ⟨rfl,hb16⟩;obtain ⟨lw,hlw⟩ : ∃ z,low5 go = z:=⟨_,rfl⟩;have HLW : Hid (low5 l.gout = lw):=Lib.hid (by rw [HGO.out]; exact hlw)
             have hlw1 : 1 ≤ lw:=by rw [← hlw]; unfold low5; split <;> omega
             rw [hlw];clear hlw;have HST16:=Lib.hid (HST15.out.below hb16);have HD16:=Lib.hid ((hb16.block D (by have:=HM15.out; omega)).trans HD15.out)
             have HO16:=Lib.hid (ownsN_below HO15.out hb16);have HK16:=Lib.hid ((hb16.block N (by have:=HM15.out; have:=HAP.out; omega)).trans HK15.out)
             have HM16 : Hid (D + 1 ≤ w16.heap.size):=Lib.hid (Nat.le_trans HM15.out hb16.size);have HB16 : Hid (Below N w w16):=Lib.hid (HB15.out.trans (hb16.mono (by have:=HM15.out; have:=HAP.out; omega)))
             clear hb16 HST15 HD15 HO15 HK15 HM15 HB15;by_cases hge : lw ≤ rs
             ·have g1 : decide (lw ≤ rs) = true:=decide_eq_true hge
              have HV1 : Hid (VisAt l x.D (thr5 l x.D 3 ⟨sl,si⟩ q) q (d + 1) ⟨rs,true⟩ false):=Lib.hid (by
               have h:=HVAT.out.next hd HJ.out (by rw [HBK.out]; exact dart_rest (by first | exact HIN.out | exact .inl rfl) HDW1.out HNW.out (by rw [HPS.out,HLW.out]; show lw ≤ cl - ps; rw [HRS.out]; exact hge))
               rw [HPS.out] at h;rw [← HRS.out]; exact h)
              have HCB1 : Hid (0 ≤ rs ∧ rs ≤ sz):=Lib.hid (by have h1:=HRS.out; have h2:=HCB.out; have h3:=HP80.out; omega)
              clear hge hlw1;go_wp2_with fail;go_roundw
              case rel => exact ⟨d + 1,q' + 1,⟨rs,true⟩,false,false,_,by omega,HQ1,rfl,by go_num,rfl,rfl,rfl,by go_num,Lib.hid (fun h => by cases h),Lib.hid (fun _ => ⟨rfl,HV1.out⟩),HCB1,Lib.hid ⟨_,HO16.out⟩,HD16,HST16,HK16,HM16,HB16⟩
              case measure => simp [intOf]; omega
             ·have g1 : decide (lw ≤ rs) = false:=decide_eq_false hge
              have HV1 : Hid (VisEnd (visT l x.D ⟨sl,si⟩ q) ⟨sl,si⟩ (d + 1) ⟨sl,si⟩ false):=Lib.hid (HVAT.out.bust hd HJ.out (by rw [HBK.out]; exact dart_bust (by first | exact HIN.out | exact .inl rfl) HDW1.out HNW.out (by rw [HPS.out,HLW.out]; show cl - ps < lw; rw [HRS.out]; omega)))
              have hol:=HST16.out.left;have hoi:=HST16.out.inn;rw [List.length_map,HXS.out] at hol hoi;have l0:=(own_cellH hol (j:=j) (x:=.int .i64 sl) (by unfold ints; rw [List.map_map,List.getElem?_map,HS.out]; rfl)).1
              have i0:=(own_cellH hoi (j:=j) (x:=.bool si) (by unfold boolsH; rw [List.map_map,List.getElem?_map,HS.out]; rfl)).1
              clear hge hlw1 hol hoi;go_upto_region 18 with fail;refine wp_region_seqW (.is (.slice (some ⟨gL,0,none⟩) 2 lc) :: .is (.int .i64 (j : Int)) :: .is (.pointer (some ⟨gL,j,none⟩)) :: .is (.int .i64 sl) :: .is (.slice (some ⟨gI,0,none⟩) 2 ic) :: .is (.int .i64 (j : Int)) :: .is (.pointer (some ⟨gI,j,none⟩)) :: .is (.bool si) :: .is (.int .i64 sl) :: .is (.bool si) :: .is (.bool true) :: []) rfl mix (by kernel_rfl) (by kernel_rfl) ?_
              iterate 11
               refine seq_on (by rfl) (fun wr hbr _ => ?_) ?_
               ·have l0':=bAt hbr l0
                have i0':=bAt hbr i0;simp [opOK,go_sem,l0',i0',hjj,Below.refl]
                try exact rfl
               simp only [Act.put,List.setIfInBounds_toArray,List.set_cons_succ,List.set_cons_zero]
              refine seq_end fun w17 hb17 hH => ?_
              clear hH l0 i0;have HST17:=Lib.hid (HST16.out.below hb17);have HD17:=Lib.hid ((hb17.block D (by have:=HM16.out; omega)).trans HD16.out)
              have HO17:=Lib.hid (ownsN_below HO16.out hb17);have HK17:=Lib.hid ((hb17.block N (by have:=HM16.out; have:=HAP.out; omega)).trans HK16.out)
              have HM17 : Hid (D + 1 ≤ w17.heap.size):=Lib.hid (Nat.le_trans HM16.out hb17.size);have HB17 : Hid (Below N w w17):=Lib.hid (HB16.out.trans (hb17.mono (by have:=HM16.out; have:=HAP.out; omega)))
              clear hb17 HST16 HD16 HO16 HK16 HM16 HB16;go_wp2_with fail;go_roundw
              case rel => exact ⟨d + 1,q' + 1,⟨sl,si⟩,false,true,_,by omega,HQ1,rfl,by go_num,rfl,rfl,rfl,by go_num,Lib.hid (fun _ => HV1.out),Lib.hid (fun h => by cases h),HSB,Lib.hid ⟨_,HO17.out⟩,HD17,HST17,HK17,HM17,HB17⟩
              case measure => simp [intOf]; omega
            ·have HV1 : Hid (VisEnd (visT l x.D ⟨sl,si⟩ q) ⟨sl,si⟩ (d + 1) ⟨0,true⟩ true):=Lib.hid ((HVAT.out.win hd HJ.out (by rw [HBK.out]; exact dart_win (by first | exact HIN.out | exact .inl rfl) HDW1.out HR0.out HOQ.out)).done (.inr rfl))
             go_wp2_with fail;go_roundw
             case rel => exact ⟨d + 1,q' + 1,⟨0,true⟩,true,true,_,by omega,HQ1,rfl,by go_num,rfl,rfl,rfl,by go_num,Lib.hid (fun _ => HV1.out),Lib.hid (fun h => by cases h),Lib.hid ⟨Int.le_refl _,by have:=HBD.out.1; show (0 : Int) ≤ sz; omega⟩,Lib.hid ⟨_,HO15.out⟩,HD15,HST15,HK15,HM15,HB15⟩
             case measure => simp [intOf]; omega
           ·have r0 : (rs == 0) = false:=beq_eq_false_iff_ne.2 hr0
            have HNW : Hid (¬ ((⟨cl,false⟩ : Std).left - b.tdiv 100 * b.tmod 100 = 0 ∧ opens5 b l.gout = true)):=Lib.hid (by rw [HPS.out]; rintro ⟨h, -⟩; exact hr0 (HRS.out.symm.trans h))
            clear hr0;go_wp2_with fail;refine (armLowest_any go w14).mono ?_
            rintro e w15 ⟨rfl,hb15⟩;obtain ⟨lw,hlw⟩ : ∃ z,low5 go = z:=⟨_,rfl⟩;have HLW : Hid (low5 l.gout = lw):=Lib.hid (by rw [HGO.out]; exact hlw)
            have hlw1 : 1 ≤ lw:=by rw [← hlw]; unfold low5; split <;> omega
            rw [hlw];clear hlw;have HST15:=Lib.hid (HST14.out.below hb15);have HD15:=Lib.hid ((hb15.block D (by have:=HM14.out; omega)).trans HD14.out)
            have HO15:=Lib.hid (ownsN_below HO14.out hb15);have HK15:=Lib.hid ((hb15.block N (by have:=HM14.out; have:=HAP.out; omega)).trans HK14.out)
            have HM15 : Hid (D + 1 ≤ w15.heap.size):=Lib.hid (Nat.le_trans HM14.out hb15.size);have HB15 : Hid (Below N w w15):=Lib.hid (HB14.out.trans (hb15.mono (by have:=HM14.out; have:=HAP.out; omega)))
            clear hb15 HST14 HD14 HO14 HK14 HM14 HB14;by_cases hge : lw ≤ rs
            ·have g1 : decide (lw ≤ rs) = true:=decide_eq_true hge
             have HV1 : Hid (VisAt l x.D (thr5 l x.D 3 ⟨sl,si⟩ q) q (d + 1) ⟨rs,true⟩ false):=Lib.hid (by
              have h:=HVAT.out.next hd HJ.out (by rw [HBK.out]; exact dart_rest (by first | exact HIN.out | exact .inl rfl) HDW1.out HNW.out (by rw [HPS.out,HLW.out]; show lw ≤ cl - ps; rw [HRS.out]; exact hge))
              rw [HPS.out] at h;rw [← HRS.out]; exact h)
             have HCB1 : Hid (0 ≤ rs ∧ rs ≤ sz):=Lib.hid (by have h1:=HRS.out; have h2:=HCB.out; have h3:=HP80.out; omega)
             clear hge hlw1;go_wp2_with fail;go_roundw
             case rel => exact ⟨d + 1,q' + 1,⟨rs,true⟩,false,false,_,by omega,HQ1,rfl,by go_num,rfl,rfl,rfl,by go_num,Lib.hid (fun h => by cases h),Lib.hid (fun _ => ⟨rfl,HV1.out⟩),HCB1,Lib.hid ⟨_,HO15.out⟩,HD15,HST15,HK15,HM15,HB15⟩
             case measure => simp [intOf]; omega
            ·have g1 : decide (lw ≤ rs) = false:=decide_eq_false hge
             have HV1 : Hid (VisEnd (visT l x.D ⟨sl,si⟩ q) ⟨sl,si⟩ (d + 1) ⟨sl,si⟩ false):=Lib.hid (HVAT.out.bust hd HJ.out (by rw [HBK.out]; exact dart_bust (by first | exact HIN.out | exact .inl rfl) HDW1.out HNW.out (by rw [HPS.out,HLW.out]; show cl - ps < lw; rw [HRS.out]; omega)))
             have hol:=HST15.out.left;have hoi:=HST15.out.inn;rw [List.length_map,HXS.out] at hol hoi;have l0:=(own_cellH hol (j:=j) (x:=.int .i64 sl) (by unfold ints; rw [List.map_map,List.getElem?_map,HS.out]; rfl)).1
             have i0:=(own_cellH hoi (j:=j) (x:=.bool si) (by unfold boolsH; rw [List.map_map,List.getElem?_map,HS.out]; rfl)).1
             clear hge hlw1 hol hoi;go_upto_region 18 with fail;refine wp_region_seqW (.is (.slice (some ⟨gL,0,none⟩) 2 lc) :: .is (.int .i64 (j : Int)) :: .is (.pointer (some ⟨gL,j,none⟩)) :: .is (.int .i64 sl) :: .is (.slice (some ⟨gI,0,none⟩) 2 ic) :: .is (.int .i64 (j : Int)) :: .is (.pointer (some ⟨gI,j,none⟩)) :: .is (.bool si) :: .is (.int .i64 sl) :: .is (.bool si) :: .is (.bool true) :: []) rfl mix (by kernel_rfl) (by kernel_rfl) ?_
             iterate 11
              refine seq_on (by rfl) (fun wr hbr _ => ?_) ?_
              ·have l0':=bAt hbr l0
               have i0':=bAt hbr i0;simp [opOK,go_sem,l0',i0',hjj,Below.refl]
               try exact rfl
              simp only [Act.put,List.setIfInBounds_toArray,List.set_cons_succ,List.set_cons_zero]
             refine seq_end fun w16 hb16 hH => ?_
             clear hH l0 i0;have HST16:=Lib.hid (HST15.out.below hb16);have HD16:=Lib.hid ((hb16.block D (by have:=HM15.out; omega)).trans HD15.out)
             have HO16:=Lib.hid (ownsN_below HO15.out hb16);have HK16:=Lib.hid ((hb16.block N (by have:=HM15.out; have:=HAP.out; omega)).trans HK15.out)
             have HM16 : Hid (D + 1 ≤ w16.heap.size):=Lib.hid (Nat.le_trans HM15.out hb16.size);have HB16 : Hid (Below N w w16):=Lib.hid (HB15.out.trans (hb16.mono (by have:=HM15.out; have:=HAP.out; omega)))
             clear hb16 HST15 HD15 HO15 HK15 HM15 HB15;go_wp2_with fail;go_roundw
             case rel => exact ⟨d + 1,q' + 1,⟨sl,si⟩,false,true,_,by omega,HQ1,rfl,by go_num,rfl,rfl,rfl,by go_num,Lib.hid (fun _ => HV1.out),Lib.hid (fun h => by cases h),HSB,Lib.hid ⟨_,HO16.out⟩,HD16,HST16,HK16,HM16,HB16⟩
             case measure => simp [intOf]; omega
         ·have HIN : Hid ((⟨cl,true⟩ : Std).inn = true ∨ opens5 b l.gin = true):=Lib.hid (.inl rfl)
          obtain ⟨rs,hrs⟩ : ∃ r,cl - ps = r:=⟨_,rfl⟩;have HRS:=Lib.hid hrs;have hwr : IntKind.i64.wrap (cl - ps) = rs:=by rw [hrs]; have:=HCB.out; have:=HP80.out; have:=HBD.out; exact wrap_small _ (by omega) (by omega)
          have HDW1 : Hid (1 ≤ b.tdiv 100 * b.tmod 100):=Lib.hid (by rw [HPS.out]; exact HP80.out.1)
          clear hrs;go_wp2_with fail;refine (armScore_any b ps HPS.out ⟨by have:=HP80.out; omega,by have:=HP80.out; omega⟩ ⟨by omega,by omega⟩ w12).mono ?_
          rintro e w13 ⟨rfl,hb13⟩;have n2:=bAt hb13 n2;have HST13:=Lib.hid (HST12.out.below hb13);have HD13:=Lib.hid ((hb13.block D (by have:=HM12.out; omega)).trans HD12.out)
          have HO13:=Lib.hid (ownsN_below HO12.out hb13);have HK13:=Lib.hid ((hb13.block N (by have:=HM12.out; have:=HAP.out; omega)).trans HK12.out)
          have HM13 : Hid (D + 1 ≤ w13.heap.size):=Lib.hid (Nat.le_trans HM12.out hb13.size);have HB13 : Hid (Below N w w13):=Lib.hid (HB12.out.trans (hb13.mono (by have:=HM12.out; have:=HAP.out; omega)))
          clear hb13 HST12 HD12 HO12 HK12 HM12 HB12;by_cases hr0 : rs = 0
          ·have r0 : (rs == 0) = true:=beq_iff_eq.2 hr0
           have HR0 : Hid ((⟨cl,true⟩ : Std).left - b.tdiv 100 * b.tmod 100 = 0):=Lib.hid (by rw [HPS.out]; exact HRS.out.trans hr0)
           clear hr0;go_wp2_with fail;refine (armOpens_any b go ⟨HBD.out.2.2.2.2.1,HBD.out.2.2.2.2.2⟩ (.inr hb4.1) (by omega) w13).mono ?_
           rintro e w14 ⟨rfl,hb14⟩;rw [HNZ.out,Bool.true_and];obtain ⟨oq,hoq⟩ : ∃ o,opens5 b go = o:=⟨_,rfl⟩;have HOQ : Hid (opens5 b l.gout = oq):=Lib.hid (by rw [HGO.out]; exact hoq)
           rw [hoq];clear hoq;have n2:=bAt hb14 n2;have HST14:=Lib.hid (HST13.out.below hb14);have HD14:=Lib.hid ((hb14.block D (by have:=HM13.out; omega)).trans HD13.out)
           have HO14:=Lib.hid (ownsN_below HO13.out hb14);have HK14:=Lib.hid ((hb14.block N (by have:=HM13.out; have:=HAP.out; omega)).trans HK13.out)
           have HM14 : Hid (D + 1 ≤ w14.heap.size):=Lib.hid (Nat.le_trans HM13.out hb14.size);have HB14 : Hid (Below N w w14):=Lib.hid (HB13.out.trans (hb14.mono (by have:=HM13.out; have:=HAP.out; omega)))
           clear hb14 HST13 HD13 HO13 HK13 HM13 HB13;cases oq
           ·have HNW : Hid (¬ ((⟨cl,true⟩ : Std).left - b.tdiv 100 * b.tmod 100 = 0 ∧ opens5 b l.gout = true)):=Lib.hid (by rw [HOQ.out]; rintro ⟨-,h⟩; cases h)
            go_wp2_with fail;refine (armLowest_any go w14).mono ?_
            rintro e w15 ⟨rfl,hb15⟩;obtain ⟨lw,hlw⟩ : ∃ z,low5 go = z:=⟨_,rfl⟩;have HLW : Hid (low5 l.gout = lw):=Lib.hid (by rw [HGO.out]; exact hlw)
            have hlw1 : 1 ≤ lw:=by rw [← hlw]; unfold low5; split <;> omega
            rw [hlw];clear hlw;have HST15:=Lib.hid (HST14.out.below hb15);have HD15:=Lib.hid ((hb15.block D (by have:=HM14.out; omega)).trans HD14.out)
            have HO15:=Lib.hid (ownsN_below HO14.out hb15);have HK15:=Lib.hid ((hb15.block N (by have:=HM14.out; have:=HAP.out; omega)).trans HK14.out)
            have HM15 : Hid (D + 1 ≤ w15.heap.size):=Lib.hid (Nat.le_trans HM14.out hb15.size);have HB15 : Hid (Below N w w15):=Lib.hid (HB14.out.trans (hb15.mono (by have:=HM14.out; have:=HAP.out; omega)))
            clear hb15 HST14 HD14 HO14 HK14 HM14 HB14;by_cases hge : lw ≤ rs
            ·have g1 : decide (lw ≤ rs) = true:=decide_eq_true hge
             have HV1 : Hid (VisAt l x.D (thr5 l x.D 3 ⟨sl,si⟩ q) q (d + 1) ⟨rs,true⟩ false):=Lib.hid (by
              have h:=HVAT.out.next hd HJ.out (by rw [HBK.out]; exact dart_rest (by first | exact HIN.out | exact .inl rfl) HDW1.out HNW.out (by rw [HPS.out,HLW.out]; show lw ≤ cl - ps; rw [HRS.out]; exact hge))
              rw [HPS.out] at h;rw [← HRS.out]; exact h)
             have HCB1 : Hid (0 ≤ rs ∧ rs ≤ sz):=Lib.hid (by have h1:=HRS.out; have h2:=HCB.out; have h3:=HP80.out; omega)
             clear hge hlw1;go_wp2_with fail;go_roundw
             case rel => exact ⟨d + 1,q' + 1,⟨rs,true⟩,false,false,_,by omega,HQ1,rfl,by go_num,rfl,rfl,rfl,by go_num,Lib.hid (fun h => by cases h),Lib.hid (fun _ => ⟨rfl,HV1.out⟩),HCB1,Lib.hid ⟨_,HO15.out⟩,HD15,HST15,HK15,HM15,HB15⟩
             case measure => simp [intOf]; omega
            ·have g1 : decide (lw ≤ rs) = false:=decide_eq_false hge
             have HV1 : Hid (VisEnd (visT l x.D ⟨sl,si⟩ q) ⟨sl,si⟩ (d + 1) ⟨sl,si⟩ false):=Lib.hid (HVAT.out.bust hd HJ.out (by rw [HBK.out]; exact dart_bust (by first | exact HIN.out | exact .inl rfl) HDW1.out HNW.out (by rw [HPS.out,HLW.out]; show cl - ps < lw; rw [HRS.out]; omega)))
             have hol:=HST15.out.left;have hoi:=HST15.out.inn;rw [List.length_map,HXS.out] at hol hoi;have l0:=(own_cellH hol (j:=j) (x:=.int .i64 sl) (by unfold ints; rw [List.map_map,List.getElem?_map,HS.out]; rfl)).1
             have i0:=(own_cellH hoi (j:=j) (x:=.bool si) (by unfold boolsH; rw [List.map_map,List.getElem?_map,HS.out]; rfl)).1
             clear hge hlw1 hol hoi;go_upto_region 18 with fail;refine wp_region_seqW (.is (.slice (some ⟨gL,0,none⟩) 2 lc) :: .is (.int .i64 (j : Int)) :: .is (.pointer (some ⟨gL,j,none⟩)) :: .is (.int .i64 sl) :: .is (.slice (some ⟨gI,0,none⟩) 2 ic) :: .is (.int .i64 (j : Int)) :: .is (.pointer (some ⟨gI,j,none⟩)) :: .is (.bool si) :: .is (.int .i64 sl) :: .is (.bool si) :: .is (.bool true) :: []) rfl mix (by kernel_rfl) (by kernel_rfl) ?_
             iterate 11
              refine seq_on (by rfl) (fun wr hbr _ => ?_) ?_
              ·have l0':=bAt hbr l0
               have i0':=bAt hbr i0;simp [opOK,go_sem,l0',i0',hjj,Below.refl]
               try exact rfl
              simp only [Act.put,List.setIfInBounds_toArray,List.set_cons_succ,List.set_cons_zero]
             refine seq_end fun w16 hb16 hH => ?_
             clear hH l0 i0;have HST16:=Lib.hid (HST15.out.below hb16);have HD16:=Lib.hid ((hb16.block D (by have:=HM15.out; omega)).trans HD15.out)
             have HO16:=Lib.hid (ownsN_below HO15.out hb16);have HK16:=Lib.hid ((hb16.block N (by have:=HM15.out; have:=HAP.out; omega)).trans HK15.out)
             have HM16 : Hid (D + 1 ≤ w16.heap.size):=Lib.hid (Nat.le_trans HM15.out hb16.size);have HB16 : Hid (Below N w w16):=Lib.hid (HB15.out.trans (hb16.mono (by have:=HM15.out; have:=HAP.out; omega)))
             clear hb16 HST15 HD15 HO15 HK15 HM15 HB15;go_wp2_with fail;go_roundw
             case rel => exact ⟨d + 1,q' + 1,⟨sl,si⟩,false,true,_,by omega,HQ1,rfl,by go_num,rfl,rfl,rfl,by go_num,Lib.hid (fun _ => HV1.out),Lib.hid (fun h => by cases h),HSB,Lib.hid ⟨_,HO16.out⟩,HD16,HST16,HK16,HM16,HB16⟩
             case measure => simp [intOf]; omega
           ·have HV1 : Hid (VisEnd (visT l x.D ⟨sl,si⟩ q) ⟨sl,si⟩ (d + 1) ⟨0,true⟩ true):=Lib.hid ((HVAT.out.win hd HJ.out (by rw [HBK.out]; exact dart_win (by first | exact HIN.out | exact .inl rfl) HDW1.out HR0.out HOQ.out)).done (.inr rfl))
            go_wp2_with fail;go_roundw
            case rel => exact ⟨d + 1,q' + 1,⟨0,true⟩,true,true,_,by omega,HQ1,rfl,by go_num,rfl,rfl,rfl,by go_num,Lib.hid (fun _ => HV1.out),Lib.hid (fun h => by cases h),Lib.hid ⟨Int.le_refl _,by have:=HBD.out.1; show (0 : Int) ≤ sz; omega⟩,Lib.hid ⟨_,HO14.out⟩,HD14,HST14,HK14,HM14,HB14⟩
            case measure => simp [intOf]; omega
          ·have r0 : (rs == 0) = false:=beq_eq_false_iff_ne.2 hr0
           have HNW : Hid (¬ ((⟨cl,true⟩ : Std).left - b.tdiv 100 * b.tmod 100 = 0 ∧ opens5 b l.gout = true)):=Lib.hid (by rw [HPS.out]; rintro ⟨h, -⟩; exact hr0 (HRS.out.symm.trans h))
           clear hr0;go_wp2_with fail;refine (armLowest_any go w13).mono ?_
           rintro e w14 ⟨rfl,hb14⟩;obtain ⟨lw,hlw⟩ : ∃ z,low5 go = z:=⟨_,rfl⟩;have HLW : Hid (low5 l.gout = lw):=Lib.hid (by rw [HGO.out]; exact hlw)
           have hlw1 : 1 ≤ lw:=by rw [← hlw]; unfold low5; split <;> omega
           rw [hlw];clear hlw;have HST14:=Lib.hid (HST13.out.below hb14);have HD14:=Lib.hid ((hb14.block D (by have:=HM13.out; omega)).trans HD13.out)
           have HO14:=Lib.hid (ownsN_below HO13.out hb14);have HK14:=Lib.hid ((hb14.block N (by have:=HM13.out; have:=HAP.out; omega)).trans HK13.out)
           have HM14 : Hid (D + 1 ≤ w14.heap.size):=Lib.hid (Nat.le_trans HM13.out hb14.size);have HB14 : Hid (Below N w w14):=Lib.hid (HB13.out.trans (hb14.mono (by have:=HM13.out; have:=HAP.out; omega)))
           clear hb14 HST13 HD13 HO13 HK13 HM13 HB13;by_cases hge : lw ≤ rs
           ·have g1 : decide (lw ≤ rs) = true:=decide_eq_true hge
            have HV1 : Hid (VisAt l x.D (thr5 l x.D 3 ⟨sl,si⟩ q) q (d + 1) ⟨rs,true⟩ false):=Lib.hid (by
             have h:=HVAT.out.next hd HJ.out (by rw [HBK.out]; exact dart_rest (by first | exact HIN.out | exact .inl rfl) HDW1.out HNW.out (by rw [HPS.out,HLW.out]; show lw ≤ cl - ps; rw [HRS.out]; exact hge))
             rw [HPS.out] at h;rw [← HRS.out]; exact h)
            have HCB1 : Hid (0 ≤ rs ∧ rs ≤ sz):=Lib.hid (by have h1:=HRS.out; have h2:=HCB.out; have h3:=HP80.out; omega)
            clear hge hlw1;go_wp2_with fail;go_roundw
            case rel => exact ⟨d + 1,q' + 1,⟨rs,true⟩,false,false,_,by omega,HQ1,rfl,by go_num,rfl,rfl,rfl,by go_num,Lib.hid (fun h => by cases h),Lib.hid (fun _ => ⟨rfl,HV1.out⟩),HCB1,Lib.hid ⟨_,HO14.out⟩,HD14,HST14,HK14,HM14,HB14⟩
            case measure => simp [intOf]; omega
           ·have g1 : decide (lw ≤ rs) = false:=decide_eq_false hge
            have HV1 : Hid (VisEnd (visT l x.D ⟨sl,si⟩ q) ⟨sl,si⟩ (d + 1) ⟨sl,si⟩ false):=Lib.hid (HVAT.out.bust hd HJ.out (by rw [HBK.out]; exact dart_bust (by first | exact HIN.out | exact .inl rfl) HDW1.out HNW.out (by rw [HPS.out,HLW.out]; show cl - ps < lw; rw [HRS.out]; omega)))
            have hol:=HST14.out.left;have hoi:=HST14.out.inn;rw [List.length_map,HXS.out] at hol hoi;have l0:=(own_cellH hol (j:=j) (x:=.int .i64 sl) (by unfold ints; rw [List.map_map,List.getElem?_map,HS.out]; rfl)).1
            have i0:=(own_cellH hoi (j:=j) (x:=.bool si) (by unfold boolsH; rw [List.map_map,List.getElem?_map,HS.out]; rfl)).1
            clear hge hlw1 hol hoi;go_upto_region 18 with fail;refine wp_region_seqW (.is (.slice (some ⟨gL,0,none⟩) 2 lc) :: .is (.int .i64 (j : Int)) :: .is (.pointer (some ⟨gL,j,none⟩)) :: .is (.int .i64 sl) :: .is (.slice (some ⟨gI,0,none⟩) 2 ic) :: .is (.int .i64 (j : Int)) :: .is (.pointer (some ⟨gI,j,none⟩)) :: .is (.bool si) :: .is (.int .i64 sl) :: .is (.bool si) :: .is (.bool true) :: []) rfl mix (by kernel_rfl) (by kernel_rfl) ?_
            iterate 11
             refine seq_on (by rfl) (fun wr hbr _ => ?_) ?_
             ·have l0':=bAt hbr l0
              have i0':=bAt hbr i0;simp [opOK,go_sem,l0',i0',hjj,Below.refl]
              try exact rfl
             simp only [Act.put,List.setIfInBounds_toArray,List.set_cons_succ,List.set_cons_zero]
            refine seq_end fun w15 hb15 hH => ?_
            clear hH l0 i0;have HST15:=Lib.hid (HST14.out.below hb15);have HD15:=Lib.hid ((hb15.block D (by have:=HM14.out; omega)).trans HD14.out)
            have HO15:=Lib.hid (ownsN_below HO14.out hb15);have HK15:=Lib.hid ((hb15.block N (by have:=HM14.out; have:=HAP.out; omega)).trans HK14.out)
            have HM15 : Hid (D + 1 ≤ w15.heap.size):=Lib.hid (Nat.le_trans HM14.out hb15.size);have HB15 : Hid (Below N w w15):=Lib.hid (HB14.out.trans (hb15.mono (by have:=HM14.out; have:=HAP.out; omega)))
            clear hb15 HST14 HD14 HO14 HK14 HM14 HB14;go_wp2_with fail;go_roundw
            case rel => exact ⟨d + 1,q' + 1,⟨sl,si⟩,false,true,_,by omega,HQ1,rfl,by go_num,rfl,rfl,rfl,by go_num,Lib.hid (fun _ => HV1.out),Lib.hid (fun h => by cases h),HSB,Lib.hid ⟨_,HO15.out⟩,HD15,HST15,HK15,HM15,HB15⟩
            case measure => simp [intOf]; omega
       ·have HEND : Hid (VisEnd (visT l x.D ⟨sl,si⟩ q) ⟨sl,si⟩ d ⟨cl,ci⟩ wn):=Lib.hid (by
         cases ov with
         | true => exact HVE.out rfl
         | false =>
          obtain ⟨h1,h2⟩ := HVA.out rfl;subst h1;have h3 : d = 3:=by
           have : ¬ d < 3:=fun e => hgo ⟨e,rfl⟩
           omega
          exact h2.done (.inl h3))
        have HCOND : Hid (¬ (d < 3 ∧ ov = false)):=Lib.hid hgo;clear hgo HVE HVA;by_cases hd : d < 3
        ·have hov : ov = true:=by
          cases ov with
          | true => rfl
          | false => exact (HCOND.out ⟨hd,rfl⟩).elim
         subst hov;have t1 : decide ((d : Int) < 3) = true:=decide_eq_true (by omega)
         have t1n : decide (d < 3) = true:=decide_eq_true hd;clear hd HCOND;obtain ⟨xs,hxs⟩ := HO.out;have hol:=HST.out.left;have hoi:=HST.out.inn;rw [List.length_map,HXS.out] at hol hoi;obtain ⟨l0,lf0⟩ := own_cellH hol (j:=j) (x:=.int .i64 sl) (by unfold ints; rw [List.map_map,List.getElem?_map,HS.out]; rfl)
         have c1 : wi.cell? ⟨D,1,none⟩ = some (.int .i64 0):=by rw [cell_of_heap HDD.out]; rfl
         have c2 : wi.cell? ⟨D,2,none⟩ = some (.int .i64 0):=by rw [cell_of_heap HDD.out]; rfl
         have fD:=fun o => frozen_of_heap (o:=o) HDD.out
         have fD1:=fD 1;have fD2:=fD 2;have hwr : IntKind.i64.wrap (sl - cl) = sl - cl:=by have:=HCB.out; have:=HSB.out; have:=HBD.out; exact wrap_small _ (by omega) (by omega)
         obtain ⟨w13,hw13⟩ : ∃ z,(wi.setCell ⟨D,1,none⟩ (.int .i64 (sl - cl))).setCell ⟨D,2,none⟩ (.int .i64 cl) = z:=⟨_,rfl⟩;have hg13 : wi.grownBy w13 (some D):=by
          rw [← hw13];have g1:=grown_setH wi D 1 (.int .i64 (sl - cl));have g2:=grown_setH (wi.setCell ⟨D,1,none⟩ (.int .i64 (sl - cl))) D 2 (.int .i64 cl);exact ⟨g2.os.trans g1.os,g2.tape.trans g1.tape,g2.output.trans g1.output,Nat.le_trans g1.size g2.size,fun k hk hne => (g2.block k (Nat.lt_of_lt_of_le hk g1.size) hne).trans (g1.block k hk hne)⟩
         have HD13 : Hid (w13.heap[D]? = some (.cells #[.slice ba d bc,.int .i64 (sl - cl),.int .i64 cl,.int .i64 (j : Int)] 56 (0,0))):=Lib.hid (by
          rw [← hw13];exact heap_setCell_at (heap_setCell_at HDD.out (.int .i64 (sl - cl))) (.int .i64 cl))
         have apart2 : ∀ (v : Value),(∀ q,v.ownBlock = some q → q < D) → v.ownBlock = none ∨ v.ownBlock ≠ some D:=fun v hv => by
          cases e : v.ownBlock with
          | none => exact .inl rfl
          | some q => exact .inr fun e2 => by have h1:=hv q e; have:=Option.some.inj e2; omega
         have HST13:=Lib.hid (HST.out.blk hg13 (apart2 _ fun q hq => by cases hq; exact HAP.out.1) (apart2 _ fun q hq => by cases hq; exact HAP.out.2.1) (apart2 _ HAP.out.2.2.1))
         have HK13:=Lib.hid ((hg13.block N (by have:=HMo.out; have:=HAP.out; omega) (fun e => by have:=Option.some.inj e; have:=HAP.out; omega)).trans HK.out)
         have HM13 : Hid (D + 1 ≤ w13.heap.size):=Lib.hid (Nat.le_trans HMo.out hg13.size);have HB13 : Hid (Below N w w13):=Lib.hid (HBr.out.trans (below_grownBy hg13 (by have:=HMo.out; have:=HAP.out; omega) (fun q hq => by have:=Option.some.inj hq; have:=HAP.out; omega)))
         have HW13:=Lib.hid hw13;clear hxs hol hoi fD hw13 hg13 apart2 HST HK HMo HBr HDD HO;go_upto_region 24 with fail;rw [HW13.out];clear l0 lf0 c1 c2 fD1 fD2 hwr t1 t1n;have hol:=HST13.out.left;rw [List.length_map,HXS.out] at hol;obtain ⟨l0,lf0⟩ := own_cellH hol (j:=j) (x:=.int .i64 sl) (by unfold ints; rw [List.map_map,List.getElem?_map,HS.out]; rfl)
         obtain ⟨hs14,hg14⟩ := HST13.out.setL (by rw [List.length_map]; exact HXS.out) j cl
         have hoi:=hs14.inn;rw [List.length_map,HXS.out] at hoi;obtain ⟨i0,if0⟩ := own_cellH hoi (j:=j) (x:=.bool si) (by unfold boolsH; rw [List.map_map,List.getElem?_map,HS.out]; rfl)
         obtain ⟨hs15,hg15⟩ := hs14.setI (by rw [List.length_map]; exact HXS.out) j ci
         obtain ⟨w15,hw15⟩ : ∃ z,(w13.setCell ⟨gL,j,none⟩ (.int .i64 cl)).setCell ⟨gI,j,none⟩ (.bool ci) = z:=⟨_,rfl⟩;rw [hw15] at hs15 hg15;have HD15 : Hid (w15.heap[D]? = some (.cells #[.slice ba d bc,.int .i64 (sl - cl),.int .i64 cl,.int .i64 (j : Int)] 56 (0,0))):=Lib.hid ((hg15.block D (Nat.lt_of_lt_of_le HM13.out hg14.size) (fun e => by have:=Option.some.inj e; have:=HAP.out; omega)).trans ((hg14.block D HM13.out (fun e => by have:=Option.some.inj e; have:=HAP.out; omega)).trans HD13.out))
         have HK15:=Lib.hid ((hg15.block N (Nat.lt_of_lt_of_le (by have:=HM13.out; have:=HAP.out; omega : N < w13.heap.size) hg14.size) (fun e => by have:=Option.some.inj e; have:=HGL.out; omega)).trans ((hg14.block N (by have:=HM13.out; have:=HAP.out; omega) (fun e => by have:=Option.some.inj e; have:=HGL.out; omega)).trans HK13.out))
         have HM15 : Hid (D + 1 ≤ w15.heap.size):=Lib.hid (Nat.le_trans HM13.out (Nat.le_trans hg14.size hg15.size));have HB15 : Hid (Below N w w15):=Lib.hid ((HB13.out.trans (below_grownBy hg14 (by have:=HM13.out; have:=HAP.out; omega) (fun q hq => by have:=Option.some.inj hq; have:=HGL.out; omega))).trans (below_grownBy hg15 (by have:=hg14.size; have:=HM13.out; have:=HAP.out; omega) (fun q hq => by have:=Option.some.inj hq; have:=HGL.out; omega)))
         have HST15:=Lib.hid hs15;have HW15:=Lib.hid hw15;clear hol hoi hs14 hg14 hs15 hg15 hw15 HST13 HD13 HK13 HM13 HB13;go_upto_region 25 with fail;rw [HW15.out];clear l0 lf0 i0 if0;have e0 : w15.cell? ⟨D,0,none⟩ = some (.slice ba d bc):=by rw [cell_of_heap HD15.out]; rfl
         have e1 : w15.cell? ⟨D,1,none⟩ = some (.int .i64 (sl - cl)):=by rw [cell_of_heap HD15.out]; rfl
         have e2 : w15.cell? ⟨D,2,none⟩ = some (.int .i64 cl):=by rw [cell_of_heap HD15.out]; rfl
         have e3 : w15.cell? ⟨D,3,none⟩ = some (.int .i64 (j : Int)):=by rw [cell_of_heap HD15.out]; rfl
         have hout : w15.ownsRow (N + 1) 56 4 (.slice oa n oc) n R.flatten:=by have h:=HST15.out.out; rw [HNR.out] at h; exact h
         have HOUT:=Lib.hid hout;obtain ⟨row,hrow⟩ : ∃ r : List Value,[.slice ba d bc,.int .i64 (sl - cl),.int .i64 cl,.int .i64 (j : Int)] = r:=⟨_,rfl⟩;have HROW:=Lib.hid hrow;have hrl : row.length = 1 * 4:=by rw [← hrow]; rfl
         have hr1 : ∀ u ∈ row,u.oneCell' = true:=fun u hu => by rw [← hrow] at hu; simp at hu; rcases hu with rfl | rfl | rfl | rfl <;> rfl
         have hrc : ∀ (i : Nat) (u : Value),row[i]? = some u → (w15.alloc (.cells #[.slice ba d bc,.int .i64 (sl - cl),.int .i64 cl,.int .i64 (j : Int)] 56)).cell? ⟨w15.heap.size,0 + i,none⟩ = some u:=fun i u hi => by
          rw [cell_of_heap (World.alloc_heap_new _ _),Nat.zero_add];rw [← hrow] at hi
          simpa using hi
         have hn9 : n + 1 ≤ 100000:=by omega
         clear hout hrow
         go_wp2_with (at_builtin; refine wpList_appendN rfl (.tmp 139) (.tmp 141) 40 rfl (N + 1) 56 (.agg #[.slice none 0 0,.int .i64 0,.int .i64 0,.int .i64 0]) 4 48 Tryz.underlying40 info_visH rfl (by decide) (.slice oa n oc) n R.flatten rfl (HOUT.out.alloc _) w15.heap.size 0 1 1 row rfl hrl hrc hr1 hn9 (by decide) (by have:=HM15.out; have:=HAP.out; simp; omega) ?_)
         intro v' w17 ho17 hg17 hat17
         obtain ⟨V,hV⟩ : ∃ V,visT l x.D ⟨sl,si⟩ q = V:=⟨_,rfl⟩;have hend:=HEND.out;rw [hV] at hend;have hV1 : V.score = sl - cl:=by unfold Sp.score; rw [hend.bef,hend.left]
         obtain ⟨he,hpl⟩ := HPL.out.step HGD.out (by rw [HNX.out]; exact hlt) HWN.out HSX.out
         rw [HQQ.out,hV,HNX.out,HXS.out,HJN.out] at he;have hb16:=aB w15 (.cells #[.slice ba d bc,.int .i64 (sl - cl),.int .i64 cl,.int .i64 (j : Int)] 56);have h16:=HST15.out.below hb16;have HVR17 : Hid (VisR (R ++ [row]) (step5 l x.D X).out):=Lib.hid (by
          have h:=HVR.out.snoc (sp:=V) (a:=ba) (c:=bc) (p:=(j : Int));rw [hend.darts,hV1,hend.left] at h;rw [he,← HROW.out];exact h)
         obtain ⟨va,vc,hvv⟩ := owns_form ho17;subst hvv;have HST17 : Hid (ArmSt (N + 1) w17 (.slice (some ⟨gL,0,none⟩) 2 lc) (.slice (some ⟨gI,0,none⟩) 2 ic) (.slice va (n + 1) vc) ((step5 l x.D X).sts.map (·.left)) ((step5 l x.D X).sts.map (·.inn)) (R ++ [row])):=Lib.hid (by
          have h:=h16.keptO hg17 (v:=.slice va (n + 1) vc) (x:=R ++ [row]) (by
           rw [List.length_append,HNR.out,List.flatten_append]
           simpa using ho17)
          rw [he];simp only;rw [List.map_set,List.map_set,show V.aft.left = cl from hend.left,show V.aft.inn = ci from hend.inn]
          exact h)
         have hog : ∀ q,(Value.slice oa n oc).ownBlock = some q → N + 1 ≤ q:=fun q hq => (HOUT.out.lt q hq).1
         have HK17:=Lib.hid ((hg17.block N (by simp; have:=HM15.out; have:=HAP.out; omega) (fun e => by have:=hog N e.symm; omega)).trans ((hb16.block N (by have:=HM15.out; have:=HAP.out; omega)).trans HK15.out))
         have HM17 : Hid (N + 3 ≤ w17.heap.size):=Lib.hid (by have h1:=hg17.size; have h2:=HM15.out; have h3:=HAP.out; simp at h1; omega)
         have HB17 : Hid (Below N w w17):=Lib.hid ((HB15.out.trans (hb16.mono (by have:=HM15.out; have:=HAP.out; omega))).trans (below_grownBy hg17 (by simp; have:=HM15.out; have:=HAP.out; omega) (fun q hq => by have:=hog q hq; omega)))
         have HPL17:=Lib.hid hpl;have HW17 : Hid ((step5 l x.D X).won = wn):=Lib.hid (by rw [he]; exact hend.won)
         have HA17 : Hid ((step5 l x.D X).at_ = q'):=Lib.hid (by rw [he]; simp only; rw [hend.darts]; exact HQ'.out.symm)
         clear hV hend hV1 he hpl hb16 h16 ho17 hg17 hat17 hog hrl hr1 hrc hn9 e0 e1 e2 e3 HOUT HST15 HD15 HK15 HM15 HB15;go_wp2_with fail;go_roundw
         case rel => exact ⟨step5 l x.D X,R ++ [row],_,rfl,by rw [HW17.out],by rw [HA17.out],HPL17,HVR17,HST17,HK17,HM17,HB17⟩
         case measure => show 4 - (n + 1) < 4 - n; omega
        ·have t1 : decide ((d : Int) < 3) = false:=decide_eq_false (by omega)
         have t1n : decide (d < 3) = false:=decide_eq_false hd;clear hd HCOND;obtain ⟨xs,hxs⟩ := HO.out;have hol:=HST.out.left;have hoi:=HST.out.inn;rw [List.length_map,HXS.out] at hol hoi;obtain ⟨l0,lf0⟩ := own_cellH hol (j:=j) (x:=.int .i64 sl) (by unfold ints; rw [List.map_map,List.getElem?_map,HS.out]; rfl)
         have c1 : wi.cell? ⟨D,1,none⟩ = some (.int .i64 0):=by rw [cell_of_heap HDD.out]; rfl
         have c2 : wi.cell? ⟨D,2,none⟩ = some (.int .i64 0):=by rw [cell_of_heap HDD.out]; rfl
         have fD:=fun o => frozen_of_heap (o:=o) HDD.out
         have fD1:=fD 1;have fD2:=fD 2;have hwr : IntKind.i64.wrap (sl - cl) = sl - cl:=by have:=HCB.out; have:=HSB.out; have:=HBD.out; exact wrap_small _ (by omega) (by omega)
         obtain ⟨w13,hw13⟩ : ∃ z,(wi.setCell ⟨D,1,none⟩ (.int .i64 (sl - cl))).setCell ⟨D,2,none⟩ (.int .i64 cl) = z:=⟨_,rfl⟩;have hg13 : wi.grownBy w13 (some D):=by
          rw [← hw13];have g1:=grown_setH wi D 1 (.int .i64 (sl - cl));have g2:=grown_setH (wi.setCell ⟨D,1,none⟩ (.int .i64 (sl - cl))) D 2 (.int .i64 cl);exact ⟨g2.os.trans g1.os,g2.tape.trans g1.tape,g2.output.trans g1.output,Nat.le_trans g1.size g2.size,fun k hk hne => (g2.block k (Nat.lt_of_lt_of_le hk g1.size) hne).trans (g1.block k hk hne)⟩
         have HD13 : Hid (w13.heap[D]? = some (.cells #[.slice ba d bc,.int .i64 (sl - cl),.int .i64 cl,.int .i64 (j : Int)] 56 (0,0))):=Lib.hid (by
          rw [← hw13];exact heap_setCell_at (heap_setCell_at HDD.out (.int .i64 (sl - cl))) (.int .i64 cl))
         have apart2 : ∀ (v : Value),(∀ q,v.ownBlock = some q → q < D) → v.ownBlock = none ∨ v.ownBlock ≠ some D:=fun v hv => by
          cases e : v.ownBlock with
          | none => exact .inl rfl
          | some q => exact .inr fun e2 => by have h1:=hv q e; have:=Option.some.inj e2; omega
         have HST13:=Lib.hid (HST.out.blk hg13 (apart2 _ fun q hq => by cases hq; exact HAP.out.1) (apart2 _ fun q hq => by cases hq; exact HAP.out.2.1) (apart2 _ HAP.out.2.2.1))
         have HK13:=Lib.hid ((hg13.block N (by have:=HMo.out; have:=HAP.out; omega) (fun e => by have:=Option.some.inj e; have:=HAP.out; omega)).trans HK.out)
         have HM13 : Hid (D + 1 ≤ w13.heap.size):=Lib.hid (Nat.le_trans HMo.out hg13.size);have HB13 : Hid (Below N w w13):=Lib.hid (HBr.out.trans (below_grownBy hg13 (by have:=HMo.out; have:=HAP.out; omega) (fun q hq => by have:=Option.some.inj hq; have:=HAP.out; omega)))
         have HW13:=Lib.hid hw13;clear hxs hol hoi fD hw13 hg13 apart2 HST HK HMo HBr HDD HO;go_upto_region 24 with fail;rw [HW13.out];clear l0 lf0 c1 c2 fD1 fD2 hwr t1 t1n;have hol:=HST13.out.left;rw [List.length_map,HXS.out] at hol;obtain ⟨l0,lf0⟩ := own_cellH hol (j:=j) (x:=.int .i64 sl) (by unfold ints; rw [List.map_map,List.getElem?_map,HS.out]; rfl)
         obtain ⟨hs14,hg14⟩ := HST13.out.setL (by rw [List.length_map]; exact HXS.out) j cl
         have hoi:=hs14.inn;rw [List.length_map,HXS.out] at hoi;obtain ⟨i0,if0⟩ := own_cellH hoi (j:=j) (x:=.bool si) (by unfold boolsH; rw [List.map_map,List.getElem?_map,HS.out]; rfl)
         obtain ⟨hs15,hg15⟩ := hs14.setI (by rw [List.length_map]; exact HXS.out) j ci
         obtain ⟨w15,hw15⟩ : ∃ z,(w13.setCell ⟨gL,j,none⟩ (.int .i64 cl)).setCell ⟨gI,j,none⟩ (.bool ci) = z:=⟨_,rfl⟩;rw [hw15] at hs15 hg15;have HD15 : Hid (w15.heap[D]? = some (.cells #[.slice ba d bc,.int .i64 (sl - cl),.int .i64 cl,.int .i64 (j : Int)] 56 (0,0))):=Lib.hid ((hg15.block D (Nat.lt_of_lt_of_le HM13.out hg14.size) (fun e => by have:=Option.some.inj e; have:=HAP.out; omega)).trans ((hg14.block D HM13.out (fun e => by have:=Option.some.inj e; have:=HAP.out; omega)).trans HD13.out))
         have HK15:=Lib.hid ((hg15.block N (Nat.lt_of_lt_of_le (by have:=HM13.out; have:=HAP.out; omega : N < w13.heap.size) hg14.size) (fun e => by have:=Option.some.inj e; have:=HGL.out; omega)).trans ((hg14.block N (by have:=HM13.out; have:=HAP.out; omega) (fun e => by have:=Option.some.inj e; have:=HGL.out; omega)).trans HK13.out))
         have HM15 : Hid (D + 1 ≤ w15.heap.size):=Lib.hid (Nat.le_trans HM13.out (Nat.le_trans hg14.size hg15.size));have HB15 : Hid (Below N w w15):=Lib.hid ((HB13.out.trans (below_grownBy hg14 (by have:=HM13.out; have:=HAP.out; omega) (fun q hq => by have:=Option.some.inj hq; have:=HGL.out; omega))).trans (below_grownBy hg15 (by have:=hg14.size; have:=HM13.out; have:=HAP.out; omega) (fun q hq => by have:=Option.some.inj hq; have:=HGL.out; omega)))
         have HST15:=Lib.hid hs15;have HW15:=Lib.hid hw15;clear hol hoi hs14 hg14 hs15 hg15 hw15 HST13 HD13 HK13 HM13 HB13;go_upto_region 25 with fail;rw [HW15.out];clear l0 lf0 i0 if0;have e0 : w15.cell? ⟨D,0,none⟩ = some (.slice ba d bc):=by rw [cell_of_heap HD15.out]; rfl
         have e1 : w15.cell? ⟨D,1,none⟩ = some (.int .i64 (sl - cl)):=by rw [cell_of_heap HD15.out]; rfl
         have e2 : w15.cell? ⟨D,2,none⟩ = some (.int .i64 cl):=by rw [cell_of_heap HD15.out]; rfl
         have e3 : w15.cell? ⟨D,3,none⟩ = some (.int .i64 (j : Int)):=by rw [cell_of_heap HD15.out]; rfl
         have hout : w15.ownsRow (N + 1) 56 4 (.slice oa n oc) n R.flatten:=by have h:=HST15.out.out; rw [HNR.out] at h; exact h
         have HOUT:=Lib.hid hout;obtain ⟨row,hrow⟩ : ∃ r : List Value,[.slice ba d bc,.int .i64 (sl - cl),.int .i64 cl,.int .i64 (j : Int)] = r:=⟨_,rfl⟩;have HROW:=Lib.hid hrow;have hrl : row.length = 1 * 4:=by rw [← hrow]; rfl
         have hr1 : ∀ u ∈ row,u.oneCell' = true:=fun u hu => by rw [← hrow] at hu; simp at hu; rcases hu with rfl | rfl | rfl | rfl <;> rfl
         have hrc : ∀ (i : Nat) (u : Value),row[i]? = some u → (w15.alloc (.cells #[.slice ba d bc,.int .i64 (sl - cl),.int .i64 cl,.int .i64 (j : Int)] 56)).cell? ⟨w15.heap.size,0 + i,none⟩ = some u:=fun i u hi => by
          rw [cell_of_heap (World.alloc_heap_new _ _),Nat.zero_add];rw [← hrow] at hi
          simpa using hi
         have hn9 : n + 1 ≤ 100000:=by omega
         clear hout hrow
         go_wp2_with (at_builtin; refine wpList_appendN rfl (.tmp 139) (.tmp 141) 40 rfl (N + 1) 56 (.agg #[.slice none 0 0,.int .i64 0,.int .i64 0,.int .i64 0]) 4 48 Tryz.underlying40 info_visH rfl (by decide) (.slice oa n oc) n R.flatten rfl (HOUT.out.alloc _) w15.heap.size 0 1 1 row rfl hrl hrc hr1 hn9 (by decide) (by have:=HM15.out; have:=HAP.out; simp; omega) ?_)
         intro v' w17 ho17 hg17 hat17
         obtain ⟨V,hV⟩ : ∃ V,visT l x.D ⟨sl,si⟩ q = V:=⟨_,rfl⟩;have hend:=HEND.out;rw [hV] at hend;have hV1 : V.score = sl - cl:=by unfold Sp.score; rw [hend.bef,hend.left]
         obtain ⟨he,hpl⟩ := HPL.out.step HGD.out (by rw [HNX.out]; exact hlt) HWN.out HSX.out
         rw [HQQ.out,hV,HNX.out,HXS.out,HJN.out] at he;have hb16:=aB w15 (.cells #[.slice ba d bc,.int .i64 (sl - cl),.int .i64 cl,.int .i64 (j : Int)] 56);have h16:=HST15.out.below hb16;have HVR17 : Hid (VisR (R ++ [row]) (step5 l x.D X).out):=Lib.hid (by
          have h:=HVR.out.snoc (sp:=V) (a:=ba) (c:=bc) (p:=(j : Int));rw [hend.darts,hV1,hend.left] at h;rw [he,← HROW.out];exact h)
         obtain ⟨va,vc,hvv⟩ := owns_form ho17;subst hvv;have HST17 : Hid (ArmSt (N + 1) w17 (.slice (some ⟨gL,0,none⟩) 2 lc) (.slice (some ⟨gI,0,none⟩) 2 ic) (.slice va (n + 1) vc) ((step5 l x.D X).sts.map (·.left)) ((step5 l x.D X).sts.map (·.inn)) (R ++ [row])):=Lib.hid (by
          have h:=h16.keptO hg17 (v:=.slice va (n + 1) vc) (x:=R ++ [row]) (by
           rw [List.length_append,HNR.out,List.flatten_append]
           simpa using ho17)
          rw [he];simp only;rw [List.map_set,List.map_set,show V.aft.left = cl from hend.left,show V.aft.inn = ci from hend.inn]
          exact h)
         have hog : ∀ q,(Value.slice oa n oc).ownBlock = some q → N + 1 ≤ q:=fun q hq => (HOUT.out.lt q hq).1
         have HK17:=Lib.hid ((hg17.block N (by simp; have:=HM15.out; have:=HAP.out; omega) (fun e => by have:=hog N e.symm; omega)).trans ((hb16.block N (by have:=HM15.out; have:=HAP.out; omega)).trans HK15.out))
         have HM17 : Hid (N + 3 ≤ w17.heap.size):=Lib.hid (by have h1:=hg17.size; have h2:=HM15.out; have h3:=HAP.out; simp at h1; omega)
         have HB17 : Hid (Below N w w17):=Lib.hid ((HB15.out.trans (hb16.mono (by have:=HM15.out; have:=HAP.out; omega))).trans (below_grownBy hg17 (by simp; have:=HM15.out; have:=HAP.out; omega) (fun q hq => by have:=hog q hq; omega)))
         have HPL17:=Lib.hid hpl;have HW17 : Hid ((step5 l x.D X).won = wn):=Lib.hid (by rw [he]; exact hend.won)
         have HA17 : Hid ((step5 l x.D X).at_ = q'):=Lib.hid (by rw [he]; simp only; rw [hend.darts]; exact HQ'.out.symm)
         clear hV hend hV1 he hpl hb16 h16 ho17 hg17 hat17 hog hrl hr1 hrc hn9 e0 e1 e2 e3 HOUT HST15 HD15 HK15 HM15 HB15;go_wp2_with fail;go_roundw
         case rel => exact ⟨step5 l x.D X,R ++ [row],_,rfl,by rw [HW17.out],by rw [HA17.out],HPL17,HVR17,HST17,HK17,HM17,HB17⟩
         case measure => show 4 - (n + 1) < 4 - n; omega
     ·have hXF : X = F:=HPL.out.done (.inr HWN.out)
      have HRET : Hid (wo.ownsRow N 56 4 (.slice oa n oc) n R.flatten):=Lib.hid (by
       have h:=HST.out.out;rw [HNR.out] at h;exact own_mono h (by omega))
      have HVF : Hid (VisR R (playH x).out):=Lib.hid (by rw [HFF.out,← hXF]; exact HVR.out)
      have HWF : Hid ((playH x).won = true):=Lib.hid (by rw [HFF.out,← hXF]; exact HWN.out)
      clear hXF;go_wp2_with fail;go_returns;exact ⟨_,R,by rw [HWF.out]; rfl,by rw [HN.out]; exact HBr.out,HVF.out,by rw [HNR.out,HN.out]; exact HRET.out⟩
    ·have t1 : decide ((n : Int) < 4) = false:=decide_eq_false (by omega)
     have t1n : decide (n < 4) = false:=decide_eq_false hlt;have hXF : X = F:=HPL.out.done (.inl (by rw [HNX.out]; omega))
     cases wn
     ·skip
      have HRET : Hid (wo.ownsRow N 56 4 (.slice oa n oc) n R.flatten):=Lib.hid (by
       have h:=HST.out.out;rw [HNR.out] at h;exact own_mono h (by omega))
      have HVF : Hid (VisR R (playH x).out):=Lib.hid (by rw [HFF.out,← hXF]; exact HVR.out)
      have HWF : Hid ((playH x).won = false):=Lib.hid (by rw [HFF.out,← hXF]; exact HWN.out)
      clear hXF;go_wp2_with fail;go_returns;exact ⟨_,R,by rw [HWF.out]; rfl,by rw [HN.out]; exact HBr.out,HVF.out,by rw [HNR.out,HN.out]; exact HRET.out⟩
     ·skip
      have HRET : Hid (wo.ownsRow N 56 4 (.slice oa n oc) n R.flatten):=Lib.hid (by
       have h:=HST.out.out;rw [HNR.out] at h;exact own_mono h (by omega))
      have HVF : Hid (VisR R (playH x).out):=Lib.hid (by rw [HFF.out,← hXF]; exact HVR.out)
      have HWF : Hid ((playH x).won = true):=Lib.hid (by rw [HFF.out,← hXF]; exact HWN.out)
      clear hXF;go_wp2_with fail;go_returns;exact ⟨_,R,by rw [HWF.out]; rfl,by rw [HN.out]; exact HBr.out,HVF.out,by rw [HNR.out,HN.out]; exact HRET.out⟩
end Go.Proofs.YtnbmgkmcaoafnaaGreatDoor
