/- The texts HP, in build order. -/
import Derived.Test.YtnbmgkmcaoafnaaGreatDoorZap

/- Chapter 5: a player is followed, turn by turn. -/
namespace Go.Proofs.YtnbmgkmcaoafnaaGreatDoor
open Go Go.RowKit Go.Oche Go.Proofs

theorem setCell_self {W : World} {b o : Nat} {c : Array Value} {t : TypeId} {fz : Nat × Nat} (h : W.heap[b]? = some (.cells c t fz)) {v : Value} (hv : c[o]? = some v) : W.setCell ⟨b,o,none⟩ v = W:=by
 have hh : (W.setCell ⟨b,o,none⟩ v).heap = W.heap:=by
  refine Array.ext_getElem? fun i => ?_
  by_cases e : i = b
  ·subst e
   rw [heap_setCell_at h,h];have : c.setIfInBounds o v = c:=by
    refine Array.ext_getElem? fun j => ?_
    rw [Array.getElem?_setIfInBounds]
    split
    ·rename_i q; subst q; rw [hv,if_pos (Array.getElem?_eq_some_iff.1 hv).1]
    ·rfl
   rw [this]
  ·exact Below.heap_setCell _ _ _ _ e
 have : W.setCell ⟨b,o,none⟩ v = { W with heap:=(W.setCell ⟨b,o,none⟩ v).heap }:=rfl
 rw [this,hh]
theorem info_i5 : (Tryz.prog.info? 3).map (fun i => (i.zero,i.size,i.bytes)) = some (some (.int .i64 0),1,8):=by kernel_rfl
theorem info_st5 : (Tryz.prog.info? 104).map (fun i => (i.zero,i.size,i.bytes)) = some (some (.map none),1,8):=by kernel_rfl
def s05 : Std:=⟨0,false⟩
theorem start_bd {l : Lg} (hv : Valid l) : NowOk [start5 l]:=by
 have h1:=hv.start;have h2 : 1 ≤ low5 l.gout:=by unfold low5; split <;> omega
 refine ⟨by simp,fun s hs => ?_⟩
 rw [List.mem_singleton] at hs;subst hs;unfold start5;simp only;omega
theorem step_ok {l : Lg} (hv : Valid l) {said : Int → List Rp} {t : Int} {now : List Std} (h : NowOk now) : NowOk (firsts ((stepL l said t now).map Sp.aft)):=by
 refine ⟨nodup_firsts _,fun s hs => ?_⟩
 rw [mem_firsts,List.mem_map] at hs;obtain ⟨sp,hsp,rfl⟩ := hs;obtain ⟨h1,h2,_,_⟩ := mem_stepL.1 hsp;have hb:=h.2 _ h1;have:=vis_left hv.good hb.1 h2;show 0 ≤ sp.en.left ∧ sp.en.left ≤ 1001;simp only at this;omega
theorem _root_.Go.Oche.SlN.chg {k : Nat} {S O : Nat → Prop} {w w' : World} {v : Value} {rows : List (List Value)} (h : SlN k S w v rows) (hc : Chg O w w') (hS : ∀ q,S q → ¬ O q) : SlN k S w' v rows :=
 h.cells fun b o hb hs => by
  obtain ⟨x,hx⟩ := Option.isSome_iff_exists.1 hs;exact World.cell?_of_block (w:=w) (hc.block b (World.block_lt_of_cell? w _ hx) (hS b hb))
set_option maxRecDepth 100000 in
set_option maxHeartbeats 4000000 in
theorem follow_any {S F0 : Nat → Prop} {fn : Nat} {pre : Array Value} {which : Nat → Bool} {gb hb kb : Nat} (l : Lg) (hv : Valid l) (list : List Rp) (lv : Value) (p : Int) (hp : 0 ≤ p ∧ p < l.players) (hwh : WhichFn fn pre list.length which) (hlen : list.length ≤ 1000)
  (w : World) (hl : SlN 3 S w lv (list.map rpRow)) (hS : ¬ S kb) (h0 : GameAt l F0 w gb hb kb) (hF0 : ∀ q,F0 q → q < w.heap.size) :
  Calls Tryz.prog 25 #[.agg #[.pointer (some ⟨gb,0,none⟩),lv],.int .i64 p,.func (.func fn) pre #[]] w fun e w' => ∃ t tv sv nb ts ms sts now F,e = .returned (.tuple #[.agg #[tv,sv],.map (some nb)]) ∧ OSt l F0 w gb hb kb w.heap.size lv (saidL list which) p t tv sv nb ts ms sts now F w' ∧ ¬ t < l.turns:=by
 obtain ⟨a,cap,rfl,h2,h3⟩ := hl.form;simp only [List.length_map] at *;unfold maxLen at h3;obtain ⟨n,hn⟩ : ∃ n,list.length = n:=⟨_,rfl⟩;obtain ⟨N,hN⟩ : ∃ N,w.heap.size = N:=⟨_,rfl⟩;rw [hn] at h2 hl ⊢;obtain ⟨w1,hw1⟩ : ∃ y,((w.alloc (.cells #[.pointer (some ⟨gb,0,none⟩),.slice a n cap] 93)).alloc (.cells #[.slice none 0 0,.slice none 0 0] 96)).alloc (.map #[] 0) = y:=⟨_,rfl⟩;have hb1 : Below w.heap.size w w1:=by rw [← hw1]; exact ((aB _ _).alloc (by simp) _).alloc (by simp; omega) _
 have k1 : w1.heap[N]? = some (.cells #[.pointer (some ⟨gb,0,none⟩),.slice a n cap] 93 (0,0)):=by
  rw [← hw1,← hN]; exact (Below.heap_alloc _ _ _ (by simp; omega)).trans ((Below.heap_alloc _ _ _ (by simp)).trans (World.alloc_heap_new _ _))
 have k2 : w1.heap[N + 1]? = some (.cells #[.slice none 0 0,.slice none 0 0] 96 (0,0)):=by
  rw [← hw1,← hN];refine (Below.heap_alloc _ _ _ (by simp)).trans ?_
  rw [show w.heap.size + 1 = (w.alloc (.cells #[.pointer (some ⟨gb,0,none⟩),.slice a n cap] 93)).heap.size by simp]; exact World.alloc_heap_new _ _
 have HM1 : Hid (HoldsM stV w1 (N + 2) fun _ => none):=Lib.hid (by
  rw [← hw1,← hN,show w.heap.size + 2 = ((w.alloc (.cells #[.pointer (some ⟨gb,0,none⟩),.slice a n cap] 93)).alloc (.cells #[.slice none 0 0,.slice none 0 0] 96)).heap.size by simp]
  exact HoldsM.made _)
 have hs1 : w1.heap.size = N + 3:=by rw [← hw1]; simp; omega
 have HK1:=Lib.hid k1;have HK2:=Lib.hid k2;have HB1:=Lib.hid hb1;have HG1:=Lib.hid (h0.below hb1);have HF0:=Lib.hid hF0;have HL:=Lib.hid hl;have HS:=Lib.hid hS;have HN:=Lib.hid hn;have HNN:=Lib.hid hN;have HWH:=Lib.hid hwh;have HV:=Lib.hid hv;have HW1:=Lib.hid hw1;have c0 : w1.cell? ⟨N,0,none⟩ = some (.pointer (some ⟨gb,0,none⟩)):=by rw [cell_of_heap k1]; rfl
 have hmm := @run_makeMap Tryz.prog;clear hw1 k1 k2 hb1 hF0 hS hn hwh hv hl
 go_enter Tryz.func25,Tryz.ntmps25
 go_upto_region 2 with fail
 rw [HW1.out];clear hmm c0;refine (start_any w1 HG1.out).mono ?_
 rintro e w2 ⟨rfl,hb2⟩;obtain ⟨w3,hr3,hM3,hg3⟩ := HoldsM.update st_key (T:=98) (E:=4) (by rfl) (HM1.out.below hb2) (start5 l) (.bool true)
 have HB3 : Hid (Below w.heap.size w w3):=Lib.hid ((bThen HB1.out hb2).trans (below_grownBy hg3 (by have:=hb2.size; omega) fun x hx => by cases hx; omega))
 have K31:=Lib.hid ((hg3.block N (by have:=hb2.size; omega) fun e => by cases e).trans ((hb2.block N (by omega)).trans HK1.out))
 have K32:=Lib.hid ((hg3.block (N + 1) (by have:=hb2.size; omega) fun e => by cases e).trans ((hb2.block (N + 1) (by omega)).trans HK2.out))
 have HG3 : Hid (GameAt l (fun q => F0 q ∨ N ≤ q ∧ q < N + 3) w3 gb hb kb):=Lib.hid (by
  have hlt:=HG1.out.lt;have h1:=(h0.more (F':=fun q => F0 q ∨ N ≤ q ∧ q < N + 3) (fun q h => h.elim .inl fun h => .inr (by omega)) (fun q h => .inl h)).below HB1.out
  exact (h1.below hb2).grown hg3 fun x hx => by cases hx; have:=h0.lt; exact ⟨by omega,by omega,by omega,.inl (.inr ⟨by omega,by omega⟩)⟩)
 have hs3 : N + 3 ≤ w3.heap.size:=by have:=hg3.size; have:=hb2.size; omega
 have HM3 : Hid (HoldsM stV w3 (N + 2) fun y => if y ∈ [start5 l] then some (.bool true) else none):=Lib.hid (hM3.congr fun y => by simp)
 clear hb2 hM3 hg3 HM1 HK1 HK2;unfold stV start5 at hr3;unfold stV start5;have HO3 : Hid (OSt l F0 w gb hb kb N (.slice a n cap) (saidL list which) p p (.slice none 0 0) (.slice none 0 0) (N + 2) [] [] [] [start5 l] (fun q => F0 q ∨ N ≤ q ∧ q < N + 3) w3):=Lib.hid
  ⟨fun q h => .inl h,fun q h => h.elim (fun h => by have:=HF0.out q h; omega) (fun h => by omega),HG3.out,Chg.below HB3.out,K31.out,K32.out,.inr ⟨by omega,by omega⟩,World.ownsRow_nil _ _ _ _,World.ownsRow_nil _ _ _ _,fun g hg => (by cases hg),fun g hg => (by cases hg),StepsAt.nil,HM3.out,by omega,.inr ⟨by omega,by omega⟩,start_bd HV.out,Along.start hp.1⟩
 have hpl:=HV.out.players;have htu:=HV.out.turns;have htp : p ≤ 100:=by omega
 clear HB3 K31 K32 HG3 HM3 hs3;go_wp2;clear hr3;go_loopw [7,8] (fun v7 v8 wr => ∃ t tv sv nb ts ms sts now F,v7 = .map (some nb) ∧ v8 = .int .i64 t ∧ 0 ≤ t ∧ t ≤ 100 ∧ Hid (OSt l F0 w gb hb kb N (.slice a n cap) (saidL list which) p t tv sv nb ts ms sts now F wr)) (fun _ v8 _ => (l.turns - intOf v8).toNat)
 case atStart => exact ⟨p,_,_,_,_,_,_,_,_,rfl,rfl,hp.1,htp,HO3⟩
 case round =>
  clear HO3 HG1 HB1 HW1 hs1;obtain ⟨t,tv,sv,nb,ts,ms,sts,now,F,rfl,rfl,ht0,ht1,HO⟩ := hrel;obtain ⟨wo,rfl⟩ : ∃ wo : World,wo = wr:=⟨_,rfl⟩;obtain ⟨x1,x2,x3,x4,y1,y2,y3,y4⟩ := HO.out.game.cells;have b0 : wo.cell? ⟨N,0,none⟩ = some (.pointer (some ⟨gb,0,none⟩)):=by rw [cell_of_heap HO.out.box]; rfl
  have b1 : wo.cell? ⟨N,1,none⟩ = some (.slice a n cap):=by rw [cell_of_heap HO.out.box]; rfl
  by_cases hlt : t < l.turns
  ·have hlt' : decide (t < l.turns) = true:=decide_eq_true hlt
   go_upto_region 5 with fail
   obtain ⟨m,hm⟩ : ∃ m,(saidL list which t).length = m:=⟨_,rfl⟩;obtain ⟨XS,hxs⟩ : ∃ xs,rpsFlat (saidL list which t) = xs:=⟨_,rfl⟩;have hwt : IntKind.i64.wrap (l.turns - 1) = l.turns - 1:=wrap_small _ (by omega) (by omega)
   have HLo:=Lib.hid (HL.out.chg HO.out.chg fun q hq e => HS.out (by rw [← e]; exact hq))
   have HM:=Lib.hid hm;have HXS:=Lib.hid hxs;have hmm := @run_makeMap Tryz.prog;clear hm hxs x1 x2 x3 x4 y3 y4;refine wp_region_seqV 27 ((fun v => v = .pointer (some ⟨N,0,none⟩)) :: (fun v => v = .pointer (some ⟨gb,0,none⟩)) :: (fun v => v = .pointer (some ⟨gb,0,none⟩)) :: (fun v => v = .pointer (some ⟨gb,0,none⟩)) :: (fun v => v = .pointer (some ⟨gb,6,none⟩)) :: (fun v => v = .bool l.won) :: (fun v => v = .bool l.won) :: (fun v => l.won = true → v = .int .i64 t) :: (fun v => l.won = true → v = .pointer (some ⟨N,0,none⟩)) :: (fun v => l.won = true → v = .pointer (some ⟨gb,0,none⟩)) :: (fun v => l.won = true → v = .pointer (some ⟨gb,0,none⟩)) :: (fun v => l.won = true → v = .pointer (some ⟨gb,0,none⟩)) :: (fun v => l.won = true → v = .pointer (some ⟨gb,5,none⟩)) :: (fun v => l.won = true → v = .int .i64 l.turns) :: (fun v => l.won = true → v = .int .i64 (l.turns - 1)) :: (fun v => l.won = true → v = .bool (t == l.turns - 1)) :: (fun v => v = .bool (lastF l t)) :: (fun v => v = .agg #[.pointer (some ⟨gb,0,none⟩),.slice a n cap]) :: (fun v => v = .int .i64 t) :: (fun v => v = .func (.func fn) pre #[]) :: (fun _ => True) :: (fun v => ∃ b,v = .map (some b)) :: (fun v => ∃ b,v = .map (some b)) :: (fun v => v = .bool (lastF l t)) :: (fun _ => True) :: (fun v => ∃ b,v = .map (some b)) :: (fun v => ∃ b,v = .map (some b)) :: []) (JF wo m XS) rfl mix (by kernel_rfl) (by kernel_rfl) (fun _ _ _ _ hc h => h.congr hc) (fun vs => JF.start vs) ?_
   simp only [List.take_succ_cons,List.take_zero];refine sv_rd rfl (fun _ _ _ h => h.read (by simp) (by simp) (by simp) (by simp) (by simp) (by simp)) (fun W L vs hvs hL hj => ?_) ?_
   ·have xb:=hj.below
    have g5:=bAt xb y1;have g6:=bAt xb y2;have z0:=bAt xb b0;have z1:=bAt xb b1;simp [opOK,go_sem]
    try exact rfl
   simp only [Act.put,List.setIfInBounds_toArray,List.set_cons_succ,List.set_cons_zero];refine sv_rd rfl (fun _ _ _ h => h.read (by simp) (by simp) (by simp) (by simp) (by simp) (by simp)) (fun W L vs hvs hL hj => ?_) ?_
   ·have xb:=hj.below
    have g5:=bAt xb y1;have g6:=bAt xb y2;have z0:=bAt xb b0;have z1:=bAt xb b1;simp [opOK,go_sem,z0]
    try exact rfl
   simp only [Act.put,List.setIfInBounds_toArray,List.set_cons_succ,List.set_cons_zero];refine sv_rd rfl (fun _ _ _ h => h.read (by simp) (by simp) (by simp) (by simp) (by simp) (by simp)) (fun W L vs hvs hL hj => ?_) ?_
   ·have xb:=hj.below
    have g5:=bAt xb y1;have g6:=bAt xb y2;have z0:=bAt xb b0;have z1:=bAt xb b1;simp [opOK,go_sem]
    try exact rfl
   simp only [Act.put,List.setIfInBounds_toArray,List.set_cons_succ,List.set_cons_zero];refine sv_rd rfl (fun _ _ _ h => h.read (by simp) (by simp) (by simp) (by simp) (by simp) (by simp)) (fun W L vs hvs hL hj => ?_) ?_
   ·have xb:=hj.below
    have g5:=bAt xb y1;have g6:=bAt xb y2;have z0:=bAt xb b0;have z1:=bAt xb b1;simp [opOK,go_sem]
    try exact rfl
   simp only [Act.put,List.setIfInBounds_toArray,List.set_cons_succ,List.set_cons_zero];refine sv_rd rfl (fun _ _ _ h => h.read (by simp) (by simp) (by simp) (by simp) (by simp) (by simp)) (fun W L vs hvs hL hj => ?_) ?_
   ·have xb:=hj.below
    have g5:=bAt xb y1;have g6:=bAt xb y2;have z0:=bAt xb b0;have z1:=bAt xb b1;simp [opOK,go_sem]
    try exact rfl
   simp only [Act.put,List.setIfInBounds_toArray,List.set_cons_succ,List.set_cons_zero];refine sv_rd rfl (fun _ _ _ h => h.read (by simp) (by simp) (by simp) (by simp) (by simp) (by simp)) (fun W L vs hvs hL hj => ?_) ?_
   ·have xb:=hj.below
    have g5:=bAt xb y1;have g6:=bAt xb y2;have z0:=bAt xb b0;have z1:=bAt xb b1;simp [opOK,go_sem,g6]
    try exact rfl
   simp only [Act.put,List.setIfInBounds_toArray,List.set_cons_succ,List.set_cons_zero];refine sv_rd rfl (fun _ _ _ h => h.read (by simp) (by simp) (by simp) (by simp) (by simp) (by simp)) (fun W L vs hvs hL hj => ?_) ?_
   ·have xb:=hj.below
    have g5:=bAt xb y1;have g6:=bAt xb y2;have z0:=bAt xb b0;have z1:=bAt xb b1;simp [opOK,go_sem]
    try exact rfl
   simp only [Act.put,List.setIfInBounds_toArray,List.set_cons_succ,List.set_cons_zero];refine sv_opt (by cases l.won <;> kernel_rfl) (fun _ _ _ _ h => h.read (by simp) (by simp) (by simp) (by simp) (by simp) (by simp)) (fun hw W L vs hvs hL hj => ?_) (fun v0 q0 => ?_)
   ·have xb:=hj.below
    have g5:=bAt xb y1;have g6:=bAt xb y2;have z0:=bAt xb b0;have z1:=bAt xb b1;simp [opOK,go_sem]
    try exact rfl
   simp only [Act.put,List.setIfInBounds_toArray,List.set_cons_succ,List.set_cons_zero];refine sv_opt (by cases l.won <;> kernel_rfl) (fun _ _ _ _ h => h.read (by simp) (by simp) (by simp) (by simp) (by simp) (by simp)) (fun hw W L vs hvs hL hj => ?_) (fun v1 q1 => ?_)
   ·have xb:=hj.below
    have g5:=bAt xb y1;have g6:=bAt xb y2;have z0:=bAt xb b0;have z1:=bAt xb b1;have e0:=q0 hw;subst e0;simp [opOK,go_sem]
    try exact rfl
   simp only [Act.put,List.setIfInBounds_toArray,List.set_cons_succ,List.set_cons_zero];refine sv_opt (by cases l.won <;> kernel_rfl) (fun _ _ _ _ h => h.read (by simp) (by simp) (by simp) (by simp) (by simp) (by simp)) (fun hw W L vs hvs hL hj => ?_) (fun v2 q2 => ?_)
   ·have xb:=hj.below
    have g5:=bAt xb y1;have g6:=bAt xb y2;have z0:=bAt xb b0;have z1:=bAt xb b1;have e0:=q0 hw;have e1:=q1 hw;subst e0 e1;simp [opOK,go_sem,z0]
    try exact rfl
   simp only [Act.put,List.setIfInBounds_toArray,List.set_cons_succ,List.set_cons_zero];refine sv_opt (by cases l.won <;> kernel_rfl) (fun _ _ _ _ h => h.read (by simp) (by simp) (by simp) (by simp) (by simp) (by simp)) (fun hw W L vs hvs hL hj => ?_) (fun v3 q3 => ?_)
   ·have xb:=hj.below
    have g5:=bAt xb y1;have g6:=bAt xb y2;have z0:=bAt xb b0;have z1:=bAt xb b1;have e0:=q0 hw;have e1:=q1 hw;have e2:=q2 hw;subst e0 e1 e2;simp [opOK,go_sem]
    try exact rfl
   simp only [Act.put,List.setIfInBounds_toArray,List.set_cons_succ,List.set_cons_zero];refine sv_opt (by cases l.won <;> kernel_rfl) (fun _ _ _ _ h => h.read (by simp) (by simp) (by simp) (by simp) (by simp) (by simp)) (fun hw W L vs hvs hL hj => ?_) (fun v4 q4 => ?_)
   ·have xb:=hj.below
    have g5:=bAt xb y1;have g6:=bAt xb y2;have z0:=bAt xb b0;have z1:=bAt xb b1;have e0:=q0 hw;have e1:=q1 hw;have e2:=q2 hw;have e3:=q3 hw;subst e0 e1 e2 e3;simp [opOK,go_sem]
    try exact rfl
   simp only [Act.put,List.setIfInBounds_toArray,List.set_cons_succ,List.set_cons_zero];refine sv_opt (by cases l.won <;> kernel_rfl) (fun _ _ _ _ h => h.read (by simp) (by simp) (by simp) (by simp) (by simp) (by simp)) (fun hw W L vs hvs hL hj => ?_) (fun v5 q5 => ?_)
   ·have xb:=hj.below
    have g5:=bAt xb y1;have g6:=bAt xb y2;have z0:=bAt xb b0;have z1:=bAt xb b1;have e0:=q0 hw;have e1:=q1 hw;have e2:=q2 hw;have e3:=q3 hw;have e4:=q4 hw;subst e0 e1 e2 e3 e4;simp [opOK,go_sem]
    try exact rfl
   simp only [Act.put,List.setIfInBounds_toArray,List.set_cons_succ,List.set_cons_zero];refine sv_opt (by cases l.won <;> kernel_rfl) (fun _ _ _ _ h => h.read (by simp) (by simp) (by simp) (by simp) (by simp) (by simp)) (fun hw W L vs hvs hL hj => ?_) (fun v6 q6 => ?_)
   ·have xb:=hj.below
    have g5:=bAt xb y1;have g6:=bAt xb y2;have z0:=bAt xb b0;have z1:=bAt xb b1;have e0:=q0 hw;have e1:=q1 hw;have e2:=q2 hw;have e3:=q3 hw;have e4:=q4 hw;have e5:=q5 hw;subst e0 e1 e2 e3 e4 e5;simp [opOK,go_sem,g5]
    try exact rfl
   simp only [Act.put,List.setIfInBounds_toArray,List.set_cons_succ,List.set_cons_zero];refine sv_opt (by cases l.won <;> kernel_rfl) (fun _ _ _ _ h => h.read (by simp) (by simp) (by simp) (by simp) (by simp) (by simp)) (fun hw W L vs hvs hL hj => ?_) (fun v7 q7 => ?_)
   ·have xb:=hj.below
    have g5:=bAt xb y1;have g6:=bAt xb y2;have z0:=bAt xb b0;have z1:=bAt xb b1;have e0:=q0 hw;have e1:=q1 hw;have e2:=q2 hw;have e3:=q3 hw;have e4:=q4 hw;have e5:=q5 hw;have e6:=q6 hw;subst e0 e1 e2 e3 e4 e5 e6;simp [opOK,go_sem,hwt]
    try exact rfl
   simp only [Act.put,List.setIfInBounds_toArray,List.set_cons_succ,List.set_cons_zero];refine sv_opt (by cases l.won <;> kernel_rfl) (fun _ _ _ _ h => h.read (by simp) (by simp) (by simp) (by simp) (by simp) (by simp)) (fun hw W L vs hvs hL hj => ?_) (fun v8 q8 => ?_)
   ·have xb:=hj.below
    have g5:=bAt xb y1;have g6:=bAt xb y2;have z0:=bAt xb b0;have z1:=bAt xb b1;have e0:=q0 hw;have e1:=q1 hw;have e2:=q2 hw;have e3:=q3 hw;have e4:=q4 hw;have e5:=q5 hw;have e6:=q6 hw;have e7:=q7 hw;subst e0 e1 e2 e3 e4 e5 e6 e7;simp [opOK,go_sem]
    try exact rfl
   simp only [Act.put,List.setIfInBounds_toArray,List.set_cons_succ,List.set_cons_zero];refine sv_rd rfl (fun _ _ _ h => h.read (by simp) (by simp) (by simp) (by simp) (by simp) (by simp)) (fun W L vs hvs hL hj => ?_) ?_
   ·unfold lastF
    cases hw : l.won
    ·simp [opOK,go_sem]
    ·have e8:=q8 hw
     subst e8;simp [opOK,go_sem]
   simp only [Act.put,List.setIfInBounds_toArray,List.set_cons_succ,List.set_cons_zero];refine sv_rd rfl (fun _ _ _ h => h.read (by simp) (by simp) (by simp) (by simp) (by simp) (by simp)) (fun W L vs hvs hL hj => ?_) ?_
   ·have xb:=hj.below
    have g5:=bAt xb y1;have g6:=bAt xb y2;have z0:=bAt xb b0;have z1:=bAt xb b1;simp [opOK,go_sem,z0,z1]
    try exact rfl
   simp only [Act.put,List.setIfInBounds_toArray,List.set_cons_succ,List.set_cons_zero];refine sv_rd rfl (fun _ _ _ h => h.read (by simp) (by simp) (by simp) (by simp) (by simp) (by simp)) (fun W L vs hvs hL hj => ?_) ?_
   ·have xb:=hj.below
    have g5:=bAt xb y1;have g6:=bAt xb y2;have z0:=bAt xb b0;have z1:=bAt xb b1;simp [opOK,go_sem]
    try exact rfl
   simp only [Act.put,List.setIfInBounds_toArray,List.set_cons_succ,List.set_cons_zero];refine sv_rd rfl (fun _ _ _ h => h.read (by simp) (by simp) (by simp) (by simp) (by simp) (by simp)) (fun W L vs hvs hL hj => ?_) ?_
   ·have xb:=hj.below
    have g5:=bAt xb y1;have g6:=bAt xb y2;have z0:=bAt xb b0;have z1:=bAt xb b1;simp [opOK,go_sem]
    try exact rfl
   simp only [Act.put,List.setIfInBounds_toArray,List.set_cons_succ,List.set_cons_zero];refine sv_new ⟨undef,trivial⟩ rfl (fun W L vs hvs hL hj hd => ?_) ?_
   ·simp only [List.length_append,List.length_cons,List.length_nil,Nat.zero_add,Nat.reduceAdd] at hL ⊢
    refine opOK_call (f:=52) (args:=#[.agg #[.pointer (some ⟨gb,0,none⟩),.slice a n cap],.int .i64 t,.func (.func fn) pre #[]]) (by simp [go_sem]) ?_
    refine (believed_any list _ _ t HWH.out hlen W (HLo.out.below hj.below)).mono ?_
    rintro e W' ⟨v',rfl,hbw,how⟩;refine ⟨v',rfl,trivial,hj.called hL hbw ?_⟩
    rw [HM.out,HXS.out] at how;exact how
   rintro vr -;simp only [Act.put,List.setIfInBounds_toArray,List.set_cons_succ,List.set_cons_zero];refine sv_new ⟨_,0,rfl⟩ rfl (fun W L vs hvs hL hj hd => ?_) ?_
   ·simp only [List.length_append,List.length_cons,List.length_nil,Nat.zero_add,Nat.reduceAdd] at hL ⊢
    exact opOK_val (v:=.map (some W.heap.size)) (w':=W.alloc (.map #[] 0)) (by simp [go_sem,execOp,hmm]) ⟨⟨_,rfl⟩,hj.made1 hL⟩
   rintro _ ⟨B,rfl⟩;simp only [Act.put,List.setIfInBounds_toArray,List.set_cons_succ,List.set_cons_zero];refine sv_new ⟨_,0,rfl⟩ rfl (fun W L vs hvs hL hj hd => ?_) ?_
   ·simp only [List.length_append,List.length_cons,List.length_nil,Nat.zero_add,Nat.reduceAdd] at hL ⊢
    exact opOK_val (v:=.map (some W.heap.size)) (w':=W.alloc (.map #[] 0)) (by simp [go_sem,execOp,hmm]) ⟨⟨_,rfl⟩,hj.made2 hL⟩
   rintro _ ⟨A,rfl⟩;simp only [Act.put,List.setIfInBounds_toArray,List.set_cons_succ,List.set_cons_zero];refine sv_rd rfl (fun _ _ _ h => h.read (by simp) (by simp) (by simp) (by simp) (by simp) (by simp)) (fun W L vs hvs hL hj => ?_) ?_
   ·simp [opOK,go_sem]
   simp only [Act.put,List.setIfInBounds_toArray,List.set_cons_succ,List.set_cons_zero];refine sv_new ⟨undef,trivial⟩ rfl (fun W L vs hvs hL hj hd => ?_) ?_
   ·simp only [List.length_append,List.length_cons,List.length_nil,Nat.zero_add,Nat.reduceAdd] at hL ⊢
    have hLq:=hd ⟨20,.data⟩ (by simp) rfl
    have hag:=hj.again.1 hLq;rw [hvs 20 vr (by simp)] at hag
    exact opOK_val (v:=vr) (w':=W) (by simp [go_sem,execOp]) ⟨trivial,hag⟩
   rintro vr2 -;simp only [Act.put,List.setIfInBounds_toArray,List.set_cons_succ,List.set_cons_zero];refine sv_new ⟨_,0,rfl⟩ rfl (fun W L vs hvs hL hj hd => ?_) ?_
   ·simp only [List.length_append,List.length_cons,List.length_nil,Nat.zero_add,Nat.reduceAdd] at hL ⊢
    have hLq:=hd ⟨21,.data⟩ (by simp) rfl
    have hag:=hj.again.2.1 hLq;rw [hvs 21 (.map (some B)) (by simp)] at hag
    exact opOK_val (v:=(.map (some B))) (w':=W) (by simp [go_sem,execOp]) ⟨⟨_,rfl⟩,hag⟩
   rintro _ ⟨B2,rfl⟩;simp only [Act.put,List.setIfInBounds_toArray,List.set_cons_succ,List.set_cons_zero];refine sv_new ⟨_,0,rfl⟩ rfl (fun W L vs hvs hL hj hd => ?_) ?_
   ·simp only [List.length_append,List.length_cons,List.length_nil,Nat.zero_add,Nat.reduceAdd] at hL ⊢
    have hLq:=hd ⟨22,.data⟩ (by simp) rfl
    have hag:=hj.again.2.2 hLq;rw [hvs 22 (.map (some A)) (by simp)] at hag
    exact opOK_val (v:=(.map (some A))) (w':=W) (by simp [go_sem,execOp]) ⟨⟨_,rfl⟩,hag⟩
   rintro _ ⟨A2,rfl⟩;simp only [Act.put,List.setIfInBounds_toArray,List.set_cons_succ,List.set_cons_zero];refine sv_end fun vs w6 hvs hj => ?_
   simp only [List.drop_succ_cons,List.drop_zero];have e24:=(hj.d24 (by decide)).2
   have e25:=(hj.d25 (by decide)).2
   have e26:=(hj.d26 (by decide)).2
   have r20:=hj.row (by decide)
   obtain ⟨B1,eB,hB1,hB2⟩ := hj.m1 (by decide)
   obtain ⟨A1,eA,hA1,hA2⟩ := hj.m2 (by decide)
   have hne:=hj.ne (by decide) (by decide)
   have s20:=hvs 20 vr (by simp)
   have s21:=hvs 21 (.map (some B)) (by simp)
   have s22:=hvs 22 (.map (some A)) (by simp)
   rw [hvs 24 vr2 (by simp),s20] at e24
   rw [hvs 25 (.map (some B2)) (by simp),s21] at e25
   rw [hvs 26 (.map (some A2)) (by simp),s22] at e26
   rw [s20] at r20;rw [s21] at eB;rw [s22] at eA;rw [s21,s22] at hne;cases eB;cases eA;cases e25;cases e26;subst e24;have hAB : A ≠ B:=fun e => hne (by rw [e])
   have HJB:=Lib.hid hj.below;have HR20:=Lib.hid r20;clear hne s20 s21 s22 hvs hmm q0 q1 q2 q3 q4 q5 q6 q7 q8 hwt r20;obtain ⟨L,hL,hLn,hLk⟩ := HO.out.nowm.below (HJB.out.mono (Nat.le_refl _));obtain ⟨w7,hrg,hS7,hb7,hz7⟩ := MapAt.range (P:=Tryz.prog) (T:=98) (by rfl) hL
   obtain ⟨r,hr⟩ : ∃ r,w6.heap.size = r:=⟨_,rfl⟩;rw [hr] at hrg hS7 hz7;obtain ⟨Z,hZ⟩ : ∃ Z,wo.heap.size = Z:=⟨_,rfl⟩;have hZr : Z ≤ r:=by rw [← hZ,← hr]; exact HJB.out.size
   have hltg:=HO.out.game.lt;have hltb : N + 1 < Z:=by rw [← hZ]; exact (Array.getElem?_eq_some_iff.1 HO.out.cell).1
   have hltn:=HO.out.nowm.lt;have hkN : gb < N ∧ hb < N ∧ kb < N:=by rw [← hN]; exact h0.lt
   have hAr : A < r:=by rw [← hr]; exact hA2.lt
   have hBr : B < r:=by rw [← hr]; exact hB2.lt
   have hnbN:=HO.out.nbN;rw [hZ] at hltg hltn hA1 hB1;have HZ:=Lib.hid hZ;have HT7 : Hid (TSt l (fun q => F q ∨ Z ≤ q ∧ q < r + 1) wo gb hb kb A B r nb L [] (turnF l (saidL list which t) (lastF l t) [] s05 []) w7):=Lib.hid
    ⟨SeenD.of hS7,(hA2.below hb7).congr fun k => by rw [turnF_start]; rfl,(hB2.below hb7).congr fun y => by rw [aftF_congr (g:=fun _ => none) (fun k => turnF_start k),aftF_none],
     (HO.out.game.more (F':=fun q => F q ∨ Z ≤ q ∧ q < r + 1) (fun q h => h.elim .inl fun h => .inr (by omega)) (fun q h => .inl h)).below (bThen HJB.out hb7),Chg.below (bThen HJB.out hb7),⟨hAB,by omega,by omega,by omega⟩,by rw [HZ.out]; omega,by rw [HZ.out]; omega,.inr (by omega),.inr (by omega),.inr (by omega)⟩
   have HR7 : Hid (SlN 3 (fun q => Z ≤ q ∧ q < r ∧ q ≠ A ∧ q ≠ B) w7 vr2 ((saidL list which t).map rpRow)):=Lib.hid (by
    have h1 : w6.ownsRow Z 58 3 vr2 ((saidL list which t).map rpRow).length ((saidL list which t).map rpRow).flatten:=by
     rw [List.length_map,HM.out,show ((saidL list which t).map rpRow).flatten = XS from HXS.out,← hZ]; exact HR20.out
    refine ((SlN.own_maps h1 fun y hy => by obtain ⟨z,_,rfl⟩ := List.mem_map.1 hy; rfl).below hb7).mono fun q ⟨g1,g2,g3⟩ => ⟨g1,by rw [← hr]; exact g2,fun e => ?_,fun e => ?_⟩
    ·obtain ⟨es,c,ho⟩ := holdsM_obj hA2; exact g3 es c (by rw [e]; exact ho)
    ·obtain ⟨es,c,ho⟩ := holdsM_obj hB2; exact g3 es c (by rw [e]; exact ho))
   have HLN:=Lib.hid hLn;have HLK : Hid (∀ k,lookM L k = if k ∈ now then some (.bool true) else none):=Lib.hid hLk
   have hw7 : w7.heap.size = r + 1:=hz7;clear hj hB2 hA2 hS7 hL hLn hLk HR20 hb7 hz7 HJB;go_wp2;clear hrg y1 y2 b0 b1;have hs7 : Hid (Below w7.heap.size w7 w7):=Lib.hid (Below.refl _ _);go_loopw [13] (fun _ wr => ∃ ks : List Std,Hid (TSt l (fun q => F q ∨ Z ≤ q ∧ q < r + 1) wo gb hb kb A B r nb L ks (turnF l (saidL list which t) (lastF l t) ks s05 []) wr) ∧ Hid (SlN 3 (fun q => Z ≤ q ∧ q < r ∧ q ≠ A ∧ q ≠ B) wr vr2 ((saidL list which t).map rpRow))) (fun _ wr => L.length - seenN wr r)
   case atStart => exact ⟨[],HT7,HR7⟩
   case round =>
    clear HT7 HR7 hs7;obtain ⟨ks,HT,HR⟩ := hrel;obtain ⟨wa,rfl⟩ : ∃ wa : World,wa = wr:=⟨_,rfl⟩;have hbx:=(HT.out.chg.block N (by omega) (by omega)).trans HO.out.box
    have b0 : wa.cell? ⟨N,0,none⟩ = some (.pointer (some ⟨gb,0,none⟩)):=by rw [cell_of_heap hbx]; rfl
    rcases HT.out.seen.next (P:=Tryz.prog) (dec:=decS) decS_eq HLN.out 0 with ⟨hnx,hperm⟩ | ⟨s,vx,wb,hmem,hkn,hlen,hnx,hSb,hgb,hzb,henb⟩
    ·have hmn : ∀ y,y ∈ ks ↔ y ∈ now:=fun y => by
      rw [hperm.mem_iff,key_isSome,HLK.out];by_cases c : y ∈ now <;> simp [c]
     have hall:=turnF_all (l:=l) (said:=saidL list which) (t:=t) (ks:=ks) (s:=s05) HO.out.ok.1 hmn;have HST : Hid (HoldsM spV wa A fun k => (aggP (stepL l (saidL list which) t now) k).map smV):=Lib.hid (HT.out.step.congr fun k => by rw [hall])
     have HNW : Hid (HoldsM stV wa B fun y => if y ∈ firsts ((stepL l (saidL list which) t now).map Sp.aft) then some (.bool true) else none):=Lib.hid (HT.out.nows.congr fun y => by rw [aftF_congr hall,aftF_step])
     have hkeep : ∀ q,q < Z → q ≠ kb → wa.heap[q]? = wo.heap[q]? := fun q hq hk => HT.out.chg.block q (by rw [HZ.out]; exact hq) hk
     have hcell:=(hkeep (N + 1) hltb (by omega)).trans HO.out.cell
     have hr1:=ownsN_kept HO.out.row1 fun g hg => hkeep g (by have:=(HO.out.row1.lt g hg).2; rw [hZ] at this; exact this) (by have:=(HO.out.row1.lt g hg).1; omega)
     have hr2:=ownsN_kept HO.out.row2 fun g hg => hkeep g (by have:=(HO.out.row2.lt g hg).2; rw [hZ] at this; exact this) (by have:=(HO.out.row2.lt g hg).1; omega)
     have hv1 : ∀ g,tv.ownBlock = some g → N + 2 ≤ g ∧ g < Z:=fun g hg => by have:=HO.out.row1.lt g hg; rw [hZ] at this; exact this
     have hv2 : ∀ g,sv.ownBlock = some g → N + 2 ≤ g ∧ g < Z:=fun g hg => by have:=HO.out.row2.lt g hg; rw [hZ] at this; exact this
     have hwz : Z ≤ wa.heap.size:=by rw [← hZ]; exact HT.out.chg.size
     have hnn:=ownsN_ne hr1 hr2 (by decide)
     have hlen:=HO.out.along.len;have hml:=HO.out.steps.len;have hl1 : ts.length + 1 ≤ 100000:=by omega
     have hl2 : ms.length + 1 ≤ 100000:=by omega
     have HCELL:=Lib.hid hcell;have HR1:=Lib.hid hr1;have HR2:=Lib.hid hr2;have HV1:=Lib.hid hv1;have HV2:=Lib.hid hv2;have HNN:=Lib.hid hnn;have HKEEP:=Lib.hid hkeep;obtain ⟨n1,hn1⟩ : ∃ n,ts.length = n:=⟨_,rfl⟩;obtain ⟨n2,hn2⟩ : ∃ n,ms.length = n:=⟨_,rfl⟩;rw [hn1] at HR1 hl1;rw [hn2] at HR2 hl2;have HN1:=Lib.hid hn1;have HN2:=Lib.hid hn2;clear hmn hall hperm hcell hr1 hr2 hv1 hv2 hnn hkeep hlen hml hn1 hn2 HR hbx b0;go_upto_region 14 with fail;clear hnx;refine wp_region_seqV 16 ((fun v => v = .pointer (some ⟨N + 1,0,none⟩)) :: (fun v => v = tv) :: (fun v => v = .int .i64 t) :: (fun v => ∃ q,v = .slice (some ⟨q,0,none⟩) 1 1) :: (fun v => ∃ g c,v = .slice (some ⟨g,0,none⟩) (n1 + 1) c) :: (fun v => v = .pointer (some ⟨N + 1,1,none⟩)) :: (fun v => v = sv) :: (fun v => v = .map (some A)) :: (fun v => ∃ q,v = .slice (some ⟨q,0,none⟩) 1 1) :: (fun v => ∃ g c,v = .slice (some ⟨g,0,none⟩) (n2 + 1) c) :: (fun v => v = .map (some B)) :: (fun v => v = .pointer (some ⟨N + 1,0,none⟩)) :: (fun v => v = undef) :: (fun v => v = .pointer (some ⟨N + 1,1,none⟩)) :: (fun v => v = undef) :: (fun v => v = .map (some B)) :: [])
      (JTwoS wa tv sv (N + 2) 3 104 n1 n2 (ints ts) ms (.int .i64 t) (.map (some A)) ⟨N + 1,0,none⟩ ⟨N + 1,1,none⟩) rfl mix (by kernel_rfl) (by kernel_rfl) (fun _ _ _ _ hc h => h.congr hc) (fun _ => .start) ?_
     simp only [List.take_succ_cons,List.take_zero];refine sv_rd rfl (fun _ _ _ h => h.read (by simp) (by simp) (by simp) (by simp) (by simp) (by simp)) (fun u1 L1 vs1 hvs1 hL1 hj => ?_) ?_
     ·simp [opOK,go_sem]
     simp only [Act.put,List.setIfInBounds_toArray,List.set_cons_succ,List.set_cons_zero,List.nil_append];refine sv_rd rfl (fun _ _ _ h => h.read (by simp) (by simp) (by simp) (by simp) (by simp) (by simp)) (fun u1 L1 vs1 hvs1 hL1 hj => ?_) ?_
     ·simp only [List.length_cons,List.length_nil,Nat.zero_add] at hL1
      have hjv:=(hj.early (hj.not12.1 hL1)).2;have hbx:=hjv.b.heap HCELL.out (fun e => by have:=(HV1.out _ e).1; omega) (fun e => by have:=(HV2.out _ e).1; omega)
      have z0 : u1.cell? ⟨N + 1,0,none⟩ = some tv:=by rw [cell_of_heap hbx]; rfl
      simp [opOK,go_sem,z0]
     simp only [Act.put,List.setIfInBounds_toArray,List.set_cons_succ,List.set_cons_zero,List.nil_append,List.cons_append];refine sv_rd rfl (fun _ _ _ h => h.read (by simp) (by simp) (by simp) (by simp) (by simp) (by simp)) (fun u1 L1 vs1 hvs1 hL1 hj => ?_) ?_
     ·simp [opOK,go_sem]
     simp only [Act.put,List.setIfInBounds_toArray,List.set_cons_succ,List.set_cons_zero,List.nil_append,List.cons_append];refine sv_new ⟨.slice (some ⟨0,0,none⟩) 1 1,0,rfl⟩ rfl (fun u1 L1 vs1 hvs1 hL1 hj hd => ?_) ?_
     ·simp only [List.length_cons,List.length_nil,Nat.zero_add,Nat.reduceAdd] at hL1 ⊢
      have h12:=hj.not12.2.1 hL1;have hjv:=(hj.early h12).2;refine opOK_val (v:=.slice (some ⟨u1.heap.size,0,none⟩) 1 1) (w':=u1.alloc (.cells #[.int .i64 t] 3)) (by simp [go_sem,execOp]) ⟨⟨_,rfl⟩, ?_⟩
      exact hj.step h12 (by decide) (by decide) (fun e => by cases e) (fun e => by cases e) (hjv.swapLit (aB _ _) hjv.b.size (by rw [cell_of_heap (World.alloc_heap_new _ _)]; rfl) (by decide) (by decide) (by decide))
     rintro _ ⟨b3,rfl⟩;simp only [Act.put,List.setIfInBounds_toArray,List.set_cons_succ,List.set_cons_zero,List.nil_append,List.cons_append];refine sv_new ⟨.slice (some ⟨0,0,none⟩) (n1 + 1) 0,0,0,rfl⟩ rfl (fun u1 L1 vs1 hvs1 hL1 hj hd => ?_) ?_
     ·simp only [List.length_cons,List.length_nil,Nat.zero_add,Nat.reduceAdd] at hL1 ⊢
      have h12:=hj.not12.2.2.1 hL1;have hjv:=(hj.early h12).2;have d3:=hd ⟨3,.data⟩ (by simp) rfl
      have d1:=hd ⟨1,.data⟩ (by simp) rfl
      obtain ⟨bq,eq,hbq,hcq⟩ := hjv.lit1 d3;rw [hvs1 3 (.slice (some ⟨b3,0,none⟩) 1 1) (by simp)] at eq
      cases eq;have hown:=hjv.b.own1 HR1.out hL1 HNN.out;refine opOK_mono (opOK_append1_at (.tmp 97) (.tmp 99) 33 rfl (N + 2) 3 (.int .i64 0) 8 Tryz.underlying33 info_i5 rfl tv n1 _ rfl hown b3 0 1 _ rfl hcq rfl hl1 (by decide) (by have:=hjv.b.size; omega)) ?_
      rintro v' w' ⟨g,c,rfl,h1,h2,h3⟩;exact ⟨⟨g,c,rfl⟩,hj.step h12 (by decide) (by decide) (fun _ => ⟨d3,d1⟩) (fun e => by cases e) (hjv.app1 hL1 h2 (fun q hq => by have:=(HV1.out q hq).2; omega) h1 (h3.elim (fun e => .inl e.symm) (fun e => .inr ⟨g,rfl,by rw [e]; exact hjv.b.size⟩)) (by decide) (by decide) (by decide))⟩
     rintro _ ⟨g4,c4,rfl⟩;simp only [Act.put,List.setIfInBounds_toArray,List.set_cons_succ,List.set_cons_zero,List.nil_append,List.cons_append];refine sv_rd rfl (fun _ _ _ h => h.read (by simp) (by simp) (by simp) (by simp) (by simp) (by simp)) (fun u1 L1 vs1 hvs1 hL1 hj => ?_) ?_
     ·simp [opOK,go_sem]
     simp only [Act.put,List.setIfInBounds_toArray,List.set_cons_succ,List.set_cons_zero,List.nil_append,List.cons_append];refine sv_rd rfl (fun _ _ _ h => h.read (by simp) (by simp) (by simp) (by simp) (by simp) (by simp)) (fun u1 L1 vs1 hvs1 hL1 hj => ?_) ?_
     ·simp only [List.length_cons,List.length_nil,Nat.zero_add,Nat.reduceAdd] at hL1
      have hjv:=(hj.early (hj.not12.2.2.2.1 hL1)).2;have hbx:=hjv.b.heap HCELL.out (fun e => by have:=(HV1.out _ e).1; omega) (fun e => by have:=(HV2.out _ e).1; omega)
      have z0 : u1.cell? ⟨N + 1,1,none⟩ = some sv:=by rw [cell_of_heap hbx]; rfl
      simp [opOK,go_sem,z0]
     simp only [Act.put,List.setIfInBounds_toArray,List.set_cons_succ,List.set_cons_zero,List.nil_append,List.cons_append];refine sv_rd rfl (fun _ _ _ h => h.read (by simp) (by simp) (by simp) (by simp) (by simp) (by simp)) (fun u1 L1 vs1 hvs1 hL1 hj => ?_) ?_
     ·simp [opOK,go_sem]
     simp only [Act.put,List.setIfInBounds_toArray,List.set_cons_succ,List.set_cons_zero,List.nil_append,List.cons_append];refine sv_new ⟨.slice (some ⟨0,0,none⟩) 1 1,0,rfl⟩ rfl (fun u1 L1 vs1 hvs1 hL1 hj hd => ?_) ?_
     ·simp only [List.length_cons,List.length_nil,Nat.zero_add,Nat.reduceAdd] at hL1 ⊢
      have h12:=hj.not12.2.2.2.2.1 hL1;have hjv:=(hj.early h12).2;refine opOK_val (v:=.slice (some ⟨u1.heap.size,0,none⟩) 1 1) (w':=u1.alloc (.cells #[.map (some A)] 104)) (by simp [go_sem,execOp]) ⟨⟨_,rfl⟩, ?_⟩
      exact hj.step h12 (by decide) (by decide) (fun e => by cases e) (fun e => by cases e) (hjv.mkLit2 (aB _ _) hjv.b.size (by rw [cell_of_heap (World.alloc_heap_new _ _)]; rfl) (by decide) (by decide) (by decide))
     rintro _ ⟨b8,rfl⟩;simp only [Act.put,List.setIfInBounds_toArray,List.set_cons_succ,List.set_cons_zero,List.nil_append,List.cons_append];refine sv_new ⟨.slice (some ⟨0,0,none⟩) (n2 + 1) 0,0,0,rfl⟩ rfl (fun u1 L1 vs1 hvs1 hL1 hj hd => ?_) ?_
     ·simp only [List.length_cons,List.length_nil,Nat.zero_add,Nat.reduceAdd] at hL1 ⊢
      have h12:=hj.not12.2.2.2.2.2 hL1;have hjv:=(hj.early h12).2;have d8:=hd ⟨8,.data⟩ (by simp) rfl
      have d6:=hd ⟨6,.data⟩ (by simp) rfl
      have d4:=hd ⟨4,.chain⟩ (by simp) rfl
      obtain ⟨bq,eq,hbq,hcq⟩ := hjv.lit2 d8;rw [hvs1 8 (.slice (some ⟨b8,0,none⟩) 1 1) (by simp)] at eq
      cases eq;have hown:=hjv.b.own2 HR2.out hL1 HNN.out;refine opOK_mono (opOK_append1_at (.tmp 102) (.tmp 104) 94 rfl (N + 2) 104 (.map none) 8 Tryz.underlying94 info_st5 rfl sv n2 _ rfl hown b8 0 1 _ rfl hcq rfl hl2 (by decide) (by have:=hjv.b.size; omega)) ?_
      rintro v' w' ⟨g,c,rfl,h1,h2,h3⟩;exact ⟨⟨g,c,rfl⟩,hj.step h12 (by decide) (by decide) (fun e => by cases e) (fun _ => ⟨d8,d6⟩) (hjv.app2 d4 h2 (fun q hq => by have:=(HV2.out q hq).2; omega) HNN.out h1 rfl h3 (by decide) (by decide) (by decide))⟩
     rintro _ ⟨g9,c9,rfl⟩;simp only [Act.put,List.setIfInBounds_toArray,List.set_cons_succ,List.set_cons_zero,List.nil_append,List.cons_append];refine sv_rd rfl (fun _ _ _ h => h.read (by simp) (by simp) (by simp) (by simp) (by simp) (by simp)) (fun u1 L1 vs1 hvs1 hL1 hj => ?_) ?_
     ·simp [opOK,go_sem]
     simp only [Act.put,List.setIfInBounds_toArray,List.set_cons_succ,List.set_cons_zero,List.nil_append,List.cons_append];refine sv_rd rfl (fun _ _ _ h => h.read (by simp) (by simp) (by simp) (by simp) (by simp) (by simp)) (fun u1 L1 vs1 hvs1 hL1 hj => ?_) ?_
     ·simp [opOK,go_sem]
     simp only [Act.put,List.setIfInBounds_toArray,List.set_cons_succ,List.set_cons_zero,List.nil_append,List.cons_append];refine sv_new ⟨undef,rfl⟩ rfl (fun u1 L1 vs1 hvs1 hL1 hj hd => ?_) ?_
     ·simp only [List.length_cons,List.length_nil,Nat.zero_add,Nat.reduceAdd] at hL1 ⊢
      have hjv:=(hj.early hL1).2;have hbx:=hjv.b.heap HCELL.out (fun e => by have:=(HV1.out _ e).1; omega) (fun e => by have:=(HV2.out _ e).1; omega)
      have z0 : u1.cell? ⟨N + 1,0,none⟩ = some tv:=by rw [cell_of_heap hbx]; rfl
      have zf : u1.frozen? ⟨N + 1,0,none⟩ = false:=frozen_of_heap hbx;have hs:=hj.st12 (v:=undef) hL1 (hd ⟨4,.data⟩ (by simp) rfl) (hd ⟨9,.chain⟩ (by simp) rfl)
      rw [hvs1 4 (.slice (some ⟨g4,0,none⟩) (n1 + 1) c4) (by simp)] at hs
      exact opOK_skip (w':=u1.setCell ⟨N + 1,0,none⟩ (.slice (some ⟨g4,0,none⟩) (n1 + 1) c4)) (by simp [go_sem,execOp,z0,zf]) ⟨rfl,hs⟩
     rintro _ rfl;simp only [Act.put,List.nil_append,List.cons_append];refine sv_rd rfl (fun _ _ _ h => h.read (by simp) (by simp) (by simp) (by simp) (by simp) (by simp)) (fun u1 L1 vs1 hvs1 hL1 hj => ?_) ?_
     ·simp [opOK,go_sem]
     simp only [Act.put,List.setIfInBounds_toArray,List.set_cons_succ,List.set_cons_zero,List.nil_append,List.cons_append];refine sv_new ⟨undef,rfl⟩ rfl (fun u1 L1 vs1 hvs1 hL1 hj hd => ?_) ?_
     ·simp only [List.length_cons,List.length_nil,Nat.zero_add,Nat.reduceAdd] at hL1 ⊢
      have h12:=hd ⟨12,.chain⟩ (by simp) rfl
      obtain ⟨u0,hjv,hu⟩ := hj.mid hL1 h12;rw [hvs1 4 (.slice (some ⟨g4,0,none⟩) (n1 + 1) c4) (by simp)] at hu
      have hbx0:=hjv.b.heap HCELL.out (fun e => by have:=(HV1.out _ e).1; omega) (fun e => by have:=(HV2.out _ e).1; omega)
      have hbx : u1.heap[N + 1]? = some (.cells #[.slice (some ⟨g4,0,none⟩) (n1 + 1) c4,sv] 96 (0,0)):=by rw [hu]; exact heap_setCell_at hbx0 _
      have z0 : u1.cell? ⟨N + 1,1,none⟩ = some sv:=by rw [cell_of_heap hbx]; rfl
      have zf : u1.frozen? ⟨N + 1,1,none⟩ = false:=frozen_of_heap hbx;have hs:=hj.st14 (v:=undef) hL1 h12;rw [hvs1 9 (.slice (some ⟨g9,0,none⟩) (n2 + 1) c9) (by simp)] at hs
      exact opOK_skip (w':=u1.setCell ⟨N + 1,1,none⟩ (.slice (some ⟨g9,0,none⟩) (n2 + 1) c9)) (by simp [go_sem,execOp,z0,zf]) ⟨rfl,hs⟩
     rintro _ rfl;simp only [Act.put,List.nil_append,List.cons_append];refine sv_rd rfl (fun _ _ _ h => h.read (by simp) (by simp) (by simp) (by simp) (by simp) (by simp)) (fun u1 L1 vs1 hvs1 hL1 hj => ?_) ?_
     ·simp [opOK,go_sem]
     simp only [Act.put,List.setIfInBounds_toArray,List.set_cons_succ,List.set_cons_zero,List.nil_append,List.cons_append];refine sv_end fun vs9 wz hvs9 hj => ?_
     simp only [List.drop_succ_cons,List.drop_zero];obtain ⟨wy,hjv,hz⟩ := hj.done (by decide)
     have hv4:=hvs9 4 (.slice (some ⟨g4,0,none⟩) (n1 + 1) c4) (by simp)
     have hv9:=hvs9 9 (.slice (some ⟨g9,0,none⟩) (n2 + 1) c9) (by simp)
     have h4:=hjv.row1 (by decide)
     have h9:=hjv.row2 (by decide)
     have hbx0:=hjv.b.heap HCELL.out (fun e => by have:=(HV1.out _ e).1; omega) (fun e => by have:=(HV2.out _ e).1; omega)
     rw [hv4] at h4 hz;rw [hv9] at h9 hz;have g4b:=h4.1.lt g4 rfl;have g9b:=h9.1.lt g9 rfl;obtain ⟨S,hS⟩ : ∃ S,wz.heap.size = S:=⟨_,rfl⟩;have hyz : wy.heap.size = wz.heap.size:=by rw [hz]; simp
     have hyS : wa.heap.size ≤ wz.heap.size:=by rw [← hyz]; exact hjv.b.size
     have hk1 : ∀ q,q < wy.heap.size → q ≠ N + 1 → wz.heap[q]? = wy.heap[q]? := fun q hq hn => by
      rw [hz,Below.heap_setCell _ _ _ _ hn,Below.heap_setCell _ _ _ _ hn]
     have hCz : Chg (fun q => q = N + 1 ∨ tv.ownBlock = some q ∨ sv.ownBlock = some q) wa wz:=⟨by rw [hz]; exact hjv.b.os,by rw [hz]; exact hjv.b.tape,by rw [hz]; exact hjv.b.output,hyS,fun q hq hn =>
      (hk1 q (Nat.lt_of_lt_of_le hq hjv.b.size) (fun e => hn (.inl e))).trans (hjv.b.block q hq (.inr fun e => hn (.inr (.inl e))) (.inr fun e => hn (.inr (.inr e))))⟩
     have hzcell : wz.heap[N + 1]? = some (.cells #[.slice (some ⟨g4,0,none⟩) (n1 + 1) c4,.slice (some ⟨g9,0,none⟩) (n2 + 1) c9] 96 (0,0)):=by
      rw [hz]; exact heap_setCell_at (heap_setCell_at hbx0 _) _
     have hOb : ∀ x,(x = N + 1 ∨ tv.ownBlock = some x ∨ sv.ownBlock = some x) → N + 1 ≤ x ∧ x < Z ∧ F x:=fun x hx => by
      rcases hx with rfl | hx | hx
      ·exact ⟨by omega,hltb,HO.out.fN⟩
      ·have:=HV1.out x hx; exact ⟨by omega,this.2,HO.out.f1 x hx⟩
      ·have:=HV2.out x hx; exact ⟨by omega,this.2,HO.out.f2 x hx⟩
     have hobj : ∀ (q : Nat) (es : Array Go.MapEntry) (c : Nat),wa.heap[q]? = some (Obj.map es c) → wz.heap[q]? = wa.heap[q]? := fun q es c hq => hCz.block q (Array.getElem?_eq_some_iff.1 hq).1 fun hn => by
      rcases hn with rfl | hn | hn
      ·rw [HCELL.out] at hq; cases hq
      ·rcases HR1.out.2 with ⟨rfl,_⟩ | ⟨g,cap,cur,rfl,_,hg,_⟩
       ·cases hn
       ·cases hn; rw [hg] at hq; cases hq
      ·rcases HR2.out.2 with ⟨rfl,_⟩ | ⟨g,cap,cur,rfl,_,hg,_⟩
       ·cases hn
       ·cases hn; rw [hg] at hq; cases hq
     have hstA : HoldsM spV wz A fun k => (aggP (stepL l (saidL list which) t now) k).map smV:=by
      obtain ⟨es,c,ho⟩ := holdsM_obj HST.out; exact HST.out.keep (hobj A es c ho)
     have hnwB : HoldsM stV wz B fun y => if y ∈ firsts ((stepL l (saidL list which) t now).map Sp.aft) then some (.bool true) else none:=by
      obtain ⟨es,c,ho⟩ := holdsM_obj HNW.out; exact HNW.out.keep (hobj B es c ho)
     have hlow : ∀ q,q < N + 1 → q ≠ kb → wz.heap[q]? = wo.heap[q]? := fun q hq hk => (hCz.block q (by omega) fun hn => by have:=hOb q hn; omega).trans (HKEEP.out q (by omega) hk)
     have hAz:=hstA.lt;have hBz:=hnwB.lt;have hal:=HO.out.along.next hlt;have HOz : Hid (OSt l F0 w gb hb kb N (.slice a n cap) (saidL list which) p (t + l.players) (.slice (some ⟨g4,0,none⟩) (n1 + 1) c4) (.slice (some ⟨g9,0,none⟩) (n2 + 1) c9) B (ts ++ [t]) (ms ++ [Value.map (some A)]) (sts ++ [stepL l (saidL list which) t now]) (firsts ((stepL l (saidL list which) t now).map Sp.aft)) (fun q => (F q ∨ Z ≤ q ∧ q < r + 1) ∨ wa.heap.size ≤ q ∧ q < wz.heap.size) wz):=Lib.hid
      ⟨fun q h => .inl (.inl (HO.out.sub q h)),fun q h => by
        have h1:=HT.out.seen.lt.1;rcases h with (h | h) | h
        ·have:=HO.out.lt q h; omega
        ·omega
        ·exact h.2,
       (HT.out.game.more (fun q h => h.elim .inl fun h => .inr h.1) (fun q h => .inl h)).chg hCz (fun x hx => by have:=hOb x hx; exact ⟨by omega,by omega,by omega,.inl (.inl this.2.2)⟩),
       ⟨hCz.os.trans (HT.out.chg.os.trans HO.out.chg.os),hCz.tape.trans (HT.out.chg.tape.trans HO.out.chg.tape),hCz.output.trans (HT.out.chg.output.trans HO.out.chg.output),by rw [hN]; omega,fun q hq hn => (hlow q (by omega) hn).trans (HO.out.chg.block q hq hn)⟩,
       (hlow N (by omega) (by omega)).trans HO.out.box,hzcell,.inl (.inl HO.out.fN),
       by
        have e : (ts ++ [t]).length = n1 + 1:=by rw [List.length_append,HN1.out]; rfl
        rw [e,show ints (ts ++ [t]) = ints ts ++ [.int .i64 t] by simp [ints]]
        exact ownsN_kept h4.1 fun g hg => by cases hg; exact hk1 g4 g4b.2 (by omega),
       by
        have e : (ms ++ [Value.map (some A)]).length = n2 + 1:=by rw [List.length_append,HN2.out]; rfl
        rw [e];exact ownsN_kept h9.1 fun g hg => by cases hg; exact hk1 g9 g9b.2 (by omega),
       fun g hg => by
        cases hg;rcases h4.2 with e | ⟨g',e,hg'⟩
        ·exact .inl (.inl (HO.out.f1 g4 e.symm))
        ·cases e; exact .inr ⟨hg',by rw [← hyz]; exact g4b.2⟩,
       fun g hg => by
        cases hg;rcases h9.2 with e | ⟨g',e,hg'⟩
        ·exact .inl (.inl (HO.out.f2 g9 e.symm))
        ·cases e; exact .inr ⟨hg',by rw [← hyz]; exact g9b.2⟩,
       ((HO.out.steps.keep fun q es c hq ho => by
        have hlq : q < Z:=by rw [← hZ]; exact (Array.getElem?_eq_some_iff.1 ho).1
        have e1:=HKEEP.out q hlq (by omega)
        exact (hobj q es c (e1.trans ho)).trans e1).mono fun q h => .inl (.inl h)).snoc hstA (.inl (.inr (by omega))) (by omega) (HO.out.steps.new (by rw [hZ]; omega)),
       hnwB,by omega,.inl (.inr (by omega)),step_ok HV.out HO.out.ok,hal.resolve_right (by omega)⟩
     obtain ⟨x1,x2,x3,x4,y1,y2,y3,y4⟩ := HOz.out.game.cells;have b0 : wz.cell? ⟨N,0,none⟩ = some (.pointer (some ⟨gb,0,none⟩)):=by rw [cell_of_heap HOz.out.box]; rfl
     have hwt : IntKind.i64.wrap (t + l.players) = t + l.players:=wrap_small _ (by omega) (by omega)
     clear hj hvs9 hv4 hv9 h4 h9 hbx0 hz g4b g9b hyz hyS hk1 hCz hzcell hOb hobj hstA hnwB hlow hal hjv x1 x2 x3 y1 y2 y3 y4 HST HNW HT HCELL HR1 HR2;go_wp2;go_roundw
     case rel => exact ⟨t + l.players,_,_,B,_,_,_,_,_,rfl,rfl,by omega,by omega,HOz⟩
     case measure => simp [intOf]; omega
    ·have hs1:=HLK.out s
     rw [mem_lookM HLN.out hmem] at hs1;have hsn : s ∈ now:=by
      by_cases c : s ∈ now
      ·exact c
      ·rw [if_neg c] at hs1; cases hs1
     have hsb:=HO.out.ok.2 s hsn;have HTb:=Lib.hid (HT.out.next hgb hSb);have HRb:=Lib.hid (HR.out.grown hgb fun q hq e => by cases e; omega)
     have hLo : Hid (ks.length < L.length ∧ seenN wa r = ks.length):=Lib.hid ⟨hlen,SeenD.count HT.out.seen⟩;have HKN:=Lib.hid hkn;obtain ⟨sl,si⟩ := s;unfold stV at hnx henb;simp only at hsb;clear hmem hkn hlen hSb hgb hzb HT HR hs1 hsn b0 hbx;go_upto_region 9 with fail;clear hnx henb;obtain ⟨wc,hwc⟩ : ∃ x,wb.alloc (.cells #[.int .i64 sl,.bool si] 106) = x:=⟨_,rfl⟩;have hbc : Below wb.heap.size wb wc:=by rw [← hwc]; exact aB _ _
     have kc : wc.heap[wb.heap.size]? = some (.cells #[.int .i64 sl,.bool si] 106 (0,0)):=by rw [← hwc]; exact World.alloc_heap_new _ _
     have HTc:=Lib.hid (HTb.out.below hbc);have HRc:=Lib.hid (HRb.out.below hbc);have hrb:=HTb.out.seen.lt.1;have hsc : wc.heap.size = wb.heap.size + 1:=by rw [← hwc]; simp
     obtain ⟨C,hC⟩ : ∃ C,wb.heap.size = C:=⟨_,rfl⟩;rw [hC] at kc hrb hsc;have HKC:=Lib.hid kc;have hbx:=(HTc.out.chg.block N (by omega) (by omega)).trans HO.out.box
     have b0 : wc.cell? ⟨N,0,none⟩ = some (.pointer (some ⟨gb,0,none⟩)):=by rw [cell_of_heap hbx]; rfl
     have s0 : wc.cell? ⟨C,0,none⟩ = some (.int .i64 sl):=by rw [cell_of_heap kc]; rfl
     have s1 : wc.cell? ⟨C,1,none⟩ = some (.bool si):=by rw [cell_of_heap kc]; rfl
     have HWC:=Lib.hid hwc;clear hwc hbc kc HTb HRb hbx;rw [HWC.out];go_wp2_with fail;refine (visits_any HV.out.ok ⟨sl,si⟩ wc hsb HTc.out.game (fun q hq => by rcases hq with hq | hq; have:=HO.out.lt q hq; omega; omega)).mono ?_
     rintro e wd ⟨vb,rfl,hgd,hGd,⟨L3,hL3,hLn3,hLk3⟩,hvb⟩;obtain ⟨we,hrg3,hS3,hbe,hze⟩ := MapAt.range (P:=Tryz.prog) (T:=147) (by rfl) hL3
     obtain ⟨r3,hr3'⟩ : ∃ r,wd.heap.size = r:=⟨_,rfl⟩;rw [hr3'] at hrg3 hS3;have hcr : C + 1 ≤ r3:=by rw [← hr3',← hsc]; exact hgd.size
     have HTe : Hid (TSt l (fun q => (F q ∨ Z ≤ q ∧ q < r + 1) ∨ q = r3) wo gb hb kb A B r nb L (ks ++ [⟨sl,si⟩]) (turnF l (saidL list which t) (lastF l t) ks ⟨sl,si⟩ []) we):=Lib.hid
      ((((HTc.out.learn hgd hGd).more (F':=fun q => (F q ∨ Z ≤ q ∧ q < r + 1) ∨ q = r3) (fun q h => h.elim .inl fun h => .inr (by omega)) (fun q h => .inl h)).below hbe).congr fun k => turnF_stand k)
     have HRe:=Lib.hid ((HRc.out.grown hgd fun q hq e => by cases e; omega).below hbe)
     have HS3:=Lib.hid (SeenD.of hS3);have HKe:=Lib.hid ((hbe.block C (by omega)).trans ((hgd.block C (by omega) fun e => by cases e; omega).trans HKC.out))
     have HLN3:=Lib.hid hLn3;have HLK3 : Hid (∀ k,lookM L3 k = Option.map smV (agg (vis5 l ⟨sl,si⟩) k)):=Lib.hid hLk3;have hvbc : C + 1 ≤ vb:=by rw [← hsc]; exact hvb
     clear hgd hGd hL3 hLn3 hLk3 hS3 hbe hze b0 s0 s1 HTc HRc HKC hvb;go_wp2;clear hrg3;go_loopw [14] (fun _ wr => ∃ xs : List En,Hid (TSt l (fun q => (F q ∨ Z ≤ q ∧ q < r + 1) ∨ q = r3) wo gb hb kb A B r nb L (ks ++ [⟨sl,si⟩]) (turnF l (saidL list which t) (lastF l t) ks ⟨sl,si⟩ xs) wr) ∧ Hid (SeenD enV wr r3 vb L3 L3 xs) ∧ Hid (SlN 3 (fun q => Z ≤ q ∧ q < r ∧ q ≠ A ∧ q ≠ B) wr vr2 ((saidL list which t).map rpRow)) ∧ Hid (wr.heap[C]? = some (.cells #[.int .i64 sl,.bool si] 106 (0,0)))) (fun _ wr => L3.length - seenN wr r3)
     case atStart => exact ⟨[],HTe,HS3,HRe,HKe⟩
     case round =>
      clear HTe HS3 HRe HKe;obtain ⟨xs,HTi,HSi,HRi,HKi⟩ := hrel;obtain ⟨wi,rfl⟩ : ∃ wi : World,wi = wr:=⟨_,rfl⟩;rcases HSi.out.next (P:=Tryz.prog) (dec:=decE) decE_eq HLN3.out 0 with ⟨hnx,hperm⟩ | ⟨y,vy,wj,hmem,hyn,hlen,hnx,hSj,hgj,hzj,henj⟩
      ·have HTf : Hid (TSt l (fun q => F q ∨ Z ≤ q ∧ q < r + 1) wo gb hb kb A B r nb L (ks ++ [⟨sl,si⟩]) (turnF l (saidL list which t) (lastF l t) (ks ++ [⟨sl,si⟩]) s05 []) wi):=Lib.hid ((HTi.out.less (fun q h => .inl h) (.inl HO.out.game.fg) (.inl HO.out.game.fh) (.inl HO.out.game.fk) (.inr (by omega)) (.inr (by omega)) (.inr (by omega))).congr fun k => by
        refine turnF_next (fun y hy => ?_) s05 k
        rw [hperm.mem_iff,key_isSome,HLK3.out,Option.isSome_map];exact hy)
       have HLa : Hid (L.length - seenN wi r < L.length - seenN wa r):=Lib.hid (by
        have e1:=SeenD.count HTf.out.seen;have e2:=hLo.out;rw [e1,e2.2,List.length_append,List.length_singleton]; omega)
       clear hperm HTi HSi HKi;go_wp2;go_roundw
       case rel => exact ⟨ks ++ [⟨sl,si⟩],HTf,HRi⟩
       case measure => exact HLa.out
      ·have hy1:=HLK3.out y
       rw [mem_lookM HLN3.out hmem] at hy1;obtain ⟨⟨cn,lo,hi⟩,hx,rfl⟩ := Option.map_eq_some_iff.1 hy1.symm;have hbd:=vis_bd HV.out hsb.1 hx;have hbust : y.bust = false:=by
        obtain ⟨q,hq,e⟩ := agg_some.1 (show (agg (vis5 l ⟨sl,si⟩) y).isSome = true by rw [hx]; rfl)
        rw [← e]; exact vis_bust l hq
       have HX:=Lib.hid hx;obtain ⟨yl,yi,yb,yw⟩ := y;simp only at hbust hbd;subst hbust;unfold enV smV at hnx henj;simp only at hnx henj;have HTj:=Lib.hid (HTi.out.other hgj (by omega) (by omega) (by omega) (.inr rfl) (by rw [HZ.out]; omega))
       have HSj:=Lib.hid hSj;have HRj:=Lib.hid (HRi.out.grown hgj fun q hq e => by cases e; omega)
       have HKj:=Lib.hid ((hgj.block C (Array.getElem?_eq_some_iff.1 HKi.out).1 fun e => by cases e; omega).trans HKi.out)
       have hLi : Hid (xs.length < L3.length ∧ seenN wi r3 = xs.length):=Lib.hid ⟨hlen,SeenD.count HSi.out⟩;clear hmem hyn hlen hSj hgj hzj HTi HSi HRi HKi hx hy1;have hnd : ¬ (yw = lastF l t ∧ fitsP ⟨sl,si⟩ ⟨yl,yi,false,yw⟩ (saidL list which t) = true) → ∀ k,turnF l (saidL list which t) (lastF l t) ks ⟨sl,si⟩ xs k = turnF l (saidL list which t) (lastF l t) ks ⟨sl,si⟩ (xs ++ [⟨yl,yi,false,yw⟩]) k:=fun h k => (turnF_skip (x:=⟨yl,yi,false,yw⟩) h k).symm
       have HSK:=Lib.hid hnd;clear hnd;go_upto_region 12 with fail;clear hnx henj;obtain ⟨wk,hwk⟩ : ∃ x,(wj.alloc (.cells #[.int .i64 yl,.bool yi,.bool false,.bool yw] 150)).alloc (.cells #[.int .i64 (cn : Int),.int .i64 (lo : Int),.int .i64 (hi : Int)] 109) = x:=⟨_,rfl⟩;have hbk : Below wj.heap.size wj wk:=by rw [← hwk]; exact ((aB _ _)).alloc (by simp) _
       have k12 : wk.heap[wj.heap.size]? = some (.cells #[.int .i64 yl,.bool yi,.bool false,.bool yw] 150 (0,0)):=by
        rw [← hwk]; exact (Below.heap_alloc _ _ _ (by simp)).trans (World.alloc_heap_new _ _)
       have k13 : wk.heap[wj.heap.size + 1]? = some (.cells #[.int .i64 (cn : Int),.int .i64 (lo : Int),.int .i64 (hi : Int)] 109 (0,0)):=by
        rw [← hwk,show wj.heap.size + 1 = (wj.alloc (.cells #[.int .i64 yl,.bool yi,.bool false,.bool yw] 150)).heap.size by simp]; exact World.alloc_heap_new _ _
       have HTk:=Lib.hid (HTj.out.below hbk);have HSk:=Lib.hid (HSj.out.keep (hbk.block _ HSj.out.lt.2.1) (hbk.block _ HSj.out.lt.1));have HRk:=Lib.hid (HRj.out.below hbk);have HKk:=Lib.hid ((hbk.block C (Array.getElem?_eq_some_iff.1 HKj.out).1).trans HKj.out)
       have hrj:=HTj.out.seen.lt.1;have hCj:=(Array.getElem?_eq_some_iff.1 HKj.out).1
       have hr3j:=HSj.out.lt.1;obtain ⟨D,hD⟩ : ∃ D,wj.heap.size = D:=⟨_,rfl⟩;rw [hD] at k12 k13 hrj hCj hr3j;have g0 : wk.cell? ⟨C,0,none⟩ = some (.int .i64 sl):=by rw [cell_of_heap HKk.out]; rfl
       have g1 : wk.cell? ⟨C,1,none⟩ = some (.bool si):=by rw [cell_of_heap HKk.out]; rfl
       have f0 : wk.cell? ⟨D,0,none⟩ = some (.int .i64 yl):=by rw [cell_of_heap k12]; rfl
       have f1 : wk.cell? ⟨D,1,none⟩ = some (.bool yi):=by rw [cell_of_heap k12]; rfl
       have f2 : wk.cell? ⟨D,2,none⟩ = some (.bool false):=by rw [cell_of_heap k12]; rfl
       have f3 : wk.cell? ⟨D,3,none⟩ = some (.bool yw):=by rw [cell_of_heap k12]; rfl
       have f4 : wk.cell? ⟨D + 1,0,none⟩ = some (.int .i64 (cn : Int)):=by rw [cell_of_heap k13]; rfl
       have f5 : wk.cell? ⟨D + 1,1,none⟩ = some (.int .i64 (lo : Int)):=by rw [cell_of_heap k13]; rfl
       have f6 : wk.cell? ⟨D + 1,2,none⟩ = some (.int .i64 (hi : Int)):=by rw [cell_of_heap k13]; rfl
       have HWK:=Lib.hid hwk;clear hwk hbk k12 k13 HTj HSj HRj HKj;rw [HWK.out];have hLl : ∀ (wz : World),SeenD enV wz r3 vb L3 L3 (xs ++ [⟨yl,yi,false,yw⟩]) → L3.length - seenN wz r3 < L3.length - seenN wi r3:=fun wz h => by
        have e1:=SeenD.count h;have e2:=hLi.out;rw [e1,e2.2,List.length_append,List.length_singleton]; omega
       have HLl:=Lib.hid hLl;clear hLl;by_cases e : yw = lastF l t
       ·have e1 : (yw == lastF l t) = true:=by rw [e]; simp
        have e2 : decide (yw = lastF l t) = true:=decide_eq_true e;obtain ⟨ft,hft⟩ : ∃ b,fitsP ⟨sl,si⟩ ⟨yl,yi,false,yw⟩ (saidL list which t) = b:=⟨_,rfl⟩;have HFT:=Lib.hid hft;have HE:=Lib.hid e;clear hft e;go_wp2_with fail;refine (fits_any ⟨sl,si⟩ ⟨yl,yi,false,yw⟩ (saidL list which t) ft HFT vr2 (by simp only; omega) (by simp only; omega) wk HRk.out).mono ?_
        rintro e wl ⟨rfl,hbl⟩;have HTl:=Lib.hid (HTk.out.below hbl);have HSl:=Lib.hid (HSk.out.keep (hbl.block _ HSk.out.lt.2.1) (hbl.block _ HSk.out.lt.1));have HRl:=Lib.hid (HRk.out.below hbl);have HKl:=Lib.hid ((hbl.block C (Array.getElem?_eq_some_iff.1 HKk.out).1).trans HKk.out)
        have hbl':=hbl;have g0:=bAt hbl' g0;have g1:=bAt hbl' g1;have f0:=bAt hbl' f0;have f1:=bAt hbl' f1;have f4:=bAt hbl' f4;have f5:=bAt hbl' f5;have f6:=bAt hbl' f6;clear hbl hbl' f2 f3 HTk HSk HRk HKk;cases ft
        ·have HTn:=Lib.hid (HTl.out.congr (HSK.out fun h => by have:=h.2; rw [HFT.out] at this; cases this))
         have hmea:=HLl.out wl HSl.out;clear g0 g1 f0 f1 f4 f5 f6;go_wp2;go_roundw
         case rel => exact ⟨xs ++ [⟨yl,yi,false,yw⟩],HTn,HSl,HRl,HKl⟩
         case measure => exact hmea
        ·go_upto_region 13 with fail
         have hCA : C ≠ A:=by omega
         have hCB : C ≠ B:=by omega
         have hDA : D ≠ A:=by omega
         have hDB : D ≠ B:=by omega
         have hDA1 : D + 1 ≠ A:=by omega
         have hDB1 : D + 1 ≠ B:=by omega
         refine wp_region_seqC 11 [.map (some A),.agg #[.int .i64 sl,.bool si],.pointer (some ⟨D,0,none⟩),.agg #[.int .i64 yl,.bool yi],.agg #[.int .i64 sl,.bool si,.int .i64 yl,.bool yi],.map (some B),.pointer (some ⟨D,0,none⟩),.agg #[.int .i64 yl,.bool yi],.agg #[.int .i64 (cn : Int),.int .i64 (lo : Int),.int .i64 (hi : Int)],undef,undef]
          (JU spV stV wl A B 9 10 (fun k => (turnF l (saidL list which t) (lastF l t) ks ⟨sl,si⟩ xs k).map smV) (fun k => if k = ((⟨sl,si⟩ : Std),(⟨yl,yi⟩ : Std)) then some (smV ⟨cn,lo,hi⟩) else (turnF l (saidL list which t) (lastF l t) ks ⟨sl,si⟩ xs k).map smV)
           (aftF (turnF l (saidL list which t) (lastF l t) ks ⟨sl,si⟩ xs)) (fun y => if y = (⟨yl,yi⟩ : Std) then some (.bool true) else aftF (turnF l (saidL list which t) (lastF l t) ks ⟨sl,si⟩ xs) y)) rfl mix (by kernel_rfl) (by kernel_rfl) (JU.start hAB HTl.out.step HTl.out.nows) ?_
         simp only [List.take_succ_cons,List.take_zero]
         iterate 9
          refine sc_rd rfl (fun _ _ _ h => h.read (by decide) (by decide)) (fun u1 L1 hL1 hJ1 => ?_) ?_
          ·have g0':=hJ1.cell g0 hCA hCB
           have g1':=hJ1.cell g1 hCA hCB;have f0':=hJ1.cell f0 hDA hDB;have f1':=hJ1.cell f1 hDA hDB;have f4':=hJ1.cell f4 hDA1 hDB1;have f5':=hJ1.cell f5 hDA1 hDB1;have f6':=hJ1.cell f6 hDA1 hDB1;simp [opOK,go_sem,g0',g1',f0',f1',f4',f5',f6']
           try exact rfl
          simp only [Act.put,List.setIfInBounds_toArray,List.set_cons_succ,List.set_cons_zero]
         refine sc_is rfl (fun u1 L1 hL1 hJ1 hd => ?_) ?_
         ·have hL9 : L1 9 = false:=hL1
          have ha:=hJ1.a;rw [hL9,if_neg (by decide)] at ha
          obtain ⟨W',hrn,hm,hg⟩ := HoldsM.update sp_key (T:=104) (E:=109) (by rfl) ha ((⟨sl,si⟩ : Std),(⟨yl,yi⟩ : Std)) (smV ⟨cn,lo,hi⟩)
          unfold spV smV at hrn;simp only at hrn;exact opOK_skip (w':=W') (by simp [go_sem,execOp,hrn]) ⟨rfl,hJ1.put1 hg hm (by decide)⟩
         simp only [Act.put];refine sc_is rfl (fun u1 L1 hL1 hJ1 hd => ?_) ?_
         ·have hL10 : L1 10 = false:=hL1
          have hb:=hJ1.b;rw [hL10,if_neg (by decide)] at hb
          obtain ⟨W',hrn,hm,hg⟩ := HoldsM.update st_key (T:=98) (E:=4) (by rfl) hb (⟨yl,yi⟩ : Std) (.bool true)
          unfold stV at hrn;simp only at hrn;exact opOK_skip (w':=W') (by simp [go_sem,execOp,hrn]) ⟨rfl,hJ1.put2 hg hm (by decide)⟩
         simp only [Act.put];refine sc_end fun wm hJ => ?_
         simp only [List.drop_succ_cons,List.drop_zero];have hma:=hJ.a;have hmb:=hJ.b;rw [if_pos (by decide)] at hma hmb
         have hput:=turnF_put (l:=l) (said:=saidL list which t) (last:=lastF l t) (ks:=ks) (s:=⟨sl,si⟩) (xs:=xs) (x:=⟨yl,yi,false,yw⟩) rfl HE.out HFT.out;have HTm:=Lib.hid (HTl.out.put (g:=turnF l (saidL list which t) (lastF l t) ks ⟨sl,si⟩ (xs ++ [⟨yl,yi,false,yw⟩])) hJ.chg (hma.congr fun k => by
          rw [hput];show _ = Option.map smV (if k = ((⟨sl,si⟩ : Std),(⟨yl,yi⟩ : Std)) then _ else _)
          by_cases c : k = ((⟨sl,si⟩ : Std),(⟨yl,yi⟩ : Std))
          ·rw [if_pos c,if_pos c,HX.out]; rfl
          ·rw [if_neg c,if_neg c]) (hmb.congr fun y => (aftF_put (s:=⟨sl,si⟩) (y0:=⟨yl,yi⟩) (v:=⟨cn,lo,hi⟩) (fun k => by
           rw [hput,HX.out]; rfl) y).symm))
         have hnm : ∀ q,q < wl.heap.size → q ≠ A → q ≠ B → wm.heap[q]? = wl.heap[q]? := fun q hq h1 h2 => hJ.chg.block q hq (by rintro (e | e); exact h1 e; exact h2 e)
         have HSm:=Lib.hid (HSl.out.keep (hnm _ HSl.out.lt.2.1 (by omega) (by omega)) (hnm _ HSl.out.lt.1 (by omega) (by omega)))
         have HRm:=Lib.hid (HRl.out.chg hJ.chg fun q hq e => e.elim hq.2.2.1 hq.2.2.2)
         have HKm:=Lib.hid ((hnm C (Array.getElem?_eq_some_iff.1 HKl.out).1 hCA hCB).trans HKl.out)
         have hmea:=HLl.out wm HSm.out;clear hJ hma hmb hput hnm g0 g1 f0 f1 f4 f5 f6 HTl HSl HRl HKl;go_wp2;go_roundw
         case rel => exact ⟨xs ++ [⟨yl,yi,false,yw⟩],HTm,HSm,HRm,HKm⟩
         case measure => exact hmea
       ·have e1 : (yw == lastF l t) = false:=by simpa using e
        have e2 : decide (yw = lastF l t) = false:=decide_eq_false e;have HTn:=Lib.hid (HTk.out.congr (HSK.out fun h => e h.1))
        have hmea:=HLl.out wk HSk.out;clear g0 g1 f0 f1 f2 f4 f5 f6;go_wp2;go_roundw
        case rel => exact ⟨xs ++ [⟨yl,yi,false,yw⟩],HTn,HSk,HRk,HKk⟩
        case measure => exact hmea
  ·have hlt' : decide (t < l.turns) = false:=decide_eq_false hlt
   have z0 : wo.cell? ⟨N + 1,0,none⟩ = some tv:=by rw [cell_of_heap HO.out.cell]; rfl
   have z1 : wo.cell? ⟨N + 1,1,none⟩ = some sv:=by rw [cell_of_heap HO.out.cell]; rfl
   have zf0 : wo.frozen? ⟨N + 1,0,none⟩ = false:=frozen_of_heap HO.out.cell;have zf1 : wo.frozen? ⟨N + 1,1,none⟩ = false:=frozen_of_heap HO.out.cell;obtain ⟨ta,tc,rfl⟩ := owns_form HO.out.row1;obtain ⟨sa,sc,rfl⟩ := owns_form HO.out.row2;have hsame : (wo.setCell ⟨N + 1,0,none⟩ (.slice ta ts.length tc)).setCell ⟨N + 1,1,none⟩ (.slice sa ms.length sc) = wo:=by
    rw [setCell_self HO.out.cell rfl,setCell_self HO.out.cell rfl]
   have HSAME:=Lib.hid hsame;clear x1 x2 x3 x4 y2 y3 y4 b1 hsame;go_wp2;rw [HSAME.out];refine bodyPost_ret (v:=.tuple #[.agg #[.slice ta ts.length tc,.slice sa ms.length sc],.map (some nb)]) (by simp [results,Tryz.results25,go_sem,z0,z1]) rfl ?_
   exact ⟨t,_,_,nb,rfl,⟨ts,ms,sts,now,F,HO.out⟩,by omega⟩
end Go.Proofs.YtnbmgkmcaoafnaaGreatDoor
