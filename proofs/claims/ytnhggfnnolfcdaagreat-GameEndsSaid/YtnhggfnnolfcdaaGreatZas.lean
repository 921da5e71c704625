/- The texts IF, MA, MB, EA, SlSl, in build order. -/
import Derived.Test.YtnhggfnnolfcdaaGreatZar

/- Chapter 4: Rank's comparison, IndexFunc, Contains. -/
namespace Go.Proofs.YtnhggfnnolfcdaaGreat
open Go.RowKit Go.Oche Go.Proofs
theorem compare_law (r : Rul) (nv : Value) (hk : r.kind = 1 ∨ r.kind = 2 ∨ r.kind = 3 ∨ r.kind = 4) :
  ∃ F, Enters Tryz.prog F ∧ (∀ w, (method 271 (lawT r) (.agg #[.int .i64 r.kind, .int .i64 r.players, .int .i64 r.last, .bool r.bull, .bool r.jump, .int .i64 r.rounds, .bool r.cut, nv, .int .i64 r.lives, .bool r.own]) "oche/game.compare").run Tryz.prog w = .ok (F, .agg #[.int .i64 r.kind, .int .i64 r.players, .int .i64 r.last, .bool r.bull, .bool r.jump, .int .i64 r.rounds, .bool r.cut, nv, .int .i64 r.lives, .bool r.own]) w) ∧
   ∀ w (x y : Plr),PlOk r x → PlOk r y → Calls Tryz.prog F #[.agg #[.int .i64 r.kind,.int .i64 r.players,.int .i64 r.last,.bool r.bull,.bool r.jump,.int .i64 r.rounds,.bool r.cut,nv,.int .i64 r.lives,.bool r.own],plrV x,plrV y] w fun e w' => e = .returned (.int .i64 (cmpP r x y)) ∧ Below w.heap.size w w':=by
 have h2 : ∀ x y : Plr,r.kind ≠ 2 → cmpP r x y = cmp3 y.pts x.pts:=fun x y k => by unfold cmpP; rw [if_neg k]
 rcases hk with k | k | k | k
 ·refine ⟨99,enters_of Tryz.func99 (by kernel_rfl) rfl,fun w => ?_,fun w x y hx hy => ?_⟩
  ·rw [lawT,if_pos k]; exact m_compare1 _ w
  ·rw [h2 x y (by omega)]; exact compare1_any r nv x y hx.len hy.len w
 ·refine ⟨108,enters_of Tryz.func108 (by kernel_rfl) rfl,fun w => ?_,fun w x y hx hy => ?_⟩
  ·rw [lawT,if_neg (by omega),if_pos k]; exact m_compare2 _ w
  ·unfold cmpP; rw [if_pos k]; exact compare2_any r nv x y hx.len hy.len (fun m hm => ⟨hx.mlo m hm,hx.mhi m hm⟩) (fun m hm => ⟨hy.mlo m hm,hy.mhi m hm⟩) w
 ·refine ⟨120,enters_of Tryz.func120 (by kernel_rfl) rfl,fun w => ?_,fun w x y hx hy => ?_⟩
  ·rw [lawT,if_neg (by omega),if_neg (by omega),if_pos k]; exact m_compare3 _ w
  ·rw [h2 x y (by omega)]; exact compare3_any r nv x y hx.len hy.len w
 ·refine ⟨124,enters_of Tryz.func124 (by kernel_rfl) rfl,fun w => ?_,fun w x y hx hy => ?_⟩
  ·rw [lawT,if_neg (by omega),if_neg (by omega),if_neg (by omega)]; exact m_compare4 _ w
  ·rw [h2 x y (by omega)]; exact compare4_any r nv x y hx.len hy.len w
set_option maxRecDepth 100000 in
set_option maxHeartbeats 4000000 in
theorem rankCmp_any (t pb cap q : Nat) (r : Rul) (g : Gam) (wv nv : Value) (M : Int) (i j : Nat) (w : World) (h : TabAt w t pb r g cap wv nv) (hi : Inv r M g) (hq : w.cell? ⟨q,0,none⟩ = some (.pointer (some ⟨t,0,none⟩))) (h1 : i < g.pls.length) (h2 : j < g.pls.length) :
  Calls Tryz.prog 41 #[.int .i64 i,.int .i64 j,.pointer (some ⟨q,0,none⟩)] w fun e w' => e = .returned (.int .i64 (cmpP r (plr g i) (plr g j))) ∧ Below w.heap.size w w':=by
 obtain ⟨F,hF,hm,hcall⟩ := compare_law r nv (kind_of hi.ok)
 have hc1:=(hi.each _ (List.getElem_mem h1)).1
 have hc2:=(hi.each _ (List.getElem_mem h2)).1
 rw [plr_at h1] at hc1
 rw [plr_at h2] at hc2
 obtain ⟨x,hx⟩ : ∃ x,plr g i = x:=⟨_,rfl⟩
 obtain ⟨y,hy⟩ : ∃ y,plr g j = y:=⟨_,rfl⟩
 rw [hx] at hc1
 rw [hy] at hc2
 obtain ⟨n,hn⟩ : ∃ n,g.pls.length = n:=⟨_,rfl⟩
 obtain ⟨D,hD⟩ : ∃ D,cmpP r x y = D:=⟨_,rfl⟩
 rw [hx,hy,hD]
 have hlt1 : i < n:=by omega
 have hlt2 : j < n:=by omega
 have l5 : ∀ W,TabAt W t pb r g cap wv nv → W.cell? ⟨t,5,none⟩ = some (.iface (lawT r) (.agg #[.int .i64 r.kind,.int .i64 r.players,.int .i64 r.last,.bool r.bull,.bool r.jump,.int .i64 r.rounds,.bool r.cut,nv,.int .i64 r.lives,.bool r.own])):=fun W hW => hW.at_ (j:=5) rfl
 have l3 : ∀ W,TabAt W t pb r g cap wv nv → W.cell? ⟨t,3,none⟩ = some (.slice (some ⟨pb,0,none⟩) n cap):=fun W hW => by rw [← hn]; exact hW.at_ (j:=3) rfl
 obtain ⟨LT,hLT⟩ : ∃ LT,lawT r = LT:=⟨_,rfl⟩
 rw [hLT] at hm l5
 have HF:=Lib.hid hF
 have HM:=Lib.hid hm
 have HCALL : Hid (∀ w,Calls Tryz.prog F #[.agg #[.int .i64 r.kind,.int .i64 r.players,.int .i64 r.last,.bool r.bull,.bool r.jump,.int .i64 r.rounds,.bool r.cut,nv,.int .i64 r.lives,.bool r.own],plrV x,plrV y] w fun e w' => e = .returned (.int .i64 D) ∧ Below w.heap.size w w'):=Lib.hid fun w => by rw [← hD]; exact hcall w x y hc1 hc2
 have HT:=Lib.hid h
 have HL5:=Lib.hid l5
 have HL3:=Lib.hid l3
 have HX : Hid (∃ a : i < g.pls.length,g.pls[i] = x):=Lib.hid ⟨h1,by rw [plr_at h1]; exact hx⟩
 have HY : Hid (∃ a : j < g.pls.length,g.pls[j] = y):=Lib.hid ⟨h2,by rw [plr_at h2]; exact hy⟩
 clear hF hm hcall h l5 l3 hx hy hi hc1 hc2 hn hD hLT h1 h2
 go_enter Tryz.func41,Tryz.ntmps41
 go_wp2_with fail
 refine wp_region_seq 24 [.is (.pointer (some ⟨t,0,none⟩)),.is (.pointer (some ⟨t,0,none⟩)),.is (.pointer (some ⟨t,5,none⟩)),.is (.iface LT (.agg #[.int .i64 r.kind,.int .i64 r.players,.int .i64 r.last,.bool r.bull,.bool r.jump,.int .i64 r.rounds,.bool r.cut,nv,.int .i64 r.lives,.bool r.own])),.is (.pointer (some ⟨t,0,none⟩)),.is (.pointer (some ⟨t,0,none⟩)),.is (.pointer (some ⟨t,0,none⟩)),.is (.pointer (some ⟨t,3,none⟩)),.is (.slice (some ⟨pb,0,none⟩) n cap),.is (.int .i64 i),.is (.pointer (some ⟨pb,i * 9,none⟩)),.is (plrV x),.is (.pointer (some ⟨t,0,none⟩)),.is (.pointer (some ⟨t,0,none⟩)),.is (.pointer (some ⟨t,0,none⟩)),.is (.pointer (some ⟨t,3,none⟩)),.is (.slice (some ⟨pb,0,none⟩) n cap),.is (.int .i64 j),.is (.pointer (some ⟨pb,j * 9,none⟩)),.is (plrV y),.is (.iface LT (.agg #[.int .i64 r.kind,.int .i64 r.players,.int .i64 r.last,.bool r.bull,.bool r.jump,.int .i64 r.rounds,.bool r.cut,nv,.int .i64 r.lives,.bool r.own])),.is (.iface LT (.agg #[.int .i64 r.kind,.int .i64 r.players,.int .i64 r.last,.bool r.bull,.bool r.jump,.int .i64 r.rounds,.bool r.cut,nv,.int .i64 r.lives,.bool r.own])),.is (.int .i64 D),.is (.int .i64 D)] rfl mix (by kernel_rfl) (by kernel_rfl) ?seqm
 case seqm =>
  simp only [List.take_succ_cons,List.take_zero]
  iterate 11
   refine seq_on (by rfl) (fun w3 hb3 _ => ?_) ?_
   ·have ht:=HT.out.below hb3
    have c5:=HL5.out w3 ht
    have c3:=HL3.out w3 ht
    have cq:=bAt hb3 hq
    simp [opOK,go_sem,c5,c3,cq,hlt1,Below.refl]
    try exact rfl
   simp only [Act.put,List.setIfInBounds_toArray,List.set_cons_succ,List.set_cons_zero]
  refine seq_on (by rfl) (fun w3 hb3 hH => ?_) ?_
  ·have ht:=HT.out.below hb3
   have c5:=HL5.out w3 ht
   have c3:=HL3.out w3 ht
   have cq:=bAt hb3 hq
   obtain ⟨q1,e1⟩ := HX.out
   rw [← e1]
   exact opOK_load_plr (.tmp 16) rfl pb i g.pls q1 (by simp [Act.eval]) ht.pls ⟨rfl,Below.refl _ _⟩
  simp only [Act.put,List.setIfInBounds_toArray,List.set_cons_succ,List.set_cons_zero]
  iterate 7
   refine seq_on (by rfl) (fun w3 hb3 _ => ?_) ?_
   ·have ht:=HT.out.below hb3
    have c5:=HL5.out w3 ht
    have c3:=HL3.out w3 ht
    have cq:=bAt hb3 hq
    simp [opOK,go_sem,c3,cq,hlt2,Below.refl]
    try exact rfl
   simp only [Act.put,List.setIfInBounds_toArray,List.set_cons_succ,List.set_cons_zero]
  refine seq_on (by rfl) (fun w3 hb3 hH => ?_) ?_
  ·have ht:=HT.out.below hb3
   have c5:=HL5.out w3 ht
   have c3:=HL3.out w3 ht
   have cq:=bAt hb3 hq
   obtain ⟨q1,e1⟩ := HY.out
   rw [← e1]
   exact opOK_load_plr (.tmp 24) rfl pb j g.pls q1 (by simp [Act.eval]) ht.pls ⟨rfl,Below.refl _ _⟩
  simp only [Act.put,List.setIfInBounds_toArray,List.set_cons_succ,List.set_cons_zero]
  iterate 2
   refine seq_on (by rfl) (fun w3 hb3 _ => ?_) ?_
   ·have ht:=HT.out.below hb3
    have c5:=HL5.out w3 ht
    have c3:=HL3.out w3 ht
    have cq:=bAt hb3 hq
    simp [opOK,go_sem,Below.refl]
    try exact rfl
   simp only [Act.put,List.setIfInBounds_toArray,List.set_cons_succ,List.set_cons_zero]
  refine seq_on (by rfl) (fun w3 hb3 hH => ?_) ?_
  ·have ht:=HT.out.below hb3
   have c5:=HL5.out w3 ht
   have c3:=HL3.out w3 ht
   have cq:=bAt hb3 hq
   have hm:=HM.out
   have hen:=HF.out
   unfold Enters at hen
   refine opOK_call (f:=F) (args:=#[.agg #[.int .i64 r.kind,.int .i64 r.players,.int .i64 r.last,.bool r.bull,.bool r.jump,.int .i64 r.rounds,.bool r.cut,nv,.int .i64 r.lives,.bool r.own],plrV x,plrV y]) (by simp [go_sem,hm,hen]) ?_
   exact (HCALL.out w3).mono fun e W' ⟨he,hb⟩ => ⟨_,he,rfl,hb⟩
  simp only [Act.put,List.setIfInBounds_toArray,List.set_cons_succ,List.set_cons_zero]
  refine seq_on (by rfl) (fun w3 hb3 _ => ?_) ?_
  ·have ht:=HT.out.below hb3
   have c5:=HL5.out w3 ht
   have c3:=HL3.out w3 ht
   have cq:=bAt hb3 hq
   simp [opOK,go_sem,Below.refl]
   try exact rfl
  simp only [Act.put,List.setIfInBounds_toArray,List.set_cons_succ,List.set_cons_zero]
  refine seq_end fun w3 hb3 _ => ?_
  simp only [List.drop_succ_cons,List.drop_zero]
  have HB4:=Lib.hid hb3
  clear hb3
  go_wp2
  go_ret
  exact ⟨rfl,HB4.out⟩
set_option maxRecDepth 100000 in
set_option maxHeartbeats 4000000 in
theorem rankIdx_any (t pb cap q qc qr b o rl rc : Nat) (r : Rul) (g : Gam) (wv nv : Value) (M : Int) (i j : Nat) (w : World) (h : TabAt w t pb r g cap wv nv) (hi : Inv r M g) (hq : w.cell? ⟨q,0,none⟩ = some (.pointer (some ⟨t,0,none⟩)))
  (hqc : w.cell? ⟨qc,0,none⟩ = some (.func (.func 41) #[] #[.pointer (some ⟨q,0,none⟩)])) (hqr : w.cell? ⟨qr,0,none⟩ = some (.slice (some ⟨b,o,none⟩) rl rc)) (hr0 : w.cell? ⟨b,o,none⟩ = some (.int .i64 i)) (hrl : 0 < rl) (h1 : i < g.pls.length) (h2 : j < g.pls.length) :
  Calls Tryz.prog 44 #[.int .i64 j,.pointer (some ⟨qc,0,none⟩),.pointer (some ⟨qr,0,none⟩)] w fun e w' => e = .returned (.bool (decide (cmpP r (plr g i) (plr g j) < 0))) ∧ Below w.heap.size w w':=by
 obtain ⟨D,hD⟩ : ∃ D,cmpP r (plr g i) (plr g j) = D:=⟨_,rfl⟩
 obtain ⟨bb,hbb⟩ : ∃ bb,decide (D < 0) = bb:=⟨_,rfl⟩
 have HCALL : Hid (∀ w',Below w.heap.size w w' → Calls Tryz.prog 41 #[.int .i64 i,.int .i64 j,.pointer (some ⟨q,0,none⟩)] w' fun e w'' => e = .returned (.int .i64 D) ∧ Below w'.heap.size w' w''):=Lib.hid fun w' hb => by
  rw [← hD]; exact rankCmp_any t pb cap q r g wv nv M i j w' (h.below hb) hi (bAt hb hq) h1 h2
 rw [hD,hbb]
 have HBB:=Lib.hid hbb
 clear h hi hD hbb hq
 go_enter Tryz.func44,Tryz.ntmps44
 go_wp2_with fail
 refine wp_region_seq 8 [.is (.func (.func 41) #[] #[.pointer (some ⟨q,0,none⟩)]),.is (.slice (some ⟨b,o,none⟩) rl rc),.is (.pointer (some ⟨b,o,none⟩)),.is (.int .i64 i),.is (.int .i64 j),.is (.int .i64 D),.is (.bool bb),.is (.bool bb)] rfl mix (by kernel_rfl) (by kernel_rfl) ?seqm
 case seqm =>
  simp only [List.take_succ_cons,List.take_zero]
  iterate 5
   refine seq_on (by rfl) (fun w3 hb3 _ => ?_) ?_
   ·have cc:=bAt hb3 hqc
    have cr:=bAt hb3 hqr
    have c0:=bAt hb3 hr0
    simp [opOK,go_sem,cc,cr,c0,hrl,Below.refl]
    try exact rfl
   simp only [Act.put,List.setIfInBounds_toArray,List.set_cons_succ,List.set_cons_zero]
  refine seq_on (by rfl) (fun w3 hb3 hH => ?_) ?_
  ·have cc:=bAt hb3 hqc
   have cr:=bAt hb3 hqr
   have c0:=bAt hb3 hr0
   refine opOK_call (f:=41) (args:=#[.int .i64 i,.int .i64 j,.pointer (some ⟨q,0,none⟩)]) (by simp [go_sem]) ?_
   exact (HCALL.out w3 hb3).mono fun e W' ⟨he,hb⟩ => ⟨_,he,rfl,hb⟩
  simp only [Act.put,List.setIfInBounds_toArray,List.set_cons_succ,List.set_cons_zero]
  iterate 2
   refine seq_on (by rfl) (fun w3 hb3 _ => ?_) ?_
   ·have cc:=bAt hb3 hqc
    have cr:=bAt hb3 hqr
    have c0:=bAt hb3 hr0
    simp [opOK,go_sem,HBB.out,Below.refl]
    try exact rfl
   simp only [Act.put,List.setIfInBounds_toArray,List.set_cons_succ,List.set_cons_zero]
  refine seq_end fun w3 hb3 _ => ?_
  simp only [List.drop_succ_cons,List.drop_zero]
  have HB4:=Lib.hid hb3
  clear hb3
  go_wp2
  go_ret
  exact ⟨rfl,HB4.out⟩
structure TestFn (F : Nat) (caps : Array Value) (wB : World) (D : Int → Prop) (p : Int → Bool) : Prop where
 enters : Enters Tryz.prog F
 call : ∀ w x,Below wB.heap.size wB w → D x → Calls Tryz.prog F (#[.int .i64 x] ++ caps) w fun e w' => e = .returned (.bool (p x)) ∧ Below w.heap.size w w'
set_option maxRecDepth 100000 in
set_option maxHeartbeats 4000000 in
theorem idxFn_any {S : Nat → Prop} {F : Nat} {caps : Array Value} {wB : World} {D : Int → Prop} {p : Int → Bool} (hp : TestFn F caps wB D p) (a : Option Addr) (n c : Nat) (xs : List Int) (hn : xs.length = n) (w : World) (hbw : Below wB.heap.size wB w) (hs : Sl S w (.slice a n c) (ints xs)) (hD : ∀ x ∈ xs,D x) :
  Calls Tryz.prog 43 #[.slice a n c,.func (.func F) #[] caps] w fun e w' => e = .returned (.int .i64 (if xs.findIdx p < n then (xs.findIdx p : Int) else -1)) ∧ Below w.heap.size w w':=by
 have hl:=hs.len
 rw [ints_length,hn] at hl
 unfold maxLen at hl
 obtain ⟨er,her⟩ : ∃ er,(if xs.findIdx p < n then (xs.findIdx p : Int) else -1) = er:=⟨_,rfl⟩
 rw [her]
 have HER:=Lib.hid her
 have HP:=Lib.hid hp
 have HN:=Lib.hid hn
 have HBW:=Lib.hid hbw
 have HS:=Lib.hid hs
 have HD:=Lib.hid hD
 clear hp hn hbw hs hD her
 go_enter Tryz.func43,Tryz.ntmps43
 go_wp2_with fail
 go_loopw [5,8] (fun _ iv wr => ∃ k : Nat,k ≤ n ∧ iv = .int .i64 k ∧ Hid (∀ i (h : i < xs.length),i < k → p xs[i] = false) ∧ Hid (Below w.heap.size w wr)) (fun _ iv _ => n - (intOf iv).toNat)
 case atStart => exact ⟨0,by omega,by go_num,Lib.hid (fun i _ h => by omega),Lib.hid (Below.refl _ _)⟩
 case round =>
  obtain ⟨k,hk,rfl,HK,HB⟩ := hrel
  obtain ⟨wo,rfl⟩ : ∃ wo : World,wo = wr:=⟨_,rfl⟩
  by_cases hlt : k < n
  ·have hx1 : k < xs.length:=by rw [HN.out]; exact hlt
   obtain ⟨b1,o1,hal1,_,hc1⟩ := (HS.out.below HB.out).cell hx1
   cases hal1
   obtain ⟨x,hX1⟩ : ∃ x,xs[k] = x:=⟨_,rfl⟩
   rw [hX1] at hc1
   have HX1 : Hid (∃ h : k < xs.length,xs[k] = x):=Lib.hid ⟨hx1,hX1⟩
   have HDX : Hid (D x):=Lib.hid (HD.out x (by rw [← hX1]; exact List.getElem_mem hx1))
   obtain ⟨pb,hpb⟩ : ∃ pb,p x = pb:=⟨_,rfl⟩
   have HPB:=Lib.hid hpb
   have hent:=HP.out.enters
   unfold Enters at hent
   clear hX1 hx1 hpb
   go_wp2_with fail
   clear hent
   refine (HP.out.call wo x (HBW.out.trans (HB.out.mono HBW.out.size)) HDX.out).mono ?_
   rintro e w1 ⟨rfl,hb1⟩
   rw [HPB.out]
   have HB1:=Lib.hid (HB.out.trans (hb1.mono HB.out.size))
   clear hb1 hc1
   cases pb
   ·have HK2 : Hid (∀ i (h : i < xs.length),i < k + 1 → p xs[i] = false):=Lib.hid fun i h hi => by
     by_cases e : i = k
     ·subst e; obtain ⟨_,e2⟩ := HX1.out; rw [e2]; exact HPB.out
     ·exact HK.out i h (by omega)
    go_wp2
    go_roundw
    case rel => exact ⟨k + 1,by omega,by go_num,HK2,HB1⟩
    case measure => simp [intOf]; omega
   ·have HF : Hid (er = k):=Lib.hid (by
     obtain ⟨h1,e2⟩ := HX1.out
     have hf : xs.findIdx p = k:=(List.findIdx_eq h1).2 ⟨by rw [e2]; exact HPB.out,fun j hj => HK.out j (by omega) hj⟩
     rw [← HER.out,hf,if_pos hlt])
    go_wp2
    go_ret
    exact ⟨ret_int HF.out.symm,HB1.out⟩
  ·obtain rfl : k = n:=by omega
   have HF : Hid (er = -1):=Lib.hid (by
    rw [← HER.out,if_neg]
    intro h
    have h1 : xs.findIdx p < xs.length:=by rw [HN.out]; exact h
    have:=List.findIdx_getElem (w:=h1)
    rw [HK.out _ h1 h] at this; cases this)
   go_wp2
   go_ret
   exact ⟨ret_int HF.out.symm,HB.out⟩
theorem contains_any {S : Nat → Prop} (xs : List Int) (n : Int) (v : Value) (w : World) (hs : Sl S w v (ints xs)) :
  Calls Tryz.prog 39 #[v,.int .i64 n] w fun e w' => e = .returned (.bool (xs.contains n)) ∧ w = w':=by
 obtain ⟨er,her⟩ : ∃ er,xs.contains n = er:=⟨_,rfl⟩
 have hid : decide (0 ≤ idxI xs n) = er:=by
  rw [← her]
  unfold idxI
  cases h : xs.findIdx? (· == n) with
  | none =>
   have hn:=List.findIdx?_eq_none_iff.1 h
   have hc : xs.contains n = false:=by
    cases hc : xs.contains n
    ·rfl
    ·have:=hn n (by simpa using hc); simp at this
   rw [hc]; rfl
  | some i =>
   obtain ⟨hi,hp, -⟩ := List.findIdx?_eq_some_iff_getElem.1 h
   have hc : xs.contains n = true:=by
    have : xs[i] = n:=by simpa using hp
    rw [← this]; simp
   rw [hc]; exact decide_eq_true (by dsimp only; omega)
 rw [her]
 have HS:=Lib.hid hs
 have HE:=Lib.hid hid
 clear hs her hid
 go_enter Tryz.func39,Tryz.ntmps39
 go_wp2_with fail
 refine (index_any xs n v w HS.out).mono ?_
 rintro e w1 ⟨rfl,rfl⟩
 obtain ⟨z,hz⟩ : ∃ z,idxI xs n = z:=⟨_,rfl⟩
 have hE:=HE.out
 rw [hz] at hE ⊢
 go_wp2
 go_ret
 exact ⟨by first | rfl | (rw [hE]),rfl⟩
end Go.Proofs.YtnhggfnnolfcdaaGreat

/- Chapter 4, the plain laws' games: rules out of bytes, darts that mostly do something, the games one after another. -/
namespace Go.Proofs.YtnhggfnnolfcdaaGreat
open Go.RowKit Go.Oche Go.Proofs

def rulS (k p l f : Nat) : Rul :=
 if k % 4 = 0 then ⟨1,2 + (p % 3 : Nat),1 + (l % 20 : Nat),f % 2 == 1,f / 2 % 2 == 1,0,false,[],0,false⟩
 else if k % 4 = 1 then ⟨2,2 + (p % 3 : Nat),0,false,false,1 + (l % 20 : Nat),f % 2 == 1,[],0,false⟩
 else if k % 4 = 2 then ⟨3,2 + (p % 3 : Nat),0,false,false,1 + (l % 20 : Nat),false,[],0,false⟩
 else ⟨4,2 + (p % 3 : Nat),0,false,false,0,false,(List.range (2 + p % 3)).map (fun i => ((1 + (f / 2 + 3 * i) % 20 : Nat) : Int)),1 + (l % 9 : Nat),f % 2 == 1⟩
theorem isIn_of {n a b : Int} (h : a ≤ n ∧ n ≤ b) : isIn n a b = true:=by unfold isIn; simp [h]
theorem rulS_check (k p l f : Nat) : checkR (rulS k p l f) = 0:=by
 have h20:=Nat.mod_lt l (show 20 > 0 by decide)
 have h9:=Nat.mod_lt l (show 9 > 0 by decide)
 have h3:=Nat.mod_lt p (show 3 > 0 by decide)
 unfold checkR rulS
 by_cases k0 : k % 4 = 0
 ·simp only [k0,if_true]
  unfold okRul
  simp [isIn]; omega
 by_cases k1 : k % 4 = 1
 ·simp [k1]
  unfold okRul
  simp [isIn]; omega
 by_cases k2 : k % 4 = 2
 ·simp [k2]
  unfold okRul
  simp [isIn]; omega
 simp only [k0,k1,k2,if_false]
 rw [if_neg (by simp; omega)]
 unfold okRul
 have hnd : ((List.range (2 + p % 3)).map (fun i => ((1 + (f / 2 + 3 * i) % 20 : Nat) : Int))).Nodup:=by
  rw [List.nodup_iff_pairwise_ne,List.pairwise_map]
  refine List.Pairwise.imp_of_mem ?_ List.pairwise_lt_range
  intro a b ha hb hab e
  rw [List.mem_range] at ha hb
  omega
 have hall : ((List.range (2 + p % 3)).map (fun i => ((1 + (f / 2 + 3 * i) % 20 : Nat) : Int))).all (fun n => isIn n 1 20) = true:=by
  rw [List.all_eq_true]
  intro x hx
  obtain ⟨i,_,rfl⟩ := List.mem_map.1 hx
  exact isIn_of (by omega)
 simp only [hnd,hall]
 simp [isIn]; omega
def dartS (r : Rul) (g : Gam) (y : Nat) : Int :=
 if 240 ≤ y then ((400 + y % 20 + 1 : Nat) : Int)
 else if 200 ≤ y then ([0,125,225,301] : List Int).getD (y % 4) 0
 else if r.kind = 1 then (if 20 < (plr g g.player).pts + 1 ∨ r.last < (plr g g.player).pts + 1 then 225 else 100 * (1 + (y % 3 : Nat)) + ((plr g g.player).pts + 1))
 else if r.kind = 2 then (if 15 + y / 3 % 7 = 21 then 225 else ((100 * (1 + y % 3) + (15 + y / 3 % 7) : Nat) : Int))
 else if r.kind = 3 then ((100 * (1 + y % 3) + min 20 (g.round + 1) : Nat) : Int)
 else 200 + r.nums.getD (y / 3 % r.nums.length) 0
theorem okBed_of {b : Int} {f n : Int} (h : b = 100 * f + n) (hf : 1 ≤ f ∧ f ≤ 4) (hn : 1 ≤ n ∧ n ≤ 20) : okBed b = true:=by
 have e1:=Int.tmod_add_mul_tdiv b 100
 have e2:=Int.tmod_lt_of_pos b (show (0 : Int) < 100 by decide)
 have e3:=Int.tmod_nonneg (a:=b) 100 (by omega)
 unfold okBed
 rw [isIn_of (show 1 ≤ b.tdiv 100 ∧ b.tdiv 100 ≤ 4 by omega),isIn_of (show 1 ≤ b.tmod 100 ∧ b.tmod 100 ≤ 20 by omega)]
 simp
theorem dartS_ok {r : Rul} {M : Int} {g : Gam} (h : Live r M g) (y : Nat) : okBed (dartS r g y) = true:=by
 unfold dartS
 split
 ·exact okBed_of (f:=4) (n:=(y % 20 + 1 : Nat)) (by omega) (by omega) (by omega)
 split
 ·have : y % 4 < 4:=Nat.mod_lt _ (by decide)
  rcases (show y % 4 = 0 ∨ y % 4 = 1 ∨ y % 4 = 2 ∨ y % 4 = 3 by omega) with e | e | e | e <;> rw [e] <;> decide
 have h3 : y % 3 < 3:=Nat.mod_lt _ (by decide)
 have hp:=(h.each _ (plr_mem h.pl)).1.nn
 split
 ·split
  ·decide
  ·exact okBed_of (f:=(1 + y % 3 : Nat)) rfl (by omega) (by omega)
 split
 ·split
  ·decide
  ·exact okBed_of (f:=(1 + y % 3 : Nat)) (n:=(15 + y / 3 % 7 : Nat)) (by omega) (by omega) (by omega)
 split
 ·exact okBed_of (f:=(1 + y % 3 : Nat)) (n:=(min 20 (g.round + 1) : Nat)) (by omega) (by omega) (by omega)
 have k4 : r.kind = 4:=by rcases kind_of h.ok with k | k | k | k <;> first | exact k | contradiction
 have h4:=ok4 h.ok k4
 have hl : 0 < r.nums.length:=by omega
 have hi : y / 3 % r.nums.length < r.nums.length:=Nat.mod_lt _ hl
 have hm:=h4.1 _ (List.getElem_mem hi)
 rw [getD_of hi]
 exact okBed_of (f:=2) rfl (by omega) hm
def stepS (r : Rul) (g : Gam) (y : Nat) : Gam:=throwG r g ((dartS r g y).tdiv 100) ((dartS r g y).tmod 100)
def playS (r : Rul) : Gam → List Nat → List (Int × Gam)
 | _,[] => []
 | g,y :: l => if g.win = [] then (dartS r g y,stepS r g y) :: playS r (stepS r g y) l else []
def gamesS (r : Rul) (ys : List Nat) : List Gam:=initG r :: (playS r (initG r) ys).map (·.2)
def dartsS (r : Rul) (ys : List Nat) : List Int:=(playS r (initG r) ys).map (·.1)
def lastS (r : Rul) : Gam → List Nat → Gam
 | g,[] => g
 | g,y :: l => if g.win = [] then lastS r (stepS r g y) l else g
theorem playS_snoc (r : Rul) (y : Nat) : ∀ (l : List Nat) (g : Gam),playS r g (l ++ [y]) = playS r g l ++ (if (lastS r g l).win = [] then [(dartS r (lastS r g l) y,stepS r (lastS r g l) y)] else [])
 | [],g => by by_cases hw : g.win = [] <;> simp [playS,lastS,hw]
 | z :: l,g => by
  rw [List.cons_append,playS,playS,lastS]
  by_cases hw : g.win = []
  ·simp only [hw,if_true]; rw [playS_snoc r y l]; rfl
  ·simp only [hw,if_false]; rfl
theorem lastS_snoc (r : Rul) (y : Nat) : ∀ (l : List Nat) (g : Gam),lastS r g (l ++ [y]) = if (lastS r g l).win = [] then stepS r (lastS r g l) y else lastS r g l
 | [],g => by by_cases hw : g.win = [] <;> simp [lastS,hw]
 | z :: l,g => by
  rw [List.cons_append,lastS,lastS]
  by_cases hw : g.win = []
  ·simp only [hw,if_true]; rw [lastS_snoc r y l]
  ·simp only [hw,if_false]
theorem playS_play {r : Rul} : ∀ (l : List Nat) (k : Nat) (g : Gam),Good r k g → playF r g k ((playS r g l).map (·.1)) = (some (lastS r g l),0,0) ∧ Good r (k + (playS r g l).length) (lastS r g l)
 | [],k,g,h => ⟨rfl,h⟩
 | y :: l,k,g,h => by
  rw [playS,lastS]
  by_cases hw : g.win = []
  ·rw [if_pos hw,if_pos hw]
   have ho:=dartS_ok (h.live hw) y
   have:=playS_play l (k + 1) _ (h.throw hw (okBed_hit ho))
   rw [List.map_cons,playF_on ho hw,List.length_cons,show k + ((playS r (stepS r g y) l).length + 1) = k + 1 + (playS r (stepS r g y) l).length by omega]
   exact this
  ·rw [if_neg hw,if_neg hw]; exact ⟨rfl,h⟩
theorem playG_of {r : Rul} {l : List Int} (hc : checkR r = 0) (hl : l.length ≤ 600) : playG r l = playF r (initG r) 0 l:=by
 unfold playG; rw [if_neg (by simp [hc]),if_neg (by omega)]
theorem playS_len (r : Rul) : ∀ (l : List Nat) (g : Gam),(playS r g l).length ≤ l.length
 | [],_ => by simp [playS]
 | y :: l,g => by
  rw [playS]; split
  ·have:=playS_len r l (stepS r g y); simpa using this
  ·simp
theorem playS_G {r : Rul} (hc : checkR r = 0) {l : List Nat} (hl : l.length ≤ 600) : playG r (dartsS r l) = (some (lastS r (initG r) l),0,0) ∧ Good r (dartsS r l).length (lastS r (initG r) l):=by
 have:=playS_play l 0 (initG r) (Good.init hc)
 have h:=playS_len r l (initG r)
 unfold dartsS
 rw [playG_of hc (by simp; omega)]
 simpa using this
end Go.Proofs.YtnhggfnnolfcdaaGreat

/- Chapter 4, in plain Lean: dart by dart, in turn. -/
namespace Go.Proofs.YtnhggfnnolfcdaaGreat
open Go.RowKit Go.Oche Go.Proofs

structure StepOk (r : Rul) (me : Prop) (p q : Plr) : Prop where
 lives : r.kind = 4 → q.pts ≤ p.pts ∧ p.pts - 1 ≤ q.pts ∧ 0 ≤ q.pts
 more : r.kind ≠ 4 → p.pts ≤ q.pts
 kill : p.kl = true → q.kl = true
 other : ¬ me → q.mks = p.mks ∧ q.kl = p.kl ∧ (p.pts < q.pts → r.cut = true)
 marks : ∀ n,n < 7 → p.mks.getD n 0 ≤ q.mks.getD n 0 ∧ q.mks.getD n 0 ≤ 3
theorem StepOk.same {r : Rul} {me : Prop} {p : Plr} (h : PlOk r p) : StepOk r me p p :=
 ⟨fun _ => ⟨by omega,by omega,h.nn⟩,fun _ => by omega,id,fun _ => ⟨rfl,rfl,fun e => by omega⟩,fun n _ => ⟨by omega,(mark_bd h).2⟩⟩
theorem round_step {r : Rul} {M : Int} {g : Gam} (h : Run r M g) (k1 : r.kind = 1) {f n : Int} (hf : 0 ≤ f ∧ f ≤ 4) {k : Nat} (hk : k < g.pls.length) : StepOk r (k = g.player) (plr g k) (plr (dartRound r g f n).1 k):=by
 have hP:=(h.each _ (plr_mem hk)).1
 have hM:=(h.each _ (plr_mem h.pl)).1
 have hl:=h.less k1 _ (plr_mem h.pl)
 unfold dartRound
 by_cases ht : n = if decide (r.last < (plr g g.player).pts + 1) = true then 25 else (plr g g.player).pts + 1
 ·dsimp only
  rw [if_pos ht]
  dsimp only
  rw [plr_setP h.pl]
  by_cases e : k = g.player
  ·subst e
   rw [if_pos rfl]
   obtain ⟨q,hq⟩ : ∃ q,min (if decide (r.last < (plr g g.player).pts + 1) = true then targetsR r else r.last) ((plr g g.player).pts + if r.jump = true then f else 1) = q:=⟨_,rfl⟩
   have hle : (plr g g.player).pts ≤ q:=by
    rw [← hq]
    have h1 : 0 ≤ (if r.jump = true then f else 1):=by split <;> omega
    have h2 : (plr g g.player).pts ≤ (if decide (r.last < (plr g g.player).pts + 1) = true then targetsR r else r.last):=by
     split
     ·omega
     ·rename_i h3; simp at h3; omega
    omega
   rw [hq]
   exact ⟨fun e => by omega,fun _ => hle,id,fun e => (e rfl).elim,fun n _ => ⟨by dsimp only; omega,(mark_bd hP).2⟩⟩
  ·rw [if_neg e]; exact StepOk.same hP
 ·dsimp only
  rw [if_neg ht]; exact StepOk.same hP
theorem getD_set_int {l : List Int} {i j : Nat} {v : Int} (h : i < l.length) : (l.set i v).getD j 0 = if j = i then v else l.getD j 0:=by
 simp only [List.getD_eq_getElem?_getD,List.getElem?_set]
 by_cases e : j = i
 ·subst e; simp [h]
 ·rw [if_neg (by omega),if_neg e]
theorem cric_step {r : Rul} {M : Int} {g : Gam} (h : Run r M g) (k2 : r.kind = 2) {f n : Int} (hf : 0 ≤ f ∧ f ≤ 4) {k : Nat} (hk : k < g.pls.length) : StepOk r (k = g.player) (plr g k) (plr (dartCricket r g f n).1 k):=by
 have hP:=(h.each _ (plr_mem hk)).1
 have hM:=(h.each _ (plr_mem h.pl)).1
 unfold dartCricket
 dsimp only
 cases hi : placeN n with
 | none =>
  have : cric r g f n = g:=by unfold cric; rw [hi]
  rw [this]; exact StepOk.same hP
 | some i =>
  have hpts:=(cric_pts (r:=r) (f:=f) (n:=n) h.pl hf (mark_bd hM) hk).1
  have hlt:=placeN_lt hi
  rw [cric_plr h.pl hi hk] at hpts ⊢
  dsimp only at hpts
  have hm:=mark_bd hM (i:=i)
  generalize hpt : n * (f - min f (3 - (plr g g.player).mks.getD i 0)) = pt at hpts ⊢
  refine ⟨fun e => by omega,fun _ => hpts,id,fun e => ⟨by dsimp only; rw [if_neg e],rfl,fun hlt => ?_⟩,fun j hj => ?_⟩
  ·dsimp only at hlt
   cases hc : r.cut
   ·unfold extraAt at hlt
    rw [hc] at hlt
    simp only [Bool.false_eq_true,if_false] at hlt
    rw [if_neg (by rintro ⟨e2, -⟩; exact e e2)] at hlt; omega
   ·rfl
  ·dsimp only
   by_cases e : k = g.player
   ·subst e
    rw [if_pos rfl,getD_set_int (by rw [hM.len]; exact hlt)]
    split
    ·subst_vars; omega
    ·exact ⟨by omega,(mark_bd hM).2⟩
   ·rw [if_neg e]; exact ⟨by omega,(mark_bd hP).2⟩
theorem shan_step {r : Rul} {M : Int} {g : Gam} (h : Run r M g) (k3 : r.kind = 3) {f n : Int} (hf : 0 ≤ f ∧ f ≤ 4) (hn : 0 ≤ n ∧ n ≤ 25) {k : Nat} (hk : k < g.pls.length) : StepOk r (k = g.player) (plr g k) (plr (dartShanghai g f n).1 k):=by
 have hP:=(h.each _ (plr_mem hk)).1
 unfold dartShanghai
 split
 ·dsimp only
  have he : plr ({ setP g g.player { plr g g.player with pts:=(plr g g.player).pts + f * n } with hit:=g.hit.set f.toNat true } : Gam) k = plr (setP g g.player { plr g g.player with pts:=(plr g g.player).pts + f * n }) k:=rfl
  rw [he,plr_setP h.pl]
  by_cases e : k = g.player
  ·subst e
   rw [if_pos rfl]
   have:=Int.mul_nonneg hf.1 hn.1
   exact ⟨fun e => by omega,fun _ => by dsimp only; omega,id,fun e => (e rfl).elim,fun n _ => ⟨by dsimp only; omega,(mark_bd hP).2⟩⟩
  ·rw [if_neg e]; exact StepOk.same hP
 ·exact StepOk.same hP
theorem kill_step {r : Rul} {M : Int} {g : Gam} (h : Run r M g) (k4 : r.kind = 4) {f n : Int} {k : Nat} (hk : k < g.pls.length) : StepOk r (k = g.player) (plr g k) (plr (dartKiller r g f n).1 k):=by
 have hP:=(h.each _ (plr_mem hk)).1
 have hc:=ok4 h.ok k4
 unfold dartKiller
 cases hi : r.nums.findIdx? (· == n) with
 | none => exact StepOk.same hP
 | some i =>
  have hlen : i < g.pls.length:=by
   have:=(List.findIdx?_eq_some_iff_getElem.1 hi).1
   have:=h.len; omega
  dsimp only
  split
  ·exact StepOk.same hP
  ·rename_i hno
   have ho : isOutG r g i = false:=by cases e : isOutG r g i; rfl; exact (hno (.inr e)).elim
   have hi0 : (plr g i).pts ≠ 0:=by unfold isOutG at ho; rw [k4] at ho; simpa using ho
   have hin:=(h.each _ (plr_mem hlen)).1.nn
   dsimp only
   split
   ·rw [plr_setP hlen]
    by_cases e : k = i
    ·subst e
     rw [if_pos rfl]
     exact ⟨fun _ => ⟨by dsimp only; omega,by dsimp only; omega,by dsimp only; omega⟩,fun e => (e k4).elim,id,fun _ => ⟨rfl,rfl,fun e => by dsimp only at e; omega⟩,fun n _ => ⟨by dsimp only; omega,(mark_bd hP).2⟩⟩
    ·rw [if_neg e]; exact StepOk.same hP
   ·split
    ·rw [plr_setP hlen]
     by_cases e : k = i
     ·rename_i hig
      subst e
      rw [if_pos rfl]
      subst hig
      exact ⟨fun _ => ⟨by dsimp only; omega,by dsimp only; omega,by dsimp only; omega⟩,fun e => (e k4).elim,fun _ => rfl,fun e => (e rfl).elim,fun n _ => ⟨by dsimp only; omega,(mark_bd hP).2⟩⟩
     ·rw [if_neg e]; exact StepOk.same hP
    ·exact StepOk.same hP
theorem dart_step {r : Rul} {M : Int} {g : Gam} (h : Run r M g) {f n : Int} (hb : okHit f n) {k : Nat} (hk : k < g.pls.length) : StepOk r (k = g.player) (plr g k) (plr (dartG r g f n).1 k):=by
 unfold dartG
 rcases kind_of h.ok with q | q | q | q
 ·rw [if_pos q]; exact round_step h q hb.f hk
 ·rw [if_neg (by omega),if_pos q]; exact cric_step h q hb.f hk
 ·rw [if_neg (by omega),if_neg (by omega),if_pos q]; exact shan_step h q hb.f hb.n hk
 ·rw [if_neg (by omega),if_neg (by omega),if_neg (by omega)]; exact kill_step h q hk
theorem throw_len {r : Rul} {M : Int} {g : Gam} (h : Live r M g) {f n : Int} (hb : okHit f n) : (throwG r g f n).pls.length = g.pls.length:=by
 have h1:=(throw_thrown h hb).inv.len
 have h2:=h.len
 omega
theorem throw_step {r : Rul} {M : Int} {g : Gam} (h : Live r M g) {f n : Int} (hb : okHit f n) {k : Nat} (hk : k < g.pls.length) : StepOk r (k = g.player) (plr g k) (plr (throwG r g f n) k):=by
 have hp:=(throw_thrown h hb).pls
 have e : plr (throwG r g f n) k = plr (dartG r { g with darts:=g.darts + 1 } f n).1 k:=by unfold plr; rw [hp]
 rw [e]
 exact dart_step (h.toRun.dart (g.darts + 1)) hb hk

/-! In turn. -/
structure Turn (r : Rul) (n : Nat) (g : Gam) : Prop where
 plain : r.kind ≠ 4 → g.darts = n % 3 ∧ g.player = n / 3 % g.pls.length ∧ g.round = n / 3 / g.pls.length
 kill : n ≤ 3 * (g.pls.length * g.round + g.player) + g.darts
theorem Turn.init {r : Rul} : Turn r 0 (initG r):=⟨fun _ => by simp [initG],by simp⟩
theorem Turn.throw {r : Rul} {M : Int} {n : Nat} {g : Gam} (h : Live r M g) (ht : Turn r n g) {f m : Int} (hb : okHit f m) (hw : (throwG r g f m).win = []) : Turn r (n + 1) (throwG r g f m):=by
 have hT:=throw_thrown h hb
 have hlen:=throw_len h hb
 have hd:=dart_ok (h.toRun.dart (g.darts + 1)) hb
 have hpl:=h.pl
 have h3:=h.darts
 have hK:=hd.kept
 have hKl:=hK.len; have hKp:=hK.player; have hKr:=hK.round; have hKd:=hK.darts
 dsimp only at hKl hKp hKr hKd
 by_cases hc : g.darts < 2 ∧ isOutG r (dartG r { g with darts:=g.darts + 1 } f m).1 g.player = false
 ·have e:=hT.stay hw hc.1 hc.2
  rw [e] at hlen ⊢
  refine ⟨fun k4 => ?_, ?_⟩
  ·have:=ht.plain k4
   dsimp only
   rw [hKl,hKp,hKr,hKd,this.2.1,this.2.2]
   have h5 : (n + 1) / 3 = n / 3:=by omega
   rw [h5]; exact ⟨by omega,rfl,rfl⟩
  ·have:=ht.kill
   dsimp only
   rw [hKl,hKp,hKr,hKd]; omega
 ·have hc' : g.darts = 2 ∨ isOutG r (dartG r { g with darts:=g.darts + 1 } f m).1 g.player = true:=by
   by_cases e : g.darts < 2
   ·right
    cases e2 : isOutG r (dartG r { g with darts:=g.darts + 1 } f m).1 g.player
    ·exact (hc ⟨e,e2⟩).elim
    ·rfl
   ·left; omega
  have e:=hT.next hw hc'
  have hlive:=hT.live hw
  rw [e] at hlive ⊢
  refine ⟨fun k4 => ?_, ?_⟩
  ·have:=ht.plain k4
   have hd2 : g.darts = 2:=by
    rcases hc' with e | e
    ·exact e
    ·rw [out_kind k4] at e; cases e
   dsimp only
   rw [nextP_one k4,hKl]
   have h5 : (n + 1) / 3 = n / 3 + 1:=by omega
   rw [h5]
   unfold stepP
   have hpos : 0 < g.pls.length:=by omega
   generalize n / 3 = v at *
   generalize g.pls.length = L at *
   rw [this.2.1] at *
   have hdm:=Nat.div_add_mod v L
   have hdm2:=Nat.div_add_mod (v + 1) L
   by_cases e1 : v % L + 1 = L
   ·rw [if_pos e1]
    have hv1 : v + 1 = L * (v / L + 1):=by rw [Nat.mul_add]; omega
    refine ⟨by omega, ?_, ?_⟩
    ·dsimp only; rw [hv1,Nat.mul_mod_right]
    ·dsimp only; rw [hv1,Nat.mul_div_cancel_left _ hpos,this.2.2]
   ·rw [if_neg e1]
    have hlt:=Nat.mod_lt v hpos
    have hm : (v + 1) % L = v % L + 1:=by
     rw [Nat.add_mod,Nat.mod_eq_of_lt (a:=1) (by omega),Nat.mod_eq_of_lt (by omega)]
    refine ⟨by omega,hm.symm, ?_⟩
    dsimp only
    rw [this.2.2]
    have : L * ((v + 1) / L) = L * (v / L):=by omega
    exact (Nat.eq_of_mul_eq_mul_left hpos this).symm
  ·have hk:=ht.kill
   dsimp only
   have hal : 1 ≤ alive r (dartG r { g with darts:=g.darts + 1 } f m).1:=by
    by_cases k4 : r.kind = 4
    ·have:=hlive.two k4
     have e : alive r (dartG r { g with darts:=g.darts + 1 } f m).1 = alive r { (dartG r { g with darts:=g.darts + 1 } f m).1 with win:=[],player:=(nextP r (dartG r { g with darts:=g.darts + 1 } f m).1 g.pls.length g.player g.round).1,round:=(nextP r (dartG r { g with darts:=g.darts + 1 } f m).1 g.pls.length g.player g.round).2,darts:=0,hit:=List.replicate 5 false }:=alive_pls rfl
     omega
    ·rw [alive_kind k4,hKl]; omega
   have hp : g.player < (dartG r { g with darts:=g.darts + 1 } f m).1.pls.length:=by rw [hKl]; exact h.pl
   obtain ⟨j,a,b,e2⟩ := somebody hal hp
   rw [hKl] at b
   obtain ⟨q1,q2,i,q3,q4,q5,q6⟩ := nextP_spec r (dartG r { g with darts:=g.darts + 1 } f m).1 g.pls.length g.player g.round hp ⟨j,a,by omega,by rw [hKl] at e2 ⊢; exact e2⟩
   rw [hKl] at q5 ⊢
   rw [Nat.mul_comm] at q5
   rw [Nat.mul_comm g.round] at q5
   omega
end Go.Proofs.YtnhggfnnolfcdaaGreat

/- Chapter 4, in plain Lean: the lists of darts with which the next player wins in this visit. -/
namespace Go.Proofs.YtnhggfnnolfcdaaGreat
open Go.RowKit Go.Oche Go.Proofs

def thr (r : Rul) (g : Gam) (b : Int) : Gam:=throwG r g (b.tdiv 100) (b.tmod 100)
def goOn (g c : Gam) : Bool:=decide (c.player = g.player) && decide (c.darts = g.darts + 1)
def winR (r : Rul) (beds : List Int) : Nat → Gam → List Int → List (List Int)
 | 0,_,_ => []
 | n + 1,g,l => beds.flatMap fun b =>
  if (thr r g b).win ≠ [] then (if n = 0 ∧ (g.player : Int) ∈ (thr r g b).win then [l ++ [b]] else [])
  else if 0 < n ∧ goOn g (thr r g b) = true then winR r beds n (thr r g b) (l ++ [b]) else []
def soonR (r : Rul) (beds : List Int) (g : Gam) : Nat → Nat → List (List Int)
 | 0,_ => []
 | k + 1,many => if winR r beds many g [] = [] then soonR r beds g k (many + 1) else winR r beds many g []
def soonG (r : Rul) (beds : List Int) (g : Gam) : List (List Int):=soonR r beds g (3 - g.darts) 1
def WinP (r : Rul) (beds : List Int) : Gam → List Int → Prop
 | _,[] => False
 | g,[b] => b ∈ beds ∧ (g.player : Int) ∈ (thr r g b).win
 | g,b :: c :: l => b ∈ beds ∧ (thr r g b).win = [] ∧ goOn g (thr r g b) = true ∧ WinP r beds (thr r g b) (c :: l)
theorem mem_winR {r : Rul} {beds : List Int} : ∀ (n : Nat) (g : Gam) (l x : List Int),x ∈ winR r beds n g l ↔ ∃ w,x = l ++ w ∧ w.length = n ∧ WinP r beds g w
 | 0,g,l,x => by
  simp only [winR,List.not_mem_nil,false_iff]
  rintro ⟨w,_,h,hw⟩
  rw [List.length_eq_zero_iff] at h; subst h; exact hw
 | n + 1,g,l,x => by
  rw [winR,List.mem_flatMap]
  constructor
  ·rintro ⟨b,hb,h⟩
   by_cases hw : (thr r g b).win ≠ []
   ·rw [if_pos hw] at h
    by_cases h2 : n = 0 ∧ (g.player : Int) ∈ (thr r g b).win
    ·rw [if_pos h2,List.mem_singleton] at h
     exact ⟨[b],h,by simp [h2.1],hb,h2.2⟩
    ·rw [if_neg h2] at h; cases h
   ·rw [if_neg hw] at h
    by_cases h2 : 0 < n ∧ goOn g (thr r g b) = true
    ·rw [if_pos h2] at h
     obtain ⟨w,e,hl,hp⟩ := (mem_winR n _ _ x).1 h
     refine ⟨b :: w,by rw [e]; simp,by simp [hl], ?_⟩
     cases w with
     | nil => exact hp.elim
     | cons c w => exact ⟨hb,by simpa using hw,h2.2,hp⟩
    ·rw [if_neg h2] at h; cases h
  ·rintro ⟨w,e,hl,hp⟩
   match w,hp with
   | [b],⟨hb,hw⟩ =>
    refine ⟨b,hb, ?_⟩
    have hw' : (thr r g b).win ≠ []:=fun q => by rw [q] at hw; cases hw
    have : n = 0:=by simpa using hl.symm
    rw [if_pos hw',if_pos ⟨this,hw⟩,e]; exact List.mem_singleton.2 rfl
   | b :: c :: w,⟨hb,hw,hg,hp⟩ =>
    refine ⟨b,hb, ?_⟩
    have h0 : 0 < n:=by simp at hl; omega
    rw [if_neg (by simp [hw]),if_pos ⟨h0,hg⟩]
    exact (mem_winR n _ _ x).2 ⟨c :: w,by rw [e]; simp,by simpa using hl,hp⟩
theorem mem_winR0 {r : Rul} {beds : List Int} {n : Nat} {g : Gam} {x : List Int} : x ∈ winR r beds n g [] ↔ x.length = n ∧ WinP r beds g x:=by
 rw [mem_winR]
 constructor
 ·rintro ⟨w,e,h⟩; rw [List.nil_append] at e; subst e; exact h
 ·intro h; exact ⟨x,by simp,h⟩
theorem soonR_spec {r : Rul} {beds : List Int} {g : Gam} : ∀ (k many : Nat),(soonR r beds g k many = [] ∧ ∀ m,many ≤ m → m < many + k → winR r beds m g [] = []) ∨
  ∃ m,many ≤ m ∧ m < many + k ∧ soonR r beds g k many = winR r beds m g [] ∧ winR r beds m g [] ≠ [] ∧ ∀ j,many ≤ j → j < m → winR r beds j g [] = []
 | 0,many => .inl ⟨rfl,fun m a b => by omega⟩
 | k + 1,many => by
  rw [soonR]
  by_cases h : winR r beds many g [] = []
  ·rw [if_pos h]
   rcases soonR_spec (r:=r) (beds:=beds) (g:=g) k (many + 1) with ⟨e,h2⟩ | ⟨m,a,b,e,h2,h3⟩
   ·refine .inl ⟨e,fun m a b => ?_⟩
    by_cases q : m = many
    ·rw [q]; exact h
    ·exact h2 m (by omega) (by omega)
   ·refine .inr ⟨m,by omega,by omega,e,h2,fun j a' b' => ?_⟩
    by_cases q : j = many
    ·rw [q]; exact h
    ·exact h3 j (by omega) b'
  ·rw [if_neg h]; exact .inr ⟨many,by omega,by omega,rfl,h,fun j a b => by omega⟩
theorem soonG_mem {r : Rul} {beds : List Int} {g : Gam} {x : List Int} (h : x ∈ soonG r beds g) : WinP r beds g x ∧ 1 ≤ x.length ∧ x.length + g.darts ≤ 3 ∧ ∀ y ∈ soonG r beds g,y.length = x.length:=by
 unfold soonG at h ⊢
 rcases soonR_spec (r:=r) (beds:=beds) (g:=g) (3 - g.darts) 1 with ⟨e, -⟩ | ⟨m,a,b,e, -, -⟩
 ·rw [e] at h; cases h
 ·rw [e] at h ⊢
  obtain ⟨h1,h2⟩ := mem_winR0.1 h
  exact ⟨h2,by omega,by omega,fun y hy => by rw [(mem_winR0.1 hy).1,h1]⟩
theorem soonG_least {r : Rul} {beds : List Int} {g : Gam} {w : List Int} (h : WinP r beds g w) (hl : w.length + g.darts ≤ 3) : soonG r beds g ≠ [] ∧ (w ∈ soonG r beds g ∨ ∀ y ∈ soonG r beds g,y.length < w.length):=by
 have h1 : 1 ≤ w.length:=by
  cases w with
  | nil => exact h.elim
  | cons b l => simp
 have hm : w ∈ winR r beds w.length g []:=mem_winR0.2 ⟨rfl,h⟩
 unfold soonG
 rcases soonR_spec (r:=r) (beds:=beds) (g:=g) (3 - g.darts) 1 with ⟨e,h2⟩ | ⟨m,a,b,e,h2,h3⟩
 ·rw [h2 w.length h1 (by omega)] at hm; cases hm
 ·rw [e]
  refine ⟨h2, ?_⟩
  by_cases q : m = w.length
  ·left; rw [q]; exact hm
  ·right
   intro y hy
   rw [(mem_winR0.1 hy).1]
   by_cases q2 : w.length < m
   ·rw [h3 w.length h1 q2] at hm; cases hm
   ·omega
theorem WinP.mono {r : Rul} {beds beds' : List Int} (hs : ∀ b ∈ beds,b ∈ beds') : ∀ {w : List Int} {g : Gam},WinP r beds g w → WinP r beds' g w
 | [],_,h => h.elim
 | [_],_,h => ⟨hs _ h.1,h.2⟩
 | _ :: c :: l,_,h => ⟨hs _ h.1,h.2.1,h.2.2.1,WinP.mono (w:=c :: l) hs h.2.2.2⟩
theorem soonG_fewer {r : Rul} {beds beds' : List Int} {g : Gam} (hs : ∀ b ∈ beds,b ∈ beds') {x : List Int} (h : x ∈ soonG r beds g) : soonG r beds' g ≠ [] ∧ ∀ y ∈ soonG r beds' g,y.length ≤ x.length:=by
 obtain ⟨h1,_,h3,_⟩ := soonG_mem h
 obtain ⟨a,b⟩ := soonG_least (h1.mono hs) h3
 refine ⟨a,fun y hy => ?_⟩
 rcases b with b | b
 ·exact Nat.le_of_eq ((soonG_mem b).2.2.2 y hy)
 ·exact Nat.le_of_lt (b y hy)
theorem WinP.play {r : Rul} {beds : List Int} (hb : ∀ b ∈ beds,okBed b = true) : ∀ {w : List Int} {g : Gam} {k : Nat},Good r k g → g.win = [] → WinP r beds g w → ∃ c,playF r g k w = (some c,0,0) ∧ (g.player : Int) ∈ c.win ∧ Good r (k + w.length) c
 | [],_,_,_,_,h => h.elim
 | [b],g,k,hg,hw,h => by
  refine ⟨thr r g b, ?_,h.2,hg.throw hw (okBed_hit (hb b h.1))⟩
  rw [playF_on (hb b h.1) hw]; rfl
 | b :: c :: l,g,k,hg,hw,h => by
  obtain ⟨c',h1,h2,h3⟩ := WinP.play hb (w:=c :: l) (hg.throw hw (okBed_hit (hb b h.1))) h.2.1 h.2.2.2
  refine ⟨c',by rw [playF_on (hb b h.1) hw]; exact h1, ?_, ?_⟩
  ·have:=h.2.2.1
   unfold goOn at this
   rw [Bool.and_eq_true,decide_eq_true_eq,decide_eq_true_eq] at this
   have e : (throwG r g (b.tdiv 100) (b.tmod 100)).player = g.player:=this.1
   rw [e] at h2; exact h2
  ·rw [List.length_cons,show k + ((c :: l).length + 1) = k + 1 + (c :: l).length by omega]; exact h3
theorem playF_append {r : Rul} {l' : List Int} : ∀ (l : List Int) (k : Nat) (g g' : Gam) (a e),playF r g k l = (some g',a,e) → playF r g k (l ++ l') = playF r g' (k + l.length) l'
 | [],k,g,g',a,e,h => by rw [playF] at h; cases h; rfl
 | c :: l,k,g,g',a,e,h => by
  cases hb : okBed c
  ·rw [playF_bad hb] at h; cases h
  by_cases hw : g.win = []
  ·rw [playF_on hb hw] at h
   rw [List.cons_append,playF_on hb hw,playF_append l _ _ _ _ _ h,List.length_cons,show k + (l.length + 1) = k + 1 + l.length by omega]
  ·rw [playF_over hb hw] at h; cases h
theorem killer_left {r : Rul} {g : Gam} {f n : Int} : ∀ x ∈ (dartKiller r g f n).2,x ∈ leftG r (dartKiller r g f n).1:=by
 have key : ∀ (g2 : Gam), ∀ x ∈ (g2,if 1 < (leftG r g2).length then [] else leftG r g2).2,x ∈ leftG r (g2,if 1 < (leftG r g2).length then [] else leftG r g2).1:=by
  intro g2 x hx
  dsimp only at hx ⊢
  by_cases h : 1 < (leftG r g2).length
  ·rw [if_pos h] at hx; cases hx
  ·rw [if_neg h] at hx; exact hx
 unfold dartKiller
 cases r.nums.findIdx? (· == n) with
 | none => intro x hx; cases hx
 | some i =>
  dsimp only
  by_cases h : f ≠ 2 ∨ isOutG r g i = true
  ·rw [if_pos h]; intro x hx; cases hx
  ·rw [if_neg h]; exact key _
theorem out_lost {r : Rul} {M : Int} {g : Gam} (h : Live r M g) {f n : Int} (hb : okHit f n) {p : Nat} (hp : p < g.pls.length) (k4 : r.kind = 4) (ho : isOutG r g p = true) :
  isOutG r (throwG r g f n) p = true ∧ (p : Int) ∉ (throwG r g f n).win:=by
 have hs:=(throw_step h hb hp).lives k4
 have h0 : (plr g p).pts = 0:=by unfold isOutG at ho; simpa [k4] using ho
 have hout : isOutG r (throwG r g f n) p = true:=by
  unfold isOutG; rw [k4]; simp; omega
 refine ⟨hout,fun hm => ?_⟩
 have ht:=throw_thrown h hb
 have hne : (throwG r g f n).win ≠ []:=fun q => by rw [q] at hm; cases hm
 have hd2 : (dartG r { g with darts:=g.darts + 1 } f n).2 ≠ []:=fun q => by
  have:=(ht.best hne q).1; omega
 rw [ht.won hd2] at hm
 have hdk : dartG r { g with darts:=g.darts + 1 } f n = dartKiller r { g with darts:=g.darts + 1 } f n:=by
  unfold dartG; rw [if_neg (by omega),if_neg (by omega),if_neg (by omega)]
 have hleft:=killer_left (r:=r) (g:={ g with darts:=g.darts + 1 }) (f:=f) (n:=n)
 rw [hdk] at hm
 have:=hleft _ hm
 unfold leftG at this
 obtain ⟨q,hq,e⟩ := List.mem_map.1 this
 have e' : q = p:=by exact_mod_cast e
 subst e'
 have h2:=(List.mem_filter.1 hq).2
 rw [isOut_pls ht.pls,hdk] at hout
 rw [hout] at h2
 cases h2
structure TryOk (r : Rul) (beds : List Int) (g : Gam) (ds : List Int) (c : Gam) : Prop where
 win : c.win = []
 len : c.pls.length = g.pls.length
 on : ds.length + g.darts < 3 → (c.player = g.player ∧ c.darts = g.darts + ds.length ∧ ∀ w,WinP r beds c w → WinP r beds g (ds ++ w)) ∨ (r.kind = 4 ∧ isOutG r c g.player = true)
theorem TryOk.nil {r : Rul} {beds : List Int} {g : Gam} (h : g.win = []) : TryOk r beds g [] g:=⟨h,rfl,fun _ => .inl ⟨rfl,rfl,fun w h => h⟩⟩
theorem WinP.cons {r : Rul} {beds : List Int} {c : Gam} {b : Int} {w : List Int} (hb : b ∈ beds) (hw : (thr r c b).win = []) (hg : goOn c (thr r c b) = true) (h : WinP r beds (thr r c b) w) : WinP r beds c (b :: w):=by
 cases w with
 | nil => exact h.elim
 | cons d w => exact ⟨hb,hw,hg,h⟩
theorem TryOk.dart {r : Rul} {M : Int} {beds : List Int} {g : Gam} {ds : List Int} {c : Gam} (h : TryOk r beds g ds c) (hL : Live r M c) (hl : ds.length + g.darts < 3) (hgp : g.player < g.pls.length) {b : Int} (hb : b ∈ beds) (hob : okBed b = true) :
  ((thr r c b).win = [] → TryOk r beds g (ds ++ [b]) (thr r c b)) ∧ ((thr r c b).win ≠ [] → (g.player : Int) ∈ (thr r c b).win → WinP r beds g (ds ++ [b])):=by
 have ht:=throw_thrown hL (okBed_hit hob)
 have hlen : (thr r c b).pls.length = g.pls.length:=by unfold thr; rw [throw_len hL (okBed_hit hob)]; exact h.len
 rcases h.on hl with ⟨h1,h2,h3⟩ | ⟨k4,ho⟩
 ·constructor
  ·intro hw
   refine ⟨hw,hlen,fun hl2 => ?_⟩
   rw [List.length_append,List.length_singleton] at hl2
   have hd : c.darts < 2:=by omega
   cases hout : isOutG r (dartG r { c with darts:=c.darts + 1 } (b.tdiv 100) (b.tmod 100)).1 c.player
   ·have hs:=ht.stay hw hd hout
    have hk:=(dart_ok (hL.toRun.dart (c.darts + 1)) (okBed_hit hob)).kept
    have e1 : (thr r c b).player = c.player:=by unfold thr; rw [hs]; exact hk.player
    have e2 : (thr r c b).darts = c.darts + 1:=by unfold thr; rw [hs]; exact hk.darts
    refine .inl ⟨e1.trans h1,by rw [e2,h2,List.length_append]; simp; omega,fun w hp => ?_⟩
    rw [List.append_assoc]
    exact h3 _ (WinP.cons hb hw (by unfold goOn; rw [e1,e2]; simp) hp)
   ·have e : isOutG r (thr r c b) g.player = true:=by
     rw [← h1]; unfold thr; rw [isOut_pls ht.pls]; exact hout
    exact .inr ⟨by have e':=e; unfold isOutG at e'; simp at e'; exact e'.1,e⟩
  ·intro hw hm
   exact h3 _ ⟨hb,by rw [h1]; exact hm⟩
 ·have ho2:=out_lost hL (okBed_hit hob) (by rw [h.len]; exact hgp) k4 ho
  exact ⟨fun hw => ⟨hw,hlen,fun _ => .inr ⟨k4,ho2.1⟩⟩,fun _ hm => (ho2.2 hm).elim⟩
end Go.Proofs.YtnhggfnnolfcdaaGreat

/- A slice of slices of integers. -/
namespace Go.Oche
open Go Go.RowKit
def SlSl (S : Nat → Prop) (w : World) (v : Value) (gs : List (List Int)) : Prop :=
 ∃ vs,Sl S w v vs ∧ vs.length = gs.length ∧ ∀ i (h : i < gs.length), ∃ u,vs[i]? = some u ∧ Sl S w u (ints gs[i])
section
variable {S S' : Nat → Prop} {w w' : World} {v : Value} {gs : List (List Int)}
theorem SlSl.mono (h : SlSl S w v gs) (hS : ∀ k,S k → S' k) : SlSl S' w v gs:=by
 obtain ⟨vs,h1,h2,h3⟩ := h
 exact ⟨vs,h1.mono hS,h2,fun i hi => let ⟨u,e,hu⟩ := h3 i hi; ⟨u,e,hu.mono hS⟩⟩
theorem SlSl.cells (h : SlSl S w v gs) (hc : ∀ b o,S b → (w.cell? ⟨b,o,none⟩).isSome → w'.cell? ⟨b,o,none⟩ = w.cell? ⟨b,o,none⟩) : SlSl S w' v gs:=by
 obtain ⟨vs,h1,h2,h3⟩ := h
 exact ⟨vs,h1.cells hc,h2,fun i hi => let ⟨u,e,hu⟩ := h3 i hi; ⟨u,e,hu.cells hc⟩⟩
theorem SlSl.below (h : SlSl S w v gs) (hb : Below w.heap.size w w') : SlSl S w' v gs:=by
 obtain ⟨vs,h1,h2,h3⟩ := h
 exact ⟨vs,h1.below hb,h2,fun i hi => let ⟨u,e,hu⟩ := h3 i hi; ⟨u,e,hu.below hb⟩⟩
theorem SlSl.lt (h : SlSl S w v gs) : SlSl (fun k => S k ∧ k < w.heap.size) w v gs:=by
 obtain ⟨vs,h1,h2,h3⟩ := h
 exact ⟨vs,h1.lt,h2,fun i hi => let ⟨u,e,hu⟩ := h3 i hi; ⟨u,e,hu.lt⟩⟩
theorem SlSl.form (h : SlSl S w v gs) : ∃ a cap,v = .slice a gs.length cap ∧ gs.length ≤ cap ∧ cap ≤ maxLen:=by
 obtain ⟨vs,h1,h2,_⟩ := h
 obtain ⟨a,cap,e,l1,l2⟩ := h1.form
 exact ⟨a,cap,by rw [e,h2],by omega,l2⟩
theorem SlSl.cell {a : Option Addr} {n cap : Nat} (h : SlSl S w (.slice a n cap) gs) {i : Nat} (hi : i < gs.length) : ∃ b off u,a = some ⟨b,off,none⟩ ∧ S b ∧ w.cell? ⟨b,off + i,none⟩ = some u ∧ Sl S w u (ints gs[i]):=by
 obtain ⟨vs,h1,h2,h3⟩ := h
 obtain ⟨u,e,hu⟩ := h3 i hi
 obtain ⟨a',cap',e1,_,_,h4⟩ := h1
 cases e1
 obtain ⟨b,off,e2,s,c⟩ := h4 i u e
 exact ⟨b,off,u,e2,s,c,hu⟩
theorem MapAt.ne {κ : Type} {enc : κ → Value} {M base n k : Nat} {L : List (κ × Value)} {e : TypeId} {r : Value} {xs : List Value} (h : MapAt enc w M L) (ho : w.ownsRow base e k r n xs) : some M ≠ r.ownBlock:=by
 obtain ⟨es,c,hM,_⟩ := h
 rcases ho.2 with ⟨rfl,_⟩ | ⟨g,cap,cur,rfl,_,hg,_⟩
 ·simp [Value.ownBlock]
 ·intro e2
  simp only [Value.ownBlock,Option.some.injEq] at e2
  subst e2
  rw [hM] at hg; cases hg
end
end Go.Oche
