/- The texts MU, in build order. -/
import Derived.Test.YtnhggfnnolfcdaaGreatZba
import Derived.Deep.DeepCutAuto
import Derived.Deep.CutRange

/- Chapter 4: the games one after another (Small.play). -/
namespace Go.Proofs.YtnhggfnnolfcdaaGreat
open Go.RowKit Go.Oche Go.Proofs
theorem StV.keepS {S S' : Nat → Prop} {w w' : World} {v : Value} {rd pl d : Int} {pls : List Plr} {win : List Int} (h : StV S w v rd pl d pls win) (hk : ∀ k,S k → k < w.heap.size → w'.heap[k]? = w.heap[k]? ∧ S' k) : StV S' w' v rd pl d pls win:=by
 obtain ⟨pa,pc,wa,wc,e,h1,h2,h3⟩ := h
 exact ⟨pa,pc,wa,wc,e,((h1.lt (by decide)).cells fun b o hb _ => World.cell?_of_block (w:=w) (hk b hb.1 hb.2).1).mono fun k hk' => (hk k hk'.1 hk'.2).2,h2,(h3.lt.cells fun b o hb _ => World.cell?_of_block (w:=w) (hk b hb.1 hb.2).1).mono fun k hk' => (hk k hk'.1 hk'.2).2⟩
def StsOk (S : Nat → Prop) (w : World) (rows : List (List Value)) (gs : List Gam) : Prop :=
 rows.length = gs.length ∧ ∀ (i : Nat) (g : Gam),gs[i]? = some g → ∃ r : List Value,rows[i]? = some r ∧ r.length = 5 ∧ StaV S w (.agg r.toArray) (staOf (some g))
theorem StsOk.keepS {S S' : Nat → Prop} {w w' : World} {rows : List (List Value)} {gs : List Gam} (h : StsOk S w rows gs) (hk : ∀ k,S k → k < w.heap.size → w'.heap[k]? = w.heap[k]? ∧ S' k) : StsOk S' w' rows gs :=
 ⟨h.1,fun i g hi => let ⟨r,e,hl,hr⟩ := h.2 i g hi; ⟨r,e,hl,StV.keepS hr hk⟩⟩
theorem StsOk.snoc {S : Nat → Prop} {w : World} {rows : List (List Value)} {gs : List Gam} (h : StsOk S w rows gs) {r : List Value} {g : Gam} (hr : r.length = 5) (hs : StaV S w (.agg r.toArray) (staOf (some g))) : StsOk S w (rows ++ [r]) (gs ++ [g]):=by
 refine ⟨by simp [h.1],fun i g' hi => ?_⟩
 by_cases hlt : i < gs.length
 ·rw [List.getElem?_append_left hlt] at hi
  obtain ⟨r',e,hl,hr'⟩ := h.2 i g' hi
  exact ⟨r',by rw [List.getElem?_append_left (by rw [h.1]; exact hlt)]; exact e,hl,hr'⟩
 ·have hi2:=(List.getElem?_eq_some_iff.1 hi).1
  simp at hi2
  obtain rfl : i = gs.length:=by omega
  rw [List.getElem?_append_right (Nat.le_refl _),Nat.sub_self] at hi
  cases hi
  exact ⟨r,by rw [← h.1,List.getElem?_append_right (Nat.le_refl _),Nat.sub_self]; rfl,hr,hs⟩
def StsV (S : Nat → Prop) (w : World) (v : Value) (gs : List Gam) : Prop := ∃ rows,SlN 5 S w v rows ∧ StsOk S w rows gs
theorem StsV.below {S : Nat → Prop} {w w' : World} {v : Value} {gs : List Gam} (h : StsV S w v gs) (hb : Below w.heap.size w w') : StsV S w' v gs :=
 let ⟨rows,h1,h2⟩ := h; ⟨rows,h1.below hb,h2.keepS fun k hk hl => ⟨hb.block k hl,hk⟩⟩
theorem playS_ok {r : Rul} : ∀ (l : List Nat) (k : Nat) (g : Gam),Good r k g → ∀ b ∈ (playS r g l).map (·.1),okBed b = true
 | [],_,_,_,b,hb => by simp [playS] at hb
 | y :: l,k,g,h,b,hb => by
  rw [playS] at hb
  by_cases hw : g.win = []
  ·rw [if_pos hw] at hb
   have ho:=dartS_ok (h.live hw) y
   rw [List.map_cons] at hb
   rcases List.mem_cons.1 hb with rfl | hb
   ·exact ho
   ·exact playS_ok l (k + 1) (stepS r g y) (h.throw hw (okBed_hit ho)) b hb
  ·rw [if_neg hw] at hb; simp at hb
theorem darts_i64 {r : Rul} (hc : checkR r = 0) (l : List Nat) : ∀ b ∈ dartsS r l, -9223372036854775808 ≤ b ∧ b ≤ 9223372036854775807:=fun b hb => by
 have:=okBed_bd (playS_ok l 0 (initG r) (Good.init hc) b hb); omega
theorem playS_stop (r : Rul) (l' : List Nat) : ∀ (l : List Nat) (g : Gam),(lastS r g l).win ≠ [] → playS r g (l ++ l') = playS r g l ∧ lastS r g (l ++ l') = lastS r g l
 | [],g,h => by
  rw [lastS] at h
  cases l' with
  | nil => exact ⟨rfl,rfl⟩
  | cons y l' => simp [playS,lastS,h]
 | z :: l,g,h => by
  rw [List.cons_append,playS,playS,lastS,lastS]
  rw [lastS] at h
  by_cases hw : g.win = []
  ·rw [if_pos hw] at h
   rw [if_pos hw,if_pos hw,if_pos hw,if_pos hw,(playS_stop r l' l _ h).1,(playS_stop r l' l _ h).2]; exact ⟨rfl,rfl⟩
  ·rw [if_neg hw,if_neg hw,if_neg hw,if_neg hw]; exact ⟨rfl,rfl⟩
def kOwn (N : Nat) (e : TypeId) (size n : Nat) (xs : List Value) : Kn where
 s:=fun v => ∃ b c,v = .slice (some ⟨b,0,none⟩) n c
 p:=fun v w => w.ownsRow N e size v n xs
 m:=fun _ _ _ hb h => ownsN_below h hb
theorem play_g {S S' : Nat → Prop} (r : Rul) (va : Option Addr) (nl vc : Nat) (da : Option Addr) (n0 dc : Nat) (darts : List Int) (g : Gam) (n m : Nat) (hp : playG r darts = (some g,0,0)) (hgn : g.pls.length = n) (hgm : g.win.length = m) (hn : darts.length = n0) (h64 : ∀ b ∈ darts, -9223372036854775808 ≤ b ∧ b ≤ 9223372036854775807) (w : World) (hs : Sl S w (.slice va nl vc) (ints r.nums)) (hd : Sl S' w (.slice da n0 dc) (ints darts)) :
  Calls Tryz.prog 10 #[.agg #[.int .i64 r.kind,.int .i64 r.players,.int .i64 r.last,.bool r.bull,.bool r.jump,.int .i64 r.rounds,.bool r.cut,.slice va nl vc,.int .i64 r.lives,.bool r.own],.slice da n0 dc] w fun e w' => ∃ pa pc wa wc,e = .returned (.tuple #[.agg #[.int .i64 g.round,.int .i64 g.player,.int .i64 g.darts,.slice pa n pc,.slice wa m wc],.int .i64 0,.int .i64 0]) ∧ Below w.heap.size w w' ∧ StaV (fun q => w.heap.size ≤ q) w' (.agg #[.int .i64 g.round,.int .i64 g.player,.int .i64 g.darts,.slice pa n pc,.slice wa m wc]) (staOf (some g)):=by
 refine (play_any r va nl vc da n0 dc darts hn h64 w hs hd).mono fun e w' ⟨v,he,hb,hst⟩ => ?_
 rw [hp] at he hst
 have hst0:=hst
 obtain ⟨pa,pc,wa,wc,hv,h1,h2,h3⟩ := hst
 have n1 : (staOf (some g)).pls.length = n:=hgn
 have n2 : (staOf (some g)).win.length = m:=hgm
 rw [n1,n2] at hv
 have hv' : v = .agg #[.int .i64 g.round,.int .i64 g.player,.int .i64 g.darts,.slice pa n pc,.slice wa m wc]:=hv
 subst hv'
 exact ⟨pa,pc,wa,wc,he,hb,hst0⟩
theorem StaV.parts {S : Nat → Prop} {w : World} {rd pl d : Int} {pa wa : Option Addr} {n pc m wc : Nat} {g : Gam} (h : StaV S w (.agg #[.int .i64 rd,.int .i64 pl,.int .i64 d,.slice pa n pc,.slice wa m wc]) (staOf (some g))) : SlN 9 S w (.slice pa n pc) (g.pls.map plrRow) ∧ Sl S w (.slice wa m wc) (ints g.win) ∧ g.pls.length = n ∧ g.win.length = m:=by
 obtain ⟨pa',pc',wa',wc',e,h1,h2,h3⟩ := h
 simp only [Value.agg.injEq,Array.mk.injEq,List.cons.injEq,Value.slice.injEq,and_true] at e
 obtain ⟨-, -, -,⟨rfl,e1,rfl⟩,rfl,e2,rfl⟩ := e
 rw [← e1] at h1
 rw [← e2] at h3
 exact ⟨h1,h3,e1.symm,e2.symm⟩
theorem info_sta : (Tryz.prog.info? 36).map (fun i => (i.zero,i.size,i.bytes)) = some (some (.agg #[.int .i64 0,.int .i64 0,.int .i64 0,.slice none 0 0,.slice none 0 0]),5,72):=by kernel_rfl
def staA (g : Gam) (pv wv : Value) : Array Value:=#[.int .i64 g.round,.int .i64 g.player,.int .i64 g.darts,pv,wv]
def StS (q b : Nat) (d s : Value) : Nat → Prop:=fun k => k ≠ q + 1 ∧ k ≠ b ∧ d.ownBlock ≠ some k ∧ s.ownBlock ≠ some k
set_option maxRecDepth 100000 in
set_option maxHeartbeats 8000000 in
theorem playS_any {S : Nat → Prop} (k p l f : Nat) (hk : k ≤ 255) (hp : p ≤ 255) (hl : l ≤ 255) (hf : f ≤ 255) (ys : List Nat) (hys : ∀ y ∈ ys,y ≤ 255) (most : Nat) (hmost : most ≤ 500) (bv : Value) (w : World) (hb : Sl S w bv (ys.map fun (y : Nat) => Value.int .u8 y)) :
  Calls Tryz.prog 4 #[.agg #[.int .u8 k,.int .u8 p,.int .u8 l,.int .u8 f],bv,.int .i64 most] w fun e w' => ∃ na nl nc dv sv,e = .returned (.tuple #[.agg (rulA (rulS k p l f) (.slice na nl nc)),dv,sv,.bool true]) ∧ Below w.heap.size w w' ∧
   Sl (fun _ => True) w' (.slice na nl nc) (ints (rulS k p l f).nums) ∧ Sl (fun _ => True) w' dv (ints (dartsS (rulS k p l f) (ys.take most))) ∧ StsV (fun _ => True) w' sv (gamesS (rulS k p l f) (ys.take most)):=by
 have hrc:=rulS_check k p l f
 obtain ⟨r,hr⟩ : ∃ r,rulS k p l f = r:=⟨_,rfl⟩
 rw [hr] at hrc ⊢
 obtain ⟨ba,bc,rfl,hbl,hbm⟩ := hb.form
 rw [List.length_map] at *
 unfold maxLen at hbm
 obtain ⟨q,hq⟩ : ∃ q,w.heap.size = q:=⟨_,rfl⟩
 obtain ⟨w0,hw0⟩ : ∃ w0,(w.alloc (.cells #[.int .u8 k,.int .u8 p,.int .u8 l,.int .u8 f] 23)).alloc (.cells #[.int .i64 0,.int .i64 0,.int .i64 0,.bool false,.bool false,.int .i64 0,.bool false,.slice none 0 0,.int .i64 0,.bool false] 29) = w0:=⟨_,rfl⟩
 have hb0 : Below w.heap.size w w0:=by rw [← hw0]; exact (aB _ _).alloc (by simp) _
 have KZ : Hid (w0.heap[q + 1]? = some (.cells #[.int .i64 0,.int .i64 0,.int .i64 0,.bool false,.bool false,.int .i64 0,.bool false,.slice none 0 0,.int .i64 0,.bool false] 29 (0,0))):=Lib.hid (by rw [← hw0,← hq]; exact heap_two _ _ _)
 have hrul:=rules_any k p l f hk hp hl hf w0
 rw [hr] at hrul
 unfold rulA at hrul
 have HRUL:=Lib.hid hrul
 have HRC:=Lib.hid hrc
 have HBY : Hid (Sl (fun k => k < q) w0 (.slice ba ys.length bc) (ys.map fun (y : Nat) => Value.int .u8 y)):=Lib.hid ((hb.lt.mono fun k hk => by rw [← hq]; exact hk.2).below hb0)
 have HYS:=Lib.hid hys
 have HB0:=Lib.hid hb0
 have HW0:=Lib.hid hw0
 have HQ:=Lib.hid hq
 clear hrul hrc hb hys hb0 hw0 hq hr hk hp hl hf
 go_enter Tryz.func4,Tryz.ntmps4
 go_wp2_with fail
 rw [HW0.out,HQ.out]
 refine HRUL.out.mono ?_
 rintro e w1 ⟨na,nl,nc,rfl,hb1,hs1⟩
 have hnl : r.nums.length = nl:=by obtain ⟨_,_,e,_⟩ := hs1.form; rw [ints_length] at e; cases e; rfl
 have hnl8 : nl ≤ 8:=by
  rw [← hnl]
  rcases kind_of HRC.out with q | q | q | q
  ·rw [(ok1 HRC.out q).2.2.2.2.1]; simp
  ·rw [(ok2 HRC.out q).2.2.2.2.2.1]; simp
  ·rw [(ok3 HRC.out q).2.2.2.2.2.2.1]; simp
  ·have:=ok4 HRC.out q; have h1:=this.2.2.1; have h2:=this.2.2.2.2.2.2.2.2.2.2; omega
 obtain ⟨b10,hb10⟩ : ∃ b,w1.heap.size = b:=⟨_,rfl⟩
 obtain ⟨w2,hw2⟩ : ∃ w2,w1.alloc (.cells #[.int .i64 r.kind,.int .i64 r.players,.int .i64 r.last,.bool r.bull,.bool r.jump,.int .i64 r.rounds,.bool r.cut,.slice na nl nc,.int .i64 r.lives,.bool r.own] 29) = w2:=⟨_,rfl⟩
 have hb2 : Below w1.heap.size w1 w2:=by rw [← hw2]; exact aB _ _
 have KR : Hid (w2.heap[b10]? = some (.cells #[.int .i64 r.kind,.int .i64 r.players,.int .i64 r.last,.bool r.bull,.bool r.jump,.int .i64 r.rounds,.bool r.cut,.slice na nl nc,.int .i64 r.lives,.bool r.own] 29 (0,0))):=Lib.hid (by rw [← hw2,← hb10]; exact World.alloc_heap_new _ _)
 replace KZ:=Lib.hid ((hb2.block _ (by have:=hb1.size; have:=(Array.getElem?_eq_some_iff.1 KZ.out).1; omega)).trans ((hb1.block _ (Array.getElem?_eq_some_iff.1 KZ.out).1).trans KZ.out))
 replace HBY:=Lib.hid ((HBY.out.below hb1).below hb2)
 have HS2:=Lib.hid ((hs1.lt.mono (S':=fun k => q + 2 ≤ k ∧ k < b10) fun k hk => ⟨by
  have h2 : w0.heap.size = q + 2:=by rw [← HW0.out,← HQ.out]; simp
  have h3 : w0.heap.size ≤ k:=hk.1
  omega,by rw [← hb10]; exact hk.2⟩).below hb2)
 have HB2:=Lib.hid (bThen HB0.out (bThen hb1 hb2))
 have HW2:=Lib.hid hw2
 have HQB : Hid (q + 2 ≤ b10):=Lib.hid (by
  have h1:=hb1.size
  have h2 : w0.heap.size = q + 2:=by rw [← HW0.out,← HQ.out]; simp
  omega)
 have HB10:=Lib.hid hb10
 clear hb1 hs1 hb2 hw2 hb10 hnl HRUL HB0
 go_wp2_with fail
 rw [HW2.out,HB10.out]
 refine (own_any r na nl nc w2 HS2.out (by omega)).mono ?_
 rintro e w3 ⟨vb,vd,rfl,hb3,hs3⟩
 replace KR:=Lib.hid ((hb3.block _ (Array.getElem?_eq_some_iff.1 KR.out).1).trans KR.out)
 replace KZ:=Lib.hid ((hb3.block _ (Array.getElem?_eq_some_iff.1 KZ.out).1).trans KZ.out)
 replace HBY:=Lib.hid (HBY.out.below hb3)
 have HS3:=Lib.hid (HS2.out.below hb3)
 have HN3:=Lib.hid (hs3.mono (S':=fun _ => True) fun _ _ => trivial)
 have HB3:=Lib.hid (bThen HB2.out hb3)
 clear hb3 hs3 HS2
 go_wp2_with fail
 have hP0 : playG r [] = (some (initG r),0,0):=by have:=(playS_G HRC.out (l:=[]) (by simp)).1; simpa [dartsS,playS,lastS] using this
 obtain ⟨n,hn⟩ : ∃ n,(initG r).pls.length = n:=⟨_,rfl⟩
 have hnp : (n : Int) = r.players:=by rw [← hn]; exact (init_live HRC.out).len
 refine (play_g r vb nl vd none 0 0 [] (initG r) n 0 hP0 hn rfl rfl (by simp) w3 HN3.out (Sl.nil (fun _ => True) _)).mono ?_
 rintro e w4 ⟨pa,pc,wa,wc,rfl,hb4,hst4⟩
 obtain ⟨b11,hb11⟩ : ∃ b,w4.heap.size = b:=⟨_,rfl⟩
 obtain ⟨g0,hg0⟩ : ∃ g,initG r = g:=⟨_,rfl⟩
 rw [hg0] at hst4 hn ⊢
 obtain ⟨w5,hw5⟩ : ∃ w5,w4.alloc (.cells #[.int .i64 g0.round,.int .i64 g0.player,.int .i64 g0.darts,.slice pa n pc,.slice wa 0 wc] 36) = w5:=⟨_,rfl⟩
 have hb5 : Below w4.heap.size w4 w5:=by rw [← hw5]; exact aB _ _
 have KS : Hid (w5.heap[b11]? = some (.cells #[.int .i64 g0.round,.int .i64 g0.player,.int .i64 g0.darts,.slice pa n pc,.slice wa 0 wc] 36 (0,0))):=Lib.hid (by rw [← hw5,← hb11]; exact World.alloc_heap_new _ _)
 have hb34:=bThen hb4 hb5
 have hq3 : b10 < w3.heap.size:=(Array.getElem?_eq_some_iff.1 KR.out).1
 have HB1011 : Hid (b10 < b11):=Lib.hid (by have:=hb4.size; omega)
 have hqb:=HQB.out
 replace KR:=Lib.hid ((hb34.block _ (Array.getElem?_eq_some_iff.1 KR.out).1).trans KR.out)
 replace KZ:=Lib.hid ((hb34.block _ (Array.getElem?_eq_some_iff.1 KZ.out).1).trans KZ.out)
 replace HBY:=Lib.hid (HBY.out.below hb34)
 have HS5:=Lib.hid (HS3.out.below hb34)
 have hz5 : w5.heap.size = b11 + 1:=by rw [← hw5,← hb11]; simp
 have HST5 : Hid (StaV (fun k => k ≠ q + 1 ∧ k < b11) w5 (.agg #[.int .i64 g0.round,.int .i64 g0.player,.int .i64 g0.darts,.slice pa n pc,.slice wa 0 wc]) (staOf (some g0))):=Lib.hid (StV.keepS hst4 fun k h1 h2 => ⟨hb5.block k h2,by have h3 : w3.heap.size ≤ k:=h1; omega,by rw [← hb11]; exact h2⟩)
 have HB5:=Lib.hid (bThen HB3.out hb34)
 have HW5:=Lib.hid hw5
 have HZ5:=Lib.hid hz5
 have HN:=Lib.hid hn
 have HNP:=Lib.hid hnp
 have HG0:=Lib.hid hg0
 have HB11:=Lib.hid hb11
 clear hq3 hqb hb4 hst4 hw5 hb5 hb34 hz5 hn hnp hg0 hb11 hP0 HS3 HN3 HB2 HB3
 go_wp2_with fail
 rw [HW5.out,HB11.out]
 refine wp_region_seq 5 [kOwn (b11 + 1) 45 1 0 [],.is (.agg #[.int .i64 g0.round,.int .i64 g0.player,.int .i64 g0.darts,.slice pa n pc,.slice wa 0 wc]),kOwn (b11 + 1) 36 5 1 [.int .i64 g0.round,.int .i64 g0.player,.int .i64 g0.darts,.slice pa n pc,.slice wa 0 wc],kOwn (b11 + 1) 45 1 0 [],kOwn (b11 + 1) 36 5 1 [.int .i64 g0.round,.int .i64 g0.player,.int .i64 g0.darts,.slice pa n pc,.slice wa 0 wc]] rfl mix (by kernel_rfl) (by kernel_rfl) ?seqm
 case seqm =>
  simp only [List.take_succ_cons,List.take_zero]
  refine seq_new ⟨_,0,0,rfl⟩ (by rfl) (fun w3 hb3 hH => ?_) ?_
  ·have hz:=HZ5.out
   have hz2:=hb3.size
   refine opOK_val (v:=.slice (some ⟨w3.heap.size,0,none⟩) 0 0) (w':=w3.alloc (.cells #[] 45)) (by simp [go_sem,execOp]) ⟨aB _ _,⟨_,_,rfl⟩, ?_⟩
   exact World.ownsRow_made w3 #[] 0 (by omega) (Nat.zero_le _) rfl
  rintro v ⟨bd0,cd0,rfl⟩
  simp only [Act.put,List.setIfInBounds_toArray,List.set_cons_succ,List.set_cons_zero]
  refine seq_on (by rfl) (fun w3 hb3 hH => ?_) ?_
  ·have hk:=(hb3.block _ (Array.getElem?_eq_some_iff.1 KS.out).1).trans KS.out
   exact opOK_load_row 36 (.tmp 11) rfl b11 #[.int .i64 g0.round,.int .i64 g0.player,.int .i64 g0.darts,.slice pa n pc,.slice wa 0 wc] (by simp [Act.eval]) 36 (0,0) hk _ Tryz.underlying36 rfl (by kernel_rfl) ⟨rfl,Below.refl _ _⟩
  simp only [Act.put,List.setIfInBounds_toArray,List.set_cons_succ,List.set_cons_zero]
  refine seq_new ⟨_,0,0,rfl⟩ (by rfl) (fun w3 hb3 hH => ?_) ?_
  ·have hz:=HZ5.out
   have hz2:=hb3.size
   refine opOK_val (v:=.slice (some ⟨w3.heap.size,0,none⟩) 1 1) (w':=w3.alloc (.cells #[.int .i64 g0.round,.int .i64 g0.player,.int .i64 g0.darts,.slice pa n pc,.slice wa 0 wc] 36)) (by simp [go_sem,execOp]) ⟨aB _ _,⟨_,_,rfl⟩, ?_⟩
   exact ⟨rfl,.inr ⟨_,1, #[.int .i64 g0.round,.int .i64 g0.player,.int .i64 g0.darts,.slice pa n pc,.slice wa 0 wc],rfl,(by omega),World.alloc_heap_new _ _,by decide,by simp [maxLen],rfl,rfl⟩⟩
  rintro v ⟨bs0,cs0,rfl⟩
  simp only [Act.put,List.setIfInBounds_toArray,List.set_cons_succ,List.set_cons_zero]
  refine seq_new ⟨_,0,0,rfl⟩ (by rfl) (fun w3 hb3 hH => ?_) ?_
  ·have h0:=hH ⟨0,.data⟩ (by simp) rfl
   simp [addH,kOwn] at h0
   exact opOK_val (v:=_) (w':=w3) (by simp [go_sem,execOp]) ⟨Below.refl _ _,⟨_,_,rfl⟩,h0⟩
  rintro v ⟨bd,cd,rfl⟩
  simp only [Act.put,List.setIfInBounds_toArray,List.set_cons_succ,List.set_cons_zero]
  refine seq_new ⟨_,0,0,rfl⟩ (by rfl) (fun w3 hb3 hH => ?_) ?_
  ·have h0:=hH ⟨2,.data⟩ (by simp) rfl
   simp [addH,kOwn] at h0
   exact opOK_val (v:=_) (w':=w3) (by simp [go_sem,execOp]) ⟨Below.refl _ _,⟨_,_,rfl⟩,h0⟩
  rintro v ⟨bs,cs,rfl⟩
  simp only [Act.put,List.setIfInBounds_toArray,List.set_cons_succ,List.set_cons_zero]
  refine seq_end fun w6 hb6 hH => ?_
  simp only [List.drop_succ_cons,List.drop_zero]
  have hd6:=hH 3 (by decide)
  have hs6:=hH 4 (by decide)
  simp [addH,kOwn] at hd6 hs6
  replace KR:=Lib.hid ((hb6.block _ (Array.getElem?_eq_some_iff.1 KR.out).1).trans KR.out)
  replace KZ:=Lib.hid ((hb6.block _ (Array.getElem?_eq_some_iff.1 KZ.out).1).trans KZ.out)
  replace KS:=Lib.hid ((hb6.block _ (Array.getElem?_eq_some_iff.1 KS.out).1).trans KS.out)
  replace HBY:=Lib.hid (HBY.out.below hb6)
  have HS6:=Lib.hid (HS5.out.below hb6)
  have hsz6 : b11 + 1 ≤ w6.heap.size:=by have:=hb6.size; have:=HZ5.out; omega
  have hdl:=(hd6.lt bd rfl).1
  have hsl:=(hs6.lt bs rfl).1
  have HST6 : Hid (StaV (StS q b11 (.slice (some ⟨bd,0,none⟩) 0 cd) (.slice (some ⟨bs,0,none⟩) 1 cs)) w6 (.agg #[.int .i64 g0.round,.int .i64 g0.player,.int .i64 g0.darts,.slice pa n pc,.slice wa 0 wc]) (staOf (some g0))):=Lib.hid (StV.keepS HST5.out fun k h1 h2 => ⟨hb6.block k h2,h1.1,by omega,by simp only [Value.ownBlock,ne_eq,Option.some.injEq]; omega,by simp only [Value.ownBlock,ne_eq,Option.some.injEq]; omega⟩)
  have HD6:=Lib.hid hd6
  have HS6':=Lib.hid hs6
  have HB6:=Lib.hid (bThen HB5.out hb6)
  have HSZ6:=Lib.hid hsz6
  clear hd6 hs6 hb6 hH hsz6 hdl hsl HS5 HST5 HB5 HZ5
  go_wp2_with fail
  go_loopw [13,14,15,16] (fun ev dv tv iv wr => ev = .int .i64 0 ∧ ∃ (i nd ns bd cd bs cs m : Nat) (g : Gam) (pa : Option Addr) (pc : Nat) (wa : Option Addr) (wc : Nat) (rows : List (List Value)),i ≤ ys.length ∧ i ≤ most ∧ iv = .int .i64 i ∧ dv = .slice (some ⟨bd,0,none⟩) nd cd ∧ tv = .slice (some ⟨bs,0,none⟩) ns cs ∧
   Hid (lastS r g0 (ys.take i) = g ∧ Good r nd g) ∧ Hid (g.win.length = m) ∧ Hid (nd ≤ i ∧ ns = nd + 1 ∧ (m = 0 → nd = i)) ∧
   Hid (wr.heap[b11]? = some (.cells #[.int .i64 g.round,.int .i64 g.player,.int .i64 g.darts,.slice pa n pc,.slice wa m wc] 36 (0,0))) ∧ Hid (StaV (StS q b11 (.slice (some ⟨bd,0,none⟩) nd cd) (.slice (some ⟨bs,0,none⟩) ns cs)) wr (.agg #[.int .i64 g.round,.int .i64 g.player,.int .i64 g.darts,.slice pa n pc,.slice wa m wc]) (staOf (some g))) ∧
   Hid (wr.ownsRow (b11 + 1) 45 1 (.slice (some ⟨bd,0,none⟩) nd cd) nd (ints ((playS r g0 (ys.take i)).map (·.1)))) ∧ Hid (wr.ownsRow (b11 + 1) 36 5 (.slice (some ⟨bs,0,none⟩) ns cs) ns rows.flatten) ∧ Hid (∀ x ∈ rows,x.length = 5) ∧
   Hid (StsOk (StS q b11 (.slice (some ⟨bd,0,none⟩) nd cd) (.slice (some ⟨bs,0,none⟩) ns cs)) wr rows (g0 :: (playS r g0 (ys.take i)).map (·.2))) ∧
   Hid (wr.heap[b10]? = some (.cells #[.int .i64 r.kind,.int .i64 r.players,.int .i64 r.last,.bool r.bull,.bool r.jump,.int .i64 r.rounds,.bool r.cut,.slice na nl nc,.int .i64 r.lives,.bool r.own] 29 (0,0))) ∧ Hid (wr.heap[q + 1]? = some (.cells #[.int .i64 0,.int .i64 0,.int .i64 0,.bool false,.bool false,.int .i64 0,.bool false,.slice none 0 0,.int .i64 0,.bool false] 29 (0,0))) ∧ Hid (Below w.heap.size w wr ∧ b11 + 1 ≤ wr.heap.size) ∧ Hid (Sl (fun k => k < q) wr (.slice ba ys.length bc) (ys.map fun (y : Nat) => Value.int .u8 y)) ∧ Hid (Sl (fun k => q + 2 ≤ k ∧ k < b10) wr (.slice na nl nc) (ints r.nums))) (fun _ _ _ iv _ => ys.length - (intOf iv).toNat)
  case atStart => exact ⟨rfl,0,0,1,bd,cd,bs,cs,0,g0,pa,pc,wa,wc,[[.int .i64 g0.round,.int .i64 g0.player,.int .i64 g0.darts,.slice pa n pc,.slice wa 0 wc]],by omega,by omega,by go_num,rfl,rfl,Lib.hid ⟨rfl,by rw [← HG0.out]; exact Good.init HRC.out⟩,Lib.hid (by rw [← HG0.out]; rfl),Lib.hid ⟨by omega,rfl,fun _ => rfl⟩,KS,HST6,Lib.hid (by simpa [playS] using HD6.out),Lib.hid (by simpa using HS6'.out),Lib.hid (by simp),Lib.hid (by
    have:=StsOk.snoc (S:=StS q b11 (.slice (some ⟨bd,0,none⟩) 0 cd) (.slice (some ⟨bs,0,none⟩) 1 cs)) (w:=w6) (rows:=[]) (gs:=[]) ⟨rfl,fun i g h => by simp at h⟩ (r:=[.int .i64 g0.round,.int .i64 g0.player,.int .i64 g0.darts,.slice pa n pc,.slice wa 0 wc]) (g:=g0) rfl HST6.out
    simpa [playS] using this),KR,KZ,Lib.hid ⟨HB6.out,HSZ6.out⟩,HBY,HS6⟩
  case round =>
   obtain ⟨rfl,i,nd,ns,bd,cd,bs,cs,m,g,pa,pc,wa,wc,rows,hi1,hi2,rfl,rfl,rfl,HGL,HM,HND,KS,HST,HD,HSR,HR5,HSO,KR,KZ,HB,HBY,HSN⟩ := hrel
   obtain ⟨wo,rfl⟩ : ∃ wo : World,wo = wr:=⟨_,rfl⟩
   have hpa:=HST.out.parts
   have s1 : wo.cell? ⟨b11,1,none⟩ = some (.int .i64 g.player):=by rw [cell_of_heap KS.out]; rfl
   have s3 : wo.cell? ⟨b11,3,none⟩ = some (.slice pa n pc):=by rw [cell_of_heap KS.out]; rfl
   have s4 : wo.cell? ⟨b11,4,none⟩ = some (.slice wa m wc):=by rw [cell_of_heap KS.out]; rfl
   have r1 : wo.cell? ⟨b10,1,none⟩ = some (.int .i64 r.players):=by rw [cell_of_heap KR.out]; rfl
   have hpl : (g.player : Int) < r.players:=by have:=HGL.out.2.inv.pl; have:=HGL.out.2.inv.len; omega
   have f1 : ((n : Int) != r.players) = false:=by rw [HNP.out]; simp
   have f1e : ((n : Int) == r.players) = true:=by rw [HNP.out]; simp
   have f2 : decide ((g.player : Int) < 0) = false:=decide_eq_false (by omega)
   have f2e : decide ((0 : Int) ≤ (g.player : Int)) = true:=decide_eq_true (by omega)
   have f3 : decide (r.players ≤ (g.player : Int)) = false:=decide_eq_false (by omega)
   have f3e : decide ((g.player : Int) < r.players) = true:=decide_eq_true hpl
   have hq10:=HQB.out
   have hq11:=HB1011.out
   have hbdl:=(HD.out.lt bd rfl)
   have hbsl:=(HSR.out.lt bs rfl)
   have hdne : bd ≠ bs:=by
    have:=ownsN_ne HD.out HSR.out (by decide)
    simpa [Value.ownBlock] using this
   have HPA:=Lib.hid hpa
   have HDNE:=Lib.hid hdne
   have HBDL:=Lib.hid hbdl
   have HBSL:=Lib.hid hbsl
   clear hpa hdne hbdl hbsl hpl
   by_cases c1 : i < ys.length
   ·have d1 : decide ((i : Int) < (ys.length : Int)) = true:=decide_eq_true (by omega)
    have d1n : decide (i < ys.length) = true:=decide_eq_true c1
    by_cases c2 : i < most
    ·have d2 : decide ((i : Int) < (most : Int)) = true:=decide_eq_true (by omega)
     have d2n : decide (i < most) = true:=decide_eq_true c2
     by_cases c3 : m = 0
     ·subst c3
      have hw0 : g.win = []:=List.eq_nil_of_length_eq_zero HM.out
      have hnd : nd = i:=HND.out.2.2 rfl
      subst hnd
      obtain ⟨y,hy⟩ : ∃ y,ys[nd] = y:=⟨_,rfl⟩
      have hy255 : y ≤ 255:=HYS.out y (by rw [← hy]; exact List.getElem_mem c1)
      have hcy : ∃ b o,ba = some ⟨b,o,none⟩ ∧ b < q ∧ wo.cell? ⟨b,o + nd,none⟩ = some (.int .u8 y):=by
       obtain ⟨a',c',e,_,_,h4⟩ := HBY.out
       simp only [Value.slice.injEq] at e
       obtain ⟨rfl, -, -⟩ := e
       exact h4 nd _ (by rw [List.getElem?_map,List.getElem?_eq_getElem c1,hy]; rfl)
      obtain ⟨yb,yo,rfl,hybq,hcy⟩ := hcy
      have htk : ys.take (nd + 1) = ys.take nd ++ [y]:=by rw [List.take_succ_eq_append_getElem c1,hy]
      obtain ⟨d,hd⟩ : ∃ d,dartS r g y = d:=⟨_,rfl⟩
      obtain ⟨g',hg'⟩ : ∃ g',stepS r g y = g':=⟨_,rfl⟩
      have hps : playS r g0 (ys.take (nd + 1)) = playS r g0 (ys.take nd) ++ [(d,g')]:=by rw [htk,playS_snoc,HGL.out.1,if_pos hw0,hd,hg']
      have hls : lastS r g0 (ys.take (nd + 1)) = g':=by rw [htk,lastS_snoc,HGL.out.1,if_pos hw0,hg']
      have hlive:=HGL.out.2.live hw0
      have hgood : Good r (nd + 1) g':=by
       have:=HGL.out.2.throw hw0 (okBed_hit (dartS_ok hlive y))
       rw [← hg']; exact this
      have HLIVE:=Lib.hid hlive
      have HGOOD:=Lib.hid hgood
      have HPS:=Lib.hid hps
      have HLS:=Lib.hid hls
      have HDD:=Lib.hid hd
      obtain ⟨DL,hDL⟩ : ∃ DL,(playS r g0 (ys.take nd)).map (·.1) = DL:=⟨_,rfl⟩
      have HDL:=Lib.hid hDL
      rw [hDL] at HD
      have HIN : Hid (playG r (DL ++ [d]) = (some g',0,0) ∧ (∀ b ∈ DL ++ [d], -9223372036854775808 ≤ b ∧ b ≤ 9223372036854775807)):=Lib.hid (by
       have h1:=(playS_G HRC.out (l:=ys.take (nd + 1)) (by rw [List.length_take]; omega)).1
       have h2:=darts_i64 HRC.out (ys.take (nd + 1))
       have e : dartsS r (ys.take (nd + 1)) = DL ++ [d]:=by unfold dartsS; rw [HG0.out,hps,List.map_append,hDL]; rfl
       rw [e] at h1 h2
       rw [HG0.out,hls] at h1
       exact ⟨h1,h2⟩)
      have HC1:=Lib.hid c1
      have HC2:=Lib.hid c2
      clear hw0 hy htk hd hg' hps hls hlive hgood hDL c1 c2
      go_wp2_with fail
      refine wp_region_seqV 10 ((fun v => v = .slice (some ⟨bd,0,none⟩) nd cd) :: (fun v => v = .agg #[.int .i64 r.kind,.int .i64 r.players,.int .i64 r.last,.bool r.bull,.bool r.jump,.int .i64 r.rounds,.bool r.cut,.slice na nl nc,.int .i64 r.lives,.bool r.own]) :: (fun v => v = .agg #[.int .i64 g.round,.int .i64 g.player,.int .i64 g.darts,.slice pa n pc,.slice wa 0 wc]) :: (fun v => v = .slice (some ⟨yb,yo,none⟩) ys.length bc) :: (fun v => v = .int .i64 nd) :: (fun v => v = .pointer (some ⟨yb,yo + nd,none⟩)) :: (fun v => v = .int .u8 y) :: (fun v => v = .int .i64 d) :: (fun v => ∃ q,v = .slice (some ⟨q,0,none⟩) 1 1) :: (fun _ => True) :: []) (JOne wo bd 8 9 (b11 + 1) 45 nd (ints DL) (.int .i64 d)) rfl mix (by kernel_rfl) (by kernel_rfl) (fun _ _ _ _ hc h => h.congr hc) (fun _ => .start) ?_
      simp only [List.take_succ_cons,List.take_zero]
      refine sv_rd rfl (fun _ _ _ h => h.read (by simp) (by simp)) (fun u1 L1 vs1 hvs1 hL1 hJ1 => ?_) ?_
      ·simp [opOK,go_sem]
      simp only [Act.put,List.setIfInBounds_toArray,List.set_cons_succ,List.set_cons_zero,List.nil_append]
      refine sv_rd rfl (fun _ _ _ h => h.read (by simp) (by simp)) (fun u1 L1 vs1 hvs1 hL1 hJ1 => ?_) ?_
      ·have hk1 : ∀ k,k < wo.heap.size → k ≠ bd → u1.heap[k]? = wo.heap[k]? := fun k h1 h2 => hJ1.block k h1 (.inr h2)
       have hx:=(hk1 b10 (Array.getElem?_eq_some_iff.1 KR.out).1 (by have:=HBDL.out; omega)).trans KR.out
       exact opOK_load_row 29 (.tmp 10) rfl b10 #[.int .i64 r.kind,.int .i64 r.players,.int .i64 r.last,.bool r.bull,.bool r.jump,.int .i64 r.rounds,.bool r.cut,.slice na nl nc,.int .i64 r.lives,.bool r.own] (by simp [Act.eval]) 29 (0,0) hx _ Tryz.underlying29 rfl (by kernel_rfl) ⟨rfl,rfl⟩
      simp only [Act.put,List.setIfInBounds_toArray,List.set_cons_succ,List.set_cons_zero,List.nil_append,List.cons_append]
      refine sv_rd rfl (fun _ _ _ h => h.read (by simp) (by simp)) (fun u1 L1 vs1 hvs1 hL1 hJ1 => ?_) ?_
      ·have hk1 : ∀ k,k < wo.heap.size → k ≠ bd → u1.heap[k]? = wo.heap[k]? := fun k h1 h2 => hJ1.block k h1 (.inr h2)
       have hx:=(hk1 b11 (Array.getElem?_eq_some_iff.1 KS.out).1 (by have:=HBDL.out; omega)).trans KS.out
       exact opOK_load_row 36 (.tmp 11) rfl b11 #[.int .i64 g.round,.int .i64 g.player,.int .i64 g.darts,.slice pa n pc,.slice wa 0 wc] (by simp [Act.eval]) 36 (0,0) hx _ Tryz.underlying36 rfl (by kernel_rfl) ⟨rfl,rfl⟩
      simp only [Act.put,List.setIfInBounds_toArray,List.set_cons_succ,List.set_cons_zero,List.nil_append,List.cons_append]
      refine sv_rd rfl (fun _ _ _ h => h.read (by simp) (by simp)) (fun u1 L1 vs1 hvs1 hL1 hJ1 => ?_) ?_
      ·simp [opOK,go_sem]
      simp only [Act.put,List.setIfInBounds_toArray,List.set_cons_succ,List.set_cons_zero,List.nil_append,List.cons_append]
      refine sv_rd rfl (fun _ _ _ h => h.read (by simp) (by simp)) (fun u1 L1 vs1 hvs1 hL1 hJ1 => ?_) ?_
      ·simp [opOK,go_sem]
      simp only [Act.put,List.setIfInBounds_toArray,List.set_cons_succ,List.set_cons_zero,List.nil_append,List.cons_append]
      refine sv_rd rfl (fun _ _ _ h => h.read (by simp) (by simp)) (fun u1 L1 vs1 hvs1 hL1 hJ1 => ?_) ?_
      ·simp [opOK,go_sem,HC1.out]
      simp only [Act.put,List.setIfInBounds_toArray,List.set_cons_succ,List.set_cons_zero,List.nil_append,List.cons_append]
      refine sv_rd rfl (fun _ _ _ h => h.read (by simp) (by simp)) (fun u1 L1 vs1 hvs1 hL1 hJ1 => ?_) ?_
      ·have hx:=hJ1.cell hcy (by have:=HBDL.out; omega)
       simp [opOK,go_sem,hx]
      simp only [Act.put,List.setIfInBounds_toArray,List.set_cons_succ,List.set_cons_zero,List.nil_append,List.cons_append]
      refine sv_new ⟨_,rfl⟩ rfl (fun u1 L1 vs1 hvs1 hL1 hJ1 hd => ?_) ?_
      ·have hk1 : ∀ k,k < wo.heap.size → k ≠ bd → u1.heap[k]? = wo.heap[k]? := fun k h1 h2 => hJ1.block k h1 (.inr h2)
       have hu:=(StV.keepS (S':=fun _ => True) HST.out fun k h1 h2 => ⟨hk1 k h2 (fun e => h1.2.2.1 (by rw [e]; rfl)),trivial⟩)
       have hu2:=StaV.parts hu
       have hu3 : Sl (fun _ => True) u1 (.slice na nl nc) (ints r.nums):=(HSN.out.lt.cells fun b o hb _ => World.cell?_of_block (w:=wo) (hk1 b hb.2 (by have:=hb.1; have:=HBDL.out; omega))).mono fun _ _ => trivial
       refine opOK_call (f:=9) (args:=#[.agg #[.int .i64 r.kind,.int .i64 r.players,.int .i64 r.last,.bool r.bull,.bool r.jump,.int .i64 r.rounds,.bool r.cut,.slice na nl nc,.int .i64 r.lives,.bool r.own],.agg #[.int .i64 g.round,.int .i64 g.player,.int .i64 g.darts,.slice pa n pc,.slice wa 0 wc],.int .u8 y]) (by simp [go_sem]) ?_
       have hcd:=dart_any r g (9 + 100 * (nd : Nat)) (by omega) HLIVE.out (by have:=HGL.out.2.rd; omega) y hy255 na nl nc pa n pc wa 0 wc hu2.2.2.1 u1 hu2.1 hu3
       rw [HDD.out] at hcd
       exact hcd.mono fun e W' ⟨he,hb⟩ => ⟨_,he,rfl,hJ1.grow hb (by simp) (by simp)⟩
      rintro _ rfl
      simp only [Act.put,List.setIfInBounds_toArray,List.set_cons_succ,List.set_cons_zero,List.nil_append,List.cons_append]
      refine sv_new ⟨.slice (some ⟨0,0,none⟩) 1 1,0,rfl⟩ rfl (fun u1 L1 vs1 hvs1 hL1 hJ1 hd => ?_) ?_
      ·simp [opOK,go_sem]
       exact hJ1.mkLit (aB _ _) (cell_new _ _ _) (by decide)
      rintro _ ⟨q8,rfl⟩
      simp only [Act.put,List.setIfInBounds_toArray,List.set_cons_succ,List.set_cons_zero,List.nil_append,List.cons_append]
      refine sv_new ⟨undef,trivial⟩ rfl (fun u1 L1 vs1 hvs1 hL1 hJ1 hd => ?_) ?_
      ·have h8:=hd ⟨8,.data⟩ (by simp) rfl
       obtain ⟨qq,eq,hq⟩ := hJ1.lit h8 hL1
       rw [hvs1 8 _ rfl] at eq
       cases eq
       refine opOK_mono (opOK_append1_at (.tmp 69) (.tmp 77) 30 rfl (b11 + 1) 45 (.int .i64 0) 8 Tryz.underlying30 info_bed rfl (.slice (some ⟨bd,0,none⟩) nd cd) nd (ints DL) rfl (hJ1.own HD.out (.inl hL1)) q8 0 1 (.int .i64 d) rfl hq rfl (by omega) (by decide) (by have:=hJ1.size; have:=HB.out.2; omega)) ?_
       rintro v' w' ⟨g',c',rfl,h1,h2,h3⟩
       refine ⟨trivial,hJ1.app h2 h1 (h3.elim (fun e => .inl ?_) .inr) (by decide) hL1⟩
       simpa [Value.ownBlock] using e.symm
      rintro v9 -
      simp only [Act.put,List.setIfInBounds_toArray,List.set_cons_succ,List.set_cons_zero,List.nil_append,List.cons_append]
      refine sv_end fun vs7 w7 hvs7 hJ7 => ?_
      simp only [List.drop_succ_cons,List.drop_zero]
      obtain ⟨bd2,cd2,e9,ho7,hat7⟩ := hJ7.row (by decide)
      rw [hvs7 9 _ rfl] at e9
      subst e9
      have hbd:=HBDL.out
      have hbs:=HBSL.out
      have hk7 : ∀ k,k < wo.heap.size → k ≠ bd → w7.heap[k]? = wo.heap[k]? := fun k h1 h2 => hJ7.block k h1 (.inr h2)
      replace KR:=Lib.hid ((hk7 b10 (Array.getElem?_eq_some_iff.1 KR.out).1 (by omega)).trans KR.out)
      replace KS:=Lib.hid ((hk7 b11 (Array.getElem?_eq_some_iff.1 KS.out).1 (by omega)).trans KS.out)
      replace KZ:=Lib.hid ((hk7 (q + 1) (Array.getElem?_eq_some_iff.1 KZ.out).1 (by omega)).trans KZ.out)
      replace HBY:=Lib.hid ((HBY.out.lt.cells fun b o hb _ => World.cell?_of_block (w:=wo) (hk7 b hb.2 (by have:=hb.1; omega))).mono (S':=fun k => k < q) fun k hk => hk.1)
      replace HSN:=Lib.hid ((HSN.out.lt.cells fun b o hb _ => World.cell?_of_block (w:=wo) (hk7 b hb.2 (by have:=hb.1; omega))).mono (S':=fun k => q + 2 ≤ k ∧ k < b10) fun k hk => hk.1)
      replace HSR:=Lib.hid (ownsN_kept HSR.out fun k hk => hk7 k (HSR.out.lt k hk).2 (by simp only [Value.ownBlock,Option.some.injEq] at hk; have:=HDNE.out; omega))
      have hbd2 : bd2 = bd ∨ wo.heap.size ≤ bd2:=hat7
      replace HSO:=Lib.hid (HSO.out.keepS (S':=StS q b11 (.slice (some ⟨bd2,0,none⟩) (nd + 1) cd2) (.slice (some ⟨bs,0,none⟩) ns cs)) fun k h1 h2 => ⟨hk7 k h2 (fun e => h1.2.2.1 (by rw [e]; rfl)),h1.1,h1.2.1,by simp only [Value.ownBlock,ne_eq,Option.some.injEq]; rintro rfl; rcases hbd2 with e | e; exact h1.2.2.1 (by rw [e]; rfl); omega,h1.2.2.2⟩)
      replace HB:=Lib.hid (show Below w.heap.size w w7 ∧ b11 + 1 ≤ w7.heap.size from ⟨HB.out.1.trans ⟨hJ7.os,hJ7.tape,hJ7.output,hJ7.size,fun k hk => hk7 k (by have:=HB.out.1.size; omega) (by have:=HQ.out; omega)⟩,by have:=hJ7.size; have:=HB.out.2; omega⟩)
      have hd7 : w7.ownsRow (b11 + 1) 45 1 (.slice (some ⟨bd2,0,none⟩) (nd + 1) cd2) (nd + 1) (ints (DL ++ [d])):=by rw [ints_append]; exact ho7
      have HD7:=Lib.hid hd7
      have hlen : (DL ++ [d]).length = nd + 1:=by have:=hd7.1; simpa using this
      have HLEN:=Lib.hid hlen
      have HGN : Hid (g'.pls.length = n):=Lib.hid (by have h1:=HGOOD.out.inv.len; have h2:=HNP.out; omega)
      obtain ⟨m2,hm2⟩ : ∃ m2,g'.win.length = m2:=⟨_,rfl⟩
      have HM2:=Lib.hid hm2
      obtain ⟨n1,hn1⟩ : ∃ n1,nd + 1 = n1:=⟨_,rfl⟩
      have HN1:=Lib.hid hn1
      rw [hn1] at HD7 HLEN HSO ⊢
      clear hJ7 hvs7 ho7 hat7 hd7 hlen hm2 hn1 hk7 hcy hbd2 HST HD d1 d1n d2 d2n s1 s3 s4 r1 f1 f1e f2 f2e f3 f3e HPA HDNE hbd hbs
      go_wp2_with (refine wpList_opOK (o:=⟨some 80,Op.load 29 (.tmp 10),_,_,_,_⟩) (R:=fun v w' => v = .agg #[.int .i64 r.kind,.int .i64 r.players,.int .i64 r.last,.bool r.bull,.bool r.jump,.int .i64 r.rounds,.bool r.cut,.slice na nl nc,.int .i64 r.lives,.bool r.own] ∧ w7 = w') rfl (opOK_load_row 29 (.tmp 10) rfl b10 #[.int .i64 r.kind,.int .i64 r.players,.int .i64 r.last,.bool r.bull,.bool r.jump,.int .i64 r.rounds,.bool r.cut,.slice na nl nc,.int .i64 r.lives,.bool r.own] rfl 29 (0,0) KR.out _ Tryz.underlying29 rfl (by kernel_rfl) ⟨rfl,rfl⟩) ?_; rintro _ _ ⟨rfl,rfl⟩)
      refine (own_any r na nl nc w7 HSN.out (by omega)).mono ?_
      rintro e w8 ⟨vb2,vd2,rfl,hb8,hs8⟩
      replace KR:=Lib.hid ((hb8.block _ (Array.getElem?_eq_some_iff.1 KR.out).1).trans KR.out)
      replace KS:=Lib.hid ((hb8.block _ (Array.getElem?_eq_some_iff.1 KS.out).1).trans KS.out)
      replace KZ:=Lib.hid ((hb8.block _ (Array.getElem?_eq_some_iff.1 KZ.out).1).trans KZ.out)
      replace HBY:=Lib.hid (HBY.out.below hb8)
      replace HSN:=Lib.hid (HSN.out.below hb8)
      replace HSR:=Lib.hid (ownsN_below HSR.out hb8)
      have HD8:=Lib.hid (ownsN_below HD7.out hb8)
      replace HSO:=Lib.hid (HSO.out.keepS (S':=StS q b11 (.slice (some ⟨bd2,0,none⟩) n1 cd2) (.slice (some ⟨bs,0,none⟩) ns cs)) fun k h1 h2 => ⟨hb8.block k h2,h1⟩)
      replace HB:=Lib.hid (And.intro (bThen HB.out.1 hb8) (Nat.le_trans HB.out.2 hb8.size))
      have HV8:=Lib.hid (hs8.mono (S':=fun _ => True) fun _ _ => trivial)
      clear hb8 hs8
      go_wp2_with fail
      refine (copied_any (DL ++ [d]) _ w8 (Sl.of_owns HD8.out) (by rw [HLEN.out]; have:=HN1.out; have:=HC2.out; omega)).mono ?_
      rw [HLEN.out]
      rintro e w9 ⟨da,dc,rfl,hb9,hs9⟩
      replace KR:=Lib.hid ((hb9.block _ (Array.getElem?_eq_some_iff.1 KR.out).1).trans KR.out)
      replace KS:=Lib.hid ((hb9.block _ (Array.getElem?_eq_some_iff.1 KS.out).1).trans KS.out)
      replace KZ:=Lib.hid ((hb9.block _ (Array.getElem?_eq_some_iff.1 KZ.out).1).trans KZ.out)
      replace HBY:=Lib.hid (HBY.out.below hb9)
      replace HSN:=Lib.hid (HSN.out.below hb9)
      replace HSR:=Lib.hid (ownsN_below HSR.out hb9)
      replace HD8:=Lib.hid (ownsN_below HD8.out hb9)
      replace HSO:=Lib.hid (HSO.out.keepS (S':=StS q b11 (.slice (some ⟨bd2,0,none⟩) n1 cd2) (.slice (some ⟨bs,0,none⟩) ns cs)) fun k h1 h2 => ⟨hb9.block k h2,h1⟩)
      replace HB:=Lib.hid (And.intro (bThen HB.out.1 hb9) (Nat.le_trans HB.out.2 hb9.size))
      replace HV8:=Lib.hid (HV8.out.below hb9)
      have HV9:=Lib.hid hs9
      clear hb9 hs9
      go_wp2_with fail
      refine (play_g r vb2 nl vd2 da n1 dc (DL ++ [d]) g' n m2 HIN.out.1 HGN.out HM2.out HLEN.out HIN.out.2 w9 HV8.out HV9.out).mono ?_
      rintro e w10 ⟨pa2,pc2,wa2,wc2,rfl,hb10,hst10⟩
      have H9 : Hid (bd2 < w9.heap.size ∧ bs < w9.heap.size ∧ b11 < w9.heap.size ∧ w9.heap.size ≤ w10.heap.size):=Lib.hid ⟨(HD8.out.lt bd2 rfl).2,(HSR.out.lt bs rfl).2,(Array.getElem?_eq_some_iff.1 KS.out).1,hb10.size⟩
      replace KR:=Lib.hid ((hb10.block _ (Array.getElem?_eq_some_iff.1 KR.out).1).trans KR.out)
      replace KS:=Lib.hid ((hb10.block _ (Array.getElem?_eq_some_iff.1 KS.out).1).trans KS.out)
      replace KZ:=Lib.hid ((hb10.block _ (Array.getElem?_eq_some_iff.1 KZ.out).1).trans KZ.out)
      replace HBY:=Lib.hid (HBY.out.below hb10)
      replace HSN:=Lib.hid (HSN.out.below hb10)
      replace HSR:=Lib.hid (ownsN_below HSR.out hb10)
      replace HD8:=Lib.hid (ownsN_below HD8.out hb10)
      replace HSO:=Lib.hid (HSO.out.keepS (S':=StS q b11 (.slice (some ⟨bd2,0,none⟩) n1 cd2) (.slice (some ⟨bs,0,none⟩) ns cs)) fun k h1 h2 => ⟨hb10.block k h2,h1⟩)
      replace HB:=Lib.hid (And.intro (bThen HB.out.1 hb10) (Nat.le_trans HB.out.2 hb10.size))
      obtain ⟨w11,hw11⟩ : ∃ w11,w10.setRow b11 #[.int .i64 g'.round,.int .i64 g'.player,.int .i64 g'.darts,.slice pa2 n pc2,.slice wa2 m2 wc2] = w11:=⟨_,rfl⟩
      have k11 : w11.heap[b11]? = some (.cells #[.int .i64 g'.round,.int .i64 g'.player,.int .i64 g'.darts,.slice pa2 n pc2,.slice wa2 m2 wc2] 36 (0,0)):=by rw [← hw11]; exact setRow_heap _ _ _ _ _ _ KS.out
      have hk11 : ∀ k,k ≠ b11 → w11.heap[k]? = w10.heap[k]? := fun k hk => by rw [← hw11]; exact setRow_other _ _ _ _ hk
      have hz11 : w11.heap.size = w10.heap.size:=by rw [← hw11]; exact setRow_size _ _ _
      obtain ⟨b12,hb12⟩ : ∃ b,w11.heap.size = b:=⟨_,rfl⟩
      obtain ⟨w12,hw12⟩ : ∃ w12,w11.alloc (.cells #[.int .i64 g'.round,.int .i64 g'.player,.int .i64 g'.darts,.slice pa2 n pc2,.slice wa2 m2 wc2] 36) = w12:=⟨_,rfl⟩
      have k12 : w12.heap[b12]? = some (.cells #[.int .i64 g'.round,.int .i64 g'.player,.int .i64 g'.darts,.slice pa2 n pc2,.slice wa2 m2 wc2] 36 (0,0)):=by rw [← hw12,← hb12]; exact World.alloc_heap_new _ _
      have hz12 : w12.heap.size = b12 + 1:=by rw [← hw12,← hb12]; simp
      have hb1112 : Below w11.heap.size w11 w12:=by rw [← hw12]; exact aB _ _
      have hk12 : ∀ k,k < w10.heap.size → k ≠ b11 → w12.heap[k]? = w10.heap[k]? := fun k h1 h2 => (hb1112.block k (by omega)).trans (hk11 k h2)
      have hbsl:=HSR.out.lt bs rfl
      have hbdl:=HD8.out.lt bd2 rfl
      have HSR12:=Lib.hid (ownsN_kept HSR.out fun k hk => hk12 k (HSR.out.lt k hk).2 (by have:=(HSR.out.lt k hk).1; omega))
      have HB12:=Lib.hid hb12
      have HW12:=Lib.hid hw12
      have HW11:=Lib.hid hw11
      have K11:=Lib.hid k11
      have K12:=Lib.hid k12
      have HZ12 : Hid (b11 + 1 ≤ w12.heap.size):=Lib.hid (by have:=HB.out.2; omega)
      have HS10:=Lib.hid hst10
      have HK12:=Lib.hid hk12
      have HZZ:=Lib.hid (And.intro hz11 hz12)
      have HNS:=Lib.hid HND.out.2.1
      have hns : ns ≤ 501:=by have:=HND.out.2.1; have:=HC2.out; omega
      have HB1112:=Lib.hid hb1112
      clear hb10 hst10 hw11 k11 hk11 hz11 hb12 hw12 k12 hz12 hb1112 hk12 hbsl hbdl
      go_wp2_with (first | (refine wpList_opOK (o:=⟨none,Op.store 36 (.tmp 11) (.tmp 85),_,_,_,_⟩) (R:=fun _ w' => w11 = w') rfl (opOK_store_row 36 (.tmp 11) (.tmp 85) rfl b11 #[.int .i64 g'.round,.int .i64 g'.player,.int .i64 g'.darts,.slice pa2 n pc2,.slice wa2 m2 wc2] rfl rfl _ _ KS.out (by kernel_rfl) rfl (by simp [Value.oneCell']) HW11.out.symm) ?_; rintro _ _ rfl) | (refine wpList_opOK (o:=⟨some 89,Op.load 36 (.tmp 11),_,_,_,_⟩) (R:=fun v w' => v = .agg #[.int .i64 g'.round,.int .i64 g'.player,.int .i64 g'.darts,.slice pa2 n pc2,.slice wa2 m2 wc2] ∧ w11 = w') rfl (opOK_load_row 36 (.tmp 11) rfl b11 #[.int .i64 g'.round,.int .i64 g'.player,.int .i64 g'.darts,.slice pa2 n pc2,.slice wa2 m2 wc2] rfl 36 (0,0) K11.out _ Tryz.underlying36 rfl (by kernel_rfl) ⟨rfl,rfl⟩) ?_; rintro _ _ ⟨rfl,rfl⟩) | (at_builtin; rw [HW12.out,HB12.out]; refine wpList_appendN rfl (.tmp 88) (.tmp 90) 31 rfl (b11 + 1) 36 _ 5 72 Tryz.underlying31 info_sta rfl (by decide) _ ns _ rfl HSR12.out b12 0 1 1 [.int .i64 g'.round,.int .i64 g'.player,.int .i64 g'.darts,.slice pa2 n pc2,.slice wa2 m2 wc2] rfl rfl (fun j u hj => ?c1) (fun u hu => ?c2) (by omega) (by decide) HZ12.out ?_))
      case c1 => rw [cell_of_heap K12.out]; simpa using hj
      case c2 => simp at hu; rcases hu with rfl | rfl | rfl | rfl | rfl <;> rfl
      intro v' w13 hown hgr hat
      obtain ⟨bs3,cs3,rfl⟩ := ownsRow_succ hown
      have hbsl:=HSR12.out.lt bs rfl
      have hbdl:=HD8.out.lt bd2 rfl
      have hzz:=HZZ.out
      have hb12:=HB12.out
      have hne : bd2 ≠ bs:=by
       have:=ownsN_ne HD8.out HSR.out (by decide)
       simpa [Value.ownBlock] using this
      have hat' : bs3 = bs ∨ bs3 = w12.heap.size:=by simpa [Value.ownBlock] using hat
      have hk13 : ∀ k,k < w12.heap.size → k ≠ bs → w13.heap[k]? = w12.heap[k]? := fun k h1 h2 => hgr.block k h1 (by simp only [Value.ownBlock,Option.some.injEq,ne_eq]; omega)
      have hk : ∀ k,k < w10.heap.size → k ≠ b11 → k ≠ bs → w13.heap[k]? = w10.heap[k]? := fun k h1 h2 h3 => (hk13 k (by omega) h3).trans (HK12.out k h1 h2)
      have KR13:=Lib.hid ((hk b10 (Array.getElem?_eq_some_iff.1 KR.out).1 (by omega) (by omega)).trans KR.out)
      have KZ13:=Lib.hid ((hk (q + 1) (Array.getElem?_eq_some_iff.1 KZ.out).1 (by omega) (by omega)).trans KZ.out)
      have KS13:=Lib.hid ((hk13 b11 (by have:=HZ12.out; omega) (by omega)).trans ((HB1112.out.block b11 (Array.getElem?_eq_some_iff.1 K11.out).1).trans K11.out))
      have HBY13:=Lib.hid ((HBY.out.lt.cells fun b o hb _ => World.cell?_of_block (w:=w10) (hk b hb.2 (by have:=hb.1; omega) (by have:=hb.1; omega))).mono (S':=fun k => k < q) fun k hk => hk.1)
      have HSN13:=Lib.hid ((HSN.out.lt.cells fun b o hb _ => World.cell?_of_block (w:=w10) (hk b hb.2 (by have:=hb.1; omega) (by have:=hb.1; omega))).mono (S':=fun k => q + 2 ≤ k ∧ k < b10) fun k hk => hk.1)
      have HD13:=Lib.hid (ownsN_kept HD8.out fun k hkk => hk k (HD8.out.lt k hkk).2 (by have:=(HD8.out.lt k hkk).1; omega) (by simp only [Value.ownBlock,Option.some.injEq] at hkk; omega))
      have hs13 : StaV (StS q b11 (.slice (some ⟨bd2,0,none⟩) n1 cd2) (.slice (some ⟨bs3,0,none⟩) (ns + 1) cs3)) w13 (.agg #[.int .i64 g'.round,.int .i64 g'.player,.int .i64 g'.darts,.slice pa2 n pc2,.slice wa2 m2 wc2]) (staOf (some g')):=StV.keepS HS10.out fun k h1 h2 => by
       have h3 : w9.heap.size ≤ k:=h1
       have h4:=H9.out
       exact ⟨hk k h2 (by omega) (by omega),by omega,by omega,by simp only [Value.ownBlock,ne_eq,Option.some.injEq]; omega,by simp only [Value.ownBlock,ne_eq,Option.some.injEq]; omega⟩
      have HSO13 : Hid (StsOk (StS q b11 (.slice (some ⟨bd2,0,none⟩) n1 cd2) (.slice (some ⟨bs3,0,none⟩) (ns + 1) cs3)) w13 (rows ++ [[.int .i64 g'.round,.int .i64 g'.player,.int .i64 g'.darts,.slice pa2 n pc2,.slice wa2 m2 wc2]]) (g0 :: (playS r g0 (ys.take (nd + 1))).map (·.2))):=Lib.hid (by
       rw [HPS.out,List.map_append,← List.cons_append]
       refine StsOk.snoc (HSO.out.keepS fun k h1 h2 => ⟨hk k h2 h1.2.1 (fun e => h1.2.2.2 (by rw [e]; rfl)),h1.1,h1.2.1,h1.2.2.1, ?_⟩) rfl hs13
       simp only [Value.ownBlock,ne_eq,Option.some.injEq]
       rintro rfl
       rcases hat' with e | e
       ·exact h1.2.2.2 (by rw [e]; rfl)
       ·omega)
      have HS13:=Lib.hid hs13
      have HSR13 : Hid (w13.ownsRow (b11 + 1) 36 5 (.slice (some ⟨bs3,0,none⟩) (ns + 1) cs3) (ns + 1) (rows ++ [([.int .i64 g'.round,.int .i64 g'.player,.int .i64 g'.darts,.slice pa2 n pc2,.slice wa2 m2 wc2] : List Value)]).flatten):=Lib.hid (by simpa using hown)
      have HR13 : Hid (∀ x ∈ rows ++ [([.int .i64 g'.round,.int .i64 g'.player,.int .i64 g'.darts,.slice pa2 n pc2,.slice wa2 m2 wc2] : List Value)],x.length = 5):=Lib.hid fun x hx => by
       rcases List.mem_append.1 hx with hx | hx
       ·exact HR5.out x hx
       ·rw [List.mem_singleton] at hx; subst hx; rfl
      have HB13 : Hid (Below w.heap.size w w13 ∧ b11 + 1 ≤ w13.heap.size):=Lib.hid (by
       have hB : Below w.heap.size w w12:=by
        rw [← HW12.out,← HW11.out]
        exact (below_setRow HB.out.1 (by have:=HQ.out; omega) _).alloc (by have h1:=HB.out.1.size; rw [setRow_size]; exact h1) _
       exact ⟨hB.trans (below_grownBy hgr (by have:=hB.size; omega) fun k hkk => by have:=(HSR12.out.lt k hkk).1; have:=HQ.out; omega),by have:=hgr.size; have:=HZ12.out; omega⟩)
      have HDX : Hid (w13.ownsRow (b11 + 1) 45 1 (.slice (some ⟨bd2,0,none⟩) n1 cd2) n1 (ints ((playS r g0 (ys.take (nd + 1))).map (·.1)))):=Lib.hid (by rw [HPS.out,List.map_append,HDL.out]; exact HD13.out)
      have HGX : Hid (lastS r g0 (ys.take (nd + 1)) = g' ∧ Good r n1 g'):=Lib.hid ⟨HLS.out,by rw [← HN1.out]; exact HGOOD.out⟩
      have HNX : Hid (n1 ≤ nd + 1 ∧ ns + 1 = n1 + 1 ∧ (m2 = 0 → n1 = nd + 1)):=Lib.hid ⟨by have:=HN1.out; omega,by have:=HNS.out; have:=HN1.out; omega,fun _ => HN1.out.symm⟩
      have hlt1 : nd + 1 ≤ ys.length:=by have:=HC1.out; omega
      have hlt2 : nd + 1 ≤ most:=by have:=HC2.out; omega
      clear hown hgr hat hbsl hbdl hzz hb12 hne hat' hk13 hk hs13
      go_wp2
      go_roundw
      case rel => exact ⟨rfl,nd + 1,n1,ns + 1,bd2,cd2,bs3,cs3,m2,g',pa2,pc2,wa2,wc2,rows ++ [[.int .i64 g'.round,.int .i64 g'.player,.int .i64 g'.darts,.slice pa2 n pc2,.slice wa2 m2 wc2]],hlt1,hlt2,by go_num,rfl,rfl,HGX,HM2,HNX,KS13,HS13,HDX,HSR13,HR13,HSO13,KR13,KZ13,HB13,HBY13,HSN13⟩
      case measure => simp [intOf]; omega
     ·have d3 : ((m : Int) == 0) = false:=by simp; exact c3
      have heq : playS r g0 (ys.take i) = playS r g0 (ys.take most):=by
       have h1 : (lastS r g0 (ys.take i)).win ≠ []:=by rw [HGL.out.1]; intro e; apply c3; rw [← HM.out,e]; rfl
       have h2:=(playS_stop r ((ys.take most).drop i) (ys.take i) g0 h1).1
       have h3 : ys.take i ++ (ys.take most).drop i = ys.take most:=by
        have:=List.take_append_drop i (ys.take most)
        rwa [List.take_take,Nat.min_eq_left hi2] at this
       rw [h3] at h2; exact h2.symm
      have HEQ:=Lib.hid heq
      have hlen : rows.length = ns:=by
       have h1:=HSO.out.1
       have h2:=HD.out.1
       have h3:=HND.out.2.1
       simp at h1 h2
       omega
      have HLN:=Lib.hid hlen
      have hbd:=HBDL.out
      have hbs:=HBSL.out
      clear heq hlen
      go_wp2_with fail
      obtain ⟨A,hA⟩ : ∃ A : (Nat → Bool) → Array Value,A = fun L => if L 25 = true then #[.int .i64 r.kind,.int .i64 r.players,.int .i64 r.last,.bool r.bull,.bool r.jump,.int .i64 r.rounds,.bool r.cut,.slice na nl nc,.int .i64 r.lives,.bool r.own] else #[.int .i64 0,.int .i64 0,.int .i64 0,.bool false,.bool false,.int .i64 0,.bool false,.slice none 0 0,.int .i64 0,.bool false]:=⟨_,rfl⟩
      refine wp_region_seqC 29 [.agg #[.int .i64 r.kind,.int .i64 r.players,.int .i64 r.last,.bool r.bull,.bool r.jump,.int .i64 r.rounds,.bool r.cut,.slice na nl nc,.int .i64 r.lives,.bool r.own],.slice (some ⟨bd,0,none⟩) nd cd,.slice (some ⟨bs,0,none⟩) ns cs,.int .i64 0,.bool true,.bool true,.pointer (some ⟨b11,3,none⟩),.slice pa n pc,.int .i64 n,.pointer (some ⟨b10,1,none⟩),.int .i64 r.players,.bool true,.bool true,.bool true,.pointer (some ⟨b11,1,none⟩),.int .i64 g.player,.bool true,.bool true,.bool true,.pointer (some ⟨b11,1,none⟩),.int .i64 g.player,.pointer (some ⟨b10,1,none⟩),.int .i64 r.players,.bool true,.bool true,undef,.slice (some ⟨bd,0,none⟩) nd cd,.slice (some ⟨bs,0,none⟩) ns cs,.bool true] (JArr wo.drew (q + 1) 29 A) rfl mix (by kernel_rfl) (by kernel_rfl) (JArr.start (by rw [hA]; exact KZ.out)) ?_
      simp only [List.take_succ_cons,List.take_zero]
      refine sc_rd rfl (fun _ _ _ h => h.read (by rw [hA]; rfl)) (fun w3 L hL hJ => ?_) ?_
      ·have hk:=hJ.keep KR.out (by omega)
       exact opOK_load_row 29 (.tmp 10) rfl b10 #[.int .i64 r.kind,.int .i64 r.players,.int .i64 r.last,.bool r.bull,.bool r.jump,.int .i64 r.rounds,.bool r.cut,.slice na nl nc,.int .i64 r.lives,.bool r.own] (by simp [Act.eval]) 29 (0,0) hk _ Tryz.underlying29 rfl (by kernel_rfl) ⟨rfl,rfl⟩
      simp only [Act.put,List.setIfInBounds_toArray,List.set_cons_succ,List.set_cons_zero]
      iterate 24
       refine sc_on (by rfl) (fun _ _ _ h => h.read (by rw [hA]; rfl)) (fun w3 L hL hJ => ?_) ?_
       ·have a1:=hJ.cell s1 (by omega)
        have a3:=hJ.cell s3 (by omega)
        have a5:=hJ.cell r1 (by omega)
        simp [opOK,go_sem,a1,a3,a5,f3e,HNP.out]
        try exact rfl
       simp only [Act.put,List.setIfInBounds_toArray,List.set_cons_succ,List.set_cons_zero]
      refine sc_is rfl (fun w3 L hL hJ hd => ?_) ?_
      ·exact opOK_store_row 29 (.tmp 6) (.tmp 92) rfl (q + 1) #[.int .i64 r.kind,.int .i64 r.players,.int .i64 r.last,.bool r.bull,.bool r.jump,.int .i64 r.rounds,.bool r.cut,.slice na nl nc,.int .i64 r.lives,.bool r.own] (by simp [Act.eval]) (by simp [Act.eval]) 29 _ hJ.at_ (by kernel_rfl) (by rw [hA]; dsimp only; split <;> rfl) (by simp [Value.oneCell']) ⟨rfl,hJ.storeRow (i:=25) (by rw [hA]; simp [setB])⟩
      simp only [Act.put]
      iterate 3
       refine sc_on (by rfl) (fun _ _ _ h => h.read (by rw [hA]; rfl)) (fun w3 L hL hJ => ?_) ?_
       ·have a1:=hJ.cell s1 (by omega)
        have a3:=hJ.cell s3 (by omega)
        have a5:=hJ.cell r1 (by omega)
        simp [opOK,go_sem,HNP.out]
        try exact rfl
       simp only [Act.put,List.setIfInBounds_toArray,List.set_cons_succ,List.set_cons_zero]
      refine sc_end fun wz hJ => ?_
      simp only [List.drop_succ_cons,List.drop_zero]
      have kz : wz.heap[q + 1]? = some (.cells #[.int .i64 r.kind,.int .i64 r.players,.int .i64 r.last,.bool r.bull,.bool r.jump,.int .i64 r.rounds,.bool r.cut,.slice na nl nc,.int .i64 r.lives,.bool r.own] 29 (0,0)):=by have:=hJ.at_; rw [hA] at this; exact this
      have z0 : wz.cell? ⟨q + 1,0,none⟩ = _:=cell_of_heap (o:=0) kz
      have z1 : wz.cell? ⟨q + 1,1,none⟩ = _:=cell_of_heap (o:=1) kz
      have z2 : wz.cell? ⟨q + 1,2,none⟩ = _:=cell_of_heap (o:=2) kz
      have z3 : wz.cell? ⟨q + 1,3,none⟩ = _:=cell_of_heap (o:=3) kz
      have z4 : wz.cell? ⟨q + 1,4,none⟩ = _:=cell_of_heap (o:=4) kz
      have z5 : wz.cell? ⟨q + 1,5,none⟩ = _:=cell_of_heap (o:=5) kz
      have z6 : wz.cell? ⟨q + 1,6,none⟩ = _:=cell_of_heap (o:=6) kz
      have z7 : wz.cell? ⟨q + 1,7,none⟩ = _:=cell_of_heap (o:=7) kz
      have z8 : wz.cell? ⟨q + 1,8,none⟩ = _:=cell_of_heap (o:=8) kz
      have z9 : wz.cell? ⟨q + 1,9,none⟩ = _:=cell_of_heap (o:=9) kz
      simp only [List.getElem?_toArray,List.getElem?_cons_zero,List.getElem?_cons_succ] at z0 z1 z2 z3 z4 z5 z6 z7 z8 z9
      have hkz : ∀ k,k ≠ q + 1 → wz.heap[k]? = wo.heap[k]? := fun k hk => hJ.same k hk
      have HNZ : Hid (Sl (fun _ => True) wz (.slice na nl nc) (ints r.nums)):=Lib.hid ((HSN.out.cells fun b o hb _ => World.cell?_of_block (w:=wo) (hkz b (by have:=hb.1; omega))).mono fun _ _ => trivial)
      have hd0:=ownsN_kept HD.out (fun k hk => hkz k (by have:=(HD.out.lt k hk).1; omega))
      rw [HEQ.out] at hd0
      have HDZ : Hid (Sl (fun _ => True) wz (.slice (some ⟨bd,0,none⟩) nd cd) (ints (dartsS r (ys.take most)))):=Lib.hid (by unfold dartsS; rw [HG0.out]; exact (Sl.of_owns hd0).mono fun _ _ => trivial)
      have hs0:=ownsN_kept HSR.out (fun k hk => hkz k (by have:=(HSR.out.lt k hk).1; omega))
      have hcc : ns ≤ cs ∧ cs ≤ maxLen:=by
       rcases hs0.2 with ⟨h,_⟩ | ⟨g2,cap,cur,h,_,_,h3,h4,_⟩
       ·cases h
       ·cases h; exact ⟨h3,h4⟩
      have hso:=HSO.out.keepS (w':=wz) (S':=fun _ => True) fun k h1 h2 => ⟨hkz k h1.1,trivial⟩
      rw [HEQ.out] at hso
      have HSZ : Hid (StsV (fun _ => True) wz (.slice (some ⟨bs,0,none⟩) ns cs) (gamesS r (ys.take most))):=Lib.hid (by unfold gamesS; rw [HG0.out]; exact ⟨rows,(SlN.of_owns hs0 HR5.out HLN.out hcc.1 hcc.2).mono fun _ _ => trivial,hso⟩)
      have HBZ : Hid (Below w.heap.size w wz):=Lib.hid (hJ.below (HB.out.1.trans ⟨rfl,rfl,rfl,Nat.le_refl _,fun _ _ => rfl⟩) (by have:=HQ.out; omega))
      clear hJ kz hkz hd0 hs0 hcc hso
      go_wp2_with fail
      try simp only [Exit.inBlock,Exit.then]
      refine bodyPost_ret (by simp [results,Tryz.results4,go_sem,z0,z1,z2,z3,z4,z5,z6,z7,z8,z9]; try rfl) rfl ?_
      exact ⟨na,nl,nc,_,_,rfl,HBZ.out,HNZ.out,HDZ.out,HSZ.out⟩
    ·have d2 : decide ((i : Int) < (most : Int)) = false:=decide_eq_false (by omega)
     have d2n : decide (i < most) = false:=decide_eq_false c2
     have heq : playS r g0 (ys.take i) = playS r g0 (ys.take most):=by rw [show i = most by omega]
     have HEQ:=Lib.hid heq
     have hlen : rows.length = ns:=by
      have h1:=HSO.out.1
      have h2:=HD.out.1
      have h3:=HND.out.2.1
      simp at h1 h2
      omega
     have HLN:=Lib.hid hlen
     have hbd:=HBDL.out
     have hbs:=HBSL.out
     clear heq hlen
     go_wp2_with fail
     obtain ⟨A,hA⟩ : ∃ A : (Nat → Bool) → Array Value,A = fun L => if L 25 = true then #[.int .i64 r.kind,.int .i64 r.players,.int .i64 r.last,.bool r.bull,.bool r.jump,.int .i64 r.rounds,.bool r.cut,.slice na nl nc,.int .i64 r.lives,.bool r.own] else #[.int .i64 0,.int .i64 0,.int .i64 0,.bool false,.bool false,.int .i64 0,.bool false,.slice none 0 0,.int .i64 0,.bool false]:=⟨_,rfl⟩
     refine wp_region_seqC 29 [.agg #[.int .i64 r.kind,.int .i64 r.players,.int .i64 r.last,.bool r.bull,.bool r.jump,.int .i64 r.rounds,.bool r.cut,.slice na nl nc,.int .i64 r.lives,.bool r.own],.slice (some ⟨bd,0,none⟩) nd cd,.slice (some ⟨bs,0,none⟩) ns cs,.int .i64 0,.bool true,.bool true,.pointer (some ⟨b11,3,none⟩),.slice pa n pc,.int .i64 n,.pointer (some ⟨b10,1,none⟩),.int .i64 r.players,.bool true,.bool true,.bool true,.pointer (some ⟨b11,1,none⟩),.int .i64 g.player,.bool true,.bool true,.bool true,.pointer (some ⟨b11,1,none⟩),.int .i64 g.player,.pointer (some ⟨b10,1,none⟩),.int .i64 r.players,.bool true,.bool true,undef,.slice (some ⟨bd,0,none⟩) nd cd,.slice (some ⟨bs,0,none⟩) ns cs,.bool true] (JArr wo.drew (q + 1) 29 A) rfl mix (by kernel_rfl) (by kernel_rfl) (JArr.start (by rw [hA]; exact KZ.out)) ?_
     simp only [List.take_succ_cons,List.take_zero]
     refine sc_rd rfl (fun _ _ _ h => h.read (by rw [hA]; rfl)) (fun w3 L hL hJ => ?_) ?_
     ·have hk:=hJ.keep KR.out (by omega)
      exact opOK_load_row 29 (.tmp 10) rfl b10 #[.int .i64 r.kind,.int .i64 r.players,.int .i64 r.last,.bool r.bull,.bool r.jump,.int .i64 r.rounds,.bool r.cut,.slice na nl nc,.int .i64 r.lives,.bool r.own] (by simp [Act.eval]) 29 (0,0) hk _ Tryz.underlying29 rfl (by kernel_rfl) ⟨rfl,rfl⟩
     simp only [Act.put,List.setIfInBounds_toArray,List.set_cons_succ,List.set_cons_zero]
     iterate 24
      refine sc_on (by rfl) (fun _ _ _ h => h.read (by rw [hA]; rfl)) (fun w3 L hL hJ => ?_) ?_
      ·have a1:=hJ.cell s1 (by omega)
       have a3:=hJ.cell s3 (by omega)
       have a5:=hJ.cell r1 (by omega)
       simp [opOK,go_sem,a1,a3,a5,f3e,HNP.out]
       try exact rfl
      simp only [Act.put,List.setIfInBounds_toArray,List.set_cons_succ,List.set_cons_zero]
     refine sc_is rfl (fun w3 L hL hJ hd => ?_) ?_
     ·exact opOK_store_row 29 (.tmp 6) (.tmp 92) rfl (q + 1) #[.int .i64 r.kind,.int .i64 r.players,.int .i64 r.last,.bool r.bull,.bool r.jump,.int .i64 r.rounds,.bool r.cut,.slice na nl nc,.int .i64 r.lives,.bool r.own] (by simp [Act.eval]) (by simp [Act.eval]) 29 _ hJ.at_ (by kernel_rfl) (by rw [hA]; dsimp only; split <;> rfl) (by simp [Value.oneCell']) ⟨rfl,hJ.storeRow (i:=25) (by rw [hA]; simp [setB])⟩
     simp only [Act.put]
     iterate 3
      refine sc_on (by rfl) (fun _ _ _ h => h.read (by rw [hA]; rfl)) (fun w3 L hL hJ => ?_) ?_
      ·have a1:=hJ.cell s1 (by omega)
       have a3:=hJ.cell s3 (by omega)
       have a5:=hJ.cell r1 (by omega)
       simp [opOK,go_sem,HNP.out]
       try exact rfl
      simp only [Act.put,List.setIfInBounds_toArray,List.set_cons_succ,List.set_cons_zero]
     refine sc_end fun wz hJ => ?_
     simp only [List.drop_succ_cons,List.drop_zero]
     have kz : wz.heap[q + 1]? = some (.cells #[.int .i64 r.kind,.int .i64 r.players,.int .i64 r.last,.bool r.bull,.bool r.jump,.int .i64 r.rounds,.bool r.cut,.slice na nl nc,.int .i64 r.lives,.bool r.own] 29 (0,0)):=by have:=hJ.at_; rw [hA] at this; exact this
     have z0 : wz.cell? ⟨q + 1,0,none⟩ = _:=cell_of_heap (o:=0) kz
     have z1 : wz.cell? ⟨q + 1,1,none⟩ = _:=cell_of_heap (o:=1) kz
     have z2 : wz.cell? ⟨q + 1,2,none⟩ = _:=cell_of_heap (o:=2) kz
     have z3 : wz.cell? ⟨q + 1,3,none⟩ = _:=cell_of_heap (o:=3) kz
     have z4 : wz.cell? ⟨q + 1,4,none⟩ = _:=cell_of_heap (o:=4) kz
     have z5 : wz.cell? ⟨q + 1,5,none⟩ = _:=cell_of_heap (o:=5) kz
     have z6 : wz.cell? ⟨q + 1,6,none⟩ = _:=cell_of_heap (o:=6) kz
     have z7 : wz.cell? ⟨q + 1,7,none⟩ = _:=cell_of_heap (o:=7) kz
     have z8 : wz.cell? ⟨q + 1,8,none⟩ = _:=cell_of_heap (o:=8) kz
     have z9 : wz.cell? ⟨q + 1,9,none⟩ = _:=cell_of_heap (o:=9) kz
     simp only [List.getElem?_toArray,List.getElem?_cons_zero,List.getElem?_cons_succ] at z0 z1 z2 z3 z4 z5 z6 z7 z8 z9
     have hkz : ∀ k,k ≠ q + 1 → wz.heap[k]? = wo.heap[k]? := fun k hk => hJ.same k hk
     have HNZ : Hid (Sl (fun _ => True) wz (.slice na nl nc) (ints r.nums)):=Lib.hid ((HSN.out.cells fun b o hb _ => World.cell?_of_block (w:=wo) (hkz b (by have:=hb.1; omega))).mono fun _ _ => trivial)
     have hd0:=ownsN_kept HD.out (fun k hk => hkz k (by have:=(HD.out.lt k hk).1; omega))
     rw [HEQ.out] at hd0
     have HDZ : Hid (Sl (fun _ => True) wz (.slice (some ⟨bd,0,none⟩) nd cd) (ints (dartsS r (ys.take most)))):=Lib.hid (by unfold dartsS; rw [HG0.out]; exact (Sl.of_owns hd0).mono fun _ _ => trivial)
     have hs0:=ownsN_kept HSR.out (fun k hk => hkz k (by have:=(HSR.out.lt k hk).1; omega))
     have hcc : ns ≤ cs ∧ cs ≤ maxLen:=by
      rcases hs0.2 with ⟨h,_⟩ | ⟨g2,cap,cur,h,_,_,h3,h4,_⟩
      ·cases h
      ·cases h; exact ⟨h3,h4⟩
     have hso:=HSO.out.keepS (w':=wz) (S':=fun _ => True) fun k h1 h2 => ⟨hkz k h1.1,trivial⟩
     rw [HEQ.out] at hso
     have HSZ : Hid (StsV (fun _ => True) wz (.slice (some ⟨bs,0,none⟩) ns cs) (gamesS r (ys.take most))):=Lib.hid (by unfold gamesS; rw [HG0.out]; exact ⟨rows,(SlN.of_owns hs0 HR5.out HLN.out hcc.1 hcc.2).mono fun _ _ => trivial,hso⟩)
     have HBZ : Hid (Below w.heap.size w wz):=Lib.hid (hJ.below (HB.out.1.trans ⟨rfl,rfl,rfl,Nat.le_refl _,fun _ _ => rfl⟩) (by have:=HQ.out; omega))
     clear hJ kz hkz hd0 hs0 hcc hso
     go_wp2_with fail
     try simp only [Exit.inBlock,Exit.then]
     refine bodyPost_ret (by simp [results,Tryz.results4,go_sem,z0,z1,z2,z3,z4,z5,z6,z7,z8,z9]; try rfl) rfl ?_
     exact ⟨na,nl,nc,_,_,rfl,HBZ.out,HNZ.out,HDZ.out,HSZ.out⟩
   ·have d1 : decide ((i : Int) < (ys.length : Int)) = false:=decide_eq_false (by omega)
    have d1n : decide (i < ys.length) = false:=decide_eq_false c1
    have heq : playS r g0 (ys.take i) = playS r g0 (ys.take most):=by rw [List.take_of_length_le (by omega),List.take_of_length_le (by omega)]
    have HEQ:=Lib.hid heq
    have hlen : rows.length = ns:=by
     have h1:=HSO.out.1
     have h2:=HD.out.1
     have h3:=HND.out.2.1
     simp at h1 h2
     omega
    have HLN:=Lib.hid hlen
    have hbd:=HBDL.out
    have hbs:=HBSL.out
    clear heq hlen
    go_wp2_with fail
    obtain ⟨A,hA⟩ : ∃ A : (Nat → Bool) → Array Value,A = fun L => if L 25 = true then #[.int .i64 r.kind,.int .i64 r.players,.int .i64 r.last,.bool r.bull,.bool r.jump,.int .i64 r.rounds,.bool r.cut,.slice na nl nc,.int .i64 r.lives,.bool r.own] else #[.int .i64 0,.int .i64 0,.int .i64 0,.bool false,.bool false,.int .i64 0,.bool false,.slice none 0 0,.int .i64 0,.bool false]:=⟨_,rfl⟩
    refine wp_region_seqC 29 [.agg #[.int .i64 r.kind,.int .i64 r.players,.int .i64 r.last,.bool r.bull,.bool r.jump,.int .i64 r.rounds,.bool r.cut,.slice na nl nc,.int .i64 r.lives,.bool r.own],.slice (some ⟨bd,0,none⟩) nd cd,.slice (some ⟨bs,0,none⟩) ns cs,.int .i64 0,.bool true,.bool true,.pointer (some ⟨b11,3,none⟩),.slice pa n pc,.int .i64 n,.pointer (some ⟨b10,1,none⟩),.int .i64 r.players,.bool true,.bool true,.bool true,.pointer (some ⟨b11,1,none⟩),.int .i64 g.player,.bool true,.bool true,.bool true,.pointer (some ⟨b11,1,none⟩),.int .i64 g.player,.pointer (some ⟨b10,1,none⟩),.int .i64 r.players,.bool true,.bool true,undef,.slice (some ⟨bd,0,none⟩) nd cd,.slice (some ⟨bs,0,none⟩) ns cs,.bool true] (JArr wo.drew (q + 1) 29 A) rfl mix (by kernel_rfl) (by kernel_rfl) (JArr.start (by rw [hA]; exact KZ.out)) ?_
    simp only [List.take_succ_cons,List.take_zero]
    refine sc_rd rfl (fun _ _ _ h => h.read (by rw [hA]; rfl)) (fun w3 L hL hJ => ?_) ?_
    ·have hk:=hJ.keep KR.out (by omega)
     exact opOK_load_row 29 (.tmp 10) rfl b10 #[.int .i64 r.kind,.int .i64 r.players,.int .i64 r.last,.bool r.bull,.bool r.jump,.int .i64 r.rounds,.bool r.cut,.slice na nl nc,.int .i64 r.lives,.bool r.own] (by simp [Act.eval]) 29 (0,0) hk _ Tryz.underlying29 rfl (by kernel_rfl) ⟨rfl,rfl⟩
    simp only [Act.put,List.setIfInBounds_toArray,List.set_cons_succ,List.set_cons_zero]
    iterate 24
     refine sc_on (by rfl) (fun _ _ _ h => h.read (by rw [hA]; rfl)) (fun w3 L hL hJ => ?_) ?_
     ·have a1:=hJ.cell s1 (by omega)
      have a3:=hJ.cell s3 (by omega)
      have a5:=hJ.cell r1 (by omega)
      simp [opOK,go_sem,a1,a3,a5,f3e,HNP.out]
      try exact rfl
     simp only [Act.put,List.setIfInBounds_toArray,List.set_cons_succ,List.set_cons_zero]
    refine sc_is rfl (fun w3 L hL hJ hd => ?_) ?_
    ·exact opOK_store_row 29 (.tmp 6) (.tmp 92) rfl (q + 1) #[.int .i64 r.kind,.int .i64 r.players,.int .i64 r.last,.bool r.bull,.bool r.jump,.int .i64 r.rounds,.bool r.cut,.slice na nl nc,.int .i64 r.lives,.bool r.own] (by simp [Act.eval]) (by simp [Act.eval]) 29 _ hJ.at_ (by kernel_rfl) (by rw [hA]; dsimp only; split <;> rfl) (by simp [Value.oneCell']) ⟨rfl,hJ.storeRow (i:=25) (by rw [hA]; simp [setB])⟩
    simp only [Act.put]
    iterate 3
     refine sc_on (by rfl) (fun _ _ _ h => h.read (by rw [hA]; rfl)) (fun w3 L hL hJ => ?_) ?_
     ·have a1:=hJ.cell s1 (by omega)
      have a3:=hJ.cell s3 (by omega)
      have a5:=hJ.cell r1 (by omega)
      simp [opOK,go_sem,HNP.out]
      try exact rfl
     simp only [Act.put,List.setIfInBounds_toArray,List.set_cons_succ,List.set_cons_zero]
    refine sc_end fun wz hJ => ?_
    simp only [List.drop_succ_cons,List.drop_zero]
    have kz : wz.heap[q + 1]? = some (.cells #[.int .i64 r.kind,.int .i64 r.players,.int .i64 r.last,.bool r.bull,.bool r.jump,.int .i64 r.rounds,.bool r.cut,.slice na nl nc,.int .i64 r.lives,.bool r.own] 29 (0,0)):=by have:=hJ.at_; rw [hA] at this; exact this
    have z0 : wz.cell? ⟨q + 1,0,none⟩ = _:=cell_of_heap (o:=0) kz
    have z1 : wz.cell? ⟨q + 1,1,none⟩ = _:=cell_of_heap (o:=1) kz
    have z2 : wz.cell? ⟨q + 1,2,none⟩ = _:=cell_of_heap (o:=2) kz
    have z3 : wz.cell? ⟨q + 1,3,none⟩ = _:=cell_of_heap (o:=3) kz
    have z4 : wz.cell? ⟨q + 1,4,none⟩ = _:=cell_of_heap (o:=4) kz
    have z5 : wz.cell? ⟨q + 1,5,none⟩ = _:=cell_of_heap (o:=5) kz
    have z6 : wz.cell? ⟨q + 1,6,none⟩ = _:=cell_of_heap (o:=6) kz
    have z7 : wz.cell? ⟨q + 1,7,none⟩ = _:=cell_of_heap (o:=7) kz
    have z8 : wz.cell? ⟨q + 1,8,none⟩ = _:=cell_of_heap (o:=8) kz
    have z9 : wz.cell? ⟨q + 1,9,none⟩ = _:=cell_of_heap (o:=9) kz
    simp only [List.getElem?_toArray,List.getElem?_cons_zero,List.getElem?_cons_succ] at z0 z1 z2 z3 z4 z5 z6 z7 z8 z9
    have hkz : ∀ k,k ≠ q + 1 → wz.heap[k]? = wo.heap[k]? := fun k hk => hJ.same k hk
    have HNZ : Hid (Sl (fun _ => True) wz (.slice na nl nc) (ints r.nums)):=Lib.hid ((HSN.out.cells fun b o hb _ => World.cell?_of_block (w:=wo) (hkz b (by have:=hb.1; omega))).mono fun _ _ => trivial)
    have hd0:=ownsN_kept HD.out (fun k hk => hkz k (by have:=(HD.out.lt k hk).1; omega))
    rw [HEQ.out] at hd0
    have HDZ : Hid (Sl (fun _ => True) wz (.slice (some ⟨bd,0,none⟩) nd cd) (ints (dartsS r (ys.take most)))):=Lib.hid (by unfold dartsS; rw [HG0.out]; exact (Sl.of_owns hd0).mono fun _ _ => trivial)
    have hs0:=ownsN_kept HSR.out (fun k hk => hkz k (by have:=(HSR.out.lt k hk).1; omega))
    have hcc : ns ≤ cs ∧ cs ≤ maxLen:=by
     rcases hs0.2 with ⟨h,_⟩ | ⟨g2,cap,cur,h,_,_,h3,h4,_⟩
     ·cases h
     ·cases h; exact ⟨h3,h4⟩
    have hso:=HSO.out.keepS (w':=wz) (S':=fun _ => True) fun k h1 h2 => ⟨hkz k h1.1,trivial⟩
    rw [HEQ.out] at hso
    have HSZ : Hid (StsV (fun _ => True) wz (.slice (some ⟨bs,0,none⟩) ns cs) (gamesS r (ys.take most))):=Lib.hid (by unfold gamesS; rw [HG0.out]; exact ⟨rows,(SlN.of_owns hs0 HR5.out HLN.out hcc.1 hcc.2).mono fun _ _ => trivial,hso⟩)
    have HBZ : Hid (Below w.heap.size w wz):=Lib.hid (hJ.below (HB.out.1.trans ⟨rfl,rfl,rfl,Nat.le_refl _,fun _ _ => rfl⟩) (by have:=HQ.out; omega))
    clear hJ kz hkz hd0 hs0 hcc hso
    go_wp2_with fail
    try simp only [Exit.inBlock,Exit.then]
    refine bodyPost_ret (by simp [results,Tryz.results4,go_sem,z0,z1,z2,z3,z4,z5,z6,z7,z8,z9]; try rfl) rfl ?_
    exact ⟨na,nl,nc,_,_,rfl,HBZ.out,HNZ.out,HDZ.out,HSZ.out⟩
end Go.Proofs.YtnhggfnnolfcdaaGreat
