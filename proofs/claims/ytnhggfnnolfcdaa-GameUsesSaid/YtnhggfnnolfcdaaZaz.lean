/- The texts KM, in build order. -/
import Derived.Test.YtnhggfnnolfcdaaZay

/- Chapter 4, the reference: a game after some darts. -/
namespace Go.Proofs.Ytnhggfnnolfcdaa
open Go.RowKit Go.Oche Go.Proofs
theorem refBed_r (b : Int) (ob : Bool) (ho : Hid (okBed b = ob)) (hb : -9223372036854775808 ≤ b ∧ b ≤ 9223372036854775807) (w : World) :
  Calls Try.prog 32 #[.int .i64 b] w fun e w' => e = .returned (.bool ob) ∧ w = w':=by
 rw [← ho.out]; exact refBed_any b hb w
set_option maxRecDepth 100000 in
set_option maxHeartbeats 8000000 in
theorem refPlay_any {S S' : Nat → Prop} (r : Rul) (va : Option Addr) (nl vc : Nat) (da : Option Addr) (n0 dc : Nat) (darts : List Int) (hn : darts.length = n0) (h64 : ∀ b ∈ darts, -9223372036854775808 ≤ b ∧ b ≤ 9223372036854775807) (w : World) (hs : Sl S w (.slice va nl vc) (ints r.nums)) (hd : Sl S' w (.slice da n0 dc) (ints darts)) :
  Calls Try.prog 17 #[.agg #[.int .i64 r.kind,.int .i64 r.players,.int .i64 r.last,.bool r.bull,.bool r.jump,.int .i64 r.rounds,.bool r.cut,.slice va nl vc,.int .i64 r.lives,.bool r.own],.slice da n0 dc] w (RefPlayPost r (.slice va nl vc) w (playG r darts)):=by
 obtain ⟨N,hN⟩ : ∃ N,w.heap.size = N:=⟨_,rfl⟩
 obtain ⟨w2,hw2⟩ : ∃ w2,(w.alloc (.cells #[.int .i64 r.kind,.int .i64 r.players,.int .i64 r.last,.bool r.bull,.bool r.jump,.int .i64 r.rounds,.bool r.cut,.slice va nl vc,.int .i64 r.lives,.bool r.own] 25)).alloc (.cells #[.int .i64 0,.int .i64 0,.int .i64 0,.bool false,.bool false,.int .i64 0,.bool false,.slice none 0 0,.int .i64 0,.bool false,.int .i64 0,.int .i64 0,.int .i64 0,.slice none 0 0,.slice none 0 0,.bool false,.bool false,.bool false,.bool false,.bool false] 41) = w2:=⟨_,rfl⟩
 have hb2 : Below w.heap.size w w2:=by rw [← hw2]; exact (aB _ _).alloc (by simp) _
 have k2 : w2.heap[N]? = some (.cells #[.int .i64 r.kind,.int .i64 r.players,.int .i64 r.last,.bool r.bull,.bool r.jump,.int .i64 r.rounds,.bool r.cut,.slice va nl vc,.int .i64 r.lives,.bool r.own] 25 (0,0)):=by rw [← hw2,← hN]; exact ((aB (w.alloc (.cells #[.int .i64 r.kind,.int .i64 r.players,.int .i64 r.last,.bool r.bull,.bool r.jump,.int .i64 r.rounds,.bool r.cut,.slice va nl vc,.int .i64 r.lives,.bool r.own] 25)) (.cells #[.int .i64 0,.int .i64 0,.int .i64 0,.bool false,.bool false,.int .i64 0,.bool false,.slice none 0 0,.int .i64 0,.bool false,.int .i64 0,.int .i64 0,.int .i64 0,.slice none 0 0,.slice none 0 0,.bool false,.bool false,.bool false,.bool false,.bool false] 41)).block _ (by simp)).trans (World.alloc_heap_new _ _)
 have z2 : w2.heap[N + 1]? = some (.cells #[.int .i64 0,.int .i64 0,.int .i64 0,.bool false,.bool false,.int .i64 0,.bool false,.slice none 0 0,.int .i64 0,.bool false,.int .i64 0,.int .i64 0,.int .i64 0,.slice none 0 0,.slice none 0 0,.bool false,.bool false,.bool false,.bool false,.bool false] 41 (0,0)):=by rw [← hw2,← hN]; have:=World.alloc_heap_new (w.alloc (.cells #[.int .i64 r.kind,.int .i64 r.players,.int .i64 r.last,.bool r.bull,.bool r.jump,.int .i64 r.rounds,.bool r.cut,.slice va nl vc,.int .i64 r.lives,.bool r.own] 25)) (.cells #[.int .i64 0,.int .i64 0,.int .i64 0,.bool false,.bool false,.int .i64 0,.bool false,.slice none 0 0,.int .i64 0,.bool false,.int .i64 0,.int .i64 0,.int .i64 0,.slice none 0 0,.slice none 0 0,.bool false,.bool false,.bool false,.bool false,.bool false] 41); simpa using this
 obtain ⟨er,her⟩ : ∃ er,checkR r = er:=⟨_,rfl⟩
 have hck:=refCheck_any r va nl vc w2 (hs.below hb2)
 rw [her] at hck
 have hnum:=hs.lt
 rw [hN] at hnum
 have HNUM:=Lib.hid hnum
 have HD:=Lib.hid hd
 have HS:=Lib.hid hs
 have HB2:=Lib.hid hb2
 have HK2:=Lib.hid k2
 have HZ2:=Lib.hid z2
 have HW2:=Lib.hid hw2
 have HN:=Lib.hid hN
 have HER:=Lib.hid her
 have HCK:=Lib.hid hck
 have H64:=Lib.hid h64
 have HNL:=Lib.hid hn
 clear hs hd hb2 k2 z2 hw2 hN her hck hnum h64 hn
 go_enter Try.func17,Try.ntmps17
 go_upto_region 1 with fail
 rw [HW2.out,HN.out]
 go_wp2_with (first | (refine wpList_opOK (o:=⟨some 10,Op.load 25 (.tmp 2),_,_,_,_⟩) (R:=fun v w' => v = .agg #[.int .i64 r.kind,.int .i64 r.players,.int .i64 r.last,.bool r.bull,.bool r.jump,.int .i64 r.rounds,.bool r.cut,.slice va nl vc,.int .i64 r.lives,.bool r.own] ∧ w2 = w') (by rfl) (opOK_load_row 25 (.tmp 2) rfl (N) #[.int .i64 r.kind,.int .i64 r.players,.int .i64 r.last,.bool r.bull,.bool r.jump,.int .i64 r.rounds,.bool r.cut,.slice va nl vc,.int .i64 r.lives,.bool r.own] (by simp [Act.eval]) 25 (0,0) HK2.out _ Try.underlying25 rfl (by kernel_rfl) ⟨rfl,rfl⟩) ?_; rintro _ _ ⟨rfl,rfl⟩) | fail)
 refine HCK.out.mono ?_
 rintro e w3 ⟨rfl,hb3⟩
 have HB3:=Lib.hid (HB2.out.trans (hb3.mono HB2.out.size))
 have HK3:=Lib.hid ((hb3.block N (Array.getElem?_eq_some_iff.1 HK2.out).1).trans HK2.out)
 have HZ3:=Lib.hid ((hb3.block (N + 1) (Array.getElem?_eq_some_iff.1 HZ2.out).1).trans HZ2.out)
 clear hb3 HCK
 by_cases hne : er ≠ 0
 ·as_aux_lemma =>
  have eb : (er != 0) = true:=by simp [hne]
  have HP : Hid (playG r darts = (none,0,er)):=Lib.hid (by unfold playG; rw [HER.out,if_pos hne])
  clear hne
  have HSELF : Hid (w3.setRow (N + 1) #[.int .i64 0,.int .i64 0,.int .i64 0,.bool false,.bool false,.int .i64 0,.bool false,.slice none 0 0,.int .i64 0,.bool false,.int .i64 0,.int .i64 0,.int .i64 0,.slice none 0 0,.slice none 0 0,.bool false,.bool false,.bool false,.bool false,.bool false] = w3):=Lib.hid (setRow_self _ _ _ _ _ HZ3.out)
  go_wp2_with (first | (refine wpList_opOK (o:=⟨none,Op.store 41 (.tmp 4) (.tmp 14),_,_,_,_⟩) (R:=fun _ w' => w3 = w') rfl (opOK_store_row 41 (.tmp 4) (.tmp 14) rfl (N + 1) #[.int .i64 0,.int .i64 0,.int .i64 0,.bool false,.bool false,.int .i64 0,.bool false,.slice none 0 0,.int .i64 0,.bool false,.int .i64 0,.int .i64 0,.int .i64 0,.slice none 0 0,.slice none 0 0,.bool false,.bool false,.bool false,.bool false,.bool false] rfl rfl _ _ HZ3.out (by kernel_rfl) rfl (by simp [Value.oneCell']) HSELF.out.symm) ?_; rintro _ _ rfl) | fail)
  try simp only [Exit.inBlock,Exit.then]
  refine bodyPost_ret (results_cell3 Try.results17 rfl (run_loadVar_row w3 (N + 1) 41 41 _ _ _ HZ3.out Try.underlying41 rfl (by kernel_rfl)) rfl rfl) rfl ?_
  rw [HP.out]
  exact ⟨_,rfl,HB3.out,.inl ⟨rfl,rfl⟩⟩
 obtain rfl : er = 0:=by omega
 clear hne
 have eb : ((0 : Int) != 0) = false:=by rfl
 obtain ⟨lb,hlb⟩ : ∃ lb,decide (600 < n0) = lb:=⟨_,rfl⟩
 have hlb' : decide ((600 : Int) < (n0 : Int)) = lb:=by rw [← hlb]; exact decide_eq_decide.2 (by omega)
 cases lb with
 | true =>
  as_aux_lemma =>
  have HP : Hid (playG r darts = (none,0,5)):=Lib.hid (by
   unfold playG; rw [HER.out,if_neg (by decide),HNL.out,if_pos (by simpa using hlb)])
  have HSELF : Hid (w3.setRow (N + 1) #[.int .i64 0,.int .i64 0,.int .i64 0,.bool false,.bool false,.int .i64 0,.bool false,.slice none 0 0,.int .i64 0,.bool false,.int .i64 0,.int .i64 0,.int .i64 0,.slice none 0 0,.slice none 0 0,.bool false,.bool false,.bool false,.bool false,.bool false] = w3):=Lib.hid (setRow_self _ _ _ _ _ HZ3.out)
  go_wp2_with (first | (refine wpList_opOK (o:=⟨none,Op.store 41 (.tmp 4) (.tmp 19),_,_,_,_⟩) (R:=fun _ w' => w3 = w') rfl (opOK_store_row 41 (.tmp 4) (.tmp 19) rfl (N + 1) #[.int .i64 0,.int .i64 0,.int .i64 0,.bool false,.bool false,.int .i64 0,.bool false,.slice none 0 0,.int .i64 0,.bool false,.int .i64 0,.int .i64 0,.int .i64 0,.slice none 0 0,.slice none 0 0,.bool false,.bool false,.bool false,.bool false,.bool false] rfl rfl _ _ HZ3.out (by kernel_rfl) rfl (by simp [Value.oneCell']) HSELF.out.symm) ?_; rintro _ _ rfl) | fail)
  try simp only [Exit.inBlock,Exit.then]
  refine bodyPost_ret (results_cell3 Try.results17 rfl (run_loadVar_row w3 (N + 1) 41 41 _ _ _ HZ3.out Try.underlying41 rfl (by kernel_rfl)) rfl rfl) rfl ?_
  rw [HP.out]
  exact ⟨_,rfl,HB3.out,.inl ⟨rfl,rfl⟩⟩
 | false =>
  have h600 : n0 ≤ 600:=by simpa using hlb
  have HPL : Hid (playG r darts = playF r (initG r) 0 darts):=Lib.hid (by
   unfold playG; rw [HER.out,if_neg (by decide),HNL.out,if_neg (by omega)])
  go_upto_region 6 with fail
  clear hlb hlb' eb
  go_wp2_with (first | (refine wpList_opOK (o:=⟨some 20,Op.load 25 (.tmp 2),_,_,_,_⟩) (R:=fun v w' => v = .agg #[.int .i64 r.kind,.int .i64 r.players,.int .i64 r.last,.bool r.bull,.bool r.jump,.int .i64 r.rounds,.bool r.cut,.slice va nl vc,.int .i64 r.lives,.bool r.own] ∧ w3 = w') (by rfl) (opOK_load_row 25 (.tmp 2) rfl (N) #[.int .i64 r.kind,.int .i64 r.players,.int .i64 r.last,.bool r.bull,.bool r.jump,.int .i64 r.rounds,.bool r.cut,.slice va nl vc,.int .i64 r.lives,.bool r.own] (by simp [Act.eval]) 25 (0,0) HK3.out _ Try.underlying25 rfl (by kernel_rfl) ⟨rfl,rfl⟩) ?_; rintro _ _ ⟨rfl,rfl⟩) | fail)
  refine (refNew_any r (.slice va nl vc) w3 (HS.out.below HB3.out) HER.out).mono ?_
  rintro e w4 ⟨pb,cap,wv,rfl,hV4,hb4,hn4,hs4⟩
  obtain ⟨g,hg⟩ : ∃ x,initG r = x:=⟨_,rfl⟩
  have HGI:=Lib.hid hg
  rw [hg] at hV4 hn4 hs4
  rw [hg]
  obtain ⟨G,hG⟩ : ∃ x,w4.heap.size = x:=⟨_,rfl⟩
  obtain ⟨w5,hw5⟩ : ∃ x,w4.alloc (.cells (gamA r g (.slice va nl vc) (.slice (some ⟨pb,0,none⟩) g.pls.length cap) wv) 41) = x:=⟨_,rfl⟩
  have hb5 : Below w4.heap.size w4 w5:=by rw [← hw5]; exact aB _ _
  have hbx5 : w5.heap[G]? = some (.cells (gamA r g (.slice va nl vc) (.slice (some ⟨pb,0,none⟩) g.pls.length cap) wv) 41 (0,0)):=by rw [← hw5,← hG]; exact World.alloc_heap_new _ _
  have hBW5 : Below w.heap.size w w5:=(HB3.out.trans (hb4.mono HB3.out.size)).trans (hb5.mono (by have:=HB3.out.size; have:=hb4.size; omega))
  have hz5:=(hb5.block (N + 1) (by have:=hb4.size; have:=(Array.getElem?_eq_some_iff.1 HZ3.out).1; omega)).trans ((hb4.block (N + 1) (Array.getElem?_eq_some_iff.1 HZ3.out).1).trans HZ3.out)
  have hGN : N + 1 < G:=by have:=hb4.size; have:=(Array.getElem?_eq_some_iff.1 HZ3.out).1; omega
  have hnv1 : ((.slice va nl vc) : Value).oneCell' = true:=rfl
  have hwv1 : wv.oneCell' = true:=by obtain ⟨_,_,e,_⟩ := hV4.win.form; rw [e]; rfl
  have HST5 : Hid (GamV w5 r g (.slice va nl vc) pb cap wv ∧ (g.win = [] → wv = (.slice none 0 0)) ∧ Sl (fun q => q ≠ G ∧ q ≠ N + 1) w5 wv (ints g.win) ∧ w5.heap[G]? = some (.cells (gamA r g (.slice va nl vc) (.slice (some ⟨pb,0,none⟩) g.pls.length cap) wv) 41 (0,0)) ∧ w5.heap[N + 1]? = some (.cells #[.int .i64 0,.int .i64 0,.int .i64 0,.bool false,.bool false,.int .i64 0,.bool false,.slice none 0 0,.int .i64 0,.bool false,.int .i64 0,.int .i64 0,.int .i64 0,.slice none 0 0,.slice none 0 0,.bool false,.bool false,.bool false,.bool false,.bool false] 41 (0,0)) ∧ Below w.heap.size w w5 ∧ playF r (initG r) 0 darts = playF r g 0 (darts.drop 0) ∧ Good r 0 g):=Lib.hid ⟨hV4.below hb5,hn4,(hs4.lt.below hb5).mono fun q hq => by have:=hq.1; have:=hq.2; have:=HB3.out.size; have:=(Array.getElem?_eq_some_iff.1 HZ3.out).1; omega,hbx5,hz5,hBW5,by rw [hg]; rfl,by rw [← hg]; exact Good.init HER.out⟩
  have HW5:=Lib.hid hw5
  have HG:=Lib.hid hG
  have HONE:=Lib.hid (gamA_one (r:=r) (g:=g) hnv1 (show (Value.slice (some ⟨pb,0,none⟩) g.pls.length cap).oneCell' = true from rfl) hwv1)
  clear hV4 hb4 hn4 hs4 hw5 hb5 hbx5 hBW5 hz5 hG hg hnv1 hwv1
  go_wp2_with (first | (refine wpList_opOK (o:=⟨none,Op.store 41 (.tmp 8) (.tmp 21),_,_,_,_⟩) (R:=fun _ w' => w5 = w') rfl (opOK_store_row 41 (.tmp 8) (.tmp 21) rfl (w4.heap.size) (gamA r g (.slice va nl vc) (.slice (some ⟨pb,0,none⟩) g.pls.length cap) wv) rfl rfl _ _ (World.alloc_heap_new _ _) (by kernel_rfl) rfl HONE.out ((World.setRow_alloc_new _ _ _ _).trans HW5.out).symm) ?_; rintro _ _ rfl) | fail)
  rw [HG.out]
  clear HONE
  go_loopw [9] (fun iv wr => ∃ (k : Nat) (g : Gam) (pb cap : Nat) (wv : Value),k ≤ n0 ∧ iv = .int .i64 k ∧ Hid (GamV wr r g (.slice va nl vc) pb cap wv ∧ (g.win = [] → wv = (.slice none 0 0)) ∧ Sl (fun q => q ≠ G ∧ q ≠ N + 1) wr wv (ints g.win) ∧ wr.heap[G]? = some (.cells (gamA r g (.slice va nl vc) (.slice (some ⟨pb,0,none⟩) g.pls.length cap) wv) 41 (0,0)) ∧ wr.heap[N + 1]? = some (.cells #[.int .i64 0,.int .i64 0,.int .i64 0,.bool false,.bool false,.int .i64 0,.bool false,.slice none 0 0,.int .i64 0,.bool false,.int .i64 0,.int .i64 0,.int .i64 0,.slice none 0 0,.slice none 0 0,.bool false,.bool false,.bool false,.bool false,.bool false] 41 (0,0)) ∧ Below w.heap.size w wr ∧ playF r (initG r) 0 darts = playF r g k (darts.drop k) ∧ Good r k g)) (fun iv _ => n0 - (intOf iv).toNat)
  case atStart => exact ⟨0,g,pb,cap,wv,by omega,by go_num,HST5⟩
  case round =>
   clear HST5
   obtain ⟨k,g,pb,cap,wv,hk,rfl,HR⟩ := hrel
   obtain ⟨w6,rfl⟩ : ∃ y : World,y = wr:=⟨_,rfl⟩
   have HBX6:=Lib.hid HR.out.2.2.2.1
   have HZ6:=Lib.hid HR.out.2.2.2.2.1
   have HBW6:=Lib.hid HR.out.2.2.2.2.2.1
   have HPF:=Lib.hid HR.out.2.2.2.2.2.2.1
   have HGD:=Lib.hid HR.out.2.2.2.2.2.2.2
   by_cases hlt : k < n0
   ·have hlti : (k : Int) < (n0 : Int):=by omega
    have d1 : decide ((k : Int) < (n0 : Int)) = true:=decide_eq_true hlti
    have d1n : decide (k < n0) = true:=decide_eq_true hlt
    have zk : IntKind.i64.wrap ((k : Int) + 1) = (k : Int) + 1:=wrap_small _ (by omega) (by omega)
    have hkx : k < darts.length:=by rw [HNL.out]; exact hlt
    obtain ⟨db,do_,hal,_,hc6⟩ := (HD.out.below HBW6.out).cell hkx
    cases hal
    obtain ⟨x,hx⟩ : ∃ x,darts[k] = x:=⟨_,rfl⟩
    rw [hx] at hc6
    have HX64:=Lib.hid (H64.out x (by rw [← hx]; exact List.getElem_mem hkx))
    have HDR : Hid (darts.drop k = x :: darts.drop (k + 1)):=Lib.hid (by rw [← hx]; exact List.drop_eq_getElem_cons hkx)
    obtain ⟨ob,hob⟩ : ∃ ob,okBed x = ob:=⟨_,rfl⟩
    have HOB:=Lib.hid hob
    clear hx hob hkx
    go_wp2_with fail
    refine (refBed_r x ob HOB HX64.out w6).mono ?_
    rintro e w7 ⟨rfl,rfl⟩
    cases ob with
    | false =>
     as_aux_lemma =>
     have HP : Hid (playG r darts = (none,k,2)):=Lib.hid (by rw [HPL.out,HPF.out,HDR.out,playF_bad HOB.out])
     have HSELF : Hid (w6.setRow (N + 1) #[.int .i64 0,.int .i64 0,.int .i64 0,.bool false,.bool false,.int .i64 0,.bool false,.slice none 0 0,.int .i64 0,.bool false,.int .i64 0,.int .i64 0,.int .i64 0,.slice none 0 0,.slice none 0 0,.bool false,.bool false,.bool false,.bool false,.bool false] = w6):=Lib.hid (setRow_self _ _ _ _ _ HZ6.out)
     go_wp2_with (first | (refine wpList_opOK (o:=⟨none,Op.store 41 (.tmp 4) (.tmp 34),_,_,_,_⟩) (R:=fun _ w' => w6 = w') rfl (opOK_store_row 41 (.tmp 4) (.tmp 34) rfl (N + 1) #[.int .i64 0,.int .i64 0,.int .i64 0,.bool false,.bool false,.int .i64 0,.bool false,.slice none 0 0,.int .i64 0,.bool false,.int .i64 0,.int .i64 0,.int .i64 0,.slice none 0 0,.slice none 0 0,.bool false,.bool false,.bool false,.bool false,.bool false] rfl rfl _ _ HZ6.out (by kernel_rfl) rfl (by simp [Value.oneCell']) HSELF.out.symm) ?_; rintro _ _ rfl) | fail)
     try simp only [Exit.inBlock,Exit.then]
     refine bodyPost_ret (results_cell3 Try.results17 rfl (run_loadVar_row w6 (N + 1) 41 41 _ _ _ HZ6.out Try.underlying41 rfl (by kernel_rfl)) rfl rfl) rfl ?_
     rw [HP.out]
     exact ⟨_,rfl,HBW6.out,.inl ⟨rfl,rfl⟩⟩
    | true =>
     obtain ⟨ov,hov⟩ : ∃ ov,(!g.win.isEmpty) = ov:=⟨_,rfl⟩
     have hover:=refOver_v pb cap r g wv (.slice va nl vc) w6 HR.out.1
     rw [hov] at hover
     have HOV:=Lib.hid hov
     have HOVER:=Lib.hid hover
     clear hov hover
     go_wp2_with (first | (refine wpList_opOK (o:=⟨some 36,Op.load 41 (.tmp 8),_,_,_,_⟩) (R:=fun v w' => v = .agg (gamA r g (.slice va nl vc) (.slice (some ⟨pb,0,none⟩) g.pls.length cap) wv) ∧ w6 = w') (by rfl) (opOK_load_row 41 (.tmp 8) rfl (G) (gamA r g (.slice va nl vc) (.slice (some ⟨pb,0,none⟩) g.pls.length cap) wv) (by simp [Act.eval]) 41 (0,0) HBX6.out _ Try.underlying41 rfl (by kernel_rfl) ⟨rfl,rfl⟩) ?_; rintro _ _ ⟨rfl,rfl⟩) | fail)
     refine HOVER.out.mono ?_
     rintro e w7 ⟨rfl,hb7⟩
     have HB7:=Lib.hid hb7
     have HBW7:=Lib.hid (HBW6.out.trans (hb7.mono HBW6.out.size))
     have HZ7:=Lib.hid ((hb7.block (N + 1) (Array.getElem?_eq_some_iff.1 HZ6.out).1).trans HZ6.out)
     have HBX7:=Lib.hid ((hb7.block G (Array.getElem?_eq_some_iff.1 HBX6.out).1).trans HBX6.out)
     have hc7:=bAt hb7 hc6
     clear hb7 hc6 HOVER
     cases ov with
     | true =>
      as_aux_lemma =>
      have he : g.win ≠ []:=by have:=HOV.out; simpa using this
      have HP : Hid (playG r darts = (none,k,9)):=Lib.hid (by rw [HPL.out,HPF.out,HDR.out,playF_over HOB.out he])
      clear he
      have HSELF : Hid (w7.setRow (N + 1) #[.int .i64 0,.int .i64 0,.int .i64 0,.bool false,.bool false,.int .i64 0,.bool false,.slice none 0 0,.int .i64 0,.bool false,.int .i64 0,.int .i64 0,.int .i64 0,.slice none 0 0,.slice none 0 0,.bool false,.bool false,.bool false,.bool false,.bool false] = w7):=Lib.hid (setRow_self _ _ _ _ _ HZ7.out)
      go_wp2_with (first | (refine wpList_opOK (o:=⟨none,Op.store 41 (.tmp 4) (.tmp 38),_,_,_,_⟩) (R:=fun _ w' => w7 = w') rfl (opOK_store_row 41 (.tmp 4) (.tmp 38) rfl (N + 1) #[.int .i64 0,.int .i64 0,.int .i64 0,.bool false,.bool false,.int .i64 0,.bool false,.slice none 0 0,.int .i64 0,.bool false,.int .i64 0,.int .i64 0,.int .i64 0,.slice none 0 0,.slice none 0 0,.bool false,.bool false,.bool false,.bool false,.bool false] rfl rfl _ _ HZ7.out (by kernel_rfl) rfl (by simp [Value.oneCell']) HSELF.out.symm) ?_; rintro _ _ rfl) | fail)
      try simp only [Exit.inBlock,Exit.then]
      refine bodyPost_ret (results_cell3 Try.results17 rfl (run_loadVar_row w7 (N + 1) 41 41 _ _ _ HZ7.out Try.underlying41 rfl (by kernel_rfl)) rfl rfl) rfl ?_
      rw [HP.out]
      exact ⟨_,rfl,HBW7.out,.inl ⟨rfl,rfl⟩⟩
     | false =>
      as_aux_lemma =>
      have HE : Hid (g.win = []):=Lib.hid (by have:=HOV.out; simpa using this)
      obtain ⟨g',hg'⟩ : ∃ y,throwG r g (x.tdiv 100) (x.tmod 100) = y:=⟨_,rfl⟩
      have HPF2 : Hid (playF r (initG r) 0 darts = playF r g' (k + 1) (darts.drop (k + 1))):=Lib.hid (by rw [HPF.out,HDR.out,playF_on HOB.out HE.out,hg'])
      have HGD2 : Hid (Good r (k + 1) g'):=Lib.hid (by rw [← hg']; exact HGD.out.throw HE.out (okBed_hit HOB.out))
      obtain rfl : wv = (.slice none 0 0):=HR.out.2.1 HE.out
      have HTHROW : Hid (∀ u,Below w7.heap.size w7 u → Calls Try.prog 33 #[.agg (gamA r g (.slice va nl vc) (.slice (some ⟨pb,0,none⟩) g.pls.length cap) (.slice none 0 0)),.int .i64 x] u (ThrowPost r g' (.slice va nl vc) u)):=Lib.hid (fun u hu => by
       have hbx:=okBed_bd HOB.out
       have hft : ((x.tdiv 100).toNat : Int) = x.tdiv 100:=by have:=(okBed_hit HOB.out).f; omega
       have hlv:=HGD.out.live HE.out
       have hrd:=HGD.out.rd
       have ht:=refThrow_any r g pb g.pls.length cap (.slice va nl vc) _ u (x.tdiv 100).toNat (x.tmod 100) x rfl ((HR.out.1.below HB7.out).below hu) hlv (by omega) (by rw [hft]; exact okBed_hit HOB.out) (by omega) hft.symm rfl (by omega)
       rw [hft,hg'] at ht
       exact ht)
      clear hg'
      have hc6:=hc7
      clear hc7
      go_upto_region 14 with fail
      refine wp_region_seqV 6 ((fun v => v = .agg (gamA r g (.slice va nl vc) (.slice (some ⟨pb,0,none⟩) g.pls.length cap) (.slice none 0 0))) :: (fun v => v = .slice (some ⟨db,do_,none⟩) n0 dc) :: (fun v => v = .int .i64 k) :: (fun v => v = .pointer (some ⟨db,do_ + k,none⟩)) :: (fun v => v = .int .i64 x) :: (fun v => ∃ pb cap wv,v = .agg (gamA r g' (.slice va nl vc) (.slice (some ⟨pb,0,none⟩) g'.pls.length cap) wv)) :: []) (JThr w7 r g' (.slice va nl vc) 5) rfl mix (by kernel_rfl) (by kernel_rfl) (fun _ _ _ _ hc h => h.congr hc) (fun _ => .start) ?_
      simp only [List.take_succ_cons,List.take_zero]
      refine sv_rd rfl (fun _ _ _ h => h.read (by simp)) (fun u1 L1 vs1 hvs1 hL1 hJ1 => ?_) ?_
      ·exact opOK_load_row 41 (.tmp 8) rfl G (gamA r g (.slice va nl vc) (.slice (some ⟨pb,0,none⟩) g.pls.length cap) (.slice none 0 0)) (by simp [Act.eval]) 41 (0,0) ((hJ1.below.block G (Array.getElem?_eq_some_iff.1 HBX7.out).1).trans HBX7.out) _ Try.underlying41 rfl (by kernel_rfl) ⟨rfl,rfl⟩
      simp only [Act.put,List.setIfInBounds_toArray,List.set_cons_succ,List.set_cons_zero,List.nil_append]
      refine sv_rd rfl (fun _ _ _ h => h.read (by simp)) (fun u1 L1 vs1 hvs1 hL1 hJ1 => ?_) ?_
      ·have y1:=bAt hJ1.below hc6
       simp [opOK,go_sem]
      simp only [Act.put,List.setIfInBounds_toArray,List.set_cons_succ,List.set_cons_zero,List.nil_append,List.cons_append]
      refine sv_rd rfl (fun _ _ _ h => h.read (by simp)) (fun u1 L1 vs1 hvs1 hL1 hJ1 => ?_) ?_
      ·have y1:=bAt hJ1.below hc6
       simp [opOK,go_sem]
      simp only [Act.put,List.setIfInBounds_toArray,List.set_cons_succ,List.set_cons_zero,List.nil_append,List.cons_append]
      refine sv_rd rfl (fun _ _ _ h => h.read (by simp)) (fun u1 L1 vs1 hvs1 hL1 hJ1 => ?_) ?_
      ·have y1:=bAt hJ1.below hc6
       simp [opOK,go_sem,hlti]
      simp only [Act.put,List.setIfInBounds_toArray,List.set_cons_succ,List.set_cons_zero,List.nil_append,List.cons_append]
      refine sv_rd rfl (fun _ _ _ h => h.read (by simp)) (fun u1 L1 vs1 hvs1 hL1 hJ1 => ?_) ?_
      ·have y1:=bAt hJ1.below hc6
       simp [opOK,go_sem,y1]
      simp only [Act.put,List.setIfInBounds_toArray,List.set_cons_succ,List.set_cons_zero,List.nil_append,List.cons_append]
      refine sv_new ⟨_,0,0,undef,rfl⟩ rfl (fun u1 L1 vs1 hvs1 hL1 hJ1 hd => ?_) ?_
      ·refine opOK_call (f:=33) (args:=#[.agg (gamA r g (.slice va nl vc) (.slice (some ⟨pb,0,none⟩) g.pls.length cap) (.slice none 0 0)),.int .i64 x]) (by simp [go_sem]) ?_
       exact (HTHROW.out u1 hJ1.below).mono fun e W' hp => by
        obtain ⟨pb',cap',wv',h1,h2⟩ := hp
        exact ⟨_,h1,hJ1.call ⟨pb',cap',wv',h1,h2⟩ h1⟩
      rintro _ ⟨pb2,cap2,wv2,rfl⟩
      simp only [Act.put,List.setIfInBounds_toArray,List.set_cons_succ,List.set_cons_zero,List.nil_append,List.cons_append]
      refine sv_end fun vs8 w8 hvs8 hJ8 => ?_
      simp only [List.drop_succ_cons,List.drop_zero]
      obtain ⟨pb',cap',wv',ev,hV8,hn8,hs8⟩ := hJ8.res (by decide)
      rw [hvs8 5 _ rfl] at ev
      have HV8:=Lib.hid hV8
      have HN8:=Lib.hid hn8
      have hbw8:=HBW7.out.trans (hJ8.below.mono HBW7.out.size)
      have hbx8:=(hJ8.below.block G (Array.getElem?_eq_some_iff.1 HBX7.out).1).trans HBX7.out
      have hz8:=(hJ8.below.block (N + 1) (Array.getElem?_eq_some_iff.1 HZ7.out).1).trans HZ7.out
      have hG7 : G < w7.heap.size:=(Array.getElem?_eq_some_iff.1 HBX7.out).1
      rw [ev]
      obtain ⟨wE,hwE⟩ : ∃ y,w8.setRow G (gamA r g' (.slice va nl vc) (.slice (some ⟨pb',0,none⟩) g'.pls.length cap') wv') = y:=⟨_,rfl⟩
      have hpG : pb' ≠ G:=by
       obtain ⟨_,rest,hpb⟩ := hV8.pls
       intro e
       rw [e,hbx8] at hpb
       simp at hpb
      have hwv1 : wv'.oneCell' = true:=by obtain ⟨_,_,e,_⟩ := hV8.win.form; rw [e]; rfl
      have HONE:=Lib.hid (gamA_one (r:=r) (g:=g') (nv:=(.slice va nl vc)) rfl (show (Value.slice (some ⟨pb',0,none⟩) g'.pls.length cap').oneCell' = true from rfl) hwv1)
      have hbE : Below w.heap.size w wE:=by rw [← hwE]; exact below_setRow hbw8 (by have:=HN.out; omega) _
      have hsE : Sl (fun q => q ≠ G ∧ q ≠ N + 1) wE wv' (ints g'.win):=(hs8.keepB fun q hq _ => by rw [← hwE]; exact setRow_other _ _ _ _ (by omega)).mono fun q hq => by omega
      have HSE : Hid (GamV wE r g' (.slice va nl vc) pb' cap' wv' ∧ (g'.win = [] → wv' = (.slice none 0 0)) ∧ Sl (fun q => q ≠ G ∧ q ≠ N + 1) wE wv' (ints g'.win) ∧ wE.heap[G]? = some (.cells (gamA r g' (.slice va nl vc) (.slice (some ⟨pb',0,none⟩) g'.pls.length cap') wv') 41 (0,0)) ∧ wE.heap[N + 1]? = some (.cells #[.int .i64 0,.int .i64 0,.int .i64 0,.bool false,.bool false,.int .i64 0,.bool false,.slice none 0 0,.int .i64 0,.bool false,.int .i64 0,.int .i64 0,.int .i64 0,.slice none 0 0,.slice none 0 0,.bool false,.bool false,.bool false,.bool false,.bool false] 41 (0,0)) ∧ Below w.heap.size w wE ∧ playF r (initG r) 0 darts = playF r g' (k + 1) (darts.drop (k + 1)) ∧ Good r (k + 1) g'):=Lib.hid ⟨⟨hV8.pls.keep (by rw [← hwE]; exact setRow_other _ _ _ _ (by omega)),hsE.mono fun _ _ => trivial,(HNUM.out.keepB fun q hq _ => hbE.block q (by have:=HN.out; omega)).mono fun _ _ => trivial,hV8.cap⟩,hn8,hsE,by rw [← hwE]; exact setRow_heap _ _ _ _ _ _ hbx8,by rw [← hwE]; exact (setRow_other _ _ _ _ (by omega)).trans hz8,hbE,HPF2.out,HGD2.out⟩
      have HWE:=Lib.hid hwE
      have HBX8:=Lib.hid hbx8
      clear hwE hbx8 hz8 hbw8 hJ8 hvs8 hV8 hn8 hs8 hc6 hpG hwv1 hbE hsE ev
      go_wp2_with (first | (refine wpList_opOK (o:=⟨none,Op.store 41 (.tmp 8) (.tmp 45),_,_,_,_⟩) (R:=fun _ w' => wE = w') rfl (opOK_store_row 41 (.tmp 8) (.tmp 45) rfl (G) (gamA r g' (.slice va nl vc) (.slice (some ⟨pb',0,none⟩) g'.pls.length cap') wv') rfl rfl _ _ HBX8.out (by kernel_rfl) rfl HONE.out HWE.out.symm) ?_; rintro _ _ rfl) | fail)
      go_roundw
      case rel => exact ⟨k + 1,g',pb',cap',wv',by omega,by go_num,HSE⟩
      case measure => simp [intOf]; omega
   ·as_aux_lemma =>
    obtain rfl : k = n0:=by omega
    obtain ⟨n0,rfl⟩ : ∃ x : Nat,x = k:=⟨_,rfl⟩
    have d1 : decide ((n0 : Int) < (n0 : Int)) = false:=decide_eq_false (by omega)
    have HP : Hid (playG r darts = (some g,0,0)):=Lib.hid (by rw [HPL.out,HPF.out,List.drop_eq_nil_of_le (by rw [HNL.out]; exact Nat.le_refl _),playF])
    obtain ⟨wE,hwE⟩ : ∃ y,w6.setRow (N + 1) (gamA r g (.slice va nl vc) (.slice (some ⟨pb,0,none⟩) g.pls.length cap) wv) = y:=⟨_,rfl⟩
    have kE : wE.heap[N + 1]? = some (.cells (gamA r g (.slice va nl vc) (.slice (some ⟨pb,0,none⟩) g.pls.length cap) wv) 41 (0,0)):=by rw [← hwE]; exact setRow_heap _ _ _ _ _ _ HZ6.out
    have hwv1 : wv.oneCell' = true:=by obtain ⟨_,_,e,_⟩ := HR.out.1.win.form; rw [e]; rfl
    have HONE:=Lib.hid (gamA_one (r:=r) (g:=g) (nv:=(.slice va nl vc)) rfl (show (Value.slice (some ⟨pb,0,none⟩) g.pls.length cap).oneCell' = true from rfl) hwv1)
    have hpN : pb ≠ N + 1:=by
     obtain ⟨_,rest,hpb⟩ := HR.out.1.pls
     intro e
     rw [e,HZ6.out] at hpb
     simp at hpb
    have hbE : Below w.heap.size w wE:=by rw [← hwE]; exact below_setRow HBW6.out (by have:=HN.out; omega) _
    have HVE : Hid (GamV wE r g (.slice va nl vc) pb cap wv):=Lib.hid ⟨HR.out.1.pls.keep (by rw [← hwE]; exact setRow_other _ _ _ _ (by omega)),(HR.out.2.2.1.keepB fun q hq _ => by rw [← hwE]; exact setRow_other _ _ _ _ (by omega)).mono fun _ _ => trivial,(HNUM.out.keepB fun q hq _ => hbE.block q (by have:=HN.out; omega)).mono fun _ _ => trivial,HR.out.1.cap⟩
    have HBE:=Lib.hid hbE
    have HWE:=Lib.hid hwE
    have KE:=Lib.hid kE
    clear hwE kE hwv1 hpN hbE
    go_wp2_with (first | (refine wpList_opOK (o:=⟨some 46,Op.load 41 (.tmp 8),_,_,_,_⟩) (R:=fun v w' => v = .agg (gamA r g (.slice va nl vc) (.slice (some ⟨pb,0,none⟩) g.pls.length cap) wv) ∧ w6 = w') (by rfl) (opOK_load_row 41 (.tmp 8) rfl (G) (gamA r g (.slice va nl vc) (.slice (some ⟨pb,0,none⟩) g.pls.length cap) wv) (by simp [Act.eval]) 41 (0,0) HBX6.out _ Try.underlying41 rfl (by kernel_rfl) ⟨rfl,rfl⟩) ?_; rintro _ _ ⟨rfl,rfl⟩) | (refine wpList_opOK (o:=⟨none,Op.store 41 (.tmp 4) (.tmp 46),_,_,_,_⟩) (R:=fun _ w' => wE = w') rfl (opOK_store_row 41 (.tmp 4) (.tmp 46) rfl (N + 1) (gamA r g (.slice va nl vc) (.slice (some ⟨pb,0,none⟩) g.pls.length cap) wv) rfl rfl _ _ HZ6.out (by kernel_rfl) rfl HONE.out HWE.out.symm) ?_; rintro _ _ rfl) | fail)
    try simp only [Exit.inBlock,Exit.then]
    refine bodyPost_ret (results_cell3 Try.results17 rfl (run_loadVar_row wE (N + 1) 41 41 _ _ _ KE.out Try.underlying41 rfl (by kernel_rfl)) rfl rfl) rfl ?_
    rw [HP.out]
    exact ⟨_,rfl,HBE.out,.inr ⟨g,pb,cap,wv,rfl,rfl,HVE.out,HR.out.2.1⟩⟩
end Go.Proofs.Ytnhggfnnolfcdaa
