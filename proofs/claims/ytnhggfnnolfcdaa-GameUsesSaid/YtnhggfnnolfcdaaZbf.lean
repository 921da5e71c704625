/- The texts XU, in build order. -/
import Derived.Test.YtnhggfnnolfcdaaZbe

/- Chapter 4: GameUses. -/
namespace Go.Proofs.Ytnhggfnnolfcdaa
open Go.RowKit Go.Oche Go.Proofs
def useOf (r : Rul) (x : Option Gam × Nat × Int) : Int × List Int:=match x.1 with
 | none => (x.2.2,[])
 | some g => if g.win = [] then (0,usesL r g 500) else (9,[])
def rnkOf (r : Rul) (x : Option Gam × Nat × Int) : Int × List (List Int):=match x.1 with
 | none => (x.2.2,[])
 | some g => (0,rankG r g)
theorem use_of {r : Rul} {w w' : World} {x : Option Gam × Nat × Int} {e : Ending} (h : UsefulPost r w x e w') : ∃ bv,e = .returned (.tuple #[bv,.int .i64 (useOf r x).1]) ∧ Below w.heap.size w w' ∧ Sl (fun _ => True) w' bv (ints (useOf r x).2):=by
 obtain ⟨hb,h⟩ := h
 rcases h with ⟨er, -,h,he⟩ | ⟨g,bv,rfl,hw,he,hs⟩
 ·rcases h with ⟨h1,h2⟩ | ⟨⟨g,h1,h2⟩,h3⟩
  ·exact ⟨_,by rw [he,useOf,h1]; dsimp only; rw [h2],hb,by rw [useOf,h1]; exact Sl.nil _ _⟩
  ·exact ⟨_,by rw [he,useOf,h1]; dsimp only; rw [if_neg h2,h3],hb,by rw [useOf,h1]; dsimp only; rw [if_neg h2]; exact Sl.nil _ _⟩
 ·have e1 : useOf r (some g,0,0) = (0,usesL r g 500):=by unfold useOf; exact if_pos hw
  rw [e1]
  dsimp only
  exact ⟨bv,he,hb,hs.mono fun _ _ => trivial⟩
theorem rnk_of {r : Rul} {w w' : World} {x : Option Gam × Nat × Int} {e : Ending} (h : RankPost r w x e w') : ∃ gv,e = .returned (.tuple #[gv,.int .i64 (rnkOf r x).1]) ∧ Below w.heap.size w w' ∧ SlSl (fun _ => True) w' gv (rnkOf r x).2:=by
 obtain ⟨hb,h⟩ := h
 rcases h with ⟨a,er,rfl,he⟩ | ⟨g,gv,rfl,he,hs⟩
 ·exact ⟨_,he,hb,[],Sl.nil _ _,rfl,fun i hi => by simp [rnkOf] at hi⟩
 ·exact ⟨gv,he,hb,hs⟩
theorem playG_zero {r : Rul} {l : List Int} {g : Gam} {a : Nat} {e : Int} (h : playG r l = (some g,a,e)) : a = 0 ∧ e = 0:=by
 unfold playG at h
 split at h
 ·cases h
 split at h
 ·cases h
 rename_i hc _
 exact (playF_good l 0 _ (Good.init (by omega)) g a e h).2
theorem groupsP {S S' : Nat → Prop} (l : List (List Int)) (v1 v2 : Value) (w : World) (h1 : SlSl S w v1 l) (h2 : SlSl S' w v2 l) :
  Calls Try.prog 21 #[v1,v2] w fun e w' => e = .returned (.bool true) ∧ Below w.heap.size w w':=by
 have:=groups_any v1 v2 l l w h1 h2
 rwa [decide_eq_true (rfl : l = l)] at this
set_option maxRecDepth 100000 in
set_option maxHeartbeats 8000000 in
theorem gameUses_any {S S' : Nat → Prop} (r : Rul) (na : Option Addr) (nl nc : Nat) (xs : List Int) (h64 : ∀ b ∈ xs, -9223372036854775808 ≤ b ∧ b ≤ 9223372036854775807) (bv : Value) (w : World) (hr : Sl S w (.slice na nl nc) (ints r.nums)) (hb : Sl S' w bv (ints xs)) :
  Calls Try.prog 4 #[.agg #[.int .i64 r.kind,.int .i64 r.players,.int .i64 r.last,.bool r.bull,.bool r.jump,.int .i64 r.rounds,.bool r.cut,.slice na nl nc,.int .i64 r.lives,.bool r.own],bv] w fun e w' => e = .returned (.bool true) ∧ Below w.heap.size w w':=by
 obtain ⟨ba,bc,rfl, -, -⟩ := hb.form
 rw [ints_length] at hb ⊢
 obtain ⟨n0,hn0⟩ : ∃ n0,xs.length = n0:=⟨_,rfl⟩
 rw [hn0] at hb ⊢
 obtain ⟨N,hN⟩ : ∃ N,w.heap.size = N:=⟨_,rfl⟩
 obtain ⟨w0,hw0⟩ : ∃ w0,w.alloc (.cells #[.int .i64 r.kind,.int .i64 r.players,.int .i64 r.last,.bool r.bull,.bool r.jump,.int .i64 r.rounds,.bool r.cut,.slice na nl nc,.int .i64 r.lives,.bool r.own] 25) = w0:=⟨_,rfl⟩
 have hb0 : Below w.heap.size w w0:=by rw [← hw0]; exact aB _ _
 have k0 : w0.heap[N]? = some (.cells #[.int .i64 r.kind,.int .i64 r.players,.int .i64 r.last,.bool r.bull,.bool r.jump,.int .i64 r.rounds,.bool r.cut,.slice na nl nc,.int .i64 r.lives,.bool r.own] 25 (0,0)):=by rw [← hw0,← hN]; exact World.alloc_heap_new _ _
 have c7 : w0.cell? ⟨N,7,none⟩ = some (.slice na nl nc):=by rw [cell_of_heap k0]; rfl
 obtain ⟨x,hx⟩ : ∃ x,playG r xs = x:=⟨_,rfl⟩
 have HX:=Lib.hid hx
 have HB0:=Lib.hid hb0
 have HK0:=Lib.hid k0
 have HW0:=Lib.hid hw0
 have HN:=Lib.hid hN
 have HN0:=Lib.hid hn0
 have HR0:=Lib.hid (hr.below hb0)
 have HD0:=Lib.hid (hb.below hb0)
 have H64:=Lib.hid h64
 clear hr hb hb0 k0 hw0 hN hn0 h64 hx
 obtain ⟨g1,hg1⟩ : ∃ b,decide ((20 : Int) < (nl : Int)) = b:=⟨_,rfl⟩
 obtain ⟨g2,hg2⟩ : ∃ b,decide ((700 : Int) < (n0 : Int)) = b:=⟨_,rfl⟩
 have hg1n : decide (20 < nl) = g1:=by rw [← hg1]; exact decide_eq_decide.2 (by omega)
 have hg2n : decide (700 < n0) = g2:=by rw [← hg2]; exact decide_eq_decide.2 (by omega)
 go_enter Try.func4,Try.ntmps4
 go_upto_region 1 with fail
 rw [HW0.out,HN.out]
 cases g1 with
 | true =>
  go_wp2_with fail
  refine (known_any w0).mono ?_
  rintro e w1 ⟨rfl,hb1⟩
  have HB1:=Lib.hid (bThen HB0.out hb1)
  clear hb1
  go_wp2
  go_ret
  exact ⟨rfl,HB1.out⟩
 | false =>
  cases g2 with
  | true =>
   go_wp2_with fail
   refine (known_any w0).mono ?_
   rintro e w1 ⟨rfl,hb1⟩
   have HB1:=Lib.hid (bThen HB0.out hb1)
   clear hb1
   go_wp2
   go_ret
   exact ⟨rfl,HB1.out⟩
  | false =>
   have hnl : nl ≤ 20:=by simpa using hg1n
   have hn7 : n0 ≤ 700:=by simpa using hg2n
   go_upto_region 3 with fail
   clear hg1 hg2 hg1n hg2n c7
   go_wp2_with (first | ((with_reducible refine wpList_opOK (o:=⟨some 23,Op.load 25 (.tmp 2),_,_,_,_⟩) (R:=fun v w' => v = .agg #[.int .i64 r.kind,.int .i64 r.players,.int .i64 r.last,.bool r.bull,.bool r.jump,.int .i64 r.rounds,.bool r.cut,.slice na nl nc,.int .i64 r.lives,.bool r.own] ∧ w0 = w') ?_ ?_ ?_); rfl; (exact opOK_load_row 25 (.tmp 2) rfl (N) #[.int .i64 r.kind,.int .i64 r.players,.int .i64 r.last,.bool r.bull,.bool r.jump,.int .i64 r.rounds,.bool r.cut,.slice na nl nc,.int .i64 r.lives,.bool r.own] (by simp [Act.eval]) 25 (0,0) HK0.out _ Try.underlying25 rfl (by kernel_rfl) ⟨rfl,rfl⟩); rintro _ _ ⟨rfl,rfl⟩) | fail)
   refine (own_any r na nl nc w0 HR0.out (by omega)).mono ?_
   rintro e w1 ⟨vb,vd,rfl,hb1,hs1⟩
   have HB1:=Lib.hid hb1
   have HS1:=Lib.hid hs1
   clear hb1 hs1
   go_wp2_with fail
   refine (copied_any xs (.slice ba n0 bc) w1 (HD0.out.below HB1.out) (by rw [HN0.out]; omega)).mono ?_
   rintro e w2 ⟨ca,cc,rfl,hb2,hs2⟩
   rw [HN0.out] at hs2
   rw [HN0.out]
   have HB2:=Lib.hid (bThen HB1.out hb2)
   have HS2:=Lib.hid (HS1.out.below hb2)
   have HC2:=Lib.hid hs2
   clear hb2 hs2
   go_wp2_with fail
   have hu:=useful_any r vb nl vd ca n0 cc xs HN0.out H64.out w2 HS2.out HC2.out
   rw [HX.out] at hu
   refine hu.mono ?_
   rintro e w3 hpu
   obtain ⟨uv,rfl,hb3,hsu⟩ := use_of hpu
   have HB3:=Lib.hid (bThen HB2.out hb3)
   have HSU3:=Lib.hid hsu
   have HN3:=Lib.hid ((HB3.out.block N (Array.getElem?_eq_some_iff.1 HK0.out).1).trans HK0.out)
   clear hu hpu hb3 hsu
   go_wp2_with (first | ((with_reducible refine wpList_opOK (o:=⟨some 31,Op.load 25 (.tmp 2),_,_,_,_⟩) (R:=fun v w' => v = .agg #[.int .i64 r.kind,.int .i64 r.players,.int .i64 r.last,.bool r.bull,.bool r.jump,.int .i64 r.rounds,.bool r.cut,.slice na nl nc,.int .i64 r.lives,.bool r.own] ∧ w3 = w') ?_ ?_ ?_); rfl; (exact opOK_load_row 25 (.tmp 2) rfl (N) #[.int .i64 r.kind,.int .i64 r.players,.int .i64 r.last,.bool r.bull,.bool r.jump,.int .i64 r.rounds,.bool r.cut,.slice na nl nc,.int .i64 r.lives,.bool r.own] (by simp [Act.eval]) 25 (0,0) HN3.out _ Try.underlying25 rfl (by kernel_rfl) ⟨rfl,rfl⟩); rintro _ _ ⟨rfl,rfl⟩) | fail)
   refine (own_any r na nl nc w3 (HR0.out.below HB3.out) (by omega)).mono ?_
   rintro e w4 ⟨vb',vd',rfl,hb4,hs4⟩
   have HB4:=Lib.hid hb4
   have HS4:=Lib.hid hs4
   clear hb4 hs4
   go_wp2_with fail
   refine (copied_any xs (.slice ba n0 bc) w4 ((HD0.out.below HB3.out).below HB4.out) (by rw [HN0.out]; omega)).mono ?_
   rintro e w5 ⟨ca',cc',rfl,hb5,hs5⟩
   rw [HN0.out] at hs5
   rw [HN0.out]
   have HB5:=Lib.hid (bThen HB4.out hb5)
   have HS5:=Lib.hid (HS4.out.below hb5)
   have HC5:=Lib.hid hs5
   clear hb5 hs5
   go_wp2_with fail
   have hk:=rank_any r vb' nl vd' ca' n0 cc' xs HN0.out H64.out w5 HS5.out HC5.out
   rw [HX.out] at hk
   refine hk.mono ?_
   rintro e w6 hpk
   obtain ⟨kv,rfl,hb6,hsk⟩ := rnk_of hpk
   have HB6:=Lib.hid (bThen HB5.out hb6)
   have HB06:=Lib.hid (bThen HB3.out HB6.out)
   have HSK6:=Lib.hid hsk
   have HSU6:=Lib.hid (HSU3.out.below HB6.out)
   have HN6:=Lib.hid ((HB06.out.block N (Array.getElem?_eq_some_iff.1 HK0.out).1).trans HK0.out)
   clear hk hpk hb6 hsk
   go_wp2_with (first | ((with_reducible refine wpList_opOK (o:=⟨some 39,Op.load 25 (.tmp 2),_,_,_,_⟩) (R:=fun v w' => v = .agg #[.int .i64 r.kind,.int .i64 r.players,.int .i64 r.last,.bool r.bull,.bool r.jump,.int .i64 r.rounds,.bool r.cut,.slice na nl nc,.int .i64 r.lives,.bool r.own] ∧ w6 = w') ?_ ?_ ?_); rfl; (exact opOK_load_row 25 (.tmp 2) rfl (N) #[.int .i64 r.kind,.int .i64 r.players,.int .i64 r.last,.bool r.bull,.bool r.jump,.int .i64 r.rounds,.bool r.cut,.slice na nl nc,.int .i64 r.lives,.bool r.own] (by simp [Act.eval]) 25 (0,0) HN6.out _ Try.underlying25 rfl (by kernel_rfl) ⟨rfl,rfl⟩); rintro _ _ ⟨rfl,rfl⟩) | fail)
   have hp:=refPlay_any r na nl nc ba n0 bc xs HN0.out H64.out w6 (HR0.out.below HB06.out) (HD0.out.below HB06.out)
   rw [HX.out] at hp
   refine hp.mono ?_
   rintro e w7 hpost
   obtain ⟨gv,rfl,hb7,hcase⟩ := hpost
   have HB7:=Lib.hid hb7
   clear hp hb7
   rcases hcase with ⟨hx1,rfl⟩ | ⟨g,pb,cap,wv,hx1,rfl,hV,hnil⟩
   ·as_aux_lemma =>
    obtain ⟨xo,a,er⟩ := x
    dsimp only at hx1
    subst hx1
    have hne:=playG_err HX.out
    have e1 : useOf r (none,a,er) = (er,[]):=rfl
    have e2 : rnkOf r (none,a,er) = (er,[]):=rfl
    rw [e1] at HSU6 ⊢
    rw [e2] at HSK6 ⊢
    clear e1 e2
    obtain ⟨ua,uc,hu1, -, -⟩ := HSU6.out.form
    obtain ⟨ka,kc,hk1, -, -⟩ := HSK6.out.form
    subst hu1 hk1
    have z1 : (er != 0) = true:=by simpa using hne
    have z2 : (er == er) = true:=by simp
    have HW8 : Hid (Below w.heap.size w (w7.alloc (.cells #[.int .i64 0,.int .i64 0,.int .i64 0,.bool false,.bool false,.int .i64 0,.bool false,.slice none 0 0,.int .i64 0,.bool false,.int .i64 0,.int .i64 0,.int .i64 0,.slice none 0 0,.slice none 0 0,.bool false,.bool false,.bool false,.bool false,.bool false] 41))):=Lib.hid (bThen HB0.out (bThen HB06.out (bThen HB7.out (aB _ _))))
    clear hne
    go_upto_region 6 with (first | ((with_reducible refine wpList_opOK (o:=⟨none,Op.store 41 (.tmp 9) (.tmp 42),_,_,_,_⟩) (R:=fun _ w' => w7.alloc (.cells #[.int .i64 0,.int .i64 0,.int .i64 0,.bool false,.bool false,.int .i64 0,.bool false,.slice none 0 0,.int .i64 0,.bool false,.int .i64 0,.int .i64 0,.int .i64 0,.slice none 0 0,.slice none 0 0,.bool false,.bool false,.bool false,.bool false,.bool false] 41) = w') ?_ ?_ ?_); rfl; (exact opOK_store_row 41 (.tmp 9) (.tmp 42) rfl w7.heap.size #[.int .i64 0,.int .i64 0,.int .i64 0,.bool false,.bool false,.int .i64 0,.bool false,.slice none 0 0,.int .i64 0,.bool false,.int .i64 0,.int .i64 0,.int .i64 0,.slice none 0 0,.slice none 0 0,.bool false,.bool false,.bool false,.bool false,.bool false] (by kernel_rfl) (by kernel_rfl) _ _ (World.alloc_heap_new _ _) (by kernel_rfl) rfl (by simp [Value.oneCell']) (World.setRow_alloc_new _ _ _ _).symm); rintro _ _ rfl) | fail)
    obtain ⟨w8,hw8⟩ : ∃ y,w7.alloc (.cells #[.int .i64 0,.int .i64 0,.int .i64 0,.bool false,.bool false,.int .i64 0,.bool false,.slice none 0 0,.int .i64 0,.bool false,.int .i64 0,.int .i64 0,.int .i64 0,.slice none 0 0,.slice none 0 0,.bool false,.bool false,.bool false,.bool false,.bool false] 41) = y:=⟨_,rfl⟩
    rw [hw8] at HW8
    have HE8:=Lib.hid hw8
    clear hw8
    rw [HE8.out]
    go_wp2_with fail
    refine (known_any w8).mono ?_
    rintro e w9 ⟨rfl,hb9⟩
    have HB9:=Lib.hid (bThen HW8.out hb9)
    clear hb9
    go_wp2
    go_ret
    exact ⟨rfl,HB9.out⟩
   ·as_aux_lemma =>
    obtain ⟨xo,a,er⟩ := x
    dsimp only at hx1
    subst hx1
    obtain ⟨rfl,rfl⟩ := playG_zero HX.out
    have hgood:=playG_won HX.out
    have HNIL:=Lib.hid hnil
    have HGD:=Lib.hid hgood
    have e2 : rnkOf r (some g,0,0) = (0,rankG r g):=rfl
    rw [e2] at HSK6 ⊢
    obtain ⟨us,hus⟩ : ∃ y,useOf r (some g,0,0) = y:=⟨_,rfl⟩
    rw [hus] at HSU6 ⊢
    have HUS:=Lib.hid hus
    obtain ⟨wa,wc,hwv, -, -⟩ := hV.win.form
    rw [ints_length] at hwv
    subst hwv
    obtain ⟨CL,hCL⟩ : ∃ y,gamA r g (.slice na nl nc) (.slice (some ⟨pb,0,none⟩) g.pls.length cap) (.slice wa g.win.length wc) = y:=⟨_,rfl⟩
    have hone : CL.all (·.oneCell') = true:=by rw [← hCL]; exact gamA_one rfl rfl rfl
    have hsz : CL.size = 20:=by rw [← hCL]; rfl
    obtain ⟨w8,hw8⟩ : ∃ y,w7.alloc (.cells CL 41) = y:=⟨_,rfl⟩
    obtain ⟨G,hG⟩ : ∃ y,w7.heap.size = y:=⟨_,rfl⟩
    have hb8 : Below w7.heap.size w7 w8:=by rw [← hw8]; exact aB _ _
    have k8 : w8.heap[G]? = some (.cells CL 41 (0,0)):=by rw [← hw8,← hG]; exact World.alloc_heap_new _ _
    have HW8 : Hid (Below w.heap.size w w8):=Lib.hid (bThen HB0.out (bThen HB06.out (bThen HB7.out hb8)))
    have HV8:=Lib.hid (hV.below hb8)
    have HSK8:=Lib.hid ((HSK6.out.below HB7.out).below hb8)
    have HSU8:=Lib.hid ((HSU6.out.below HB7.out).below hb8)
    have HK8:=Lib.hid k8
    have HE8:=Lib.hid hw8
    have HG:=Lib.hid hG
    have HCL:=Lib.hid hCL
    have HONE:=Lib.hid hone
    have HSZ:=Lib.hid hsz
    rw [hCL]
    clear hgood e2 hus hV hnil hCL hone hsz hw8 hG hb8 k8
    go_upto_region 6 with (first | ((with_reducible refine wpList_opOK (o:=⟨none,Op.store 41 (.tmp 9) (.tmp 42),_,_,_,_⟩) (R:=fun _ w' => w8 = w') ?_ ?_ ?_); rfl; (exact opOK_store_row 41 (.tmp 9) (.tmp 42) rfl w7.heap.size CL (by kernel_rfl) (by kernel_rfl) _ _ (World.alloc_heap_new _ _) (by rw [HSZ.out]; kernel_rfl) (by rw [HSZ.out]; rfl) HONE.out ((World.setRow_alloc_new _ _ _ _).trans HE8.out).symm); rintro _ _ rfl) | fail)
    rw [HG.out]
    go_wp2_with (first | ((with_reducible refine wpList_opOK_on (o:=⟨some 70,Op.load 41 (.tmp 9),_,_,_,_⟩) (R:=fun v w' => v = .agg CL ∧ w8 = w') ?_ ?_ ?_); rfl; (exact opOK_load_row 41 (.tmp 9) rfl (G) CL (by simp [Act.eval]) 41 (0,0) HK8.out _ Try.underlying41 rfl (by rw [HSZ.out]; kernel_rfl) ⟨rfl,rfl⟩); rintro _ _ ⟨rfl,rfl⟩) | fail)
    have hrk:=refRank_any r g pb g.pls.length cap (.slice na nl nc) wa g.win.length wc _ w8 rfl HV8.out HGD.out.2.inv HGD.out.1
    have hrk2 : Calls Try.prog 22 #[.agg CL] w8 fun e w' => ∃ v,e = .returned v ∧ Below w8.heap.size w8 w' ∧ SlSl (fun q => w8.heap.size ≤ q) w' v (rankG r g):=by rw [← HCL.out]; exact hrk
    refine hrk2.mono ?_
    rintro e w9 ⟨rv,rfl,hb9,hsr⟩
    have HB9:=Lib.hid hb9
    have HSR:=Lib.hid hsr
    clear hrk hrk2 hb9 hsr
    go_wp2_with fail
    refine (groupsP (rankG r g) _ rv w9 (HSK8.out.below HB9.out) HSR.out).mono ?_
    rintro e w10 ⟨rfl,hb10⟩
    have HB10:=Lib.hid (bThen HB9.out hb10)
    have HK10:=Lib.hid ((HB10.out.block G (Array.getElem?_eq_some_iff.1 HK8.out).1).trans HK8.out)
    clear hb10
    go_wp2_with (first | ((with_reducible refine wpList_opOK (o:=⟨some 75,Op.load 41 (.tmp 9),_,_,_,_⟩) (R:=fun v w' => v = .agg CL ∧ w10 = w') ?_ ?_ ?_); rfl; (exact opOK_load_row 41 (.tmp 9) rfl (G) CL (by simp [Act.eval]) 41 (0,0) HK10.out _ Try.underlying41 rfl (by rw [HSZ.out]; kernel_rfl) ⟨rfl,rfl⟩); rintro _ _ ⟨rfl,rfl⟩) | fail)
    have hov:=refOver_v pb cap r g (.slice wa g.win.length wc) (.slice na nl nc) w10 (HV8.out.below HB10.out)
    rw [HCL.out] at hov
    obtain ⟨ov,hove⟩ : ∃ y,(!g.win.isEmpty) = y:=⟨_,rfl⟩
    rw [hove] at hov
    have HOVE:=Lib.hid hove
    clear hove
    refine hov.mono ?_
    rintro e w11 ⟨rfl,hb11⟩
    have HB11:=Lib.hid (bThen HB10.out hb11)
    have HK11:=Lib.hid ((HB11.out.block G (Array.getElem?_eq_some_iff.1 HK8.out).1).trans HK8.out)
    have HSU11:=Lib.hid (HSU8.out.below HB11.out)
    have HW11:=Lib.hid (bThen HW8.out HB11.out)
    clear hb11 hov
    cases ov with
    | true =>
     have hw : g.win ≠ []:=by intro e; have:=HOVE.out; rw [e] at this; cases this
     have hus : us = (9,[]):=by rw [← HUS.out]; unfold useOf; exact if_neg hw
     subst hus
     obtain ⟨ua,uc,hu1, -, -⟩ := HSU11.out.form
     subst hu1
     have z1 : ((9 : Int) == 9) = true:=by rfl
     clear hw
     go_wp2_with fail
     refine (known_any w11).mono ?_
     rintro e w12 ⟨rfl,hb12⟩
     have HB12:=Lib.hid (bThen HW11.out hb12)
     clear hb12
     go_wp2
     go_ret
     exact ⟨rfl,HB12.out⟩
    | false =>
     have hw : g.win = []:=by have:=HOVE.out; simpa using this
     have hus : us = (0,usesL r g 500):=by rw [← HUS.out]; unfold useOf; exact if_pos hw
     subst hus
     have hnl':=HNIL.out hw
     have hV11:=HV8.out.below HB11.out
     rw [hnl'] at hV11
     have hlen : xs.length ≤ 700:=by rw [HN0.out]; exact hn7
     have hru:=refUseful_any r g pb g.pls.length cap (.slice na nl nc) _ w11 rfl hV11 (HGD.out.2.live hw) (by omega) (by have:=HGD.out.2.rd; omega)
     have hru2 : Calls Try.prog 24 #[.agg CL] w11 fun e w' => ∃ bv,e = .returned bv ∧ Below w11.heap.size w11 w' ∧ Sl (fun q => w11.heap.size ≤ q) w' bv (ints (usesL r g 500)):=by rw [← HCL.out,hnl']; exact hru
     have HRU:=Lib.hid hru2
     clear hw hnl' hV11 hlen hru hru2
     go_wp2_with (first | ((with_reducible refine wpList_opOK_on (o:=⟨some 91,Op.load 41 (.tmp 9),_,_,_,_⟩) (R:=fun v w' => v = .agg CL ∧ w11 = w') ?_ ?_ ?_); rfl; (exact opOK_load_row 41 (.tmp 9) rfl (G) CL (by simp [Act.eval]) 41 (0,0) HK11.out _ Try.underlying41 rfl (by rw [HSZ.out]; kernel_rfl) ⟨rfl,rfl⟩); rintro _ _ ⟨rfl,rfl⟩) | fail)
     refine HRU.out.mono ?_
     rintro e w12 ⟨bu,rfl,hb12,hsb⟩
     have HB12:=Lib.hid hb12
     have HSB:=Lib.hid hsb
     clear hb12 hsb HRU
     go_wp2_with fail
     refine (bedsP (usesL r g 500) uv bu w12 (HSU11.out.below HB12.out) HSB.out).mono ?_
     rintro e w13 ⟨rfl,hb13⟩
     have HB13:=Lib.hid (bThen HW11.out (bThen HB12.out hb13))
     clear hb13
     go_wp2_with fail
     refine (known_any w13).mono ?_
     rintro e w14 ⟨rfl,hb14⟩
     have HB14:=Lib.hid (bThen HB13.out hb14)
     clear hb14
     go_wp2
     go_ret
     exact ⟨rfl,HB14.out⟩
end Go.Proofs.Ytnhggfnnolfcdaa
