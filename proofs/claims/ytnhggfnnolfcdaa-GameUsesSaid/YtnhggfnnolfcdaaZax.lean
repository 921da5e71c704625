/- The texts KK, in build order. -/
import Derived.Test.YtnhggfnnolfcdaaZaw
import Derived.Deep.MidRow

/- Chapter 4, the reference: a dart is thrown. -/
namespace Go.Proofs.Ytnhggfnnolfcdaa
open Go.RowKit Go.Oche Go.Proofs
set_option maxRecDepth 100000 in
set_option maxHeartbeats 8000000 in
theorem refThrow_any (r : Rul) (g : Gam) (pb0 np cap0 : Nat) (nv : Value) (M : Int) (w : World) (f : Nat) (n b : Int) (hnp : g.pls.length = np) (h : GamV w r g nv pb0 cap0 (.slice none 0 0)) (hl : Live r M g) (hM : M ≤ 800000) (hb : okHit f n) (_hbd : 0 ≤ b ∧ b ≤ 1000) (hb1 : b.tdiv 100 = f) (hb2 : b.tmod 100 = n) (hrd : g.round < 100000) :
  Calls Try.prog 33 #[.agg #[.int .i64 r.kind,.int .i64 r.players,.int .i64 r.last,.bool r.bull,.bool r.jump,.int .i64 r.rounds,.bool r.cut,nv,.int .i64 r.lives,.bool r.own,.int .i64 g.round,.int .i64 g.player,.int .i64 g.darts,.slice (some ⟨pb0,0,none⟩) np cap0,(.slice none 0 0),.bool (hitB g 0),.bool (hitB g 1),.bool (hitB g 2),.bool (hitB g 3),.bool (hitB g 4)],.int .i64 b] w (ThrowPost r (throwG r g f n) nv w):=by
 have hf4:=hb.f
 have hn25:=hb.n
 have hok:=hl.ok
 have hpln:=hl.pl
 have hlen:=hl.len
 have hp8:=players_of hl.ok
 have hdr:=hl.darts
 rw [hnp] at hpln hlen
 have hnp8 : 0 < np ∧ np ≤ 8:=by omega
 have hcap0:=h.cap
 rw [hnp] at hcap0
 obtain ⟨g1,hg1⟩ : ∃ x : Gam, { g with darts:=g.darts + 1 } = x:=⟨_,rfl⟩
 have hrun:=hl.toRun.dart (g.darts + 1)
 have hthr : throwR r g f n = throwG r g f n:=throw_eq hl hb
 have hdok:=dart_ok hrun hb
 have hdeq:=dart_eq (n:=n) hrun hb.f
 unfold throwR at hthr
 dsimp only at hthr
 rw [hdeq] at hthr
 rw [hg1] at hthr hdok hrun
 obtain ⟨d,hd⟩ : ∃ d,dartG r g1 f n = d:=⟨_,rfl⟩
 rw [hd] at hthr hdok
 obtain ⟨p0,hp0⟩ : ∃ x,g.player = x:=⟨_,rfl⟩
 obtain ⟨r0,hr0⟩ : ∃ x,g.round = x:=⟨_,rfl⟩
 rw [hp0] at hpln
 rw [hr0] at hrd
 have hg1p : g1.player = p0:=by rw [← hg1,← hp0]
 have hg1r : g1.round = r0:=by rw [← hg1,← hr0]
 have hg1d : g1.darts = g.darts + 1:=by rw [← hg1]
 have hg1l : g1.pls.length = np:=by rw [← hg1,← hnp]
 obtain ⟨N,hN⟩ : ∃ N,w.heap.size = N:=⟨_,rfl⟩
 obtain ⟨w2,hw2⟩ : ∃ w2,(w.alloc (.cells #[.int .i64 r.kind,.int .i64 r.players,.int .i64 r.last,.bool r.bull,.bool r.jump,.int .i64 r.rounds,.bool r.cut,nv,.int .i64 r.lives,.bool r.own,.int .i64 g.round,.int .i64 g.player,.int .i64 g.darts,.slice (some ⟨pb0,0,none⟩) np cap0,(.slice none 0 0),.bool (hitB g 0),.bool (hitB g 1),.bool (hitB g 2),.bool (hitB g 3),.bool (hitB g 4)] 41)).alloc (.cells #[.int .i64 0,.int .i64 0,.int .i64 0,.bool false,.bool false,.int .i64 0,.bool false,.slice none 0 0,.int .i64 0,.bool false,.int .i64 0,.int .i64 0,.int .i64 0,.slice none 0 0,.slice none 0 0,.bool false,.bool false,.bool false,.bool false,.bool false] 41) = w2:=⟨_,rfl⟩
 have hb2' : Below w.heap.size w w2:=by rw [← hw2]; exact (aB _ _).alloc (by simp) _
 have k2 : w2.heap[N]? = some (.cells #[.int .i64 r.kind,.int .i64 r.players,.int .i64 r.last,.bool r.bull,.bool r.jump,.int .i64 r.rounds,.bool r.cut,nv,.int .i64 r.lives,.bool r.own,.int .i64 g.round,.int .i64 g.player,.int .i64 g.darts,.slice (some ⟨pb0,0,none⟩) np cap0,(.slice none 0 0),.bool (hitB g 0),.bool (hitB g 1),.bool (hitB g 2),.bool (hitB g 3),.bool (hitB g 4)] 41 (0,0)):=by rw [← hw2,← hN]; exact ((aB (w.alloc (.cells #[.int .i64 r.kind,.int .i64 r.players,.int .i64 r.last,.bool r.bull,.bool r.jump,.int .i64 r.rounds,.bool r.cut,nv,.int .i64 r.lives,.bool r.own,.int .i64 g.round,.int .i64 g.player,.int .i64 g.darts,.slice (some ⟨pb0,0,none⟩) np cap0,(.slice none 0 0),.bool (hitB g 0),.bool (hitB g 1),.bool (hitB g 2),.bool (hitB g 3),.bool (hitB g 4)] 41)) (.cells #[.int .i64 0,.int .i64 0,.int .i64 0,.bool false,.bool false,.int .i64 0,.bool false,.slice none 0 0,.int .i64 0,.bool false,.int .i64 0,.int .i64 0,.int .i64 0,.slice none 0 0,.slice none 0 0,.bool false,.bool false,.bool false,.bool false,.bool false] 41)).block _ (by simp)).trans (World.alloc_heap_new _ _)
 have z2 : w2.heap[N + 1]? = some (.cells #[.int .i64 0,.int .i64 0,.int .i64 0,.bool false,.bool false,.int .i64 0,.bool false,.slice none 0 0,.int .i64 0,.bool false,.int .i64 0,.int .i64 0,.int .i64 0,.slice none 0 0,.slice none 0 0,.bool false,.bool false,.bool false,.bool false,.bool false] 41 (0,0)):=by rw [← hw2,← hN]; have:=World.alloc_heap_new (w.alloc (.cells #[.int .i64 r.kind,.int .i64 r.players,.int .i64 r.last,.bool r.bull,.bool r.jump,.int .i64 r.rounds,.bool r.cut,nv,.int .i64 r.lives,.bool r.own,.int .i64 g.round,.int .i64 g.player,.int .i64 g.darts,.slice (some ⟨pb0,0,none⟩) np cap0,(.slice none 0 0),.bool (hitB g 0),.bool (hitB g 1),.bool (hitB g 2),.bool (hitB g 3),.bool (hitB g 4)] 41)) (.cells #[.int .i64 0,.int .i64 0,.int .i64 0,.bool false,.bool false,.int .i64 0,.bool false,.slice none 0 0,.int .i64 0,.bool false,.int .i64 0,.int .i64 0,.int .i64 0,.slice none 0 0,.slice none 0 0,.bool false,.bool false,.bool false,.bool false,.bool false] 41); simpa using this
 have hs2 : N + 1 < w2.heap.size:=(Array.getElem?_eq_some_iff.1 z2).1
 have hH2:=h.below hb2'
 have hnum:=h.num.lt
 rw [hN] at hnum
 have zf : IntKind.i64.wrap (f : Int) = f:=wrap_small _ (by omega) (by omega)
 have zn : IntKind.i64.wrap n = n:=wrap_small _ (by omega) (by omega)
 have zd : IntKind.i64.wrap ((g.darts : Int) + 1) = (g.darts : Int) + 1:=wrap_small _ (by omega) (by omega)
 have HG1:=Lib.hid hg1
 have HRUN:=Lib.hid hrun
 have HTHR:=Lib.hid hthr
 have HDOK:=Lib.hid hdok
 have HD:=Lib.hid hd
 have HP0:=Lib.hid hp0
 have HR0:=Lib.hid hr0
 have HG1P:=Lib.hid hg1p
 have HG1R:=Lib.hid hg1r
 have HG1D:=Lib.hid hg1d
 have HG1L:=Lib.hid hg1l
 have HN:=Lib.hid hN
 have HW2:=Lib.hid hw2
 have HB2:=Lib.hid hb2'
 have K2:=Lib.hid k2
 have Z2:=Lib.hid z2
 have HH2:=Lib.hid hH2
 have HNUM:=Lib.hid hnum
 have HL:=Lib.hid hl
 have HNP:=Lib.hid hnp
 have HLEN:=Lib.hid hlen
 have HHIT:=Lib.hid hb
 have HB12:=Lib.hid (And.intro hb1 hb2)
 have HOK:=Lib.hid hok
 clear hrun hthr hdok hd hp0 hr0 hg1p hg1r hg1d hg1l hN hw2 hb2' k2 z2 hH2 hnum hl hnp hlen hb hg1 h hdeq hok hp8
 go_enter Try.func33,Try.ntmps33
 go_upto_region 1 with fail
 rw [HW2.out,HN.out]
 have k2a : (w2.alloc (.cells #[] 62)).heap[N]? = some (.cells #[.int .i64 r.kind,.int .i64 r.players,.int .i64 r.last,.bool r.bull,.bool r.jump,.int .i64 r.rounds,.bool r.cut,nv,.int .i64 r.lives,.bool r.own,.int .i64 g.round,.int .i64 g.player,.int .i64 g.darts,.slice (some ⟨pb0,0,none⟩) np cap0,(.slice none 0 0),.bool (hitB g 0),.bool (hitB g 1),.bool (hitB g 2),.bool (hitB g 3),.bool (hitB g 4)] 41 (0,0)):=((aB w2 (.cells #[] 62)).block N (by omega)).trans K2.out
 have c13 : (w2.alloc (.cells #[] 62)).cell? ⟨N,13,none⟩ = some (.slice (some ⟨pb0,0,none⟩) np cap0):=by rw [cell_of_heap k2a]; rfl
 clear k2a
 go_wp2_with (first | (at_builtin; refine wpList_appendN rfl (.tmp 14) (.tmp 17) 32 rfl w2.heap.size 62 zPlr 9 72 Try.underlying32 info_plr rfl (by decide) _ 0 [] rfl (World.ownsRow_made w2 #[] 0 (Nat.le_refl _) (Nat.zero_le _) (by simp)) pb0 0 np cap0 (plsFlat g.pls) rfl (by rw [plsFlat_len HH2.out.pls.1,HNP.out]; omega) (fun j u hj => by rw [Nat.zero_add]; exact bAt (aB _ _) (HH2.out.pls.flat j u hj)) (pls_one g.pls) (by omega) (by decide) (by simp) ?_) | fail)
 rintro v w3 hown hgr _
 obtain ⟨pb,cap,rfl,hbg,hP3,hc1,hc2⟩ := PlsAt.of_owns hown HNP.out HH2.out.pls.1 hnp8.1
 have hb3 : Below w2.heap.size w2 w3:=(aB w2 (.cells #[] 62)).trans (below_grownBy hgr (by simp) fun k hk => by cases hk; exact Nat.le_refl _)
 have k3:=(hb3.block N (by omega)).trans K2.out
 have z3:=(hb3.block (N + 1) hs2).trans Z2.out
 have HB3:=Lib.hid (HB2.out.trans (hb3.mono HB2.out.size))
 have hs3:=hb3.size
 have HP3:=Lib.hid hP3
 have K3:=Lib.hid k3
 have Z3:=Lib.hid z3
 have c13 : w3.cell? ⟨N,13,none⟩ = some (.slice (some ⟨pb0,0,none⟩) np cap0):=by rw [cell_of_heap k3]; rfl
 have f13:=frozen_of_heap (o:=13) k3
 clear hown hgr hb3 hP3 k3 z3
 go_upto_region 2 with fail
 obtain ⟨w4,hw4⟩ : ∃ x,w3.setCell ⟨N,13,none⟩ (.slice (some ⟨pb,0,none⟩) np cap) = x:=⟨_,rfl⟩
 have hg4 : GamAt w4 N pb r g cap (.slice none 0 0) nv:=by
  refine ⟨?_, ?_,by (rw [HL.out.win]; exact Sl.nil _ _), ?_,by omega,by rw [HNP.out]; exact ⟨hc1,hc2⟩⟩
  ·rw [← hw4,heap_setCell_at K3.out,HNP.out]; rfl
  ·rw [← hw4]; exact HP3.out.other _ (by show N ≠ pb; omega)
  ·have h1 : Sl (fun q => True ∧ q < N) w3 nv (ints r.nums):=HNUM.out.keepB fun k hk _ => HB3.out.block k (by have:=HN.out; omega)
   rw [← hw4]
   exact (sl_set h1 _ (fun q hq e => by have:=hq.2; dsimp only at e; omega)).mono fun q hq e => by have:=hq.2; rcases e with e | e <;> omega
 have HG4:=Lib.hid hg4
 have HB4 : Hid (Below w.heap.size w w4):=Lib.hid (by rw [← hw4]; exact HB3.out.setCell (by show w.heap.size ≤ N; rw [HN.out]; exact Nat.le_refl _) _)
 have Z4 : Hid (w4.heap[N + 1]? = some (.cells #[.int .i64 0,.int .i64 0,.int .i64 0,.bool false,.bool false,.int .i64 0,.bool false,.slice none 0 0,.int .i64 0,.bool false,.int .i64 0,.int .i64 0,.int .i64 0,.slice none 0 0,.slice none 0 0,.bool false,.bool false,.bool false,.bool false,.bool false] 41 (0,0))):=Lib.hid (by rw [← hw4]; exact (Below.heap_setCell _ _ _ _ (by dsimp only; omega)).trans Z3.out)
 have hs4 : w4.heap.size = w3.heap.size:=by rw [← hw4]; exact World.size_setCell _ _ _
 have HS4 : Hid (N + 1 < w4.heap.size):=Lib.hid (by omega)
 have HW4:=Lib.hid hw4
 rw [HW4.out]
 clear hw4 hg4 c13 f13 HP3 K3 Z3 K2 Z2 HH2 hs3 hs4 HB3
 have c11 : w4.cell? ⟨N,11,none⟩ = some (.int .i64 p0):=by rw [← HP0.out]; exact HG4.out.at_ rfl
 refine wp_region_seq 10 [.is (.int .i64 b),.is (.int .i64 f),.is (.int .i64 b),.is (.int .i64 n),.is (.pointer (some ⟨N,10,none⟩)),.is (.pointer (some ⟨N,11,none⟩)),.is (.int .i64 p0),.is (.int .i64 f),.is (.int .i64 n),.is (.int .i64 p0)] rfl mix (by kernel_rfl) (by kernel_rfl) ?seqm
 case seqm =>
  simp only [List.take_succ_cons,List.take_zero]
  iterate 10
   refine seq_on (by rfl) (fun w3 hb3 _ => ?_) ?_
   ·have y1:=bAt hb3 c11
    simp [opOK,go_sem,y1,hb1,hb2,zf,Below.refl]
    try exact rfl
   simp only [Act.put,List.setIfInBounds_toArray,List.set_cons_succ,List.set_cons_zero]
  refine seq_end fun w5 hb_w5 _ => ?_
  simp only [List.drop_succ_cons,List.drop_zero]
  have c12 : w5.cell? ⟨N,12,none⟩ = some (.int .i64 g.darts):=(HG4.out.below hb_w5).at_ rfl
  have f12:=(HG4.out.below hb_w5).free 12
  have c0 : w5.cell? ⟨N,0,none⟩ = some (.int .i64 r.kind):=(HG4.out.below hb_w5).at_ rfl
  have HG5:=Lib.hid (HG4.out.below hb_w5)
  have HB5:=Lib.hid (HB4.out.trans (hb_w5.mono HB4.out.size))
  have HZ5:=Lib.hid ((hb_w5.block (N + 1) HS4.out).trans Z4.out)
  have hsz5:=hb_w5.size
  clear hb_w5 c11 hb1 hb2 zf
  go_upto_region 4 with fail
  obtain ⟨w6,hw6⟩ : ∃ x,w5.setCell ⟨N,12,none⟩ (.int .i64 ((g.darts : Int) + 1)) = x:=⟨_,rfl⟩
  have hg6 : GamAt w6 N pb r g1 cap (.slice none 0 0) nv:=by rw [← hw6,← HG1.out]; exact HG5.out.setDarts (g.darts + 1)
  have HG6:=Lib.hid hg6
  have HB6 : Hid (Below w.heap.size w w6):=Lib.hid (by rw [← hw6]; exact HB5.out.setCell (by show w.heap.size ≤ N; rw [HN.out]; exact Nat.le_refl _) _)
  have HZ6 : Hid (w6.heap[N + 1]? = some (.cells #[.int .i64 0,.int .i64 0,.int .i64 0,.bool false,.bool false,.int .i64 0,.bool false,.slice none 0 0,.int .i64 0,.bool false,.int .i64 0,.int .i64 0,.int .i64 0,.slice none 0 0,.slice none 0 0,.bool false,.bool false,.bool false,.bool false,.bool false] 41 (0,0))):=Lib.hid (by rw [← hw6]; exact (Below.heap_setCell _ _ _ _ (by dsimp only; omega)).trans HZ5.out)
  have hs6 : N + 1 < w6.heap.size:=(Array.getElem?_eq_some_iff.1 HZ6.out).1
  have k0 : w6.cell? ⟨N,0,none⟩ = some (.int .i64 r.kind):=hg6.at_ rfl
  have HW6:=Lib.hid hw6
  rw [HW6.out]
  clear hw6 hg6 c12 f12 c0 HG5 HB5 HZ5 HG4 HB4 Z4 HS4 hsz5
  go_upto_block 0 with fail
  go_cut [] from 37 to 93 (fun wx => ∃ wv,Hid (((d.2 = [] ∧ wv = (.slice none 0 0)) ∨ (d.2 ≠ [] ∧ Sl (fun q => w6.heap.size ≤ q) wx wv (ints d.2))) ∧ GamAt wx N pb r { d.1 with win:=d.2 } cap wv nv ∧ Rel (TO N pb) w6 (TO N pb) wx))
  case first =>
   as_aux_lemma =>
   have hkd:=kind_of HOK.out
   rcases hkd with k | k | k | k
   ·as_aux_lemma =>
    have HDD : Hid (dartRound r g1 f n = d):=Lib.hid (by rw [← HD.out,dartG,if_pos k])
    have e1 : (r.kind == 1) = true:=by rw [k]; rfl
    have HK:=Lib.hid k
    clear k
    have hc:=refRound_any N pb cap r g1 (.slice none 0 0) nv f n M w6 HG6.out HRUN.out HK.out (by omega) hf4
    rw [HG1P.out,HDD.out] at hc
    go_wp2_with fail
    refine hc.mono ?_
    rintro e w7 ⟨⟨v,rfl⟩,⟨wv',hwv,hg7⟩,hr7⟩
    have HG7:=Lib.hid (And.intro hwv (And.intro hg7 hr7))
    clear hwv hg7 hr7 hc
    go_wp2
    go_meet
    case rel => exact ⟨wv',HG7⟩
   ·as_aux_lemma =>
    have HDD : Hid (dartCricket r g1 f n = d):=Lib.hid (by rw [← HD.out,dartG,if_neg (by omega),if_pos k])
    have e1 : (r.kind == 1) = false:=by rw [k]; rfl
    have e2 : (r.kind == 2) = true:=by rw [k]; rfl
    have HK:=Lib.hid k
    clear k
    have hc:=refCricket_any N pb cap r g1 (.slice none 0 0) nv f n M w6 HG6.out HRUN.out HK.out (by omega) (by omega) hn25
    rw [HG1P.out,HDD.out] at hc
    go_wp2_with fail
    refine hc.mono ?_
    rintro e w7 ⟨⟨v,rfl⟩,⟨wv',hwv,hg7⟩,hr7⟩
    have HG7:=Lib.hid (And.intro hwv (And.intro hg7 hr7))
    clear hwv hg7 hr7 hc
    go_wp2
    go_meet
    case rel => exact ⟨wv',HG7⟩
   ·as_aux_lemma =>
    have HDD : Hid (dartShanghai g1 f n = d):=Lib.hid (by rw [← HD.out,dartG,if_neg (by omega),if_neg (by omega),if_pos k])
    have e1 : (r.kind == 1) = false:=by rw [k]; rfl
    have e2 : (r.kind == 2) = false:=by rw [k]; rfl
    have e3 : (r.kind == 3) = true:=by rw [k]; rfl
    clear k
    have hme:=HRUN.out.each _ (plr_mem HRUN.out.pl)
    rw [HG1P.out] at hme
    obtain ⟨P,hP⟩ : ∃ y,(plr g1 p0).pts = y:=⟨_,rfl⟩
    have hPn:=hme.1.nn
    have hPm:=hme.2
    rw [hP] at hPn hPm
    have hpl1 : p0 < g1.pls.length:=by rw [HG1L.out]; exact hpln
    have hpli : (p0 : Int) < (np : Int):=by omega
    have c10 : w6.cell? ⟨N,10,none⟩ = some (.int .i64 r0):=by rw [← HG1R.out]; exact HG6.out.at_ rfl
    have c13 : w6.cell? ⟨N,13,none⟩ = some (.slice (some ⟨pb,0,none⟩) np cap):=by rw [← HG1L.out]; exact HG6.out.at_ rfl
    have kp : w6.cell? ⟨pb,p0 * 9,none⟩ = some (.int .i64 P):=by rw [← hP,← plr_at hpl1]; exact HG6.out.pls.pts hpl1
    have fp:=HG6.out.pls.free (p0 * 9)
    have zr : IntKind.i64.wrap ((r0 : Int) + 1) = (r0 : Int) + 1:=wrap_small _ (by omega) (by omega)
    have hfn : 0 ≤ (f : Int) * n ∧ (f : Int) * n ≤ 100:=⟨Int.mul_nonneg (by omega) (by omega),by have:=Int.mul_le_mul (show (f : Int) ≤ 4 by omega) hn25.2 hn25.1 (by omega); omega⟩
    obtain ⟨F,hF⟩ : ∃ y,(f : Int) * n = y:=⟨_,rfl⟩
    rw [hF] at hfn
    have zF : IntKind.i64.wrap F = F:=wrap_small _ (by omega) (by omega)
    have zP : IntKind.i64.wrap (P + F) = P + F:=wrap_small _ (by omega) (by omega)
    have HPF:=Lib.hid (And.intro hP hF)
    have hF2 : (f : Int) * n = F:=hF
    have hf5 : f < 5:=by omega
    have hf5i : (f : Int) < 5:=by omega
    obtain ⟨nb,hnb⟩ : ∃ y,(n == (r0 : Int) + 1) = y:=⟨_,rfl⟩
    have HNB:=Lib.hid hnb
    have HWIN : Hid (g1.win = []):=Lib.hid HRUN.out.win
    clear hP hF hme
    cases nb with
    | false =>
     have HD3 : Hid (d = (g1,[])):=Lib.hid (by
      have:=HNB.out
      rw [← HDD.out,dartShanghai,HG1R.out,if_neg (by simpa using this)])
     clear hF2
     go_wp2
     go_meet
     case rel =>
      refine ⟨_,Lib.hid ⟨.inl ⟨by rw [HD3.out],rfl⟩, ?_,Rel.of_below (Below.refl _ _) HG6.out.lt⟩⟩
      rw [HD3.out]
      exact noWin HWIN.out ▸ HG6.out
    | true =>
     obtain ⟨G,hG⟩ : ∃ G : Gam, { setP g1 p0 { plr g1 p0 with pts:=P + F } with hit:=g1.hit.set f true } = G:=⟨_,rfl⟩
     have HD2 : Hid (d = (G,if (hitB G 1 && hitB G 2 && hitB G 3) = true then [(p0 : Int)] else [])):=Lib.hid (by
      have:=HNB.out
      rw [← HDD.out,dartShanghai,HG1R.out,if_pos (by simpa using this)]
      dsimp only
      rw [HG1P.out,HPF.out.1,HPF.out.2,Int.toNat_natCast,← hG]; rfl)
     have h5 : g1.hit.length = 5:=HRUN.out.hit
     go_upto_region 13 with fail
     obtain ⟨w7,hw7⟩ : ∃ x,w6.setCell ⟨pb,p0 * 9,none⟩ (.int .i64 (P + F)) = x:=⟨_,rfl⟩
     have hg7 : GamAt w7 N pb r (setP g1 p0 { plr g1 p0 with pts:=P + F }) cap (.slice none 0 0) nv:=by rw [← hw7]; exact HG6.out.setPts hpl1 (P + F)
     have HR7 : Hid (Rel (TO N pb) w6 (TO N pb) w7):=Lib.hid (by rw [← hw7]; exact (Rel.of_below (Below.refl _ _) HG6.out.lt).setCell (.inr rfl) _)
     have HG7:=Lib.hid hg7
     have ch : w7.cell? ⟨N,15 + f,none⟩ = some (.bool (hitB g1 f)):=by
      have hfs : f = 0 ∨ f = 1 ∨ f = 2 ∨ f = 3 ∨ f = 4:=by omega
      rcases hfs with e | e | e | e | e <;> (rw [e]; exact hg7.at_ rfl)
     have fh:=hg7.free (15 + f)
     have HW7:=Lib.hid hw7
     rw [HW7.out]
     clear hw7 hg7 c13 kp fp zr zF zP hF2 c10
     go_upto_region 14 with fail
     obtain ⟨w8,hw8⟩ : ∃ x,w7.setCell ⟨N,15 + f,none⟩ (.bool true) = x:=⟨_,rfl⟩
     have hg8 : GamAt w8 N pb r G cap (.slice none 0 0) nv:=by rw [← hw8,← hG]; exact HG7.out.setHit (by exact h5) hf5 true
     have HR8 : Hid (Rel (TO N pb) w6 (TO N pb) w8):=Lib.hid (by rw [← hw8]; exact HR7.out.setCell (.inl rfl) _)
     have HWG : Hid (G.win = []):=Lib.hid (by rw [← hG]; exact HWIN.out)
     obtain ⟨h1,hh1⟩ : ∃ y,hitB G 1 = y:=⟨_,rfl⟩
     obtain ⟨h2,hh2⟩ : ∃ y,hitB G 2 = y:=⟨_,rfl⟩
     obtain ⟨h3,hh3⟩ : ∃ y,hitB G 3 = y:=⟨_,rfl⟩
     rw [hh1,hh2,hh3] at HD2
     have a1 : w8.cell? ⟨N,16,none⟩ = some (.bool h1):=by rw [← hh1]; exact hg8.at_ rfl
     have a2 : w8.cell? ⟨N,17,none⟩ = some (.bool h2):=by rw [← hh2]; exact hg8.at_ rfl
     have a3 : w8.cell? ⟨N,18,none⟩ = some (.bool h3):=by rw [← hh3]; exact hg8.at_ rfl
     have HG8:=Lib.hid hg8
     have HW8:=Lib.hid hw8
     rw [HW8.out]
     clear hw8 hg8 ch fh hG hh1 hh2 hh3 h5
     by_cases hall : (h1 && h2 && h3) = true
     ·have HD3 : Hid (d = (G,[(p0 : Int)])):=Lib.hid (by rw [HD2.out,if_pos hall])
      simp only [Bool.and_eq_true] at hall
      obtain ⟨⟨rfl,rfl⟩,rfl⟩ := hall
      go_upto_region 15 with fail
      have fz : (w8.alloc (.cells #[.int .i64 p0] 3)).frozen? ⟨N,14,none⟩ = false:=(HG8.out.below (aB _ _)).free 14
      have c14 : (w8.alloc (.cells #[.int .i64 p0] 3)).cell? ⟨N,14,none⟩ = some (.slice none 0 0):=(HG8.out.below (aB _ _)).at_ rfl
      go_wp2
      go_meet
      case rel =>
       refine ⟨.slice (some ⟨w8.heap.size,0,none⟩) 1 1,Lib.hid ⟨.inr ⟨by rw [HD3.out]; simp,by rw [HD3.out]; exact sl_set (Sl.new1 (fun q => w6.heap.size ≤ q) _ HR8.out.size 3 _) _ (fun q hq e => by (dsimp only at e; omega))⟩, ?_, ?_⟩⟩
       ·rw [HD3.out]
        exact (HG8.out.below (aB w8 (.cells #[.int .i64 p0] 3))).setWin (Sl.new1 _ _ ⟨HG8.out.lt N (.inl rfl),by have:=HG8.out.lt pb (.inr rfl); omega⟩ 3 _)
       ·exact (HR8.out.ext (aB w8 (.cells #[.int .i64 p0] 3))).setCell (.inl rfl) _
     ·have HD3 : Hid (d = (G,[])):=Lib.hid (by rw [HD2.out,if_neg hall])
      have HRES : Hid (∃ wv,Hid (((d.2 = [] ∧ wv = (.slice none 0 0)) ∨ (d.2 ≠ [] ∧ Sl (fun q => w6.heap.size ≤ q) w8 wv (ints d.2))) ∧ GamAt w8 N pb r { d.1 with win:=d.2 } cap wv nv ∧ Rel (TO N pb) w6 (TO N pb) w8)):=Lib.hid (by
       refine ⟨_,Lib.hid ⟨.inl ⟨by rw [HD3.out],rfl⟩, ?_,HR8.out⟩⟩
       rw [HD3.out]
       exact noWin HWG.out ▸ HG8.out)
      cases h1 with
      | false =>
       clear hall
       go_wp2
       go_meet
       case rel => exact HRES.out
      | true =>
       cases h2 with
       | false =>
        clear hall
        go_wp2
        go_meet
        case rel => exact HRES.out
       | true =>
        cases h3 with
        | true => exact (hall rfl).elim
        | false =>
         clear hall
         go_wp2
         go_meet
         case rel => exact HRES.out
   ·as_aux_lemma =>
    have HDD : Hid (dartKiller r g1 f n = d):=Lib.hid (by rw [← HD.out,dartG,if_neg (by omega),if_neg (by omega),if_neg (by omega)])
    have e1 : (r.kind == 1) = false:=by rw [k]; rfl
    have e2 : (r.kind == 2) = false:=by rw [k]; rfl
    have e3 : (r.kind == 3) = false:=by rw [k]; rfl
    have HK:=Lib.hid k
    clear k
    have hc:=refKiller_any N pb cap r g1 (.slice none 0 0) nv f n M w6 HG6.out HRUN.out HK.out (by omega)
    rw [HG1P.out,HDD.out] at hc
    go_wp2_with fail
    refine hc.mono ?_
    rintro e w7 ⟨⟨v,rfl⟩,⟨wv',hwv,hg7⟩,hr7⟩
    have HG7:=Lib.hid (And.intro hwv (And.intro hg7 hr7))
    clear hwv hg7 hr7 hc
    go_wp2
    go_meet
    case rel => exact ⟨wv',HG7⟩
  case rest =>
   as_aux_lemma =>
   obtain ⟨wv,HC⟩ := hcut
   obtain ⟨w7,rfl⟩ : ∃ x : World,x = wc:=⟨_,rfl⟩
   obtain ⟨g2,hg2⟩ : ∃ x : Gam, { d.1 with win:=d.2 } = x:=⟨_,rfl⟩
   have hk2:=HDOK.out.kept
   have HG2E:=Lib.hid hg2
   have HG7 : Hid (GamAt w7 N pb r g2 cap wv nv):=Lib.hid (by rw [← hg2]; exact HC.out.2.1)
   have HWE : Hid (g2.win = d.2):=Lib.hid (by rw [← hg2])
   have HWN:=Lib.hid HC.out.1
   have HR7:=Lib.hid HC.out.2.2
   have HP2 : Hid (g2.player = p0):=Lib.hid (by rw [← hg2]; exact hk2.player.trans HG1P.out)
   have HR2 : Hid (g2.round = r0):=Lib.hid (by rw [← hg2]; exact hk2.round.trans HG1R.out)
   have HL2 : Hid (g2.pls.length = np):=Lib.hid (by rw [← hg2]; exact hk2.len.trans HG1L.out)
   have HINV : Hid (Inv r (M + 100) g2):=Lib.hid (by rw [← hg2]; exact ⟨HDOK.out.inv.ok,HDOK.out.inv.len,HDOK.out.inv.pl,HDOK.out.inv.each,HDOK.out.inv.hit⟩)
   have HTH2 : Hid (throwG r g f n = if g2.win ≠ [] ∨ (g2.darts < 3 ∧ isOutG r g2 p0 = false) then g2 else nextR r g2):=Lib.hid (by
    have hp2:=HP2.out
    subst hg2
    have hp2 : d.1.player = p0:=hp2
    rw [← HTHR.out]
    by_cases hc : d.2 ≠ [] ∨ (d.1.darts < 3 ∧ isOutG r { d.1 with win:=d.2 } d.1.player = false)
    ·have hc':=hc
     rw [hp2] at hc'
     rw [if_pos hc,if_pos hc']
    ·have hc':=hc
     rw [hp2] at hc'
     rw [if_neg hc,if_neg hc'])
   have HZ7:=Lib.hid ((HR7.out.block (N + 1) hs6 (by rintro (e | e) <;> omega)).trans HZ6.out)
   have hbx7:=HG7.out.box
   rw [HL2.out] at hbx7
   have HBX7 : Hid (w7.heap[N]? = some (.cells #[.int .i64 r.kind,.int .i64 r.players,.int .i64 r.last,.bool r.bull,.bool r.jump,.int .i64 r.rounds,.bool r.cut,nv,.int .i64 r.lives,.bool r.own,.int .i64 g2.round,.int .i64 g2.player,.int .i64 g2.darts,.slice (some ⟨pb,0,none⟩) np cap,wv,.bool (hitB g2 0),.bool (hitB g2 1),.bool (hitB g2 2),.bool (hitB g2 3),.bool (hitB g2 4)] 41 (0,0))):=Lib.hid hbx7
   have HBW7 : Hid (Below w.heap.size w w7):=Lib.hid (below_rel HB6.out HR7.out (by have:=HN.out; have:=HB2.out.size; rintro q (e | e) <;> omega) HB6.out.size)
   have HS7 : Hid (w6.heap.size ≤ w7.heap.size):=Lib.hid HR7.out.size
   clear hk2 hg2 HC hbx7 k0
   go_upto_region 16 with fail
   go_cut [107] from 94 to 106 (fun bv wx => ∃ b : Bool,bv = .bool b ∧ Hid (BIff b (g2.win ≠ [] ∨ (g2.darts < 3 ∧ isOutG r g2 p0 = false)) ∧ Below w7.heap.size w7 wx))
   case first =>
    as_aux_lemma =>
    obtain ⟨ov,hov⟩ : ∃ b,(!g2.win.isEmpty) = b:=⟨_,rfl⟩
    have hover:=refOver_g N pb cap r g2 wv nv w7 HG7.out
    rw [hov,HL2.out] at hover
    have HOV:=Lib.hid hov
    clear hov
    go_wp2_with (first | ((with_reducible refine wpList_opOK (o:=⟨some 94,Op.load 41 (.tmp 2),_,_,_,_⟩) (R:=fun v w' => v = .agg #[.int .i64 r.kind,.int .i64 r.players,.int .i64 r.last,.bool r.bull,.bool r.jump,.int .i64 r.rounds,.bool r.cut,nv,.int .i64 r.lives,.bool r.own,.int .i64 g2.round,.int .i64 g2.player,.int .i64 g2.darts,.slice (some ⟨pb,0,none⟩) np cap,wv,.bool (hitB g2 0),.bool (hitB g2 1),.bool (hitB g2 2),.bool (hitB g2 3),.bool (hitB g2 4)] ∧ w7 = w') ?_ ?_ ?_); rfl; (exact opOK_load_row 41 (.tmp 2) rfl N #[.int .i64 r.kind,.int .i64 r.players,.int .i64 r.last,.bool r.bull,.bool r.jump,.int .i64 r.rounds,.bool r.cut,nv,.int .i64 r.lives,.bool r.own,.int .i64 g2.round,.int .i64 g2.player,.int .i64 g2.darts,.slice (some ⟨pb,0,none⟩) np cap,wv,.bool (hitB g2 0),.bool (hitB g2 1),.bool (hitB g2 2),.bool (hitB g2 3),.bool (hitB g2 4)] (by kernel_rfl) 41 (0,0) HBX7.out _ Try.underlying41 rfl (by kernel_rfl) ⟨rfl,rfl⟩); rintro _ _ ⟨rfl,rfl⟩) | fail)
    refine hover.mono ?_
    rintro e w8 ⟨rfl,hb8⟩
    have HB8:=Lib.hid hb8
    clear hover
    cases ov with
    | true =>
     have HE : Hid (BIff true (g2.win ≠ [] ∨ (g2.darts < 3 ∧ isOutG r g2 p0 = false))):=Lib.hid (.t (.inl (by have:=HOV.out; intro e; rw [e] at this; cases this)))
     clear hb8
     go_wp2
     go_meet
     case rel => exact ⟨true,rfl,Lib.hid ⟨HE.out,HB8.out⟩⟩
    | false =>
     have HNW : Hid (g2.win = []):=Lib.hid (by have:=HOV.out; simpa using this)
     have c12 : w8.cell? ⟨N,12,none⟩ = some (.int .i64 g2.darts):=(HG7.out.below hb8).at_ rfl
     have hbx8:=(hb8.block N (Array.getElem?_eq_some_iff.1 HBX7.out).1).trans HBX7.out
     have HBX8:=Lib.hid hbx8
     clear hbx8 hb8
     by_cases h3 : g2.darts < 3
     ·have dd : decide ((g2.darts : Int) < 3) = true:=decide_eq_true (by omega)
      have ddn : decide (g2.darts < 3) = true:=decide_eq_true h3
      obtain ⟨ob,hob⟩ : ∃ b,isOutG r g2 p0 = b:=⟨_,rfl⟩
      have HOB:=Lib.hid hob
      have hout:=refOut_g N pb cap r g2 wv nv w8 (HG7.out.below HB8.out) p0 (by rw [HL2.out]; exact hpln) ob HOB
      rw [HL2.out] at hout
      have H3:=Lib.hid h3
      clear hob h3
      go_wp2_with (first | ((with_reducible refine wpList_opOK_on (o:=⟨some 102,Op.load 41 (.tmp 2),_,_,_,_⟩) (R:=fun v w' => v = .agg #[.int .i64 r.kind,.int .i64 r.players,.int .i64 r.last,.bool r.bull,.bool r.jump,.int .i64 r.rounds,.bool r.cut,nv,.int .i64 r.lives,.bool r.own,.int .i64 g2.round,.int .i64 g2.player,.int .i64 g2.darts,.slice (some ⟨pb,0,none⟩) np cap,wv,.bool (hitB g2 0),.bool (hitB g2 1),.bool (hitB g2 2),.bool (hitB g2 3),.bool (hitB g2 4)] ∧ w8 = w') ?_ ?_ ?_); rfl; (exact opOK_load_row 41 (.tmp 2) rfl N #[.int .i64 r.kind,.int .i64 r.players,.int .i64 r.last,.bool r.bull,.bool r.jump,.int .i64 r.rounds,.bool r.cut,nv,.int .i64 r.lives,.bool r.own,.int .i64 g2.round,.int .i64 g2.player,.int .i64 g2.darts,.slice (some ⟨pb,0,none⟩) np cap,wv,.bool (hitB g2 0),.bool (hitB g2 1),.bool (hitB g2 2),.bool (hitB g2 3),.bool (hitB g2 4)] (by kernel_rfl) 41 (0,0) HBX8.out _ Try.underlying41 rfl (by kernel_rfl) ⟨rfl,rfl⟩); rintro _ _ ⟨rfl,rfl⟩) | fail)
      refine hout.mono ?_
      rintro e w9 ⟨rfl,hb9⟩
      have HB9:=Lib.hid (bThen HB8.out hb9)
      clear hb9 hout
      cases ob with
      | true =>
       have HE : Hid (BIff false (g2.win ≠ [] ∨ (g2.darts < 3 ∧ isOutG r g2 p0 = false))):=Lib.hid (.f (by rw [HNW.out,HOB.out]; simp))
       go_wp2
       go_meet
       case rel => exact ⟨false,rfl,Lib.hid ⟨HE.out,HB9.out⟩⟩
      | false =>
       have HE : Hid (BIff true (g2.win ≠ [] ∨ (g2.darts < 3 ∧ isOutG r g2 p0 = false))):=Lib.hid (.t (.inr ⟨H3.out,HOB.out⟩))
       go_wp2
       go_meet
       case rel => exact ⟨true,rfl,Lib.hid ⟨HE.out,HB9.out⟩⟩
     ·have dd : decide ((g2.darts : Int) < 3) = false:=decide_eq_false (by omega)
      have ddn : decide (g2.darts < 3) = false:=decide_eq_false h3
      have HE : Hid (BIff false (g2.win ≠ [] ∨ (g2.darts < 3 ∧ isOutG r g2 p0 = false))):=Lib.hid (.f (by rw [HNW.out]; simp [h3]))
      clear h3
      go_wp2
      go_meet
      case rel => exact ⟨false,rfl,Lib.hid ⟨HE.out,HB8.out⟩⟩
   case rest =>
    as_aux_lemma =>
    obtain ⟨b,rfl,HC2⟩ := hcut
    obtain ⟨w8,rfl⟩ : ∃ y : World,y = wc:=⟨_,rfl⟩
    have HG8:=Lib.hid (HG7.out.below HC2.out.2)
    have HBX8 : Hid (w8.heap[N]? = some (.cells #[.int .i64 r.kind,.int .i64 r.players,.int .i64 r.last,.bool r.bull,.bool r.jump,.int .i64 r.rounds,.bool r.cut,nv,.int .i64 r.lives,.bool r.own,.int .i64 g2.round,.int .i64 g2.player,.int .i64 g2.darts,.slice (some ⟨pb,0,none⟩) np cap,wv,.bool (hitB g2 0),.bool (hitB g2 1),.bool (hitB g2 2),.bool (hitB g2 3),.bool (hitB g2 4)] 41 (0,0))):=Lib.hid ((HC2.out.2.block N (Array.getElem?_eq_some_iff.1 HBX7.out).1).trans HBX7.out)
    have HBW8:=Lib.hid (HBW7.out.trans (HC2.out.2.mono HBW7.out.size))
    have HZ8:=Lib.hid ((HC2.out.2.block (N + 1) (Array.getElem?_eq_some_iff.1 HZ7.out).1).trans HZ7.out)
    cases b with
    | true =>
     as_aux_lemma =>
     have HRES : Hid (throwG r g f n = g2):=Lib.hid (by rw [HTH2.out,if_pos HC2.out.1.yes])
     have HGL:=HL2
     have HBXR:=HBX8
     have HZR:=HZ8
     have HBWR:=HBW8
     have HPLR:=Lib.hid HG8.out.pls
     have HWSR : Hid (Sl (fun q => N + 2 ≤ q) w8 wv (ints g2.win)):=Lib.hid (by
      rw [HWE.out]
      rcases HWN.out with h | h
      ·rw [h.1,h.2]; exact Sl.nil _ _
      ·exact (h.2.lt.keepB fun k hk _ => HC2.out.2.block k hk.2).mono fun q hq => by have:=hq.1; omega)
     have HNIL : Hid (g2.win = [] → wv = (.slice none 0 0)):=Lib.hid (fun e => by
      rcases HWN.out with h | h
      ·exact h.2
      ·exact (h.1 (by rw [← HWE.out]; exact e)).elim)
     obtain ⟨wE,hwE⟩ : ∃ x,w8.setRow (N + 1) #[.int .i64 r.kind,.int .i64 r.players,.int .i64 r.last,.bool r.bull,.bool r.jump,.int .i64 r.rounds,.bool r.cut,nv,.int .i64 r.lives,.bool r.own,.int .i64 g2.round,.int .i64 g2.player,.int .i64 g2.darts,.slice (some ⟨pb,0,none⟩) np cap,wv,.bool (hitB g2 0),.bool (hitB g2 1),.bool (hitB g2 2),.bool (hitB g2 3),.bool (hitB g2 4)] = x:=⟨_,rfl⟩
     have kE : wE.heap[N + 1]? = some (.cells #[.int .i64 r.kind,.int .i64 r.players,.int .i64 r.last,.bool r.bull,.bool r.jump,.int .i64 r.rounds,.bool r.cut,nv,.int .i64 r.lives,.bool r.own,.int .i64 g2.round,.int .i64 g2.player,.int .i64 g2.darts,.slice (some ⟨pb,0,none⟩) np cap,wv,.bool (hitB g2 0),.bool (hitB g2 1),.bool (hitB g2 2),.bool (hitB g2 3),.bool (hitB g2 4)] 41 (0,0)):=by rw [← hwE]; exact setRow_heap _ _ _ _ _ _ HZR.out
     have hBE : Below w.heap.size w wE:=by rw [← hwE]; exact below_setRow HBWR.out (by have:=HN.out; omega) _
     have hVE : GamV wE r g2 nv pb cap wv:=by
      refine ⟨HPLR.out.keep (by rw [← hwE]; exact setRow_other _ _ _ _ (by omega)),(HWSR.out.keepB fun k hk _ => by rw [← hwE]; exact setRow_other _ _ _ _ (by omega)).mono fun _ _ => trivial, ?_,by rw [HGL.out]; exact ⟨hc1,hc2⟩⟩
      exact (HNUM.out.keepB fun k hk _ => hBE.block k (by have:=HN.out; omega)).mono fun _ _ => trivial
     have HSE : Hid (Sl (fun q => w.heap.size ≤ q) wE wv (ints (Gam.win g2))):=Lib.hid ((HWSR.out.keepB fun k hk _ => by rw [← hwE]; exact setRow_other _ _ _ _ (by omega)).mono fun q hq => by have:=HN.out; omega)
     have HVE:=Lib.hid hVE
     have HBE:=Lib.hid hBE
     have HWE2:=Lib.hid hwE
     have KE:=Lib.hid kE
     have hn1 : nv.oneCell' = true:=by obtain ⟨_,_,e,_⟩ := HNUM.out.form; rw [e]; rfl
     have hw1 : (wv : Value).oneCell' = true:=by obtain ⟨_,_,e,_⟩ := HWSR.out.form; rw [e]; rfl
     have HONE:=Lib.hid (And.intro hn1 hw1)
     clear hwE kE hBE hVE hn1 hw1
     go_wp2_with (first | ((with_reducible refine wpList_opOK (o:=⟨some 108,Op.load 41 (.tmp 2),_,_,_,_⟩) (R:=fun v w' => v = .agg #[.int .i64 r.kind,.int .i64 r.players,.int .i64 r.last,.bool r.bull,.bool r.jump,.int .i64 r.rounds,.bool r.cut,nv,.int .i64 r.lives,.bool r.own,.int .i64 g2.round,.int .i64 g2.player,.int .i64 g2.darts,.slice (some ⟨pb,0,none⟩) np cap,wv,.bool (hitB g2 0),.bool (hitB g2 1),.bool (hitB g2 2),.bool (hitB g2 3),.bool (hitB g2 4)] ∧ w8 = w') ?_ ?_ ?_); rfl; (exact opOK_load_row 41 (.tmp 2) rfl N #[.int .i64 r.kind,.int .i64 r.players,.int .i64 r.last,.bool r.bull,.bool r.jump,.int .i64 r.rounds,.bool r.cut,nv,.int .i64 r.lives,.bool r.own,.int .i64 g2.round,.int .i64 g2.player,.int .i64 g2.darts,.slice (some ⟨pb,0,none⟩) np cap,wv,.bool (hitB g2 0),.bool (hitB g2 1),.bool (hitB g2 2),.bool (hitB g2 3),.bool (hitB g2 4)] (by kernel_rfl) 41 (0,0) HBXR.out _ Try.underlying41 rfl (by kernel_rfl) ⟨rfl,rfl⟩); rintro _ _ ⟨rfl,rfl⟩) | ((with_reducible refine wpList_opOK (o:=⟨none,Op.store 41 (.tmp 4) (.tmp 108),_,_,_,_⟩) (R:=fun _ w' => wE = w') ?_ ?_ ?_); rfl; (exact opOK_store_row 41 (.tmp 4) (.tmp 108) rfl (N + 1) #[.int .i64 r.kind,.int .i64 r.players,.int .i64 r.last,.bool r.bull,.bool r.jump,.int .i64 r.rounds,.bool r.cut,nv,.int .i64 r.lives,.bool r.own,.int .i64 g2.round,.int .i64 g2.player,.int .i64 g2.darts,.slice (some ⟨pb,0,none⟩) np cap,wv,.bool (hitB g2 0),.bool (hitB g2 1),.bool (hitB g2 2),.bool (hitB g2 3),.bool (hitB g2 4)] (by kernel_rfl) (by kernel_rfl) _ _ HZR.out (by kernel_rfl) rfl (by simp only [List.all_toArray,List.all_cons,List.all_nil,HONE.out.1,HONE.out.2,Bool.and_true]; rfl) HWE2.out.symm); rintro _ _ rfl) | fail)
     try simp only [Exit.inBlock,Exit.then]
     refine bodyPost_ret (results_cell Try.results33 (by kernel_rfl) (run_loadVar_row wE (N + 1) 41 41 _ _ _ KE.out Try.underlying41 rfl (by kernel_rfl))) rfl ?_
     rw [HRES.out]
     refine ⟨pb,cap,wv, ?_,HVE.out,HBE.out,HNIL.out,HSE.out⟩
     rw [HGL.out]; rfl
    | false =>
     as_aux_lemma =>
     have HNW : Hid (g2.win = []):=Lib.hid (by
      by_cases e : g2.win = []
      ·exact e
      ·exact (HC2.out.1.no (.inl e)).elim)
     have hwvn : wv = (.slice none 0 0):=by
      rcases HWN.out with h | h
      ·exact h.2
      ·exact (h.1 (by rw [← HWE.out]; exact HNW.out)).elim
     subst hwvn
     have c10 : w8.cell? ⟨N,10,none⟩ = some (.int .i64 r0):=by rw [← HR2.out]; exact HG8.out.at_ rfl
     go_upto_region 18 with fail
     refine wp_region_seq 6 [.is (.int .i64 p0),.is (.pointer (some ⟨N,10,none⟩)),.is (.pointer (some ⟨N,10,none⟩)),.is (.int .i64 r0),.is (.int .i64 p0),.is (.int .i64 r0)] rfl mix (by kernel_rfl) (by kernel_rfl) ?seqm
     case seqm =>
      simp only [List.take_succ_cons,List.take_zero]
      iterate 6
       refine seq_on (by rfl) (fun w3 hb3 _ => ?_) ?_
       ·have y1:=bAt hb3 c10
        simp [opOK,go_sem,y1,Below.refl]
        try exact rfl
       simp only [Act.put,List.setIfInBounds_toArray,List.set_cons_succ,List.set_cons_zero]
      refine seq_end fun w9 hb_w9 _ => ?_
      simp only [List.drop_succ_cons,List.drop_zero]
      have HG9:=Lib.hid (HG8.out.below hb_w9)
      have HBX9 : Hid (w9.heap[N]? = some (.cells #[.int .i64 r.kind,.int .i64 r.players,.int .i64 r.last,.bool r.bull,.bool r.jump,.int .i64 r.rounds,.bool r.cut,nv,.int .i64 r.lives,.bool r.own,.int .i64 g2.round,.int .i64 g2.player,.int .i64 g2.darts,.slice (some ⟨pb,0,none⟩) np cap,(.slice none 0 0),.bool (hitB g2 0),.bool (hitB g2 1),.bool (hitB g2 2),.bool (hitB g2 3),.bool (hitB g2 4)] 41 (0,0))):=Lib.hid ((hb_w9.block N (Array.getElem?_eq_some_iff.1 HBX8.out).1).trans HBX8.out)
      have HBW9:=Lib.hid (HBW8.out.trans (hb_w9.mono HBW8.out.size))
      have HZ9:=Lib.hid ((hb_w9.block (N + 1) (Array.getElem?_eq_some_iff.1 HZ8.out).1).trans HZ8.out)
      have HSOME : Hid (∃ i,1 ≤ i ∧ i ≤ np ∧ isOutG r g2 ((p0 + i) % np) = false):=Lib.hid (by
       have hal : 1 ≤ alive r g2:=by
        rw [← HG2E.out,alive_w]
        by_cases k4 : r.kind = 4
        ·have:=HDOK.out.two (by rw [← HWE.out]; exact HNW.out) k4; omega
        ·rw [alive_kind k4,HDOK.out.kept.len,HG1L.out]; omega
       have:=somebody hal (p:=p0) (by rw [HL2.out]; exact hpln)
       rw [HL2.out] at this
       exact this)
      clear hb_w9 c10
      go_upto_block 1 with fail
      go_cut [8,9,10] from 113 to 127 (fun pv rv _ wx => ∃ p rd : Nat,rd ≤ r0 + np ∧ pv = .int .i64 p ∧ rv = .int .i64 rd ∧ Hid (nextP r g2 np p0 r0 = (p,rd) ∧ Below w9.heap.size w9 wx))
      case first =>
       as_aux_lemma =>
       go_wp2_with fail
       go_loopw [8,9,10] (fun pv rv fv wr => ∃ (j p rd : Nat) (fb : Bool),j ≤ np ∧ p < np ∧ rd ≤ r0 + j ∧ pv = .int .i64 p ∧ rv = .int .i64 rd ∧ fv = .bool fb ∧ Hid (BIff fb (j = 0) ∧ NxAt r g2 np p0 r0 j p rd ∧ Below w9.heap.size w9 wr)) (fun pv rv _ _ => r0 * np + p0 + np + 1 - ((intOf rv).toNat * np + (intOf pv).toNat))
       case atStart => exact ⟨0,p0,r0,true,by omega,hpln,by omega,rfl,rfl,rfl,Lib.hid ⟨.t rfl,NxAt.start hpln,Below.refl _ _⟩⟩
       case round =>
        obtain ⟨j,p,rd,fb,hj,hp,hrj,rfl,rfl,rfl,HR⟩ := hrel
        obtain ⟨wi,rfl⟩ : ∃ y : World,y = wr:=⟨_,rfl⟩
        have c1 : wi.cell? ⟨N,1,none⟩ = some (.int .i64 (np : Int)):=by rw [HLEN.out]; exact (HG9.out.below HR.out.2.2).at_ rfl
        have zp : IntKind.i64.wrap ((p : Int) + 1) = (p : Int) + 1:=wrap_small _ (by omega) (by omega)
        have zr : IntKind.i64.wrap ((rd : Int) + 1) = (rd : Int) + 1:=wrap_small _ (by omega) (by omega)
        have HNX:=Lib.hid HR.out.2.1
        cases fb with
        | true =>
         have hj0 : j = 0:=HR.out.1.yes
         have HST:=Lib.hid (HR.out.2.1.step HL2.out (.inl hj0) HSOME.out)
         have hjn:=HST.out.1
         have HBR:=Lib.hid HR.out.2.2
         clear hj0
         by_cases hpe : p + 1 = np
         all_goals
          first
           | have e1 : ((p : Int) + 1 == (np : Int)) = true:=by simp; omega
           | have e1 : ((p : Int) + 1 == (np : Int)) = false:=by simp; omega
          first
           | have e2 : (p + 1 == np) = true:=by simp; omega
           | have e2 : (p + 1 == np) = false:=by simp; omega
         ·have hs : stepP np p rd = (0,rd + 1):=by unfold stepP; rw [if_pos hpe]
          rw [hs] at HST
          clear hs hpe
          go_wp2
          go_roundw
          case rel => exact ⟨j + 1,0,rd + 1,false,by omega,by omega,by omega,by go_num,by go_num,rfl,Lib.hid ⟨.f (by omega),HST.out.2,HBR.out⟩⟩
          case measure =>
           have h1 : (rd + 1) * np + 0 = r0 * np + p0 + (j + 1):=HST.out.2.pos
           have h2 : rd * np + p = r0 * np + p0 + j:=HNX.out.pos
           simp [intOf]
           omega
         ·have hs : stepP np p rd = (p + 1,rd):=by unfold stepP; rw [if_neg hpe]
          have hpl1 : p + 1 < np:=by omega
          rw [hs] at HST
          clear hs hpe
          go_wp2
          go_roundw
          case rel => exact ⟨j + 1,p + 1,rd,false,by omega,by omega,by omega,by go_num,by go_num,rfl,Lib.hid ⟨.f (by omega),HST.out.2,HBR.out⟩⟩
          case measure =>
           have h1 : rd * np + (p + 1) = r0 * np + p0 + (j + 1):=HST.out.2.pos
           have h2 : rd * np + p = r0 * np + p0 + j:=HNX.out.pos
           simp [intOf]
           omega

        | false =>
         have HJ0 : Hid (j ≠ 0):=Lib.hid HR.out.1.no
         have hbx:=(HR.out.2.2.block N (Array.getElem?_eq_some_iff.1 HBX9.out).1).trans HBX9.out
         have HBXi:=Lib.hid hbx
         obtain ⟨ob,hob⟩ : ∃ b,isOutG r g2 p = b:=⟨_,rfl⟩
         have HOB:=Lib.hid hob
         have hout:=refOut_g N pb cap r g2 (.slice none 0 0) nv wi (HG9.out.below HR.out.2.2) p (by rw [HL2.out]; exact hp) ob HOB
         rw [HL2.out] at hout
         clear hob hbx
         go_wp2_with (first | ((with_reducible refine wpList_opOK_on (o:=⟨some 115,Op.load 41 (.tmp 2),_,_,_,_⟩) (R:=fun v w' => v = .agg #[.int .i64 r.kind,.int .i64 r.players,.int .i64 r.last,.bool r.bull,.bool r.jump,.int .i64 r.rounds,.bool r.cut,nv,.int .i64 r.lives,.bool r.own,.int .i64 g2.round,.int .i64 g2.player,.int .i64 g2.darts,.slice (some ⟨pb,0,none⟩) np cap,(.slice none 0 0),.bool (hitB g2 0),.bool (hitB g2 1),.bool (hitB g2 2),.bool (hitB g2 3),.bool (hitB g2 4)] ∧ wi = w') ?_ ?_ ?_); rfl; (exact opOK_load_row 41 (.tmp 2) rfl N #[.int .i64 r.kind,.int .i64 r.players,.int .i64 r.last,.bool r.bull,.bool r.jump,.int .i64 r.rounds,.bool r.cut,nv,.int .i64 r.lives,.bool r.own,.int .i64 g2.round,.int .i64 g2.player,.int .i64 g2.darts,.slice (some ⟨pb,0,none⟩) np cap,(.slice none 0 0),.bool (hitB g2 0),.bool (hitB g2 1),.bool (hitB g2 2),.bool (hitB g2 3),.bool (hitB g2 4)] (by kernel_rfl) 41 (0,0) HBXi.out _ Try.underlying41 rfl (by kernel_rfl) ⟨rfl,rfl⟩); rintro _ _ ⟨rfl,rfl⟩) | fail)
         refine hout.mono ?_
         rintro e w10 ⟨rfl,hb10⟩
         have HBR:=Lib.hid (bThen HR.out.2.2 hb10)
         replace c1:=bAt hb10 c1
         clear hb10 hout HBXi
         cases ob with
         | false =>
          have HDN:=Lib.hid (HR.out.2.1.done HJ0.out HOB.out)
          clear c1
          go_wp2
          go_meet
          case rel => exact ⟨p,rd,by omega,rfl,rfl,Lib.hid ⟨HDN.out,HBR.out⟩⟩
         | true =>
          have HST:=Lib.hid (HR.out.2.1.step HL2.out (.inr HOB.out) HSOME.out)
          have hjn:=HST.out.1
          by_cases hpe : p + 1 = np
          all_goals
           first
            | have e1 : ((p : Int) + 1 == (np : Int)) = true:=by simp; omega
            | have e1 : ((p : Int) + 1 == (np : Int)) = false:=by simp; omega
           first
            | have e2 : (p + 1 == np) = true:=by simp; omega
            | have e2 : (p + 1 == np) = false:=by simp; omega
          ·have hs : stepP np p rd = (0,rd + 1):=by unfold stepP; rw [if_pos hpe]
           rw [hs] at HST
           clear hs hpe
           go_wp2
           go_roundw
           case rel => exact ⟨j + 1,0,rd + 1,false,by omega,by omega,by omega,by go_num,by go_num,rfl,Lib.hid ⟨.f (by omega),HST.out.2,HBR.out⟩⟩
           case measure =>
            have h1 : (rd + 1) * np + 0 = r0 * np + p0 + (j + 1):=HST.out.2.pos
            have h2 : rd * np + p = r0 * np + p0 + j:=HNX.out.pos
            simp [intOf]
            omega
          ·have hs : stepP np p rd = (p + 1,rd):=by unfold stepP; rw [if_neg hpe]
           have hpl1 : p + 1 < np:=by omega
           rw [hs] at HST
           clear hs hpe
           go_wp2
           go_roundw
           case rel => exact ⟨j + 1,p + 1,rd,false,by omega,by omega,by omega,by go_num,by go_num,rfl,Lib.hid ⟨.f (by omega),HST.out.2,HBR.out⟩⟩
           case measure =>
            have h1 : rd * np + (p + 1) = r0 * np + p0 + (j + 1):=HST.out.2.pos
            have h2 : rd * np + p = r0 * np + p0 + j:=HNX.out.pos
            simp [intOf]
            omega
      case rest =>
       as_aux_lemma =>
       obtain ⟨p,rd,hrd2,rfl,rfl,HC4⟩ := hcut
       obtain ⟨w11,rfl⟩ : ∃ y : World,y = wc:=⟨_,rfl⟩
       have HNXT:=Lib.hid HC4.out.1
       have HG11:=Lib.hid (HG9.out.below HC4.out.2)
       have HBX11 : Hid (w11.heap[N]? = some (.cells #[.int .i64 r.kind,.int .i64 r.players,.int .i64 r.last,.bool r.bull,.bool r.jump,.int .i64 r.rounds,.bool r.cut,nv,.int .i64 r.lives,.bool r.own,.int .i64 g2.round,.int .i64 g2.player,.int .i64 g2.darts,.slice (some ⟨pb,0,none⟩) np cap,(.slice none 0 0),.bool (hitB g2 0),.bool (hitB g2 1),.bool (hitB g2 2),.bool (hitB g2 3),.bool (hitB g2 4)] 41 (0,0))):=Lib.hid ((HC4.out.2.block N (Array.getElem?_eq_some_iff.1 HBX9.out).1).trans HBX9.out)
       have HBW11:=Lib.hid (HBW9.out.trans (HC4.out.2.mono HBW9.out.size))
       have HZ11:=Lib.hid ((HC4.out.2.block (N + 1) (Array.getElem?_eq_some_iff.1 HZ9.out).1).trans HZ9.out)
       have c5 : w11.cell? ⟨N,5,none⟩ = some (.int .i64 r.rounds):=HG11.out.at_ rfl
       clear HC4 HG9 HBX9 HBW9 HZ9
       go_upto_region 25 with fail
       go_cut [138] from 128 to 137 (fun bv wx => ∃ b : Bool,bv = .bool b ∧ Hid (BIff b (0 < r.rounds ∧ (rd : Int) = r.rounds) ∧ w11 = wx))
       case first =>
        as_aux_lemma =>
        obtain ⟨rb,hrb⟩ : ∃ rb,decide (0 < r.rounds) = rb:=⟨_,rfl⟩
        cases rb with
        | false =>
         have h9 : ¬ 0 < r.rounds:=of_decide_eq_false hrb
         have HE : Hid (BIff false (0 < r.rounds ∧ (rd : Int) = r.rounds)):=Lib.hid (.f (fun e => h9 e.1))
         clear h9
         go_wp2
         go_meet
         case rel => exact ⟨false,rfl,Lib.hid ⟨HE.out,rfl⟩⟩
        | true =>
         obtain ⟨eb,heb⟩ : ∃ eb,((rd : Int) == r.rounds) = eb:=⟨_,rfl⟩
         have HE : Hid (BIff eb (0 < r.rounds ∧ (rd : Int) = r.rounds)):=Lib.hid (.mk (by
          have h1 : 0 < r.rounds:=of_decide_eq_true hrb
          rw [← heb]; simp [h1]))
         cases eb
         all_goals
          go_wp2
          go_meet
          case rel => exact ⟨_,rfl,Lib.hid ⟨HE.out,rfl⟩⟩
       case rest =>
        obtain ⟨b,rfl,HC5⟩ := hcut
        obtain ⟨w12,rfl⟩ : ∃ y : World,y = wc:=⟨_,rfl⟩
        have hww:=HC5.out.2
        subst hww
        clear c5
        cases b with
        | false =>
         as_aux_lemma =>
         have HNB : Hid (¬ (0 < r.rounds ∧ (rd : Int) = r.rounds)):=Lib.hid HC5.out.1.no
         obtain ⟨g3,hg3⟩ : ∃ x : Gam, { g2 with player:=p,round:=rd,darts:=0,hit:=List.replicate 5 false } = x:=⟨_,rfl⟩
         have HRES : Hid (throwG r g f n = g3):=Lib.hid (by
          rw [HTH2.out,if_neg HC2.out.1.no]
          unfold nextR
          rw [HL2.out,HP2.out,HR2.out,HNXT.out]
          dsimp only
          rw [if_neg HNB.out,hg3])
         have HGL : Hid (g3.pls.length = np):=Lib.hid (by rw [← hg3]; exact HL2.out)
         have HG3E:=Lib.hid hg3
         clear hg3
         have c10 : w11.cell? ⟨N,10,none⟩ = some (.int .i64 r0):=by rw [← HR2.out]; exact HG11.out.at_ rfl
         have c11 : w11.cell? ⟨N,11,none⟩ = some (.int .i64 p0):=by rw [← HP2.out]; exact HG11.out.at_ rfl
         have c12 : w11.cell? ⟨N,12,none⟩ = some (.int .i64 g2.darts):=HG11.out.at_ rfl
         have f10:=HG11.out.free 10
         have f11:=HG11.out.free 11
         have f12:=HG11.out.free 12

         have hgm : GamAt (((w11.setCell ⟨N,11,none⟩ (.int .i64 p)).setCell ⟨N,10,none⟩ (.int .i64 rd)).setCell ⟨N,12,none⟩ (.int .i64 0)) N pb r { g2 with player:=p,round:=rd,darts:=0 } cap (.slice none 0 0) nv:=((HG11.out.setPlayer p).setRound rd).setDarts 0
         have HTHR2 : Hid (World.there (((w11.setCell ⟨N,11,none⟩ (.int .i64 p)).setCell ⟨N,10,none⟩ (.int .i64 rd)).setCell ⟨N,12,none⟩ (.int .i64 0)) N 15 5):=Lib.hid (fun j hj => by
          refine ⟨?_,hgm.free (15 + j)⟩
          have hj5 : j = 0 ∨ j = 1 ∨ j = 2 ∨ j = 3 ∨ j = 4:=by omega
          have hcc : ∀ i v,(gamA r { g2 with player:=p,round:=rd,darts:=0 } nv (.slice (some ⟨pb,0,none⟩) g2.pls.length cap) (.slice none 0 0))[i]? = some v → (World.cell? (((w11.setCell ⟨N,11,none⟩ (.int .i64 p)).setCell ⟨N,10,none⟩ (.int .i64 rd)).setCell ⟨N,12,none⟩ (.int .i64 0)) ⟨N,i,none⟩).isSome = true:=fun i v hv => by rw [hgm.at_ hv]; rfl
          rcases hj5 with e | e | e | e | e <;> (rw [e]; exact hcc _ _ rfl))
         clear hgm
         go_upto_region 38 with (first | ((with_reducible refine wpList_store_mid (op:=⟨none,Op.store 39 (.tmp 180) (.tmp 173),_,_,_,_⟩) (b:=N) (o:=15) (cells:=#[.bool false,.bool false,.bool false,.bool false,.bool false]) ?_ 39 (.tmp 180) (.tmp 173) ?_ ?_ ?_ ?_ ?_ ?_ ?_); rfl; rfl; kernel_rfl; kernel_rfl; (exact HTHR2.out); kernel_rfl; (simp [Value.oneCell']); dsimp only [Act.put]) | fail)
         obtain ⟨w12,hw12⟩ : ∃ x,(((w11.setCell ⟨N,11,none⟩ (.int .i64 p)).setCell ⟨N,10,none⟩ (.int .i64 rd)).setCell ⟨N,12,none⟩ (.int .i64 0)).setCells N 15 [.bool false,.bool false,.bool false,.bool false,.bool false] = x:=⟨_,rfl⟩
         have hg12 : GamAt w12 N pb r g3 cap (.slice none 0 0) nv:=by
          have h5:=HINV.out.hit
          rw [← hw12,← HG3E.out,← hit_all h5]
          exact (((((((HG11.out.setPlayer p).setRound rd).setDarts 0).setHit h5 (k:=0) (by decide) false).setHit (by simpa using h5) (k:=1) (by decide) false).setHit (by simpa using h5) (k:=2) (by decide) false).setHit (by simpa using h5) (k:=3) (by decide) false).setHit (by simpa using h5) (k:=4) (by decide) false
         have HBWR : Hid (Below w.heap.size w w12):=Lib.hid (by
          have hle : w.heap.size ≤ N:=by rw [HN.out]; exact Nat.le_refl _
          rw [← hw12]
          show Below w.heap.size w ((((((((w11.setCell ⟨N,11,none⟩ (.int .i64 p)).setCell ⟨N,10,none⟩ (.int .i64 rd)).setCell ⟨N,12,none⟩ (.int .i64 0)).setCell ⟨N,15,none⟩ (.bool false)).setCell ⟨N,16,none⟩ (.bool false)).setCell ⟨N,17,none⟩ (.bool false)).setCell ⟨N,18,none⟩ (.bool false)).setCell ⟨N,19,none⟩ (.bool false))
          exact (((((((HBW11.out.setCell hle _).setCell hle _).setCell hle _).setCell hle _).setCell hle _).setCell hle _).setCell hle _).setCell hle _)
         have HZR : Hid (w12.heap[N + 1]? = some (.cells #[.int .i64 0,.int .i64 0,.int .i64 0,.bool false,.bool false,.int .i64 0,.bool false,.slice none 0 0,.int .i64 0,.bool false,.int .i64 0,.int .i64 0,.int .i64 0,.slice none 0 0,.slice none 0 0,.bool false,.bool false,.bool false,.bool false,.bool false] 41 (0,0))):=Lib.hid (by
          rw [← hw12]
          show (((((((((w11.setCell ⟨N,11,none⟩ (.int .i64 p)).setCell ⟨N,10,none⟩ (.int .i64 rd)).setCell ⟨N,12,none⟩ (.int .i64 0)).setCell ⟨N,15,none⟩ (.bool false)).setCell ⟨N,16,none⟩ (.bool false)).setCell ⟨N,17,none⟩ (.bool false)).setCell ⟨N,18,none⟩ (.bool false)).setCell ⟨N,19,none⟩ (.bool false))).heap[N + 1]? = _
          iterate 8 refine (Below.heap_setCell _ _ _ _ (by dsimp only; omega)).trans ?_
          exact HZ11.out)
         have hbR:=hg12.box
         rw [HGL.out] at hbR
         have HBXR : Hid (w12.heap[N]? = some (.cells #[.int .i64 r.kind,.int .i64 r.players,.int .i64 r.last,.bool r.bull,.bool r.jump,.int .i64 r.rounds,.bool r.cut,nv,.int .i64 r.lives,.bool r.own,.int .i64 g3.round,.int .i64 g3.player,.int .i64 g3.darts,.slice (some ⟨pb,0,none⟩) np cap,(.slice none 0 0),.bool (hitB g3 0),.bool (hitB g3 1),.bool (hitB g3 2),.bool (hitB g3 3),.bool (hitB g3 4)] 41 (0,0))):=Lib.hid hbR
         have HPLR:=Lib.hid hg12.pls
         have HW3 : Hid (g3.win = []):=Lib.hid (by rw [← HG3E.out]; exact HNW.out)
         have HWSR : Hid (Sl (fun q => N + 2 ≤ q) w12 (.slice none 0 0) (ints g3.win)):=Lib.hid (by rw [HW3.out]; exact Sl.nil _ _)
         have HNIL : Hid (g3.win = [] → ((.slice none 0 0) : Value) = (.slice none 0 0)):=Lib.hid (fun _ => rfl)
         have HW12:=Lib.hid hw12
         rw [HW12.out]
         clear hw12 hg12 hbR c10 c11 c12 f10 f11 f12

         obtain ⟨wE,hwE⟩ : ∃ x,w12.setRow (N + 1) #[.int .i64 r.kind,.int .i64 r.players,.int .i64 r.last,.bool r.bull,.bool r.jump,.int .i64 r.rounds,.bool r.cut,nv,.int .i64 r.lives,.bool r.own,.int .i64 g3.round,.int .i64 g3.player,.int .i64 g3.darts,.slice (some ⟨pb,0,none⟩) np cap,(.slice none 0 0),.bool (hitB g3 0),.bool (hitB g3 1),.bool (hitB g3 2),.bool (hitB g3 3),.bool (hitB g3 4)] = x:=⟨_,rfl⟩
         have kE : wE.heap[N + 1]? = some (.cells #[.int .i64 r.kind,.int .i64 r.players,.int .i64 r.last,.bool r.bull,.bool r.jump,.int .i64 r.rounds,.bool r.cut,nv,.int .i64 r.lives,.bool r.own,.int .i64 g3.round,.int .i64 g3.player,.int .i64 g3.darts,.slice (some ⟨pb,0,none⟩) np cap,(.slice none 0 0),.bool (hitB g3 0),.bool (hitB g3 1),.bool (hitB g3 2),.bool (hitB g3 3),.bool (hitB g3 4)] 41 (0,0)):=by rw [← hwE]; exact setRow_heap _ _ _ _ _ _ HZR.out
         have hBE : Below w.heap.size w wE:=by rw [← hwE]; exact below_setRow HBWR.out (by have:=HN.out; omega) _
         have hVE : GamV wE r g3 nv pb cap (.slice none 0 0):=by
          refine ⟨HPLR.out.keep (by rw [← hwE]; exact setRow_other _ _ _ _ (by omega)),(HWSR.out.keepB fun k hk _ => by rw [← hwE]; exact setRow_other _ _ _ _ (by omega)).mono fun _ _ => trivial, ?_,by rw [HGL.out]; exact ⟨hc1,hc2⟩⟩
          exact (HNUM.out.keepB fun k hk _ => hBE.block k (by have:=HN.out; omega)).mono fun _ _ => trivial
         have HSE : Hid (Sl (fun q => w.heap.size ≤ q) wE (.slice none 0 0) (ints (Gam.win g3))):=Lib.hid ((HWSR.out.keepB fun k hk _ => by rw [← hwE]; exact setRow_other _ _ _ _ (by omega)).mono fun q hq => by have:=HN.out; omega)
         have HVE:=Lib.hid hVE
         have HBE:=Lib.hid hBE
         have HWE2:=Lib.hid hwE
         have KE:=Lib.hid kE
         have hn1 : nv.oneCell' = true:=by obtain ⟨_,_,e,_⟩ := HNUM.out.form; rw [e]; rfl
         have hw1 : ((.slice none 0 0) : Value).oneCell' = true:=by obtain ⟨_,_,e,_⟩ := HWSR.out.form; rw [e]; rfl
         have HONE:=Lib.hid (And.intro hn1 hw1)
         clear hwE kE hBE hVE hn1 hw1
         go_wp2_with (first | ((with_reducible refine wpList_opOK (o:=⟨some 181,Op.load 41 (.tmp 2),_,_,_,_⟩) (R:=fun v w' => v = .agg #[.int .i64 r.kind,.int .i64 r.players,.int .i64 r.last,.bool r.bull,.bool r.jump,.int .i64 r.rounds,.bool r.cut,nv,.int .i64 r.lives,.bool r.own,.int .i64 g3.round,.int .i64 g3.player,.int .i64 g3.darts,.slice (some ⟨pb,0,none⟩) np cap,(.slice none 0 0),.bool (hitB g3 0),.bool (hitB g3 1),.bool (hitB g3 2),.bool (hitB g3 3),.bool (hitB g3 4)] ∧ w12 = w') ?_ ?_ ?_); rfl; (exact opOK_load_row 41 (.tmp 2) rfl N #[.int .i64 r.kind,.int .i64 r.players,.int .i64 r.last,.bool r.bull,.bool r.jump,.int .i64 r.rounds,.bool r.cut,nv,.int .i64 r.lives,.bool r.own,.int .i64 g3.round,.int .i64 g3.player,.int .i64 g3.darts,.slice (some ⟨pb,0,none⟩) np cap,(.slice none 0 0),.bool (hitB g3 0),.bool (hitB g3 1),.bool (hitB g3 2),.bool (hitB g3 3),.bool (hitB g3 4)] (by kernel_rfl) 41 (0,0) HBXR.out _ Try.underlying41 rfl (by kernel_rfl) ⟨rfl,rfl⟩); rintro _ _ ⟨rfl,rfl⟩) | ((with_reducible refine wpList_opOK (o:=⟨none,Op.store 41 (.tmp 4) (.tmp 181),_,_,_,_⟩) (R:=fun _ w' => wE = w') ?_ ?_ ?_); rfl; (exact opOK_store_row 41 (.tmp 4) (.tmp 181) rfl (N + 1) #[.int .i64 r.kind,.int .i64 r.players,.int .i64 r.last,.bool r.bull,.bool r.jump,.int .i64 r.rounds,.bool r.cut,nv,.int .i64 r.lives,.bool r.own,.int .i64 g3.round,.int .i64 g3.player,.int .i64 g3.darts,.slice (some ⟨pb,0,none⟩) np cap,(.slice none 0 0),.bool (hitB g3 0),.bool (hitB g3 1),.bool (hitB g3 2),.bool (hitB g3 3),.bool (hitB g3 4)] (by kernel_rfl) (by kernel_rfl) _ _ HZR.out (by kernel_rfl) rfl (by simp only [List.all_toArray,List.all_cons,List.all_nil,HONE.out.1,HONE.out.2,Bool.and_true]; rfl) HWE2.out.symm); rintro _ _ rfl) | fail)
         try simp only [Exit.inBlock,Exit.then]
         refine bodyPost_ret (results_cell Try.results33 (by kernel_rfl) (run_loadVar_row wE (N + 1) 41 41 _ _ _ KE.out Try.underlying41 rfl (by kernel_rfl))) rfl ?_
         rw [HRES.out]
         refine ⟨pb,cap,(.slice none 0 0), ?_,HVE.out,HBE.out,(fun _ => rfl),HSE.out⟩
         rw [HGL.out]; rfl
        | true =>
         as_aux_lemma =>
         have HYB:=Lib.hid HC5.out.1.yes
         have HRES : Hid (throwG r g f n = { g2 with win:=bstK r g2 np }):=Lib.hid (by
          rw [HTH2.out,if_neg HC2.out.1.no]
          unfold nextR
          rw [HL2.out,HP2.out,HR2.out,HNXT.out]
          dsimp only
          rw [if_pos HYB.out,← HL2.out]; rfl)
         have HNE : Hid (bstK r g2 np ≠ []):=Lib.hid (by
          rw [← HL2.out,bstK_all,best_eq HINV.out]
          exact bestG_ne (by rw [HL2.out]; omega))
         obtain ⟨B,hB⟩ : ∃ x,w11.heap.size = x:=⟨_,rfl⟩
         have hNB : N + 1 < B:=by rw [← hB]; exact (Array.getElem?_eq_some_iff.1 HZ11.out).1
         have hgw:=HG11.out.toW
         rw [hB] at hgw
         have HGW:=Lib.hid hgw
         have HB:=Lib.hid hB
         clear hgw hB
         go_upto_block 3 with fail
         go_cut [11,12,13] from 139 to 169 (fun _ _ _ wx => ∃ u,Hid (wx.ownsRow B 3 1 u (bstK r g2 np).length (ints (bstK r g2 np)) ∧ GamW B wx N pb r g2 cap u nv ∧ B ≤ wx.heap.size ∧ Rel (TO N pb) w11 (TO N pb) wx))
         case first =>
          as_aux_lemma =>
          go_wp2_with fail
          go_loopw [11] (fun iv wr => ∃ (i : Nat) (u : Value),i ≤ np ∧ iv = .int .i64 i ∧ Hid (wr.ownsRow B 3 1 u (bstK r g2 i).length (ints (bstK r g2 i)) ∧ GamW B wr N pb r g2 cap u nv ∧ B ≤ wr.heap.size ∧ Rel (TO N pb) w11 (TO N pb) wr)) (fun iv _ => np - (intOf iv).toNat)
          case atStart => exact ⟨0,(.slice none 0 0),by omega,by go_num,Lib.hid ⟨World.ownsRow_nil _ _ _ _,HGW.out,by rw [HB.out]; exact Nat.le_refl _,Rel.of_below (Below.refl _ _) HG11.out.lt⟩⟩
          case round =>
           obtain ⟨i,u,hi,rfl,HR⟩ := hrel
           obtain ⟨wi,rfl⟩ : ∃ y : World,y = wr:=⟨_,rfl⟩
           have c1 : wi.cell? ⟨N,1,none⟩ = some (.int .i64 (np : Int)):=by rw [HLEN.out]; exact HR.out.2.1.at_ rfl
           have hBi:=HR.out.2.2.1
           by_cases hin : i < np
           ·have d1 : decide ((i : Int) < (np : Int)) = true:=decide_eq_true (by omega)
            have d1n : decide (i < np) = true:=decide_eq_true hin
            have zi : IntKind.i64.wrap ((i : Int) + 1) = (i : Int) + 1:=wrap_small _ (by omega) (by omega)
            go_wp2_with fail
            go_loopw [12,13] (fun bv kv wr => ∃ (k : Nat) (b : Bool),k ≤ np ∧ kv = .int .i64 k ∧ bv = .bool b ∧ Hid (b = bstTo r g2 i k ∧ Below wi.heap.size wi wr)) (fun _ kv _ => np - (intOf kv).toNat)
            case atStart => exact ⟨0,true,by omega,by go_num,rfl,Lib.hid ⟨rfl,Below.refl _ _⟩⟩
            case round =>
             obtain ⟨k,b,hk,rfl,rfl,HK⟩ := hrel
             obtain ⟨wk,rfl⟩ : ∃ y : World,y = wr:=⟨_,rfl⟩
             have HGk:=Lib.hid (HR.out.2.1.below (HK.out.2.mono hBi))
             have hBk : B ≤ wk.heap.size:=Nat.le_trans hBi HK.out.2.size
             have c1 : wk.cell? ⟨N,1,none⟩ = some (.int .i64 (np : Int)):=by rw [HLEN.out]; exact HGk.out.at_ rfl
             by_cases hkl : k < np
             ·have d2 : decide ((k : Int) < (np : Int)) = true:=decide_eq_true (by omega)
              have d2n : decide (k < np) = true:=decide_eq_true hkl
              have zk : IntKind.i64.wrap ((k : Int) + 1) = (k : Int) + 1:=wrap_small _ (by omega) (by omega)
              cases b with
              | false =>
               have HS : Hid (false = bstTo r g2 i (k + 1)):=Lib.hid (by rw [bstTo_succ,← HK.out.1]; rfl)
               go_wp2
               go_roundw
               case rel => exact ⟨k + 1,false,by omega,by go_num,rfl,Lib.hid ⟨HS.out,HK.out.2⟩⟩
               case measure => simp [intOf]; omega
              | true =>
               obtain ⟨bx,hbx⟩ : ∃ y,betterR r (plr g2 k) (plr g2 i) = y:=⟨_,rfl⟩
               have HS : Hid (bstTo r g2 i (k + 1) = !bx):=Lib.hid (by rw [bstTo_succ,← HK.out.1,hbx]; rfl)
               have hbo:=HGk.out.box
               rw [HL2.out] at hbo
               have HBXk : Hid (wk.heap[N]? = some (.cells #[.int .i64 r.kind,.int .i64 r.players,.int .i64 r.last,.bool r.bull,.bool r.jump,.int .i64 r.rounds,.bool r.cut,nv,.int .i64 r.lives,.bool r.own,.int .i64 g2.round,.int .i64 g2.player,.int .i64 g2.darts,.slice (some ⟨pb,0,none⟩) np cap,u,.bool (hitB g2 0),.bool (hitB g2 1),.bool (hitB g2 2),.bool (hitB g2 3),.bool (hitB g2 4)] 41 (0,0))):=Lib.hid hbo
               have hbt:=refBetter_v pb cap r { g2 with win:=bstK r g2 i } u nv wk (HGk.out.toV (((Sl.of_owns HR.out.1).below HK.out.2).mono fun _ _ => trivial)) (fun p hp => (HINV.out.each p hp).1) k i (by show k < g2.pls.length; rw [HL2.out]; exact hkl) (by show i < g2.pls.length; rw [HL2.out]; exact hin)
               have hbt2 : Calls Try.prog 45 #[.agg #[.int .i64 r.kind,.int .i64 r.players,.int .i64 r.last,.bool r.bull,.bool r.jump,.int .i64 r.rounds,.bool r.cut,nv,.int .i64 r.lives,.bool r.own,.int .i64 g2.round,.int .i64 g2.player,.int .i64 g2.darts,.slice (some ⟨pb,0,none⟩) np cap,u,.bool (hitB g2 0),.bool (hitB g2 1),.bool (hitB g2 2),.bool (hitB g2 3),.bool (hitB g2 4)],.int .i64 k,.int .i64 i] wk fun e w' => e = .returned (.bool bx) ∧ Below wk.heap.size wk w':=by
                rw [← hbx,← HL2.out]; exact hbt
               clear hbt hbx hbo
               go_wp2_with (first | ((with_reducible refine wpList_opOK_on (o:=⟨some 155,Op.load 41 (.tmp 2),_,_,_,_⟩) (R:=fun v w' => v = .agg #[.int .i64 r.kind,.int .i64 r.players,.int .i64 r.last,.bool r.bull,.bool r.jump,.int .i64 r.rounds,.bool r.cut,nv,.int .i64 r.lives,.bool r.own,.int .i64 g2.round,.int .i64 g2.player,.int .i64 g2.darts,.slice (some ⟨pb,0,none⟩) np cap,u,.bool (hitB g2 0),.bool (hitB g2 1),.bool (hitB g2 2),.bool (hitB g2 3),.bool (hitB g2 4)] ∧ wk = w') ?_ ?_ ?_); rfl; (exact opOK_load_row 41 (.tmp 2) rfl N #[.int .i64 r.kind,.int .i64 r.players,.int .i64 r.last,.bool r.bull,.bool r.jump,.int .i64 r.rounds,.bool r.cut,nv,.int .i64 r.lives,.bool r.own,.int .i64 g2.round,.int .i64 g2.player,.int .i64 g2.darts,.slice (some ⟨pb,0,none⟩) np cap,u,.bool (hitB g2 0),.bool (hitB g2 1),.bool (hitB g2 2),.bool (hitB g2 3),.bool (hitB g2 4)] (by kernel_rfl) 41 (0,0) HBXk.out _ Try.underlying41 rfl (by kernel_rfl) ⟨rfl,rfl⟩); rintro _ _ ⟨rfl,rfl⟩) | fail)
               refine hbt2.mono ?_
               rintro e w13 ⟨rfl,hb13⟩
               have HB13:=Lib.hid (bThen HK.out.2 hb13)
               clear hb13 hbt2 HBXk
               cases bx with
               | true =>
                have HS2 : Hid (false = bstTo r g2 i (k + 1)):=Lib.hid (by rw [HS.out]; rfl)
                go_wp2
                go_roundw
                case rel => exact ⟨k + 1,false,by omega,by go_num,rfl,Lib.hid ⟨HS2.out,HB13.out⟩⟩
                case measure => simp [intOf]; omega
               | false =>
                have HS2 : Hid (true = bstTo r g2 i (k + 1)):=Lib.hid (by rw [HS.out]; rfl)
                go_wp2
                go_roundw
                case rel => exact ⟨k + 1,true,by omega,by go_num,rfl,Lib.hid ⟨HS2.out,HB13.out⟩⟩
                case measure => simp [intOf]; omega
             ·obtain rfl : k = np:=by omega
              obtain ⟨np,rfl⟩ : ∃ x : Nat,x = k:=⟨_,rfl⟩
              have d2 : decide ((np : Int) < (np : Int)) = false:=decide_eq_false (by omega)
              have HSK:=Lib.hid (bstK_succ r g2 i)
              have HRk:=Lib.hid (HR.out.2.2.2.ext HK.out.2)
              obtain ⟨ln,hln⟩ : ∃ x,(bstK r g2 i).length = x:=⟨_,rfl⟩
              have hll : ln ≤ i:=by rw [← hln]; exact bstK_len r g2 i
              have ho:=ownsN_below HR.out.1 HK.out.2
              rw [hln] at ho
              have HO:=Lib.hid ho
              have HLN:=Lib.hid hln
              clear ho hln
              cases b with
              | false =>
               have HBK : Hid (bstK r g2 (i + 1) = bstK r g2 i):=Lib.hid (by rw [HSK.out,HL2.out,← HK.out.1]; simp)
               go_wp2
               go_roundw
               case rel => exact ⟨i + 1,u,by omega,by go_num,Lib.hid ⟨by rw [HBK.out,HLN.out]; exact HO.out,HGk.out,hBk,HRk.out⟩⟩
               case measure => simp [intOf]; omega
              | true =>
               have HBK : Hid (bstK r g2 (i + 1) = bstK r g2 i ++ [(i : Int)]):=Lib.hid (by rw [HSK.out,HL2.out,← HK.out.1]; simp)
               go_upto_region 35 with fail
               have c14 : (wk.alloc (.cells #[.int .i64 i] 3)).cell? ⟨N,14,none⟩ = some u:=(HGk.out.below ((aB _ _).mono hBk)).at_ rfl
               have c14k : wk.cell? ⟨N,14,none⟩ = some u:=HGk.out.at_ rfl
               go_wp2_with (first | (at_builtin; refine wpList_append1 rfl (.tmp 164) (.tmp 166) 23 rfl B 3 (.int .i64 0) 8 Try.underlying23 info3 rfl u ln _ rfl (HO.out.alloc _) wk.heap.size 0 1 (.int .i64 i) rfl (cell_new _ _ _) rfl (by omega) (by decide) (by simp; omega) ?_) | fail)
               intro g' c w14 ho2 hg2' _
               have hb14 : Below B wk w14:=((aB wk (.cells #[.int .i64 i] 3)).mono hBk).trans (below_grownBy hg2' (by simp; omega) fun q hq => (HO.out.lt q hq).1)
               have HG14:=Lib.hid (HGk.out.below hb14)
               have HR14:=Lib.hid (rel_below HRk.out hb14 (by rw [HB.out]; exact Nat.le_refl _) HG11.out.lt)
               have hBs : B ≤ w14.heap.size:=Nat.le_trans hBk hb14.size
               have hgB : B ≤ g':=(ho2.lt g' rfl).1
               have HO2 : Hid (w14.ownsRow B 3 1 (.slice (some ⟨g',0,none⟩) (ln + 1) c) (bstK r g2 (i + 1)).length (ints (bstK r g2 (i + 1)))):=Lib.hid (by rw [HBK.out]; simpa [ints,HLN.out] using ho2)
               clear c14 c14k ho2 hg2' hb14
               have c14 : w14.cell? ⟨N,14,none⟩ = some u:=HG14.out.at_ rfl
               have f14:=HG14.out.free 14
               go_wp2
               go_roundw
               case rel =>
                refine ⟨i + 1,_,by omega,by go_num,Lib.hid ⟨?_,HG14.out.setWin _,by rw [World.size_setCell]; exact hBs,HR14.out.setCell (.inl rfl) _⟩⟩
                exact ownsN_kept HO2.out fun q hq => Below.heap_setCell _ _ _ _ (by cases hq; dsimp only; omega)
               case measure => simp [intOf]; omega
           ·obtain rfl : i = np:=by omega
            obtain ⟨np,rfl⟩ : ∃ x : Nat,x = i:=⟨_,rfl⟩
            have d1 : decide ((np : Int) < (np : Int)) = false:=decide_eq_false (by omega)
            go_wp2
            go_meet
            case rel => exact ⟨u,HR⟩
         case rest =>
          as_aux_lemma =>
          obtain ⟨u,HC6⟩ := hcut
          obtain ⟨wB,rfl⟩ : ∃ y : World,y = wc:=⟨_,rfl⟩
          have HGL : Hid (List.length (Gam.pls { g2 with win:=bstK r g2 np }) = np):=Lib.hid HL2.out
          have hbo:=HC6.out.2.1.box
          rw [HL2.out] at hbo
          have HBXR : Hid (wB.heap[N]? = some (.cells #[.int .i64 r.kind,.int .i64 r.players,.int .i64 r.last,.bool r.bull,.bool r.jump,.int .i64 r.rounds,.bool r.cut,nv,.int .i64 r.lives,.bool r.own,.int .i64 g2.round,.int .i64 g2.player,.int .i64 g2.darts,.slice (some ⟨pb,0,none⟩) np cap,u,.bool (hitB g2 0),.bool (hitB g2 1),.bool (hitB g2 2),.bool (hitB g2 3),.bool (hitB g2 4)] 41 (0,0))):=Lib.hid hbo
          have HZR:=Lib.hid ((HC6.out.2.2.2.block (N + 1) (by rw [HB.out]; exact hNB) (by rintro (e | e) <;> omega)).trans HZ11.out)
          have HBWR:=Lib.hid (below_rel HBW11.out HC6.out.2.2.2 (by have:=HN.out; have:=HB2.out.size; rintro q (e | e) <;> omega) HBW11.out.size)
          have HPLR:=Lib.hid HC6.out.2.1.pls
          have HWSR : Hid (Sl (fun q => N + 2 ≤ q) wB u (ints (Gam.win { g2 with win:=bstK r g2 np }))):=Lib.hid ((Sl.of_owns HC6.out.1).mono fun q hq => by omega)
          have HNIL : Hid (Gam.win { g2 with win:=bstK r g2 np } = [] → u = (.slice none 0 0)):=Lib.hid (fun e => (HNE.out e).elim)
          clear hbo
          obtain ⟨wE,hwE⟩ : ∃ x,wB.setRow (N + 1) #[.int .i64 r.kind,.int .i64 r.players,.int .i64 r.last,.bool r.bull,.bool r.jump,.int .i64 r.rounds,.bool r.cut,nv,.int .i64 r.lives,.bool r.own,.int .i64 g2.round,.int .i64 g2.player,.int .i64 g2.darts,.slice (some ⟨pb,0,none⟩) np cap,u,.bool (hitB g2 0),.bool (hitB g2 1),.bool (hitB g2 2),.bool (hitB g2 3),.bool (hitB g2 4)] = x:=⟨_,rfl⟩
          have kE : wE.heap[N + 1]? = some (.cells #[.int .i64 r.kind,.int .i64 r.players,.int .i64 r.last,.bool r.bull,.bool r.jump,.int .i64 r.rounds,.bool r.cut,nv,.int .i64 r.lives,.bool r.own,.int .i64 g2.round,.int .i64 g2.player,.int .i64 g2.darts,.slice (some ⟨pb,0,none⟩) np cap,u,.bool (hitB g2 0),.bool (hitB g2 1),.bool (hitB g2 2),.bool (hitB g2 3),.bool (hitB g2 4)] 41 (0,0)):=by rw [← hwE]; exact setRow_heap _ _ _ _ _ _ HZR.out
          have hBE : Below w.heap.size w wE:=by rw [← hwE]; exact below_setRow HBWR.out (by have:=HN.out; omega) _
          have hVE : GamV wE r { g2 with win:=bstK r g2 np } nv pb cap u:=by
           refine ⟨HPLR.out.keep (by rw [← hwE]; exact setRow_other _ _ _ _ (by omega)),(HWSR.out.keepB fun k hk _ => by rw [← hwE]; exact setRow_other _ _ _ _ (by omega)).mono fun _ _ => trivial, ?_,by rw [HGL.out]; exact ⟨hc1,hc2⟩⟩
           exact (HNUM.out.keepB fun k hk _ => hBE.block k (by have:=HN.out; omega)).mono fun _ _ => trivial
          have HSE : Hid (Sl (fun q => w.heap.size ≤ q) wE u (ints (Gam.win { g2 with win:=bstK r g2 np }))):=Lib.hid ((HWSR.out.keepB fun k hk _ => by rw [← hwE]; exact setRow_other _ _ _ _ (by omega)).mono fun q hq => by have:=HN.out; omega)
          have HVE:=Lib.hid hVE
          have HBE:=Lib.hid hBE
          have HWE2:=Lib.hid hwE
          have KE:=Lib.hid kE
          have hn1 : nv.oneCell' = true:=by obtain ⟨_,_,e,_⟩ := HNUM.out.form; rw [e]; rfl
          have hw1 : (u : Value).oneCell' = true:=by obtain ⟨_,_,e,_⟩ := HWSR.out.form; rw [e]; rfl
          have HONE:=Lib.hid (And.intro hn1 hw1)
          clear hwE kE hBE hVE hn1 hw1
          go_wp2_with (first | ((with_reducible refine wpList_opOK (o:=⟨some 170,Op.load 41 (.tmp 2),_,_,_,_⟩) (R:=fun v w' => v = .agg #[.int .i64 r.kind,.int .i64 r.players,.int .i64 r.last,.bool r.bull,.bool r.jump,.int .i64 r.rounds,.bool r.cut,nv,.int .i64 r.lives,.bool r.own,.int .i64 g2.round,.int .i64 g2.player,.int .i64 g2.darts,.slice (some ⟨pb,0,none⟩) np cap,u,.bool (hitB g2 0),.bool (hitB g2 1),.bool (hitB g2 2),.bool (hitB g2 3),.bool (hitB g2 4)] ∧ wB = w') ?_ ?_ ?_); rfl; (exact opOK_load_row 41 (.tmp 2) rfl N #[.int .i64 r.kind,.int .i64 r.players,.int .i64 r.last,.bool r.bull,.bool r.jump,.int .i64 r.rounds,.bool r.cut,nv,.int .i64 r.lives,.bool r.own,.int .i64 g2.round,.int .i64 g2.player,.int .i64 g2.darts,.slice (some ⟨pb,0,none⟩) np cap,u,.bool (hitB g2 0),.bool (hitB g2 1),.bool (hitB g2 2),.bool (hitB g2 3),.bool (hitB g2 4)] (by kernel_rfl) 41 (0,0) HBXR.out _ Try.underlying41 rfl (by kernel_rfl) ⟨rfl,rfl⟩); rintro _ _ ⟨rfl,rfl⟩) | ((with_reducible refine wpList_opOK (o:=⟨none,Op.store 41 (.tmp 4) (.tmp 170),_,_,_,_⟩) (R:=fun _ w' => wE = w') ?_ ?_ ?_); rfl; (exact opOK_store_row 41 (.tmp 4) (.tmp 170) rfl (N + 1) #[.int .i64 r.kind,.int .i64 r.players,.int .i64 r.last,.bool r.bull,.bool r.jump,.int .i64 r.rounds,.bool r.cut,nv,.int .i64 r.lives,.bool r.own,.int .i64 g2.round,.int .i64 g2.player,.int .i64 g2.darts,.slice (some ⟨pb,0,none⟩) np cap,u,.bool (hitB g2 0),.bool (hitB g2 1),.bool (hitB g2 2),.bool (hitB g2 3),.bool (hitB g2 4)] (by kernel_rfl) (by kernel_rfl) _ _ HZR.out (by kernel_rfl) rfl (by simp only [List.all_toArray,List.all_cons,List.all_nil,HONE.out.1,HONE.out.2,Bool.and_true]; rfl) HWE2.out.symm); rintro _ _ rfl) | fail)
          try simp only [Exit.inBlock,Exit.then]
          refine bodyPost_ret (results_cell Try.results33 (by kernel_rfl) (run_loadVar_row wE (N + 1) 41 41 _ _ _ KE.out Try.underlying41 rfl (by kernel_rfl))) rfl ?_
          rw [HRES.out]
          refine ⟨pb,cap,u, ?_,HVE.out,HBE.out,HNIL.out,HSE.out⟩
          rw [HGL.out]; rfl
end Go.Proofs.Ytnhggfnnolfcdaa
