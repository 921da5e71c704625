/- The texts HK, in build order. -/
import Derived.Test.YtnhggfnnolfcdaaGreatZal

/- Chapter 4: a dart of cricket. -/
namespace Go.Proofs.YtnhggfnnolfcdaaGreat
open Go.RowKit Go.Oche Go.Proofs
attribute [local go_sem] Oper.semAt_some
theorem setCell_same {w : World} {b o : Nat} {c : Array Value} {t : TypeId} {fz : Nat × Nat} {v : Value} (h : w.heap[b]? = some (.cells c t fz)) (hv : c[o]? = some v) : w.setCell ⟨b,o,none⟩ v = w:=by
 have hlt : b < w.heap.size:=(Array.getElem?_eq_some_iff.1 h).1
 have ho : o < c.size:=(Array.getElem?_eq_some_iff.1 hv).1
 have hc : c.setIfInBounds o v = c:=by
  apply Array.ext (by simp)
  intro i h1 h2
  rw [Array.getElem_setIfInBounds]
  split
  ·subst_vars; exact ((Array.getElem?_eq_some_iff.1 hv).2).symm
  ·rfl
 have hh:=heap_setCell_at (o:=o) h v
 rw [hc] at hh
 have : (w.setCell ⟨b,o,none⟩ v).heap = w.heap:=by
  apply Array.ext (by simp)
  intro i h1 h2
  by_cases e : i = b
  ·subst e
   have h3:=h
   rw [Array.getElem?_eq_getElem h1] at hh
   rw [Array.getElem?_eq_getElem h2] at h3
   exact Option.some.inj (hh.trans h3.symm)
  ·have:=Below.heap_setCell w ⟨b,o,none⟩ v i e
   rw [Array.getElem?_eq_getElem h1,Array.getElem?_eq_getElem h2] at this
   exact Option.some.inj this
 cases w
 unfold World.setCell at *
 simp only at this
 rw [this]
theorem rel_next {TT O O' : Nat → Prop} {w W W' : World} (h : Rel TT w TT W) (h' : Rel O W O' W') (hO : ∀ k,O k → w.heap.size ≤ k) : Rel TT w TT W' :=
 ⟨h'.os.trans h.os,h'.tape.trans h.tape,h'.output.trans h.output,Nat.le_trans h.size h'.size,fun k hk hn => (h'.block k (Nat.lt_of_lt_of_le hk h.size) fun e => by have:=hO k e; omega).trans (h.block k hk hn),fun _ h => .inl h,fun k hk => Nat.lt_of_lt_of_le (h.lt k hk) h'.size⟩
theorem rel_set {TT : Nat → Prop} {w W : World} (h : Rel TT w TT W) {p : Addr} (v : Value) (hp : w.heap.size ≤ p.block) : Rel TT w TT (W.setCell p v) :=
 ⟨h.os,h.tape,h.output,by simpa using h.size,fun k hk hn => (Below.heap_setCell _ _ _ _ (fun e => by omega)).trans (h.block k hk hn),fun _ h => .inl h,fun k hk => by simpa using h.lt k hk⟩
theorem TabAt.again {w W W' : World} {t pb cap : Nat} {r : Rul} {g g' : Gam} {wv nv : Value} (h0 : TabAt w t pb r g cap wv nv) (h : TabAt W t pb r g' cap wv nv) (hw : g'.win = g.win) (hR : Rel (TO t pb) w (TO t pb) W') (k1 : W'.heap[t]? = W.heap[t]?) (k2 : W'.heap[pb]? = W.heap[pb]?) : TabAt W' t pb r g' cap wv nv :=
 ⟨k1.trans h.box,h.pls.keep k2,by rw [hw]; exact h0.win.rel hR fun k hk e => by rcases e with e | e; (have:=hk.1; omega); exact hk.2 e,h0.num.rel hR fun k hk e => hk e,h.ne,h.cap⟩
theorem PlsAt.nine {w : World} {pb : Nat} {l : List Plr} (h : PlsAt w pb l) {i : Nat} (hi : i < l.length) : ∃ (P a b c d e f g : Int) (kb : Bool),l[i] = ⟨P,[a,b,c,d,e,f,g],kb⟩ ∧
  w.cell? ⟨pb,i * 9,none⟩ = some (.int .i64 P) ∧ w.cell? ⟨pb,i * 9 + 1,none⟩ = some (.int .i64 a) ∧ w.cell? ⟨pb,i * 9 + 2,none⟩ = some (.int .i64 b) ∧ w.cell? ⟨pb,i * 9 + 3,none⟩ = some (.int .i64 c) ∧ w.cell? ⟨pb,i * 9 + 4,none⟩ = some (.int .i64 d) ∧ w.cell? ⟨pb,i * 9 + 5,none⟩ = some (.int .i64 e) ∧ w.cell? ⟨pb,i * 9 + 6,none⟩ = some (.int .i64 f) ∧ w.cell? ⟨pb,i * 9 + 7,none⟩ = some (.int .i64 g) ∧ w.cell? ⟨pb,i * 9 + 8,none⟩ = some (.bool kb):=by
 obtain ⟨x,hl⟩ : ∃ x,l[i] = x:=⟨_,rfl⟩
 obtain ⟨P,ms,kb⟩ := x
 have h7 : ms.length = 7:=by have:=h.1 _ (List.getElem_mem hi); rw [hl] at this; exact this
 obtain ⟨a,b,c,d,e,f,g,rfl⟩ := list_seven h7
 refine ⟨P,a,b,c,d,e,f,g,kb,hl, ?_, ?_, ?_, ?_, ?_, ?_, ?_, ?_, ?_⟩
 ·exact h.cell (j:=0) hi (by rw [hl]; rfl)
 ·exact h.cell (j:=1) hi (by rw [hl]; rfl)
 ·exact h.cell (j:=2) hi (by rw [hl]; rfl)
 ·exact h.cell (j:=3) hi (by rw [hl]; rfl)
 ·exact h.cell (j:=4) hi (by rw [hl]; rfl)
 ·exact h.cell (j:=5) hi (by rw [hl]; rfl)
 ·exact h.cell (j:=6) hi (by rw [hl]; rfl)
 ·exact h.cell (j:=7) hi (by rw [hl]; rfl)
 ·exact h.cell (j:=8) hi (by rw [hl]; rfl)
theorem placeN_I (n : Int) : placeN n = if placeB n = true then some (placeI n).toNat else none:=by
 unfold placeN placeB placeI
 by_cases h : n = 25
 ·simp [h]
 ·rw [if_neg h]; simp [h]
theorem placeB_I {n : Int} (h : placeB n = true) : 0 ≤ placeI n ∧ placeI n < 7:=by
 unfold placeB placeI at *
 by_cases e : n = 25
 ·rw [if_pos e]; omega
 ·rw [if_neg e]; simp [e,isIn] at h; omega
theorem place_r (n : Int) (hn : -1000 ≤ n ∧ n ≤ 1000) (pi : Int) (b : Bool) (h1 : Hid (placeI n = pi)) (h2 : Hid (placeB n = b)) (w : World) :
  Calls Tryz.prog 114 #[.int .i64 n] w fun e w' => e = .returned (.tuple #[.int .i64 pi,.bool b]) ∧ Below w.heap.size w w':=by
 rw [← h1.out,← h2.out]; exact place_any n hn w
theorem passed_cell {w w' : World} {Ds : List Nat} (h : Passed Ds w w') {a : Addr} {v : Value} (hv : w.cell? a = some v) : w'.cell? a = some v:=(h.cell a).trans hv
def betP (r : Rul) (g : Gam) (k : Nat) : Bool:=if r.cut = true then decide ((plr g k).pts < (plr g g.player).pts) else decide ((plr g g.player).pts < (plr g k).pts)
theorem beaten_oth (r : Rul) (g : Gam) : beatenG r g = (othK g.player g.pls.length).any (betP r g):=by
 unfold beatenG othK betP; rw [List.any_filter]
structure CI (r : Rul) (g : Gam) (q2 : Nat) (pre : List Nat) (O : Nat → Prop) (W : World) : Prop where
 o : ∀ k,O k ↔ k = q2
 no : pre.any (betP r g) = false
 res : W.heap[q2]? = some (.cells #[.slice none 0 0] 27 (0,0))
structure CX (r : Rul) (g : Gam) (q2 : Nat) (pre : List Nat) (O : Nat → Prop) (W : World) : Prop where
 o : ∀ k,O k ↔ k = q2
 yes : pre.any (betP r g) = true
 res : W.heap[q2]? = some (.cells #[.slice none 0 0] 27 (0,0))
theorem CI.stab {r : Rul} {g : Gam} {q2 : Nat} {pre : List Nat} {O : Nat → Prop} {W W' : World} (h : CI r g q2 pre O W) (hk : ∀ k,k < W.heap.size → O k → W'.heap[k]? = W.heap[k]?) : CI r g q2 pre O W' :=
 ⟨h.o,h.no,(hk _ (Array.getElem?_eq_some_iff.1 h.res).1 ((h.o _).2 rfl)).trans h.res⟩
theorem CX.stab {r : Rul} {g : Gam} {q2 : Nat} {pre : List Nat} {O : Nat → Prop} {W W' : World} (h : CX r g q2 pre O W) (hk : ∀ k,k < W.heap.size → O k → W'.heap[k]? = W.heap[k]?) : CX r g q2 pre O W' :=
 ⟨h.o,h.yes,(hk _ (Array.getElem?_eq_some_iff.1 h.res).1 ((h.o _).2 rfl)).trans h.res⟩
set_option maxRecDepth 100000 in
set_option maxHeartbeats 4000000 in
theorem dart2_any (t pb cap : Nat) (r : Rul) (g : Gam) (wv nv : Value) (f n M : Int) (w : World) (h : TabAt w t pb r g cap wv nv) (hi : Run r M g) (k : r.kind = 2) (hM : M ≤ 900000) (hb : okHit f n) :
  Calls Tryz.prog 109 #[.agg (rulA r nv),.pointer (some ⟨t,0,none⟩),.agg #[.int .i64 f,.int .i64 n]] w (DartPost t pb r cap wv nv w (dartCricket r g f n)):=by
 obtain ⟨d,hd⟩ : ∃ d,dartCricket r g f n = d:=⟨_,rfl⟩
 have HD:=Lib.hid hd
 rw [hd]
 clear hd
 have hff:=hb.f
 have hnn:=hb.n
 have hcri:=cric_ok hi.toInv k (f:=f) (n:=n) hff
 have HCR:=Lib.hid hcri
 have HI:=Lib.hid hi
 unfold rulA
 obtain ⟨w0,hw0⟩ : ∃ w0,((w.alloc (.cells #[.int .i64 r.kind,.int .i64 r.players,.int .i64 r.last,.bool r.bull,.bool r.jump,.int .i64 r.rounds,.bool r.cut,nv,.int .i64 r.lives,.bool r.own] 111)).alloc (.cells #[.int .i64 f,.int .i64 n] 61)).alloc (.cells #[.slice none 0 0] 27) = w0:=⟨_,rfl⟩
 have hb0 : Below w.heap.size w w0:=by rw [← hw0]; exact ((aB _ _).alloc (by simp) _).alloc (by simp; omega) _
 obtain ⟨q,hq⟩ : ∃ q,w.heap.size = q:=⟨_,rfl⟩
 have k0 : w0.heap[q]? = some (.cells #[.int .i64 r.kind,.int .i64 r.players,.int .i64 r.last,.bool r.bull,.bool r.jump,.int .i64 r.rounds,.bool r.cut,nv,.int .i64 r.lives,.bool r.own] 111 (0,0)):=by rw [← hw0,← hq]; exact heap_old (heap_old (World.alloc_heap_new _ _))
 have k1 : w0.heap[q + 1]? = some (.cells #[.int .i64 f,.int .i64 n] 61 (0,0)):=by rw [← hw0,← hq]; exact heap_old (heap_two _ _ _)
 have k2 : w0.heap[q + 1 + 1]? = some (.cells #[.slice none 0 0] 27 (0,0)):=by rw [← hw0,← hq]; exact heap_three _ _ _ _
 have hz0 : w0.heap.size = q + 1 + 1 + 1:=by rw [← hw0,← hq]; simp
 have hqq : t < q ∧ pb < q:=by rw [← hq]; exact ⟨h.lt t (.inl rfl),h.lt pb (.inr rfl)⟩
 have HT:=Lib.hid (h.below hb0)
 have HB0:=Lib.hid hb0
 have HW0:=Lib.hid hw0
 have HPL:=Lib.hid hi.pl
 have HH:=Lib.hid h
 have K0:=Lib.hid k0
 have K1:=Lib.hid k1
 have K2:=Lib.hid k2
 have HQ:=Lib.hid hq
 have HZ0:=Lib.hid hz0
 have HKD:=Lib.hid k
 clear hb0 hw0 k0 k1 k2 hq h hi hz0 hcri k
 refine (callsIn_wide (n:=0)).1 (callsIn_of_wp_marks Tryz.func109 rfl trivial ?_ rfl)
 simp only [Tryz.ntmps109,List.size_toArray,List.length_cons,List.length_nil,Nat.reduceAdd,Nat.reduceSub,Array.replicate_succ,Array.replicate_zero,List.push_toArray,List.append_toArray,List.nil_append,List.cons_append]
 gi_wp2_with fail
 rw [HW0.out,HQ.out]
 refine ⟨trivial,rfl,(callsIn_wide.2 (now_any t pb cap r g wv nv w0 HT.out HPL.out)).mono ?_⟩
 rintro e w1 ⟨rfl,nd,hnd⟩
 have hb1 : Below w0.heap.size w0 w1:=by rw [hnd]; exact bDrew _ _
 have hz1 : w1.heap.size = q + 1 + 1 + 1:=by rw [hnd]; rw [← HZ0.out]; rfl
 clear hnd
 obtain ⟨w2,hw2⟩ : ∃ w2,w1.alloc (.cells #[.pointer (some ⟨pb,g.player * 9,none⟩)] 116) = w2:=⟨_,rfl⟩
 have hb2 : Below w0.heap.size w0 w2:=by rw [← hw2]; exact bThen hb1 (aB _ _)
 have K3 : Hid (w2.heap[q + 1 + 1 + 1]? = some (.cells #[.pointer (some ⟨pb,g.player * 9,none⟩)] 116 (0,0))):=Lib.hid (by rw [← hw2,← hz1]; exact World.alloc_heap_new _ _)
 replace K0:=Lib.hid ((hb2.block _ (Array.getElem?_eq_some_iff.1 K0.out).1).trans K0.out)
 replace K1:=Lib.hid ((hb2.block _ (Array.getElem?_eq_some_iff.1 K1.out).1).trans K1.out)
 replace K2:=Lib.hid ((hb2.block _ (Array.getElem?_eq_some_iff.1 K2.out).1).trans K2.out)
 replace HT:=Lib.hid (HT.out.below hb2)
 replace HB0:=Lib.hid (bThen HB0.out hb2)
 have HW2:=Lib.hid hw2
 have HZ1:=Lib.hid hz1
 have c11 : (w1.alloc (.cells #[.pointer (some ⟨pb,g.player * 9,none⟩)] 116)).cell? ⟨q + 1,1,none⟩ = some (.int .i64 n):=by rw [hw2,cell_of_heap K1.out]; rfl
 obtain ⟨pi,hpi⟩ : ∃ pi,placeI n = pi:=⟨_,rfl⟩
 obtain ⟨ib,hib⟩ : ∃ ib,placeB n = ib:=⟨_,rfl⟩
 have HPI:=Lib.hid hpi
 have HIB:=Lib.hid hib
 clear hb1 hb2 hw2 hz1 HZ0 hpi hib
 gi_wp2_with fail
 rw [HZ1.out,HW2.out]
 refine ⟨trivial,rfl,(callsIn_wide.2 (place_r n (by omega) pi ib HPI HIB w2)).mono ?_⟩
 rintro e w3 ⟨rfl,hb3⟩
 replace K0:=Lib.hid ((hb3.block _ (Array.getElem?_eq_some_iff.1 K0.out).1).trans K0.out)
 replace K1:=Lib.hid ((hb3.block _ (Array.getElem?_eq_some_iff.1 K1.out).1).trans K1.out)
 replace K2:=Lib.hid ((hb3.block _ (Array.getElem?_eq_some_iff.1 K2.out).1).trans K2.out)
 replace K3:=Lib.hid ((hb3.block _ (Array.getElem?_eq_some_iff.1 K3.out).1).trans K3.out)
 replace HT:=Lib.hid (HT.out.below hb3)
 replace HB0:=Lib.hid (bThen HB0.out hb3)
 have c10 : w3.cell? ⟨q + 1,0,none⟩ = some (.int .i64 f):=by rw [cell_of_heap K1.out]; rfl
 have c11' : w3.cell? ⟨q + 1,1,none⟩ = some (.int .i64 n):=by rw [cell_of_heap K1.out]; rfl
 have c30 : w3.cell? ⟨q + 1 + 1 + 1,0,none⟩ = some (.pointer (some ⟨pb,g.player * 9,none⟩)):=by rw [cell_of_heap K3.out]; rfl
 clear hb3 c11
 cases ib
 ·have HC : Hid (cric r g f n = g):=Lib.hid (by unfold cric; rw [placeN_I,HIB.out]; rfl)
  have HT5 : Hid (TabAt w3 t pb r (cric r g f n) cap wv nv):=Lib.hid (by rw [HC.out]; exact HT.out)
  have HR5:=Lib.hid (Rel.of_below HB0.out HH.out.lt)
  have KR:=K0
  have KS:=K2
  have KP:=K3
  clear c10 c11' c30 HT
  obtain ⟨gg,hgg⟩ : ∃ gg,cric r g f n = gg:=⟨_,rfl⟩
  have hgr:=cric_rest (r:=r) (g:=g) (f:=f) (n:=n)
  have HG:=Lib.hid hgg
  rw [hgg] at HT5 HCR hgr
  have hgp : gg.player = g.player:=hgr.1
  have hgl : gg.pls.length = g.pls.length:=hgr.2.2.2.2.2
  have hpl : g.player < gg.pls.length:=by rw [hgl]; exact HPL.out
  obtain ⟨P,ma,mb,mc,md,me,mf,mg,kb,hpr,y0,y1,y2,y3,y4,y5,y6,y7,y8⟩ := HT5.out.pls.nine hpl
  have hprr : plr gg g.player = ⟨P,[ma,mb,mc,md,me,mf,mg],kb⟩ := by rw [← plr_at hpl]; exact hpr
  obtain ⟨S,hS⟩ : ∃ S,sumM ⟨P,[ma,mb,mc,md,me,mf,mg],kb⟩ = S:=⟨_,rfl⟩
  have hmk : ∀ w',Calls Tryz.prog 113 #[.agg #[.int .i64 P,.int .i64 ma,.int .i64 mb,.int .i64 mc,.int .i64 md,.int .i64 me,.int .i64 mf,.int .i64 mg,.bool kb]] w' fun e' w'' => e' = .returned (.int .i64 S) ∧ Below w'.heap.size w' w'':=fun w' => by
   rw [← hS]
   have hok:=(HCR.out.each _ (plr_mem (by rw [hgl]; exact HPL.out : g.player < gg.pls.length))).1
   rw [hprr] at hok
   exact marks_r P ma mb mc md me mf mg kb (fun m hm => ⟨hok.mlo m hm,hok.mhi m hm⟩) w'
  have HMK:=Lib.hid hmk
  have HPR:=Lib.hid hprr
  have HS:=Lib.hid hS
  have HGP:=Lib.hid hgp
  have HGL:=Lib.hid hgl
  have HD2 : Hid (d = (gg,if S < 21 then [] else if beatenG r gg = true then [] else [(g.player : Int)])):=Lib.hid (by
   rw [← HD.out]; unfold dartCricket; rw [HG.out,HGP.out,HPR.out,HS.out])
  have x30 : w3.cell? ⟨q + 1 + 1 + 1,0,none⟩ = some (.pointer (some ⟨pb,g.player * 9,none⟩)):=by rw [cell_of_heap KP.out]; rfl
  have hz5 : q + 1 + 1 + 1 < w3.heap.size:=(Array.getElem?_eq_some_iff.1 KP.out).1
  clear hgg hgr hgp hgl hpl hpr hprr hS hmk
  gi_wp2_with fail
  refine ⟨trivial,rfl,(callsIn_wide.2 (HMK.out w3)).mono ?_⟩
  rintro e w6 ⟨rfl,hb6⟩
  replace KR:=Lib.hid ((hb6.block _ (Array.getElem?_eq_some_iff.1 KR.out).1).trans KR.out)
  replace KS:=Lib.hid ((hb6.block _ (Array.getElem?_eq_some_iff.1 KS.out).1).trans KS.out)
  replace KP:=Lib.hid ((hb6.block _ (Array.getElem?_eq_some_iff.1 KP.out).1).trans KP.out)
  have HT6:=Lib.hid (HT5.out.below hb6)
  have HR6:=Lib.hid (HR5.out.ext hb6)
  have hz6 : q + 1 + 1 + 1 < w6.heap.size:=by have:=hb6.size; omega
  have s0 : w6.cell? ⟨q + 1 + 1,0,none⟩ = some (.slice none 0 0):=by rw [cell_of_heap KS.out]; rfl
  have sf : w6.frozen? ⟨q + 1 + 1,0,none⟩ = false:=frozen_of_heap KS.out
  have hsame : w6.setCell ⟨q + 1 + 1,0,none⟩ (.slice none 0 0) = w6:=setCell_same KS.out rfl
  have HSAME:=Lib.hid hsame
  clear hb6 x30 hsame y0 y1 y2 y3 y4 y5 y6 y7 y8
  by_cases hs : S < 21
  ·have HD3:=Lib.hid (HD2.out.trans (by rw [if_pos hs]))
   gi_wp2_with fail
   refine leave_marks [] _ (Marks.nil 0 _) fun W'' hp => ?_
   have hW : W'' = W'':=rfl
   rw [HSAME.out] at hp
   have hr:=passed_cell hp s0
   refine ⟨.slice none 0 0,by simp [results,Tryz.results109,go_sem,hr],_,rfl,by rw [HD3.out]; exact Sl.nil _ _,by rw [HD3.out]; exact HT6.out.passed hp (by simp) (by simp),rel_passed HR6.out hp (by simp)⟩
  ·have HD3:=Lib.hid (HD2.out.trans (by rw [if_neg hs]))
   have t1 : w6.cell? ⟨t,1,none⟩ = some (.int .i64 g.player):=by rw [← HGP.out]; exact HT6.out.at_ rfl
   have t3 : w6.cell? ⟨t,3,none⟩ = some (.slice (some ⟨pb,0,none⟩) gg.pls.length cap):=HT6.out.at_ rfl
   have T1:=Lib.hid t1
   have T3:=Lib.hid t3
   have HS21:=Lib.hid hs
   clear t1 t3 s0 sf
   gi_wp2_with fail
   refine wpIn_range (t:=3) (gf:=116) (fa:=#[.pointer (some ⟨t,0,none⟩)]) (lb:=#[]) rfl (enters_of Tryz.func116 (by kernel_rfl) rfl)
    (others_in t pb cap g.player gg.pls.length w6 (fun j => j = t) T1.out T3.out HT6.out.cap rfl)
    (CI r gg (q + 1 + 1)) (fun c pre O W => c = .ret ∧ CX r gg (q + 1 + 1) pre O W) (fun pre O A B h _ _ _ _ hk => h.stab fun k h1 h2 => hk k h1 (.inl h2)) (fun c pre O A B h _ _ _ _ hk => ⟨h.1,h.2.stab fun k h1 h2 => hk k h1 (.inl h2)⟩)
    (fun j => j = q + 1 + 1) (fun j hj => by omega) (fun j hj => by have:=HT6.out.lt t (.inl rfl); omega) ⟨fun _ => Iff.rfl,rfl,KS.out⟩
    (fun b args O W' h => by subst h; rfl) ?round ?done ?stop
   case round =>
    rintro l pre k post args O₁ W₁ hL hl1 hl2 hnl hnl' hrel hI henc
    subst henc
    clear hI
    have hkn:=(othK_mem.1 (show k ∈ othK g.player gg.pls.length by rw [hL]; simp)).1
    gi_wp2_with fail
    refine ⟨Below.refl _ _, ?_⟩
    rintro W₃ hon hE
    have hold : ∀ b,b < q + 1 + 1 + 1 + 1 → b ≠ q + 1 + 1 → W₃.heap[b]? = w6.heap[b]? ∨ b = l:=fun b hb hne => by
     by_cases e : b = l
     ·exact .inr e
     ·exact .inl ((hon.block b e).trans (hrel.block b (by omega) hne))
    have hkeep : ∀ b o v,b ≠ q + 1 + 1 → w6.cell? ⟨b,o,none⟩ = some v → W₃.cell? ⟨b,o,none⟩ = some v:=fun b o v hne hv => (hon.cell _).trans (rAt hrel hv hne)
    obtain ⟨oP,oa,ob,oc,od,oe,of,og,okb,hor,x0,x1,x2,x3,x4,x5,x6,x7,x8⟩ := HT6.out.pls.nine hkn
    have hpl : g.player < gg.pls.length:=by rw [HGL.out]; exact HPL.out
    obtain ⟨P',ma',mb',mc',md',me',mf',mg',kb',hpr',y0,y1,y2,y3,y4,y5,y6,y7,y8⟩ := HT6.out.pls.nine hpl
    rw [plr_at hpl,HPR.out] at hpr'
    simp only [Plr.mk.injEq,List.cons.injEq,and_true] at hpr'
    obtain ⟨rfl,⟨rfl,rfl,rfl,rfl,rfl,rfl,rfl⟩,rfl⟩ := hpr'
    have hpbq : pb ≠ q + 1 + 1:=by omega
    replace x0:=hkeep _ _ _ hpbq x0
    replace y0:=hkeep _ _ _ hpbq y0
    replace x1:=hkeep _ _ _ hpbq x1
    replace y1:=hkeep _ _ _ hpbq y1
    replace x2:=hkeep _ _ _ hpbq x2
    replace y2:=hkeep _ _ _ hpbq y2
    replace x3:=hkeep _ _ _ hpbq x3
    replace y3:=hkeep _ _ _ hpbq y3
    replace x4:=hkeep _ _ _ hpbq x4
    replace y4:=hkeep _ _ _ hpbq y4
    replace x5:=hkeep _ _ _ hpbq x5
    replace y5:=hkeep _ _ _ hpbq y5
    replace x6:=hkeep _ _ _ hpbq x6
    replace y6:=hkeep _ _ _ hpbq y6
    replace x7:=hkeep _ _ _ hpbq x7
    replace y7:=hkeep _ _ _ hpbq y7
    replace x8:=hkeep _ _ _ hpbq x8
    replace y8:=hkeep _ _ _ hpbq y8
    have x30 : W₃.cell? ⟨q + 1 + 1 + 1,0,none⟩ = some (.pointer (some ⟨pb,g.player * 9,none⟩)):=hkeep _ _ _ (by omega) (by rw [cell_of_heap KP.out]; rfl)
    have KRl:=KR.out
    replace KR : Hid (W₃.heap[q]? = some (.cells #[.int .i64 r.kind,.int .i64 r.players,.int .i64 r.last,.bool r.bull,.bool r.jump,.int .i64 r.rounds,.bool r.cut,nv,.int .i64 r.lives,.bool r.own] 111 (0,0))):=Lib.hid (by
     rcases hold q (by omega) (by omega) with e | e
     ·exact e.trans KRl
     ·omega)
    have sf : W₃.frozen? ⟨q + 1 + 1,0,none⟩ = false:=frozen_of_heap hE.res
    have s0 : W₃.cell? ⟨q + 1 + 1,0,none⟩ = some (.slice none 0 0):=by rw [cell_of_heap hE.res]; rfl
    obtain ⟨z,hz⟩ : ∃ z,(if r.cut = true then cmp3 oP P else cmp3 P oP) = z:=⟨_,rfl⟩
    have HZ:=Lib.hid hz
    obtain ⟨zb,hzb⟩ : ∃ zb,decide (z < 0) = zb:=⟨_,rfl⟩
    have hbet : betP r gg k = zb:=by
     unfold betP; rw [HGP.out,HPR.out,← plr_at hkn,hor,← hzb,← hz]; dsimp only
     have h1:=cmp3_lt (a:=oP) (b:=P); have h2:=cmp3_lt (a:=P) (b:=oP)
     cases r.cut <;> simp <;> omega
    have HBET:=Lib.hid hbet
    have HE:=Lib.hid hE
    have HO3 : Hid (∀ j,O₁ j → j < W₃.heap.size):=Lib.hid (fun j hj => by have:=hrel.lt j hj; have:=hon.size; omega)
    clear hE hold hkeep hrel hL hor hz hbet KRl
    gi_wp2_with fail
    refine wpIn_region_seq 9 [.is (.agg #[.int .i64 r.kind,.int .i64 r.players,.int .i64 r.last,.bool r.bull,.bool r.jump,.int .i64 r.rounds,.bool r.cut,nv,.int .i64 r.lives,.bool r.own]),.is (.pointer (some ⟨pb,k * 9,none⟩)),.is (.pointer (some ⟨pb,k * 9,none⟩)),.is (.agg #[.int .i64 oP,.int .i64 oa,.int .i64 ob,.int .i64 oc,.int .i64 od,.int .i64 oe,.int .i64 of,.int .i64 og,.bool okb]),.is (.pointer (some ⟨pb,g.player * 9,none⟩)),.is (.pointer (some ⟨pb,g.player * 9,none⟩)),.is (.agg #[.int .i64 P,.int .i64 ma,.int .i64 mb,.int .i64 mc,.int .i64 md,.int .i64 me,.int .i64 mf,.int .i64 mg,.bool kb]),.is (.int .i64 z),.is (.bool zb)] rfl mix (open_round l) (by kernel_rfl) (by kernel_rfl) (by kernel_rfl) ?seqm
    case seqm =>
     simp only [List.take_succ_cons,List.take_zero]
     iterate 7
      refine seq_on (by rfl) (fun w3 hb3 _ => ?_) ?_
      ·have y0':=bAt hb3 y0
       have y1':=bAt hb3 y1
       have y2':=bAt hb3 y2
       have y3':=bAt hb3 y3
       have y4':=bAt hb3 y4
       have y5':=bAt hb3 y5
       have y6':=bAt hb3 y6
       have y7':=bAt hb3 y7
       have y8':=bAt hb3 y8
       have x0':=bAt hb3 x0
       have x1':=bAt hb3 x1
       have x2':=bAt hb3 x2
       have x3':=bAt hb3 x3
       have x4':=bAt hb3 x4
       have x5':=bAt hb3 x5
       have x6':=bAt hb3 x6
       have x7':=bAt hb3 x7
       have x8':=bAt hb3 x8
       have c0 : ∀ j,w3.cell? ⟨q,j,none⟩ = _:=fun j => cell_of_heap (o:=j) ((hb3.block _ (Array.getElem?_eq_some_iff.1 KR.out).1).trans KR.out)
       have c30':=bAt hb3 x30
       simp [opOK,go_sem,c0,c30',y0',x0',y1',x1',y2',x2',y3',x3',y4',x4',y5',x5',y6',x6',y7',x7',y8',x8',Below.refl]
       try exact rfl
      simp only [Act.put,List.setIfInBounds_toArray,List.set_cons_succ,List.set_cons_zero]
     refine seq_on (by rfl) (fun w3 hb3 hH => ?_) ?_
     ·have y0':=bAt hb3 y0
      have y1':=bAt hb3 y1
      have y2':=bAt hb3 y2
      have y3':=bAt hb3 y3
      have y4':=bAt hb3 y4
      have y5':=bAt hb3 y5
      have y6':=bAt hb3 y6
      have y7':=bAt hb3 y7
      have y8':=bAt hb3 y8
      have x0':=bAt hb3 x0
      have x1':=bAt hb3 x1
      have x2':=bAt hb3 x2
      have x3':=bAt hb3 x3
      have x4':=bAt hb3 x4
      have x5':=bAt hb3 x5
      have x6':=bAt hb3 x6
      have x7':=bAt hb3 x7
      have x8':=bAt hb3 x8
      have c0 : ∀ j,w3.cell? ⟨q,j,none⟩ = _:=fun j => cell_of_heap (o:=j) ((hb3.block _ (Array.getElem?_eq_some_iff.1 KR.out).1).trans KR.out)
      have c30':=bAt hb3 x30
      refine opOK_call (f:=112) (args:=#[.agg #[.int .i64 r.kind,.int .i64 r.players,.int .i64 r.last,.bool r.bull,.bool r.jump,.int .i64 r.rounds,.bool r.cut,nv,.int .i64 r.lives,.bool r.own],.agg #[.int .i64 oP,.int .i64 oa,.int .i64 ob,.int .i64 oc,.int .i64 od,.int .i64 oe,.int .i64 of,.int .i64 og,.bool okb],.agg #[.int .i64 P,.int .i64 ma,.int .i64 mb,.int .i64 mc,.int .i64 md,.int .i64 me,.int .i64 mf,.int .i64 mg,.bool kb]]) (by simp [go_sem]) ?_
      exact (points_r r nv _ _ _ _ _ _ _ _ _ _ _ _ _ _ _ _ _ _ z HZ w3).mono fun e W' ⟨he,hb⟩ => ⟨_,he,rfl,hb⟩
     simp only [Act.put,List.setIfInBounds_toArray,List.set_cons_succ,List.set_cons_zero]
     refine seq_on (by rfl) (fun w3 hb3 _ => ?_) ?_
     ·have y0':=bAt hb3 y0
      have y1':=bAt hb3 y1
      have y2':=bAt hb3 y2
      have y3':=bAt hb3 y3
      have y4':=bAt hb3 y4
      have y5':=bAt hb3 y5
      have y6':=bAt hb3 y6
      have y7':=bAt hb3 y7
      have y8':=bAt hb3 y8
      have x0':=bAt hb3 x0
      have x1':=bAt hb3 x1
      have x2':=bAt hb3 x2
      have x3':=bAt hb3 x3
      have x4':=bAt hb3 x4
      have x5':=bAt hb3 x5
      have x6':=bAt hb3 x6
      have x7':=bAt hb3 x7
      have x8':=bAt hb3 x8
      have c0 : ∀ j,w3.cell? ⟨q,j,none⟩ = _:=fun j => cell_of_heap (o:=j) ((hb3.block _ (Array.getElem?_eq_some_iff.1 KR.out).1).trans KR.out)
      have c30':=bAt hb3 x30
      simp [opOK,go_sem,hzb,Below.refl]
      try exact rfl
     simp only [Act.put,List.setIfInBounds_toArray,List.set_cons_succ,List.set_cons_zero]
     refine seq_end fun w3 hb3 _ => ?_
     simp only [List.drop_succ_cons,List.drop_zero]
     have HE3:=Lib.hid (HE.out.stab fun j hj _ => hb3.block j hj)
     have HR3 : Hid (Rel O₁ W₃ O₁ w3):=Lib.hid (Rel.of_below hb3 HO3.out)
     have sf3 : w3.frozen? ⟨q + 1 + 1,0,none⟩ = false:=frozen_of_heap HE3.out.res
     replace s0:=bAt hb3 s0
     have HSM:=Lib.hid (setCell_same (o:=0) (v:=.slice none 0 0) HE3.out.res rfl)
     clear hb3 sf hzb x0 y0 x1 y1 x2 y2 x3 y3 x4 y4 x5 y5 x6 y6 x7 y7 x8 y8 x30
     cases zb
     ·gi_wp2_with fail
      exact ⟨O₁,HR3.out,HE3.out.o,by rw [List.any_append,HE3.out.no]; simp [HBET.out],HE3.out.res⟩
     ·gi_wp2_with fail
      rw [HSM.out]
      exact ⟨O₁,HR3.out,rfl,HE3.out.o,by rw [List.any_append]; simp [HBET.out],HE3.out.res⟩
   case done =>
    intro D O₁ W' hD hnD hrel hE hDD
    have hDt : t ∉ [D] ∧ pb ∉ [D]:=by have:=HT6.out.lt t (.inl rfl); have:=HT6.out.lt pb (.inr rfl); simp; omega
    have hR9 : Rel (TO t pb) w (TO t pb) W':=rel_next HR6.out hrel (fun j hj => by have:=HQ.out; omega)
    have htq : t < q ∧ pb < q:=hqq
    have hT9 : TabAt W' t pb r gg cap wv nv:=HH.out.again HT6.out (by rw [← HG.out]; exact cric_rest.2.2.2.2.1) hR9 (hrel.block t (HT6.out.lt t (.inl rfl)) (by omega)) (hrel.block pb (HT6.out.lt pb (.inr rfl)) (by omega))
    have hno : beatenG r gg = false:=by rw [beaten_oth,HGP.out]; exact hE.no
    have HD4 : Hid (d = (gg,[(g.player : Int)])):=Lib.hid (HD3.out.trans (by simp [hno]))
    have sf : W'.frozen? ⟨q + 1 + 1,0,none⟩ = false:=frozen_of_heap hE.res
    have s0 : W'.cell? ⟨q + 1 + 1,0,none⟩ = some (.slice none 0 0):=by rw [cell_of_heap hE.res]; rfl
    have t1 : W'.cell? ⟨t,1,none⟩ = some (.int .i64 g.player):=by rw [← HGP.out]; exact hT9.at_ rfl
    have HT9:=Lib.hid hT9
    have HR9:=Lib.hid hR9
    have HE9:=Lib.hid hE
    have HDD:=Lib.hid hDD
    have hqs : q + 1 + 1 < W'.heap.size:=(Array.getElem?_eq_some_iff.1 hE.res).1
    clear hT9 hR9 hE hDD hrel hnD hno
    gi_wp2_with fail
    obtain ⟨w7,hw7⟩ : ∃ w7,W'.setCell ⟨q + 1 + 1,0,none⟩ (.slice (some ⟨W'.heap.size,0,none⟩) 1 1) = w7:=⟨_,rfl⟩
    rw [hw7]
    have hz7 : w7.heap.size = W'.heap.size:=by rw [← hw7]; simp
    have hmk : Marks 0 w7 [D]:=by rw [← hw7]; exact ((Marks.nil _ _).cons HDD.out (Nat.zero_le _) (by simp)).setCell ⟨q + 1 + 1,0,none⟩ _ (by simp; omega)
    refine leave_marks [D] _ (hmk.below (aB _ _)) fun W'' hp => ?_
    have hh8 : (w7.alloc (.cells #[.int .i64 g.player] 3)).heap[q + 1 + 1]? = some (.cells #[.slice (some ⟨W'.heap.size,0,none⟩) 1 1] 27 (0,0)):=heap_old (by rw [← hw7,heap_setCell_at HE9.out.res]; rfl)
    have hr8 : W''.cell? ⟨q + 1 + 1,0,none⟩ = some (.slice (some ⟨W'.heap.size,0,none⟩) 1 1):=passed_cell hp (by rw [cell_of_heap hh8]; rfl)
    have hR7 : Rel (TO t pb) w (TO t pb) w7:=by rw [← hw7]; exact rel_set HR9.out _ (by have:=HQ.out; dsimp only; omega)
    have hsl:=Sl.new1 (WS t pb) w7 ⟨by have:=HT9.out.lt t (.inl rfl); omega,by have:=HT9.out.lt pb (.inr rfl); omega⟩ 3 (.int .i64 g.player)
    rw [hz7] at hsl
    refine ⟨.slice (some ⟨W'.heap.size,0,none⟩) 1 1,by simp [results,Tryz.results109,go_sem,hr8],_,rfl, ?_, ?_,rel_passed (hR7.ext (aB _ _)) hp (by intro D' h'; simp at h'; have:=HQ.out; omega)⟩
    ·rw [HD4.out]; exact hsl.cells fun b o _ _ => hp.cell _
    ·rw [HD4.out]
     have h7 : TabAt w7 t pb r gg cap wv nv:=HH.out.again HT9.out (by rw [← HG.out]; exact cric_rest.2.2.2.2.1) hR7 (by rw [← hw7]; exact Below.heap_setCell _ _ _ _ (by dsimp only; omega)) (by rw [← hw7]; exact Below.heap_setCell _ _ _ _ (by dsimp only; omega))
     exact (h7.below (aB _ _)).passed hp hDt.1 hDt.2
   case stop =>
    rintro D c' pre O₁ W' hD hnD hpre hrel ⟨rfl,hE⟩ hDD
    have hDt : t ∉ [D] ∧ pb ∉ [D]:=by have:=HT6.out.lt t (.inl rfl); have:=HT6.out.lt pb (.inr rfl); simp; omega
    have hR9 : Rel (TO t pb) w (TO t pb) W':=rel_next HR6.out hrel (fun j hj => by have:=HQ.out; omega)
    have hT9 : TabAt W' t pb r gg cap wv nv:=HH.out.again HT6.out (by rw [← HG.out]; exact cric_rest.2.2.2.2.1) hR9 (hrel.block t (HT6.out.lt t (.inl rfl)) (by omega)) (hrel.block pb (HT6.out.lt pb (.inr rfl)) (by omega))
    have hyes : beatenG r gg = true:=by
     rw [beaten_oth,HGP.out]
     obtain ⟨post,hpost⟩ := hpre
     rw [← hpost,List.any_append,hE.yes]; rfl
    have HD4 : Hid (d = (gg,[])):=Lib.hid (HD3.out.trans (by simp [hyes]))
    have s0 : W'.cell? ⟨q + 1 + 1,0,none⟩ = some (.slice none 0 0):=by rw [cell_of_heap hE.res]; rfl
    have HT9:=Lib.hid hT9
    have HR9:=Lib.hid hR9
    have HDD:=Lib.hid hDD
    clear hT9 hR9 hE hDD hrel hnD hyes hpre
    gi_wp2_with fail
    have hmk : Marks 0 W' [D]:=(Marks.nil _ _).cons HDD.out (Nat.zero_le _) (by simp)
    refine leave_marks [D] _ hmk fun W'' hp => ?_
    have hr8:=passed_cell hp s0
    refine ⟨.slice none 0 0,by simp [results,Tryz.results109,go_sem,hr8],_,rfl,by rw [HD4.out]; exact Sl.nil _ _,by rw [HD4.out]; exact HT9.out.passed hp hDt.1 hDt.2,rel_passed HR9.out hp (by intro D' h'; simp at h'; have:=HQ.out; omega)⟩
 ·have hpb:=placeB_I HIB.out
  rw [HPI.out] at hpb
  obtain ⟨i,hpin⟩ : ∃ i : Nat,pi = i:=⟨pi.toNat,by omega⟩
  subst hpin
  have hi7 : i < 7:=by omega
  have hme:=HI.out.each _ (plr_mem HPL.out)
  obtain ⟨m,hm⟩ : ∃ m,(plr g g.player).mks.getD i 0 = m:=⟨_,rfl⟩
  have hmb:=mark_bd hme.1 (i:=i)
  rw [hm] at hmb
  obtain ⟨cnt,hcnt⟩ : ∃ cnt,min f (3 - m) = cnt:=⟨_,rfl⟩
  have hcb : 0 ≤ cnt ∧ cnt ≤ f ∧ cnt ≤ 3 - m:=by omega
  have HC : Hid (cric r g f n = extraG r (setP g g.player { plr g g.player with mks:=(plr g g.player).mks.set i (m + cnt) }) i (n * (f - cnt))):=Lib.hid (by
   unfold cric; rw [placeN_I,HIB.out,HPI.out]; simp only [if_true,Int.toNat_natCast]; rw [hm,hcnt])
  have pm : w3.cell? ⟨pb,g.player * 9 + 1 + i,none⟩ = some (.int .i64 m):=by rw [← hm,← plr_at HPL.out]; exact HT.out.pls.mark HPL.out hi7
  have HM:=Lib.hid hm
  have HCN:=Lib.hid hcnt
  clear hm hme
  have hw3 : IntKind.i64.wrap (3 - m) = 3 - m:=wrap_small _ (by omega) (by omega)
  gi_wp2_with fail
  refine wpIn_region_seq 11 [.is (.pointer (some ⟨q + 1,0,none⟩)),.is (.int .i64 f),.is (.pointer (some ⟨pb,g.player * 9,none⟩)),.is (.int .i64 i),.is (.pointer (some ⟨pb,g.player * 9,none⟩)),.is (.pointer (some ⟨pb,g.player * 9 + 1,none⟩)),.is (.pointer (some ⟨pb,g.player * 9 + 1 + i,none⟩)),.is (.int .i64 m),.is (.int .i64 (3 - m)),.is (.int .i64 cnt),.is (.int .i64 cnt)] rfl mix open_wide (by kernel_rfl) (by kernel_rfl) (by kernel_rfl) ?seqm
  case seqm =>
   simp only [List.take_succ_cons,List.take_zero]
   iterate 11
    refine seq_on (by rfl) (fun w3 hb3 _ => ?_) ?_
    ·have hlt7 : ((i : Nat) : Int) < 7:=by omega
     have c10':=bAt hb3 c10
     have c30':=bAt hb3 c30
     have pm':=bAt hb3 pm
     simp [opOK,go_sem,c10',c30',pm',hlt7,hw3,hcnt,Below.refl]
     try exact rfl
    simp only [Act.put,List.setIfInBounds_toArray,List.set_cons_succ,List.set_cons_zero]
   refine seq_end fun w3 hb3 _ => ?_
   simp only [List.drop_succ_cons,List.drop_zero]
   replace K0:=Lib.hid ((hb3.block _ (Array.getElem?_eq_some_iff.1 K0.out).1).trans K0.out)
   replace K1:=Lib.hid ((hb3.block _ (Array.getElem?_eq_some_iff.1 K1.out).1).trans K1.out)
   replace K2:=Lib.hid ((hb3.block _ (Array.getElem?_eq_some_iff.1 K2.out).1).trans K2.out)
   replace K3:=Lib.hid ((hb3.block _ (Array.getElem?_eq_some_iff.1 K3.out).1).trans K3.out)
   replace HT:=Lib.hid (HT.out.below hb3)
   replace HB0:=Lib.hid (bThen HB0.out hb3)
   replace c10:=bAt hb3 c10
   replace c11':=bAt hb3 c11'
   replace c30:=bAt hb3 c30
   replace pm:=bAt hb3 pm
   clear hb3 hcnt
   have hwm : IntKind.i64.wrap (m + cnt) = m + cnt:=wrap_small _ (by omega) (by omega)
   gi_wp2_with fail
   refine wpIn_region_seq 11 [.is (.pointer (some ⟨pb,g.player * 9,none⟩)),.is (.int .i64 i),.is (.pointer (some ⟨pb,g.player * 9,none⟩)),.is (.pointer (some ⟨pb,g.player * 9 + 1,none⟩)),.is (.pointer (some ⟨pb,g.player * 9 + 1 + i,none⟩)),.is (.int .i64 m),.is (.int .i64 cnt),.is (.int .i64 (m + cnt)),.is (.pointer (some ⟨pb,g.player * 9,none⟩)),.is (.pointer (some ⟨pb,g.player * 9 + 1,none⟩)),.is (.pointer (some ⟨pb,g.player * 9 + 1 + i,none⟩))] rfl mix open_wide (by kernel_rfl) (by kernel_rfl) (by kernel_rfl) ?seqm
   case seqm =>
    simp only [List.take_succ_cons,List.take_zero]
    iterate 11
     refine seq_on (by rfl) (fun w3 hb3 _ => ?_) ?_
     ·have hlt7 : ((i : Nat) : Int) < 7:=by omega
      have c30':=bAt hb3 c30
      have pm':=bAt hb3 pm
      simp [opOK,go_sem,c30',pm',hlt7,hwm,Below.refl]
      try exact rfl
     simp only [Act.put,List.setIfInBounds_toArray,List.set_cons_succ,List.set_cons_zero]
    refine seq_end fun w3 hb3 _ => ?_
    simp only [List.drop_succ_cons,List.drop_zero]
    replace K0:=Lib.hid ((hb3.block _ (Array.getElem?_eq_some_iff.1 K0.out).1).trans K0.out)
    replace K1:=Lib.hid ((hb3.block _ (Array.getElem?_eq_some_iff.1 K1.out).1).trans K1.out)
    replace K2:=Lib.hid ((hb3.block _ (Array.getElem?_eq_some_iff.1 K2.out).1).trans K2.out)
    replace K3:=Lib.hid ((hb3.block _ (Array.getElem?_eq_some_iff.1 K3.out).1).trans K3.out)
    replace HT:=Lib.hid (HT.out.below hb3)
    replace HB0:=Lib.hid (bThen HB0.out hb3)
    replace pm:=bAt hb3 pm
    have fpm:=HT.out.pls.free (g.player * 9 + 1 + i)
    clear hb3 c10 c11' c30
    obtain ⟨w5,hw5⟩ : ∃ w5,w3.setCell ⟨pb,g.player * 9 + 1 + i,none⟩ (.int .i64 (m + cnt)) = w5:=⟨_,rfl⟩
    have HTM:=Lib.hid (HT.out.setMark HPL.out hi7 (m + cnt))
    rw [hw5] at HTM
    have hne : ∀ b,b ≠ pb → w5.heap[b]? = w3.heap[b]? := fun b hb => by rw [← hw5]; exact Below.heap_setCell _ _ _ _ hb
    have J0:=Lib.hid ((hne q (by omega)).trans K0.out)
    have J1:=Lib.hid ((hne (q + 1) (by omega)).trans K1.out)
    have J2:=Lib.hid ((hne (q + 1 + 1) (by omega)).trans K2.out)
    have J3:=Lib.hid ((hne (q + 1 + 1 + 1) (by omega)).trans K3.out)
    have hR5 : Rel (TO t pb) w (TO t pb) w5:=by rw [← hw5]; exact (Rel.of_below HB0.out HH.out.lt).setCell (.inr rfl) _
    have HRM:=Lib.hid hR5
    have c0 : ∀ j,(w3.setCell ⟨pb,g.player * 9 + 1 + i,none⟩ (.int .i64 (m + cnt))).cell? ⟨q,j,none⟩ = (#[.int .i64 r.kind,.int .i64 r.players,.int .i64 r.last,.bool r.bull,.bool r.jump,.int .i64 r.rounds,.bool r.cut,nv,.int .i64 r.lives,.bool r.own] : Array Value)[j]? := fun j => by rw [hw5]; exact cell_of_heap (o:=j) J0.out
    have c00:=c0 0
    have c01:=c0 1
    have c02:=c0 2
    have c03:=c0 3
    have c04:=c0 4
    have c05:=c0 5
    have c06:=c0 6
    have c07:=c0 7
    have c08:=c0 8
    have c09:=c0 9
    clear c0
    simp at c00 c01 c02 c03 c04 c05 c06 c07 c08 c09
    have c10 : (w3.setCell ⟨pb,g.player * 9 + 1 + i,none⟩ (.int .i64 (m + cnt))).cell? ⟨q + 1,0,none⟩ = some (.int .i64 f):=by rw [hw5,cell_of_heap J1.out]; rfl
    have c11 : (w3.setCell ⟨pb,g.player * 9 + 1 + i,none⟩ (.int .i64 (m + cnt))).cell? ⟨q + 1,1,none⟩ = some (.int .i64 n):=by rw [hw5,cell_of_heap J1.out]; rfl
    have h1 : 0 ≤ n * (f - cnt):=Int.mul_nonneg (by omega) (by omega)
    have h2 : n * (f - cnt) ≤ 25 * 4:=Int.mul_le_mul (by omega) (by omega) (by omega) (by omega)
    obtain ⟨pt,hpt⟩ : ∃ pt,n * (f - cnt) = pt:=⟨_,rfl⟩
    rw [hpt] at HC h1 h2
    have hws : IntKind.i64.wrap (f - cnt) = f - cnt:=wrap_small _ (by omega) (by omega)
    have hwp : IntKind.i64.wrap (n * (f - cnt)) = pt:=by rw [hpt]; exact wrap_small _ (by omega) (by omega)
    have hinv : Inv r (M + 100) (setP g g.player { plr g g.player with mks:=(plr g g.player).mks.set i (m + cnt) }):=set_inv HI.out.toInv (by omega) ⟨by
     have:=(HI.out.each _ (plr_mem HPL.out)).1.mark HKD.out i (m + cnt) (by omega) (by omega) _ (HI.out.each _ (plr_mem HPL.out)).1.nn
     exact this,by have:=(HI.out.each _ (plr_mem HPL.out)).2; dsimp only; omega⟩
    have HINV:=Lib.hid hinv
    have HW5:=Lib.hid hw5
    have HPT:=Lib.hid hpt
    clear hne hR5 hinv hw5 hpt
    gi_wp2_with fail
    rw [HW5.out]
    refine ⟨trivial,rfl,(callsIn_wide.2 (extra_any t pb cap r _ wv nv i pt (M + 100) w5 HTM.out HINV.out (by omega) (by omega) hi7)).mono ?_⟩
    rintro e wz ⟨⟨v,rfl⟩,hT6,hR6⟩
    have HT5 : Hid (TabAt wz t pb r (cric r g f n) cap wv nv):=Lib.hid (by rw [HC.out]; exact hT6)
    have HR5:=Lib.hid (HRM.out.trans hR6)
    have kk : ∀ b,b < w5.heap.size → b ≠ t → b ≠ pb → wz.heap[b]? = w5.heap[b]? := fun b hb h1 h2 => hR6.block b hb (fun e => by rcases e with e | e; exact h1 e; exact h2 e)
    have KR:=Lib.hid ((kk q (Array.getElem?_eq_some_iff.1 J0.out).1 (by omega) (by omega)).trans J0.out)
    have KS:=Lib.hid ((kk (q + 1 + 1) (Array.getElem?_eq_some_iff.1 J2.out).1 (by omega) (by omega)).trans J2.out)
    have KP:=Lib.hid ((kk (q + 1 + 1 + 1) (Array.getElem?_eq_some_iff.1 J3.out).1 (by omega) (by omega)).trans J3.out)
    clear hT6 hR6 kk pm fpm c10 c11 h1 h2 c00 c01 c02 c03 c04 c05 c06 c07 c08 c09 hws hwp hwm hw3
    obtain ⟨gg,hgg⟩ : ∃ gg,cric r g f n = gg:=⟨_,rfl⟩
    have hgr:=cric_rest (r:=r) (g:=g) (f:=f) (n:=n)
    have HG:=Lib.hid hgg
    rw [hgg] at HT5 HCR hgr
    have hgp : gg.player = g.player:=hgr.1
    have hgl : gg.pls.length = g.pls.length:=hgr.2.2.2.2.2
    have hpl : g.player < gg.pls.length:=by rw [hgl]; exact HPL.out
    obtain ⟨P,ma,mb,mc,md,me,mf,mg,kb,hpr,y0,y1,y2,y3,y4,y5,y6,y7,y8⟩ := HT5.out.pls.nine hpl
    have hprr : plr gg g.player = ⟨P,[ma,mb,mc,md,me,mf,mg],kb⟩ := by rw [← plr_at hpl]; exact hpr
    obtain ⟨S,hS⟩ : ∃ S,sumM ⟨P,[ma,mb,mc,md,me,mf,mg],kb⟩ = S:=⟨_,rfl⟩
    have hmk : ∀ w',Calls Tryz.prog 113 #[.agg #[.int .i64 P,.int .i64 ma,.int .i64 mb,.int .i64 mc,.int .i64 md,.int .i64 me,.int .i64 mf,.int .i64 mg,.bool kb]] w' fun e' w'' => e' = .returned (.int .i64 S) ∧ Below w'.heap.size w' w'':=fun w' => by
     rw [← hS]
     have hok:=(HCR.out.each _ (plr_mem (by rw [hgl]; exact HPL.out : g.player < gg.pls.length))).1
     rw [hprr] at hok
     exact marks_r P ma mb mc md me mf mg kb (fun m hm => ⟨hok.mlo m hm,hok.mhi m hm⟩) w'
    have HMK:=Lib.hid hmk
    have HPR:=Lib.hid hprr
    have HS:=Lib.hid hS
    have HGP:=Lib.hid hgp
    have HGL:=Lib.hid hgl
    have HD2 : Hid (d = (gg,if S < 21 then [] else if beatenG r gg = true then [] else [(g.player : Int)])):=Lib.hid (by
     rw [← HD.out]; unfold dartCricket; rw [HG.out,HGP.out,HPR.out,HS.out])
    have x30 : wz.cell? ⟨q + 1 + 1 + 1,0,none⟩ = some (.pointer (some ⟨pb,g.player * 9,none⟩)):=by rw [cell_of_heap KP.out]; rfl
    have hz5 : q + 1 + 1 + 1 < wz.heap.size:=(Array.getElem?_eq_some_iff.1 KP.out).1
    clear hgg hgr hgp hgl hpl hpr hprr hS hmk
    gi_wp2_with fail
    refine ⟨trivial,rfl,(callsIn_wide.2 (HMK.out wz)).mono ?_⟩
    rintro e w6 ⟨rfl,hb6⟩
    replace KR:=Lib.hid ((hb6.block _ (Array.getElem?_eq_some_iff.1 KR.out).1).trans KR.out)
    replace KS:=Lib.hid ((hb6.block _ (Array.getElem?_eq_some_iff.1 KS.out).1).trans KS.out)
    replace KP:=Lib.hid ((hb6.block _ (Array.getElem?_eq_some_iff.1 KP.out).1).trans KP.out)
    have HT6:=Lib.hid (HT5.out.below hb6)
    have HR6:=Lib.hid (HR5.out.ext hb6)
    have hz6 : q + 1 + 1 + 1 < w6.heap.size:=by have:=hb6.size; omega
    have s0 : w6.cell? ⟨q + 1 + 1,0,none⟩ = some (.slice none 0 0):=by rw [cell_of_heap KS.out]; rfl
    have sf : w6.frozen? ⟨q + 1 + 1,0,none⟩ = false:=frozen_of_heap KS.out
    have hsame : w6.setCell ⟨q + 1 + 1,0,none⟩ (.slice none 0 0) = w6:=setCell_same KS.out rfl
    have HSAME:=Lib.hid hsame
    clear hb6 x30 hsame y0 y1 y2 y3 y4 y5 y6 y7 y8
    by_cases hs : S < 21
    ·have HD3:=Lib.hid (HD2.out.trans (by rw [if_pos hs]))
     gi_wp2_with fail
     refine leave_marks [] _ (Marks.nil 0 _) fun W'' hp => ?_
     have hW : W'' = W'':=rfl
     rw [HSAME.out] at hp
     have hr:=passed_cell hp s0
     refine ⟨.slice none 0 0,by simp [results,Tryz.results109,go_sem,hr],_,rfl,by rw [HD3.out]; exact Sl.nil _ _,by rw [HD3.out]; exact HT6.out.passed hp (by simp) (by simp),rel_passed HR6.out hp (by simp)⟩
    ·have HD3:=Lib.hid (HD2.out.trans (by rw [if_neg hs]))
     have t1 : w6.cell? ⟨t,1,none⟩ = some (.int .i64 g.player):=by rw [← HGP.out]; exact HT6.out.at_ rfl
     have t3 : w6.cell? ⟨t,3,none⟩ = some (.slice (some ⟨pb,0,none⟩) gg.pls.length cap):=HT6.out.at_ rfl
     have T1:=Lib.hid t1
     have T3:=Lib.hid t3
     have HS21:=Lib.hid hs
     clear t1 t3 s0 sf
     gi_wp2_with fail
     refine wpIn_range (t:=3) (gf:=116) (fa:=#[.pointer (some ⟨t,0,none⟩)]) (lb:=#[]) rfl (enters_of Tryz.func116 (by kernel_rfl) rfl)
      (others_in t pb cap g.player gg.pls.length w6 (fun j => j = t) T1.out T3.out HT6.out.cap rfl)
      (CI r gg (q + 1 + 1)) (fun c pre O W => c = .ret ∧ CX r gg (q + 1 + 1) pre O W) (fun pre O A B h _ _ _ _ hk => h.stab fun k h1 h2 => hk k h1 (.inl h2)) (fun c pre O A B h _ _ _ _ hk => ⟨h.1,h.2.stab fun k h1 h2 => hk k h1 (.inl h2)⟩)
      (fun j => j = q + 1 + 1) (fun j hj => by omega) (fun j hj => by have:=HT6.out.lt t (.inl rfl); omega) ⟨fun _ => Iff.rfl,rfl,KS.out⟩
      (fun b args O W' h => by subst h; rfl) ?round ?done ?stop
     case round =>
      rintro l pre k post args O₁ W₁ hL hl1 hl2 hnl hnl' hrel hI henc
      subst henc
      clear hI
      have hkn:=(othK_mem.1 (show k ∈ othK g.player gg.pls.length by rw [hL]; simp)).1
      gi_wp2_with fail
      refine ⟨Below.refl _ _, ?_⟩
      rintro W₃ hon hE
      have hold : ∀ b,b < q + 1 + 1 + 1 + 1 → b ≠ q + 1 + 1 → W₃.heap[b]? = w6.heap[b]? ∨ b = l:=fun b hb hne => by
       by_cases e : b = l
       ·exact .inr e
       ·exact .inl ((hon.block b e).trans (hrel.block b (by omega) hne))
      have hkeep : ∀ b o v,b ≠ q + 1 + 1 → w6.cell? ⟨b,o,none⟩ = some v → W₃.cell? ⟨b,o,none⟩ = some v:=fun b o v hne hv => (hon.cell _).trans (rAt hrel hv hne)
      obtain ⟨oP,oa,ob,oc,od,oe,of,og,okb,hor,x0,x1,x2,x3,x4,x5,x6,x7,x8⟩ := HT6.out.pls.nine hkn
      have hpl : g.player < gg.pls.length:=by rw [HGL.out]; exact HPL.out
      obtain ⟨P',ma',mb',mc',md',me',mf',mg',kb',hpr',y0,y1,y2,y3,y4,y5,y6,y7,y8⟩ := HT6.out.pls.nine hpl
      rw [plr_at hpl,HPR.out] at hpr'
      simp only [Plr.mk.injEq,List.cons.injEq,and_true] at hpr'
      obtain ⟨rfl,⟨rfl,rfl,rfl,rfl,rfl,rfl,rfl⟩,rfl⟩ := hpr'
      have hpbq : pb ≠ q + 1 + 1:=by omega
      replace x0:=hkeep _ _ _ hpbq x0
      replace y0:=hkeep _ _ _ hpbq y0
      replace x1:=hkeep _ _ _ hpbq x1
      replace y1:=hkeep _ _ _ hpbq y1
      replace x2:=hkeep _ _ _ hpbq x2
      replace y2:=hkeep _ _ _ hpbq y2
      replace x3:=hkeep _ _ _ hpbq x3
      replace y3:=hkeep _ _ _ hpbq y3
      replace x4:=hkeep _ _ _ hpbq x4
      replace y4:=hkeep _ _ _ hpbq y4
      replace x5:=hkeep _ _ _ hpbq x5
      replace y5:=hkeep _ _ _ hpbq y5
      replace x6:=hkeep _ _ _ hpbq x6
      replace y6:=hkeep _ _ _ hpbq y6
      replace x7:=hkeep _ _ _ hpbq x7
      replace y7:=hkeep _ _ _ hpbq y7
      replace x8:=hkeep _ _ _ hpbq x8
      replace y8:=hkeep _ _ _ hpbq y8
      have x30 : W₃.cell? ⟨q + 1 + 1 + 1,0,none⟩ = some (.pointer (some ⟨pb,g.player * 9,none⟩)):=hkeep _ _ _ (by omega) (by rw [cell_of_heap KP.out]; rfl)
      have KRl:=KR.out
      replace KR : Hid (W₃.heap[q]? = some (.cells #[.int .i64 r.kind,.int .i64 r.players,.int .i64 r.last,.bool r.bull,.bool r.jump,.int .i64 r.rounds,.bool r.cut,nv,.int .i64 r.lives,.bool r.own] 111 (0,0))):=Lib.hid (by
       rcases hold q (by omega) (by omega) with e | e
       ·exact e.trans KRl
       ·omega)
      have sf : W₃.frozen? ⟨q + 1 + 1,0,none⟩ = false:=frozen_of_heap hE.res
      have s0 : W₃.cell? ⟨q + 1 + 1,0,none⟩ = some (.slice none 0 0):=by rw [cell_of_heap hE.res]; rfl
      obtain ⟨z,hz⟩ : ∃ z,(if r.cut = true then cmp3 oP P else cmp3 P oP) = z:=⟨_,rfl⟩
      have HZ:=Lib.hid hz
      obtain ⟨zb,hzb⟩ : ∃ zb,decide (z < 0) = zb:=⟨_,rfl⟩
      have hbet : betP r gg k = zb:=by
       unfold betP; rw [HGP.out,HPR.out,← plr_at hkn,hor,← hzb,← hz]; dsimp only
       have h1:=cmp3_lt (a:=oP) (b:=P); have h2:=cmp3_lt (a:=P) (b:=oP)
       cases r.cut <;> simp <;> omega
      have HBET:=Lib.hid hbet
      have HE:=Lib.hid hE
      have HO3 : Hid (∀ j,O₁ j → j < W₃.heap.size):=Lib.hid (fun j hj => by have:=hrel.lt j hj; have:=hon.size; omega)
      clear hE hold hkeep hrel hL hor hz hbet KRl
      gi_wp2_with fail
      refine wpIn_region_seq 9 [.is (.agg #[.int .i64 r.kind,.int .i64 r.players,.int .i64 r.last,.bool r.bull,.bool r.jump,.int .i64 r.rounds,.bool r.cut,nv,.int .i64 r.lives,.bool r.own]),.is (.pointer (some ⟨pb,k * 9,none⟩)),.is (.pointer (some ⟨pb,k * 9,none⟩)),.is (.agg #[.int .i64 oP,.int .i64 oa,.int .i64 ob,.int .i64 oc,.int .i64 od,.int .i64 oe,.int .i64 of,.int .i64 og,.bool okb]),.is (.pointer (some ⟨pb,g.player * 9,none⟩)),.is (.pointer (some ⟨pb,g.player * 9,none⟩)),.is (.agg #[.int .i64 P,.int .i64 ma,.int .i64 mb,.int .i64 mc,.int .i64 md,.int .i64 me,.int .i64 mf,.int .i64 mg,.bool kb]),.is (.int .i64 z),.is (.bool zb)] rfl mix (open_round l) (by kernel_rfl) (by kernel_rfl) (by kernel_rfl) ?seqm
      case seqm =>
       simp only [List.take_succ_cons,List.take_zero]
       iterate 7
        refine seq_on (by rfl) (fun w3 hb3 _ => ?_) ?_
        ·have y0':=bAt hb3 y0
         have y1':=bAt hb3 y1
         have y2':=bAt hb3 y2
         have y3':=bAt hb3 y3
         have y4':=bAt hb3 y4
         have y5':=bAt hb3 y5
         have y6':=bAt hb3 y6
         have y7':=bAt hb3 y7
         have y8':=bAt hb3 y8
         have x0':=bAt hb3 x0
         have x1':=bAt hb3 x1
         have x2':=bAt hb3 x2
         have x3':=bAt hb3 x3
         have x4':=bAt hb3 x4
         have x5':=bAt hb3 x5
         have x6':=bAt hb3 x6
         have x7':=bAt hb3 x7
         have x8':=bAt hb3 x8
         have c0 : ∀ j,w3.cell? ⟨q,j,none⟩ = _:=fun j => cell_of_heap (o:=j) ((hb3.block _ (Array.getElem?_eq_some_iff.1 KR.out).1).trans KR.out)
         have c30':=bAt hb3 x30
         simp [opOK,go_sem,c0,c30',y0',x0',y1',x1',y2',x2',y3',x3',y4',x4',y5',x5',y6',x6',y7',x7',y8',x8',Below.refl]
         try exact rfl
        simp only [Act.put,List.setIfInBounds_toArray,List.set_cons_succ,List.set_cons_zero]
       refine seq_on (by rfl) (fun w3 hb3 hH => ?_) ?_
       ·have y0':=bAt hb3 y0
        have y1':=bAt hb3 y1
        have y2':=bAt hb3 y2
        have y3':=bAt hb3 y3
        have y4':=bAt hb3 y4
        have y5':=bAt hb3 y5
        have y6':=bAt hb3 y6
        have y7':=bAt hb3 y7
        have y8':=bAt hb3 y8
        have x0':=bAt hb3 x0
        have x1':=bAt hb3 x1
        have x2':=bAt hb3 x2
        have x3':=bAt hb3 x3
        have x4':=bAt hb3 x4
        have x5':=bAt hb3 x5
        have x6':=bAt hb3 x6
        have x7':=bAt hb3 x7
        have x8':=bAt hb3 x8
        have c0 : ∀ j,w3.cell? ⟨q,j,none⟩ = _:=fun j => cell_of_heap (o:=j) ((hb3.block _ (Array.getElem?_eq_some_iff.1 KR.out).1).trans KR.out)
        have c30':=bAt hb3 x30
        refine opOK_call (f:=112) (args:=#[.agg #[.int .i64 r.kind,.int .i64 r.players,.int .i64 r.last,.bool r.bull,.bool r.jump,.int .i64 r.rounds,.bool r.cut,nv,.int .i64 r.lives,.bool r.own],.agg #[.int .i64 oP,.int .i64 oa,.int .i64 ob,.int .i64 oc,.int .i64 od,.int .i64 oe,.int .i64 of,.int .i64 og,.bool okb],.agg #[.int .i64 P,.int .i64 ma,.int .i64 mb,.int .i64 mc,.int .i64 md,.int .i64 me,.int .i64 mf,.int .i64 mg,.bool kb]]) (by simp [go_sem]) ?_
        exact (points_r r nv _ _ _ _ _ _ _ _ _ _ _ _ _ _ _ _ _ _ z HZ w3).mono fun e W' ⟨he,hb⟩ => ⟨_,he,rfl,hb⟩
       simp only [Act.put,List.setIfInBounds_toArray,List.set_cons_succ,List.set_cons_zero]
       refine seq_on (by rfl) (fun w3 hb3 _ => ?_) ?_
       ·have y0':=bAt hb3 y0
        have y1':=bAt hb3 y1
        have y2':=bAt hb3 y2
        have y3':=bAt hb3 y3
        have y4':=bAt hb3 y4
        have y5':=bAt hb3 y5
        have y6':=bAt hb3 y6
        have y7':=bAt hb3 y7
        have y8':=bAt hb3 y8
        have x0':=bAt hb3 x0
        have x1':=bAt hb3 x1
        have x2':=bAt hb3 x2
        have x3':=bAt hb3 x3
        have x4':=bAt hb3 x4
        have x5':=bAt hb3 x5
        have x6':=bAt hb3 x6
        have x7':=bAt hb3 x7
        have x8':=bAt hb3 x8
        have c0 : ∀ j,w3.cell? ⟨q,j,none⟩ = _:=fun j => cell_of_heap (o:=j) ((hb3.block _ (Array.getElem?_eq_some_iff.1 KR.out).1).trans KR.out)
        have c30':=bAt hb3 x30
        simp [opOK,go_sem,hzb,Below.refl]
        try exact rfl
       simp only [Act.put,List.setIfInBounds_toArray,List.set_cons_succ,List.set_cons_zero]
       refine seq_end fun w3 hb3 _ => ?_
       simp only [List.drop_succ_cons,List.drop_zero]
       have HE3:=Lib.hid (HE.out.stab fun j hj _ => hb3.block j hj)
       have HR3 : Hid (Rel O₁ W₃ O₁ w3):=Lib.hid (Rel.of_below hb3 HO3.out)
       have sf3 : w3.frozen? ⟨q + 1 + 1,0,none⟩ = false:=frozen_of_heap HE3.out.res
       replace s0:=bAt hb3 s0
       have HSM:=Lib.hid (setCell_same (o:=0) (v:=.slice none 0 0) HE3.out.res rfl)
       clear hb3 sf hzb x0 y0 x1 y1 x2 y2 x3 y3 x4 y4 x5 y5 x6 y6 x7 y7 x8 y8 x30
       cases zb
       ·gi_wp2_with fail
        exact ⟨O₁,HR3.out,HE3.out.o,by rw [List.any_append,HE3.out.no]; simp [HBET.out],HE3.out.res⟩
       ·gi_wp2_with fail
        rw [HSM.out]
        exact ⟨O₁,HR3.out,rfl,HE3.out.o,by rw [List.any_append]; simp [HBET.out],HE3.out.res⟩
     case done =>
      intro D O₁ W' hD hnD hrel hE hDD
      have hDt : t ∉ [D] ∧ pb ∉ [D]:=by have:=HT6.out.lt t (.inl rfl); have:=HT6.out.lt pb (.inr rfl); simp; omega
      have hR9 : Rel (TO t pb) w (TO t pb) W':=rel_next HR6.out hrel (fun j hj => by have:=HQ.out; omega)
      have htq : t < q ∧ pb < q:=hqq
      have hT9 : TabAt W' t pb r gg cap wv nv:=HH.out.again HT6.out (by rw [← HG.out]; exact cric_rest.2.2.2.2.1) hR9 (hrel.block t (HT6.out.lt t (.inl rfl)) (by omega)) (hrel.block pb (HT6.out.lt pb (.inr rfl)) (by omega))
      have hno : beatenG r gg = false:=by rw [beaten_oth,HGP.out]; exact hE.no
      have HD4 : Hid (d = (gg,[(g.player : Int)])):=Lib.hid (HD3.out.trans (by simp [hno]))
      have sf : W'.frozen? ⟨q + 1 + 1,0,none⟩ = false:=frozen_of_heap hE.res
      have s0 : W'.cell? ⟨q + 1 + 1,0,none⟩ = some (.slice none 0 0):=by rw [cell_of_heap hE.res]; rfl
      have t1 : W'.cell? ⟨t,1,none⟩ = some (.int .i64 g.player):=by rw [← HGP.out]; exact hT9.at_ rfl
      have HT9:=Lib.hid hT9
      have HR9:=Lib.hid hR9
      have HE9:=Lib.hid hE
      have HDD:=Lib.hid hDD
      have hqs : q + 1 + 1 < W'.heap.size:=(Array.getElem?_eq_some_iff.1 hE.res).1
      clear hT9 hR9 hE hDD hrel hnD hno
      gi_wp2_with fail
      obtain ⟨w7,hw7⟩ : ∃ w7,W'.setCell ⟨q + 1 + 1,0,none⟩ (.slice (some ⟨W'.heap.size,0,none⟩) 1 1) = w7:=⟨_,rfl⟩
      rw [hw7]
      have hz7 : w7.heap.size = W'.heap.size:=by rw [← hw7]; simp
      have hmk : Marks 0 w7 [D]:=by rw [← hw7]; exact ((Marks.nil _ _).cons HDD.out (Nat.zero_le _) (by simp)).setCell ⟨q + 1 + 1,0,none⟩ _ (by simp; omega)
      refine leave_marks [D] _ (hmk.below (aB _ _)) fun W'' hp => ?_
      have hh8 : (w7.alloc (.cells #[.int .i64 g.player] 3)).heap[q + 1 + 1]? = some (.cells #[.slice (some ⟨W'.heap.size,0,none⟩) 1 1] 27 (0,0)):=heap_old (by rw [← hw7,heap_setCell_at HE9.out.res]; rfl)
      have hr8 : W''.cell? ⟨q + 1 + 1,0,none⟩ = some (.slice (some ⟨W'.heap.size,0,none⟩) 1 1):=passed_cell hp (by rw [cell_of_heap hh8]; rfl)
      have hR7 : Rel (TO t pb) w (TO t pb) w7:=by rw [← hw7]; exact rel_set HR9.out _ (by have:=HQ.out; dsimp only; omega)
      have hsl:=Sl.new1 (WS t pb) w7 ⟨by have:=HT9.out.lt t (.inl rfl); omega,by have:=HT9.out.lt pb (.inr rfl); omega⟩ 3 (.int .i64 g.player)
      rw [hz7] at hsl
      refine ⟨.slice (some ⟨W'.heap.size,0,none⟩) 1 1,by simp [results,Tryz.results109,go_sem,hr8],_,rfl, ?_, ?_,rel_passed (hR7.ext (aB _ _)) hp (by intro D' h'; simp at h'; have:=HQ.out; omega)⟩
      ·rw [HD4.out]; exact hsl.cells fun b o _ _ => hp.cell _
      ·rw [HD4.out]
       have h7 : TabAt w7 t pb r gg cap wv nv:=HH.out.again HT9.out (by rw [← HG.out]; exact cric_rest.2.2.2.2.1) hR7 (by rw [← hw7]; exact Below.heap_setCell _ _ _ _ (by dsimp only; omega)) (by rw [← hw7]; exact Below.heap_setCell _ _ _ _ (by dsimp only; omega))
       exact (h7.below (aB _ _)).passed hp hDt.1 hDt.2
     case stop =>
      rintro D c' pre O₁ W' hD hnD hpre hrel ⟨rfl,hE⟩ hDD
      have hDt : t ∉ [D] ∧ pb ∉ [D]:=by have:=HT6.out.lt t (.inl rfl); have:=HT6.out.lt pb (.inr rfl); simp; omega
      have hR9 : Rel (TO t pb) w (TO t pb) W':=rel_next HR6.out hrel (fun j hj => by have:=HQ.out; omega)
      have hT9 : TabAt W' t pb r gg cap wv nv:=HH.out.again HT6.out (by rw [← HG.out]; exact cric_rest.2.2.2.2.1) hR9 (hrel.block t (HT6.out.lt t (.inl rfl)) (by omega)) (hrel.block pb (HT6.out.lt pb (.inr rfl)) (by omega))
      have hyes : beatenG r gg = true:=by
       rw [beaten_oth,HGP.out]
       obtain ⟨post,hpost⟩ := hpre
       rw [← hpost,List.any_append,hE.yes]; rfl
      have HD4 : Hid (d = (gg,[])):=Lib.hid (HD3.out.trans (by simp [hyes]))
      have s0 : W'.cell? ⟨q + 1 + 1,0,none⟩ = some (.slice none 0 0):=by rw [cell_of_heap hE.res]; rfl
      have HT9:=Lib.hid hT9
      have HR9:=Lib.hid hR9
      have HDD:=Lib.hid hDD
      clear hT9 hR9 hE hDD hrel hnD hyes hpre
      gi_wp2_with fail
      have hmk : Marks 0 W' [D]:=(Marks.nil _ _).cons HDD.out (Nat.zero_le _) (by simp)
      refine leave_marks [D] _ hmk fun W'' hp => ?_
      have hr8:=passed_cell hp s0
      refine ⟨.slice none 0 0,by simp [results,Tryz.results109,go_sem,hr8],_,rfl,by rw [HD4.out]; exact Sl.nil _ _,by rw [HD4.out]; exact HT9.out.passed hp hDt.1 hDt.2,rel_passed HR9.out hp (by intro D' h'; simp at h'; have:=HQ.out; omega)⟩
end Go.Proofs.YtnhggfnnolfcdaaGreat
