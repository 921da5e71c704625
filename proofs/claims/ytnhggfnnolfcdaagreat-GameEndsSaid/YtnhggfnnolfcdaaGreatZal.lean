/- The texts HJ, in build order. -/
import Derived.Test.YtnhggfnnolfcdaaGreatZak

/- Chapter 4: extra marks of cricket. -/
namespace Go.Proofs.YtnhggfnnolfcdaaGreat
open Go.RowKit Go.Oche Go.Proofs
attribute [local go_sem] Oper.semAt_some
theorem rel_of {O O' TT : Nat → Prop} {w W W' : World} (hb : Below w.heap.size w W) (h : Rel O W O' W') (hO : ∀ k,k < w.heap.size → O k → TT k) (hT : ∀ k,TT k → k < w.heap.size) : Rel TT w TT W' :=
 ⟨h.os.trans hb.os,h.tape.trans hb.tape,h.output.trans hb.output,Nat.le_trans hb.size h.size,fun k hk hn => (h.block k (Nat.lt_of_lt_of_le hk hb.size) fun e => hn (hO k hk e)).trans (hb.block k hk),fun _ h => .inl h,fun k hk => Nat.lt_of_lt_of_le (hT k hk) (Nat.le_trans hb.size h.size)⟩
theorem rel_passed {TT : Nat → Prop} {w W W' : World} {Ds : List Nat} (h : Rel TT w TT W) (hp : Passed Ds W W') (hD : ∀ D ∈ Ds,w.heap.size ≤ D) : Rel TT w TT W' :=
 ⟨hp.os.trans h.os,hp.tape.trans h.tape,hp.output.trans h.output,by rw [hp.size]; exact h.size,fun k hk hn => (hp.block k fun hm => by have:=hD k hm; omega).trans (h.block k hk hn),fun _ h => .inl h,fun k hk => by rw [hp.size]; exact h.lt k hk⟩
theorem TabAt.passed {w w' : World} {t pb cap : Nat} {r : Rul} {g : Gam} {wv nv : Value} {Ds : List Nat} (h : TabAt w t pb r g cap wv nv) (hp : Passed Ds w w') (h1 : t ∉ Ds) (h2 : pb ∉ Ds) : TabAt w' t pb r g cap wv nv :=
 ⟨(hp.block t h1).trans h.box,h.pls.keep (hp.block pb h2),h.win.cells fun b o _ _ => hp.cell _,h.num.cells fun b o _ _ => hp.cell _,h.ne,h.cap⟩
def exStep (r : Rul) (i : Nat) (pt : Int) (l : List Plr) (k : Nat) : List Plr :=
 if r.cut = true ∧ (l.getD k default).mks.getD i 0 < 3 then l.set k { l.getD k default with pts:=(l.getD k default).pts + pt } else l
def exF (r : Rul) (i : Nat) (pt : Int) (l : List Plr) (pre : List Nat) : List Plr:=pre.foldl (exStep r i pt) l
def opF (l : List Plr) (i : Nat) (pre : List Nat) : Bool:=pre.any fun k => decide ((l.getD k default).mks.getD i 0 < 3)
theorem exF_snoc (r : Rul) (i : Nat) (pt : Int) (l : List Plr) (pre : List Nat) (k : Nat) : exF r i pt l (pre ++ [k]) = exStep r i pt (exF r i pt l pre) k:=by simp [exF]
theorem exStep_len (r : Rul) (i : Nat) (pt : Int) (l : List Plr) (k : Nat) : (exStep r i pt l k).length = l.length:=by unfold exStep; split <;> simp
theorem exStep_at (r : Rul) (i : Nat) (pt : Int) (l : List Plr) (k j : Nat) (hj : j < l.length) : (exStep r i pt l k).getD j default = if j = k ∧ r.cut = true ∧ (l.getD k default).mks.getD i 0 < 3 then { l.getD k default with pts:=(l.getD k default).pts + pt } else l.getD j default:=by
 unfold exStep
 by_cases h : r.cut = true ∧ (l.getD k default).mks.getD i 0 < 3
 ·rw [if_pos h]
  by_cases e : j = k
  ·subst e; rw [if_pos ⟨rfl,h⟩]; simp [List.getD_eq_getElem?_getD,hj]
  ·rw [if_neg (fun q => e q.1),List.getD_eq_getElem?_getD,List.getElem?_set_ne (fun q => e q.symm),← List.getD_eq_getElem?_getD]
 ·rw [if_neg h,if_neg (fun q => h q.2)]
theorem exF_len (r : Rul) (i : Nat) (pt : Int) : ∀ (pre : List Nat) (l : List Plr),(exF r i pt l pre).length = l.length
 | [],_ => rfl
 | k :: pre,l => by rw [exF,List.foldl_cons]; exact (exF_len r i pt pre _).trans (exStep_len r i pt l k)
theorem exF_at (r : Rul) (i : Nat) (pt : Int) : ∀ (pre : List Nat) (l : List Plr) (j : Nat),pre.Nodup → j < l.length →
  (exF r i pt l pre).getD j default = if j ∈ pre ∧ r.cut = true ∧ (l.getD j default).mks.getD i 0 < 3 then { l.getD j default with pts:=(l.getD j default).pts + pt } else l.getD j default
 | [],l,j,_,_ => by simp [exF]
 | k :: pre,l,j,hn,hj => by
  rw [exF,List.foldl_cons]
  rw [List.nodup_cons] at hn
  have ih:=exF_at r i pt pre (exStep r i pt l k) j hn.2 (by rw [exStep_len]; exact hj)
  have ih' : (List.foldl (exStep r i pt) (exStep r i pt l k) pre).getD j default = _:=ih
  rw [ih',exStep_at r i pt l k j hj]
  by_cases e : j = k
  ·subst e
   rw [if_neg (fun q => hn.1 q.1)]
   by_cases h : r.cut = true ∧ (l.getD j default).mks.getD i 0 < 3
   ·rw [if_pos ⟨rfl,h⟩,if_pos ⟨by simp,h⟩]
   ·rw [if_neg (fun q => h q.2),if_neg (fun q => h q.2)]
  ·simp only [e,false_and,if_false,List.mem_cons,false_or]
theorem othK_mem {p k j : Nat} : j ∈ othK p k ↔ j < k ∧ j ≠ p:=by unfold othK; simp [List.mem_filter]
theorem othK_nodup (p k : Nat) : (othK p k).Nodup:=(List.nodup_range).filter _
theorem extra_fold {r : Rul} {g : Gam} {i : Nat} {pt : Int} (hp : g.player < g.pls.length) :
  (if opF g.pls i (othK g.player g.pls.length) = true ∧ r.cut = false then setP { g with pls:=exF r i pt g.pls (othK g.player g.pls.length) } g.player { plr g g.player with pts:=(plr g g.player).pts + pt } else { g with pls:=exF r i pt g.pls (othK g.player g.pls.length) }) = extraG r g i pt:=by
 have hop : opF g.pls i (othK g.player g.pls.length) = openB g i:=by
  unfold opF openB othK
  rw [List.any_filter]; rfl
 have hl : (exF r i pt g.pls (othK g.player g.pls.length)).length = g.pls.length:=exF_len _ _ _ _ _
 have hat : ∀ k,k < g.pls.length → plr { g with pls:=exF r i pt g.pls (othK g.player g.pls.length) } k = if k ≠ g.player ∧ r.cut = true ∧ (plr g k).mks.getD i 0 < 3 then { plr g k with pts:=(plr g k).pts + pt } else plr g k:=fun k hk => by
  unfold plr
  rw [exF_at r i pt _ _ k (othK_nodup _ _) hk]
  congr 1
  rw [othK_mem]; simp [hk]
 rw [hop]
 refine gam_ext ?_ ?_ ?_ ?_ ?_ ?_ ?_
 ·rw [extra_len]; split <;> simp [setP,hl]
 ·intro k hk
  have hk2 : k < g.pls.length:=by split at hk <;> simpa [setP,hl] using hk
  rw [extra_plr hp hk2]
  unfold extraAt
  cases hc : r.cut
  ·by_cases ho : openB g i = true
   ·rw [if_pos ⟨ho,rfl⟩,plr_setP (by show g.player < (exF r i pt g.pls _).length; rw [hl]; exact hp)]
    by_cases e : k = g.player
    ·subst e; simp [ho]
    ·rw [if_neg e,hat k hk2]; simp [hc,e]
   ·rw [if_neg (fun q => ho q.1),hat k hk2]; simp [hc,ho]
  ·rw [if_neg (by simp),hat k hk2]
   by_cases e : k ≠ g.player ∧ (plr g k).mks.getD i 0 < 3
   ·rw [if_pos ⟨e.1,hc,e.2⟩]; simp only [if_true]; rw [if_pos e]
   ·rw [if_neg (fun q => e ⟨q.1,q.2.2⟩)]
    simp only [if_true]
    rw [if_neg e]; simp
 all_goals (split <;> simp [setP,extra_rest])
structure EI (r : Rul) (g : Gam) (i : Nat) (pt : Int) (pb q3 : Nat) (pre : List Nat) (O : Nat → Prop) (W : World) : Prop where
 o : ∀ k,O k ↔ k = pb ∨ k = q3
 pls : PlsAt W pb (exF r i pt g.pls pre)
 opn : W.heap[q3]? = some (.cells #[.bool (opF g.pls i pre)] 4 (0,0))
theorem EI.stab {r : Rul} {g : Gam} {i : Nat} {pt : Int} {pb q3 : Nat} {pre : List Nat} {O : Nat → Prop} {W W' : World} (h : EI r g i pt pb q3 pre O W) (hk : ∀ k,k < W.heap.size → O k → W'.heap[k]? = W.heap[k]?) : EI r g i pt pb q3 pre O W' :=
 ⟨h.o,h.pls.keep (hk _ h.pls.lt ((h.o _).2 (.inl rfl))),(hk _ (Array.getElem?_eq_some_iff.1 h.opn).1 ((h.o _).2 (.inr rfl))).trans h.opn⟩
set_option maxRecDepth 100000 in
set_option maxHeartbeats 4000000 in
theorem extra_any (t pb cap : Nat) (r : Rul) (g : Gam) (wv nv : Value) (i : Nat) (pt M : Int) (w : World) (h : TabAt w t pb r g cap wv nv) (hi : Inv r M g) (hM : M ≤ 1000000) (hpt : 0 ≤ pt ∧ pt ≤ 1000) (hi7 : i < 7) :
  Calls Tryz.prog 115 #[.agg (rulA r nv),.pointer (some ⟨t,0,none⟩),.int .i64 i,.int .i64 pt] w fun e w' => (∃ v,e = .returned v) ∧ TabAt w' t pb r (extraG r g i pt) cap wv nv ∧ Rel (TO t pb) w (TO t pb) w':=by
 have HFO:=Lib.hid (extra_fold (r:=r) (i:=i) (pt:=pt) hi.pl)
 obtain ⟨gx,hgx⟩ : ∃ gx,extraG r g i pt = gx:=⟨_,rfl⟩
 have HGX:=Lib.hid hgx
 rw [hgx]
 clear hgx
 have hptsb : ∀ k,k < g.pls.length → 0 ≤ (plr g k).pts ∧ (plr g k).pts ≤ 1000000:=fun k hk => by have:=hi.each _ (plr_mem hk); have h1:=this.1.nn; omega
 have hmkb : ∀ k,k < g.pls.length → (plr g k).mks.length = 7:=fun k hk => (hi.each _ (plr_mem hk)).1.len
 unfold rulA
 obtain ⟨w0,hw0⟩ : ∃ w0,(((w.alloc (.cells #[.int .i64 r.kind,.int .i64 r.players,.int .i64 r.last,.bool r.bull,.bool r.jump,.int .i64 r.rounds,.bool r.cut,nv,.int .i64 r.lives,.bool r.own] 111)).alloc (.cells #[.int .i64 i] 3)).alloc (.cells #[.int .i64 pt] 3)).alloc (.cells #[.bool false] 4) = w0:=⟨_,rfl⟩
 have hb0 : Below w.heap.size w w0:=by rw [← hw0]; exact (((aB _ _).alloc (by simp) _).alloc (by simp; omega) _).alloc (by simp; omega) _
 obtain ⟨q,hq⟩ : ∃ q,w.heap.size = q:=⟨_,rfl⟩
 have k0 : w0.heap[q]? = some (.cells #[.int .i64 r.kind,.int .i64 r.players,.int .i64 r.last,.bool r.bull,.bool r.jump,.int .i64 r.rounds,.bool r.cut,nv,.int .i64 r.lives,.bool r.own] 111 (0,0)):=by rw [← hw0,← hq]; exact heap_old (heap_old (heap_old (World.alloc_heap_new _ _)))
 have k1 : w0.heap[q + 1]? = some (.cells #[.int .i64 i] 3 (0,0)):=by rw [← hw0,← hq]; exact heap_old (heap_old (heap_two _ _ _))
 have k2 : w0.heap[q + 1 + 1]? = some (.cells #[.int .i64 pt] 3 (0,0)):=by rw [← hw0,← hq]; exact heap_old (heap_three _ _ _ _)
 have k3 : w0.heap[q + 1 + 1 + 1]? = some (.cells #[.bool false] 4 (0,0)):=by
  rw [← hw0,← hq]
  have:=heap_three (w.alloc (.cells #[.int .i64 r.kind,.int .i64 r.players,.int .i64 r.last,.bool r.bull,.bool r.jump,.int .i64 r.rounds,.bool r.cut,nv,.int .i64 r.lives,.bool r.own] 111)) (.cells #[.int .i64 i] 3) (.cells #[.int .i64 pt] 3) (.cells #[.bool false] 4)
  rwa [show (w.alloc (.cells #[.int .i64 r.kind,.int .i64 r.players,.int .i64 r.last,.bool r.bull,.bool r.jump,.int .i64 r.rounds,.bool r.cut,nv,.int .i64 r.lives,.bool r.own] 111)).heap.size = w.heap.size + 1 by simp] at this
 have hz0 : w0.heap.size = q + 1 + 1 + 1 + 1:=by rw [← hw0,← hq]; simp
 have hqq : t < q ∧ pb < q:=by rw [← hq]; exact ⟨h.lt t (.inl rfl),h.lt pb (.inr rfl)⟩
 have HT:=Lib.hid (h.below hb0)
 have HB0:=Lib.hid hb0
 have HW0:=Lib.hid hw0
 have HPL:=Lib.hid hi.pl
 have HH:=Lib.hid h
 have K0:=Lib.hid k0
 have K1:=Lib.hid k1
 have K2:=Lib.hid k2
 have K3:=Lib.hid k3
 have HQ:=Lib.hid hq
 have HZ0:=Lib.hid hz0
 have HPB:=Lib.hid hptsb
 have HMB:=Lib.hid hmkb
 clear hb0 hw0 k0 k1 k2 k3 hq h hi hz0 hptsb hmkb
 refine (callsIn_wide (n:=0)).1 (callsIn_of_wp_marks Tryz.func115 rfl trivial ?_ rfl)
 simp only [Tryz.ntmps115,List.size_toArray,List.length_cons,List.length_nil,Nat.reduceAdd,Nat.reduceSub,Array.replicate_succ,Array.replicate_zero,List.push_toArray,List.append_toArray,List.nil_append,List.cons_append]
 gi_wp2_with fail
 rw [HW0.out,HQ.out]
 refine wpIn_range (t:=3) (gf:=116) (fa:=#[.pointer (some ⟨t,0,none⟩)]) (lb:=#[]) rfl (enters_of Tryz.func116 (by kernel_rfl) rfl)
  (others_in t pb cap g.player g.pls.length w0 (fun j => j = t) (HT.out.at_ rfl) (HT.out.at_ rfl) HT.out.cap rfl)
  (EI r g i pt pb (q + 1 + 1 + 1)) (fun _ _ _ _ => False) (fun pre O A B h _ _ _ _ hk => h.stab fun k h1 h2 => hk k h1 (.inl h2)) (fun _ _ _ _ _ h => h.elim)
  (fun j => j = pb ∨ j = q + 1 + 1 + 1) (fun j hj => by have:=HZ0.out; omega) (fun j hj => by have:=HZ0.out; have:=HH.out.ne; omega) ⟨fun _ => Iff.rfl,HT.out.pls,K3.out⟩
  (fun b args O W' h => by subst h; rfl) ?round ?done ?stop
 case round =>
  rintro l pre k post args O₁ W₁ hL hl1 hl2 hnl hnl' hrel hI henc
  subst henc
  clear hI
  have hkm : k ∈ othK g.player g.pls.length:=by rw [hL]; simp
  have hnd : k ∉ pre:=by have:=othK_nodup g.player g.pls.length; rw [hL] at this; exact fun e => (List.nodup_append.1 this).2.2 k e k (by simp) rfl
  have hkn:=(othK_mem.1 hkm).1
  have hprenod : pre.Nodup:=by have:=othK_nodup g.player g.pls.length; rw [hL] at this; exact (List.nodup_append.1 this).1
  have HND:=Lib.hid (And.intro hnd hprenod)
  clear hL hkm hnd hprenod
  gi_wp2_with fail
  refine ⟨Below.refl _ _, ?_⟩
  rintro W₃ hon hE
  have hkl : k < (exF r i pt g.pls pre).length:=by rw [exF_len]; exact hkn
  have hat : (exF r i pt g.pls pre)[k] = plr g k:=by
   rw [← getD_of hkl default,exF_at r i pt pre g.pls k HND.out.2 hkn,if_neg (fun e => HND.out.1 e.1)]; rfl
  obtain ⟨P,hP⟩ : ∃ P,(plr g k).pts = P:=⟨_,rfl⟩
  obtain ⟨m,hm⟩ : ∃ m,(plr g k).mks.getD i 0 = m:=⟨_,rfl⟩
  have hPb:=HPB.out k hkn
  rw [hP] at hPb
  have xm : W₃.cell? ⟨pb,k * 9 + 1 + i,none⟩ = some (.int .i64 m):=by rw [← hm,← hat]; exact hE.pls.mark hkl hi7
  have xp : W₃.cell? ⟨pb,k * 9,none⟩ = some (.int .i64 P):=by rw [← hP,← hat]; exact hE.pls.pts hkl
  have hold : ∀ b o v,b < q + 1 + 1 + 1 → b ≠ pb → w0.cell? ⟨b,o,none⟩ = some v → W₃.cell? ⟨b,o,none⟩ = some v:=fun b o v hb hne hv => (hon.cell _).trans (rAt hrel hv (by omega))
  have xi : W₃.cell? ⟨q + 1,0,none⟩ = some (.int .i64 i):=hold _ _ _ (by omega) (by omega) (by rw [cell_of_heap K1.out]; rfl)
  have xt : W₃.cell? ⟨q + 1 + 1,0,none⟩ = some (.int .i64 pt):=hold _ _ _ (by omega) (by omega) (by rw [cell_of_heap K2.out]; rfl)
  have xc : W₃.cell? ⟨q,6,none⟩ = some (.bool r.cut):=hold _ _ _ (by omega) (by omega) (by rw [cell_of_heap K0.out]; rfl)
  have xo : W₃.cell? ⟨q + 1 + 1 + 1,0,none⟩ = some (.bool (opF g.pls i pre)):=by rw [cell_of_heap hE.opn]; rfl
  have fo : W₃.frozen? ⟨q + 1 + 1 + 1,0,none⟩ = false:=frozen_of_heap hE.opn
  have fp : W₃.frozen? ⟨pb,k * 9,none⟩ = false:=hE.pls.free _
  obtain ⟨mb,hmb⟩ : ∃ mb,decide (m < 3) = mb:=⟨_,rfl⟩
  have HE:=Lib.hid hE
  have HAT:=Lib.hid hat
  have HKL:=Lib.hid hkl
  have HP:=Lib.hid hP
  have HM:=Lib.hid hm
  have HO3 : Hid (∀ j,O₁ j → j < W₃.heap.size):=Lib.hid (fun j hj => by have:=hrel.lt j hj; have:=hon.size; omega)
  clear hE hold hP hm hrel
  gi_wp2_with fail
  refine wpIn_region_seq 7 [.is (.pointer (some ⟨pb,k * 9,none⟩)),.is (.int .i64 i),.is (.pointer (some ⟨pb,k * 9,none⟩)),.is (.pointer (some ⟨pb,k * 9 + 1,none⟩)),.is (.pointer (some ⟨pb,k * 9 + 1 + i,none⟩)),.is (.int .i64 m),.is (.bool mb)] rfl mix (open_round l) (by kernel_rfl) (by kernel_rfl) (by kernel_rfl) ?seqm
  case seqm =>
   simp only [List.take_succ_cons,List.take_zero]
   iterate 7
    refine seq_on (by rfl) (fun w3 hb3 _ => ?_) ?_
    ·have hi7' : ((i : Nat) : Int) < 7:=by omega
     have xi':=bAt hb3 xi
     have xm':=bAt hb3 xm
     simp [opOK,go_sem,xi',xm',hmb,hi7',Below.refl]
     try exact rfl
    simp only [Act.put,List.setIfInBounds_toArray,List.set_cons_succ,List.set_cons_zero]
   refine seq_end fun w3 hb3 _ => ?_
   simp only [List.drop_succ_cons,List.drop_zero]
   have hb33:=hb3
   replace xc:=bAt hb3 xc
   replace xp:=bAt hb3 xp
   replace xt:=bAt hb3 xt
   replace xo:=bAt hb3 xo
   have fo3 : w3.frozen? ⟨q + 1 + 1 + 1,0,none⟩ = false:=frozen_of_heap ((hb3.block _ (Array.getElem?_eq_some_iff.1 HE.out.opn).1).trans HE.out.opn)
   have fp3 : w3.frozen? ⟨pb,k * 9,none⟩ = false:=(HE.out.pls.below hb3).free _
   have HE3:=Lib.hid (HE.out.stab fun j hj _ => hb3.block j hj)
   have HR3 : Hid (Rel O₁ W₃ O₁ w3):=Lib.hid (Rel.of_below hb3 HO3.out)
   have HMB3:=Lib.hid hmb
   clear hb3 hb33 fo fp xi xm hmb
   have hpbq : pb ≠ q + 1 + 1 + 1:=by omega
   cases mb
   ·gi_wp2_with fail
    have hm3 : ¬ m < 3:=by simpa using HMB3.out
    refine ⟨O₁,HR3.out,HE3.out.o, ?_, ?_⟩
    ·rw [exF_snoc,exStep,if_neg]
     ·exact HE3.out.pls
     ·rintro ⟨_,e⟩; rw [getD_of HKL.out,HAT.out,HM.out] at e; exact hm3 e
    ·have : opF g.pls i (pre ++ [k]) = opF g.pls i pre:=by unfold opF; rw [List.any_append]; have e : (g.pls.getD k default).mks.getD i 0 = m:=HM.out; simp only [List.any_cons,List.any_nil,Bool.or_false]; rw [e,HMB3.out]; simp
     rw [this]; exact HE3.out.opn
   ·have hm3 : m < 3:=by simpa using HMB3.out
    have hopn : opF g.pls i (pre ++ [k]) = true:=by unfold opF; rw [List.any_append]; have e : (g.pls.getD k default).mks.getD i 0 = m:=HM.out; simp only [List.any_cons,List.any_nil,Bool.or_false]; rw [e,HMB3.out]; simp
    have HOPN:=Lib.hid hopn
    have HM3:=Lib.hid hm3
    clear hopn hm3
    have ho4 : (w3.setCell ⟨q + 1 + 1 + 1,0,none⟩ (.bool true)).heap[q + 1 + 1 + 1]? = some (.cells #[.bool true] 4 (0,0)):=by rw [heap_setCell_at HE3.out.opn]; rfl
    have hp4:=HE3.out.pls.other (p:=⟨q + 1 + 1 + 1,0,none⟩) (.bool true) hpbq.symm
    have HO4:=Lib.hid ho4
    have HP4:=Lib.hid hp4
    clear ho4 hp4
    cases hcut : r.cut
    ·have HC:=Lib.hid hcut
     rw [HC.out] at xc
     clear hcut
     gi_wp2_with fail
     refine ⟨O₁,HR3.out.setCell ((HE3.out.o _).2 (.inr rfl)) _,HE3.out.o, ?_, ?_⟩
     ·rw [exF_snoc,exStep,if_neg (by rw [HC.out]; simp)]; exact HP4.out
     ·rw [HOPN.out]; exact HO4.out
    ·have HC:=Lib.hid hcut
     rw [HC.out] at xc
     clear hcut
     obtain ⟨w4,hw4⟩ : ∃ w4,w3.setCell ⟨q + 1 + 1 + 1,0,none⟩ (.bool true) = w4:=⟨_,rfl⟩
     have HW4:=Lib.hid hw4
     have y6 : (w3.setCell ⟨q + 1 + 1 + 1,0,none⟩ (.bool true)).cell? ⟨q,6,none⟩ = some (.bool true):=(World.cell?_of_block (w:=w3) (Below.heap_setCell _ _ _ _ (by dsimp only; omega))).trans xc
     have hR4:=HR3.out.setCell (p:=⟨q + 1 + 1 + 1,0,none⟩) ((HE3.out.o _).2 (.inr rfl)) (.bool true)
     have hp4' : w4.cell? ⟨pb,k * 9,none⟩ = some (.int .i64 P):=by rw [← hw4]; exact (World.cell?_of_block (w:=w3) (Below.heap_setCell _ _ _ _ (by dsimp only; omega))).trans xp
     have ht4' : w4.cell? ⟨q + 1 + 1,0,none⟩ = some (.int .i64 pt):=by rw [← hw4]; exact (World.cell?_of_block (w:=w3) (Below.heap_setCell _ _ _ _ (by dsimp only; omega))).trans xt
     rw [hw4] at HO4 HP4 hR4
     have HR4:=Lib.hid hR4
     clear xp xt hR4 hw4
     gi_wp2_with fail
     rw [HW4.out]
     clear y6 fo3 fp3 xo xc
     have xp:=hp4'
     have xt:=ht4'
     have hwP : IntKind.i64.wrap (P + pt) = P + pt:=wrap_small _ (by omega) (by omega)
     clear hp4' ht4'
     refine wpIn_region_seq 8 [.is (.pointer (some ⟨pb,k * 9,none⟩)),.is (.pointer (some ⟨pb,k * 9,none⟩)),.is (.pointer (some ⟨pb,k * 9,none⟩)),.is (.int .i64 P),.is (.int .i64 pt),.is (.int .i64 (P + pt)),.is (.pointer (some ⟨pb,k * 9,none⟩)),.is (.pointer (some ⟨pb,k * 9,none⟩))] rfl mix (open_round l) (by kernel_rfl) (by kernel_rfl) (by kernel_rfl) ?seqm
     case seqm =>
      simp only [List.take_succ_cons,List.take_zero]
      iterate 8
       refine seq_on (by rfl) (fun w3 hb3 _ => ?_) ?_
       ·have xp':=bAt hb3 xp
        have xt':=bAt hb3 xt
        simp [opOK,go_sem,xp',xt',hwP,Below.refl]
        try exact rfl
       simp only [Act.put,List.setIfInBounds_toArray,List.set_cons_succ,List.set_cons_zero]
      refine seq_end fun w3 hb3 _ => ?_
      simp only [List.drop_succ_cons,List.drop_zero]
      have HR5:=Lib.hid (HR4.out.ext hb3)
      have HP5:=Lib.hid (HP4.out.below hb3)
      have HO5:=Lib.hid ((hb3.block _ (Array.getElem?_eq_some_iff.1 HO4.out).1).trans HO4.out)
      replace xp:=bAt hb3 xp
      have fp5:=HP5.out.free (k * 9)
      clear hb3 xt
      gi_wp2_with fail
      refine ⟨O₁,HR5.out.setCell ((HE3.out.o _).2 (.inl rfl)) _,HE3.out.o, ?_, ?_⟩
      ·rw [exF_snoc,exStep,if_pos ⟨HC.out,by rw [getD_of HKL.out,HAT.out,HM.out]; exact HM3.out⟩]
       have:=HP5.out.setPts HKL.out (P + pt)
       rw [getD_of HKL.out,HAT.out,HP.out]
       rw [HAT.out] at this
       exact this
      ·rw [HOPN.out]; exact (Below.heap_setCell _ _ _ _ hpbq.symm).trans HO5.out
 case done =>
  intro D O₁ W' hD hnD hrel hE hDD
  have hDN : q + 1 + 1 + 1 + 1 ≤ D:=by have:=HZ0.out; omega
  have hold : ∀ b,b < q + 1 + 1 + 1 → b ≠ pb → W'.heap[b]? = w0.heap[b]? := fun b hb hne => hrel.block b (by have:=HZ0.out; omega) (by omega)
  have xc : W'.cell? ⟨q,6,none⟩ = some (.bool r.cut):=by rw [cell_of_heap ((hold _ (by omega) (by omega)).trans K0.out)]; rfl
  have xt9 : W'.cell? ⟨q + 1 + 1,0,none⟩ = some (.int .i64 pt):=by rw [cell_of_heap ((hold _ (by omega) (by omega)).trans K2.out)]; rfl
  have xo : W'.cell? ⟨q + 1 + 1 + 1,0,none⟩ = some (.bool (opF g.pls i (othK g.player g.pls.length))):=by rw [cell_of_heap hE.opn]; rfl
  have hpb':=HPB.out _ HPL.out
  have hT9 : TabAt W' t pb r { g with pls:=exF r i pt g.pls (othK g.player g.pls.length) } cap wv nv:=by
   have hne:=HH.out.ne
   have hsl : ∀ {v : Value} {l : List Value},Sl (fun q => ¬ TO t pb q) w v l → Sl (fun q => ¬ TO t pb q) W' v l:=fun hs =>
    ((hs.lt.below HB0.out).rel hrel fun k hk e => by rcases e with e | e; exact hk.1 (.inr e); have:=HQ.out; omega).mono fun k hk => hk.1
   have hslw : ∀ {v : Value} {l : List Value},Sl (WS t pb) w v l → Sl (WS t pb) W' v l:=fun hs =>
    ((hs.lt.below HB0.out).rel hrel fun k hk e => by rcases e with e | e; exact hk.1.2 e; have:=HQ.out; omega).mono fun k hk => hk.1
   refine ⟨?_,hE.pls,hslw HH.out.win,hsl HH.out.num,hne,by show (exF r i pt g.pls _).length ≤ cap ∧ _; rw [exF_len]; exact HH.out.cap⟩
   have:=(hold t (by omega) hne).trans HT.out.box
   show _ = some (Obj.cells (tabA r { g with pls:=_ } (.slice (some ⟨pb,0,none⟩) (exF r i pt g.pls _).length cap) wv nv) _ _)
   rw [exF_len]; exact this
  have hR9 : Rel (TO t pb) w (TO t pb) W':=rel_of HB0.out hrel (fun k hk e => by rcases e with e | e; exact .inr e; have:=HQ.out; omega) HH.out.lt
  obtain ⟨P,hP⟩ : ∃ P,(plr g g.player).pts = P:=⟨_,rfl⟩
  rw [hP] at hpb'
  have hat9 : plr { g with pls:=exF r i pt g.pls (othK g.player g.pls.length) } g.player = plr g g.player:=by
   have:=exF_at r i pt (othK g.player g.pls.length) g.pls g.player (othK_nodup _ _) HPL.out
   rw [if_neg (by rw [othK_mem]; exact fun e => e.1.2 rfl)] at this
   exact this
  have HP9 : Hid (g.player < (exF r i pt g.pls (othK g.player g.pls.length)).length ∧ (plr { g with pls:=exF r i pt g.pls (othK g.player g.pls.length) } g.player).pts = P):=Lib.hid ⟨by rw [exF_len]; exact HPL.out,by rw [hat9,hP]⟩
  have HAT9:=Lib.hid hat9
  have HT9:=Lib.hid hT9
  have HR9:=Lib.hid hR9
  have HDD:=Lib.hid hDD
  have HP:=Lib.hid hP
  clear hE hold hT9 hR9 hat9 hP hDD hrel hnD hD
  obtain ⟨ob,hob⟩ : ∃ ob,opF g.pls i (othK g.player g.pls.length) = ob:=⟨_,rfl⟩
  have HOB:=Lib.hid hob
  rw [hob] at xo
  clear hob
  have hDt : t ∉ [D] ∧ pb ∉ [D]:=by simp; omega
  cases ob
  ·gi_wp2_with fail
   have hmk : Marks 0 W' [D]:=(Marks.nil _ _).cons HDD.out (Nat.zero_le _) (by simp)
   refine leave_marks [D] _ hmk fun W'' hp => ?_
   refine ⟨.tuple #[],by simp [results,go_sem],⟨_,rfl⟩, ?_,rel_passed HR9.out hp (by intro D' h'; simp at h'; have:=HQ.out; omega)⟩
   have:=HFO.out
   rw [HOB.out,if_neg (by simp),HGX.out] at this
   rw [← this]; exact HT9.out.passed hp hDt.1 hDt.2
  ·cases hcut : r.cut
   ·have HC:=Lib.hid hcut
    rw [HC.out] at xc
    clear hcut
    have hwP : IntKind.i64.wrap (P + pt) = P + pt:=wrap_small _ (by omega) (by omega)
    gi_wp2_with fail
    refine wpIn_region_seq 9 [.is (.pointer (some ⟨t,0,none⟩)),.is (.pointer (some ⟨pb,g.player * 9,none⟩)),.is (.pointer (some ⟨pb,g.player * 9,none⟩)),.is (.pointer (some ⟨pb,g.player * 9,none⟩)),.is (.int .i64 P),.is (.int .i64 pt),.is (.int .i64 (P + pt)),.is (.pointer (some ⟨pb,g.player * 9,none⟩)),.is (.pointer (some ⟨pb,g.player * 9,none⟩))] rfl mix open_wide (by kernel_rfl) (by kernel_rfl) (by kernel_rfl) ?seqm
    case seqm =>
     simp only [List.take_succ_cons,List.take_zero]
     refine seq_on (by rfl) (fun w3 hb3 _ => ?_) ?_
     ·have ht:=HT9.out.below hb3
      have p0 : w3.cell? ⟨pb,g.player * 9,none⟩ = some (.int .i64 P):=ht.at_pts HP9.out
      have xt':=bAt hb3 xt9
      simp [opOK,go_sem,Below.refl]
      try exact rfl
     simp only [Act.put,List.setIfInBounds_toArray,List.set_cons_succ,List.set_cons_zero]
     refine seq_on (by rfl) (fun w3 hb3 hH => ?_) ?_
     ·have ht:=HT9.out.below hb3
      have p0 : w3.cell? ⟨pb,g.player * 9,none⟩ = some (.int .i64 P):=ht.at_pts HP9.out
      have xt':=bAt hb3 xt9
      refine opOK_call (f:=104) (args:=#[.pointer (some ⟨t,0,none⟩)]) (by simp [go_sem]) ?_
      exact (now_any t pb cap r { g with pls:=exF r i pt g.pls (othK g.player g.pls.length) } wv nv w3 ht HP9.out.1).mono fun e W' ⟨he,hb⟩ => ⟨_,he,rfl,by obtain ⟨nd,hb⟩ := hb; rw [hb]; exact bDrew _ _⟩
     simp only [Act.put,List.setIfInBounds_toArray,List.set_cons_succ,List.set_cons_zero]
     iterate 7
      refine seq_on (by rfl) (fun w3 hb3 _ => ?_) ?_
      ·have ht:=HT9.out.below hb3
       have p0 : w3.cell? ⟨pb,g.player * 9,none⟩ = some (.int .i64 P):=ht.at_pts HP9.out
       have xt':=bAt hb3 xt9
       simp [opOK,go_sem,xt',p0,hwP,Below.refl]
       try exact rfl
      simp only [Act.put,List.setIfInBounds_toArray,List.set_cons_succ,List.set_cons_zero]
     refine seq_end fun w3 hb3 _ => ?_
     simp only [List.drop_succ_cons,List.drop_zero]
     have HT10:=Lib.hid (HT9.out.below hb3)
     have HR10:=Lib.hid (HR9.out.ext hb3)
     have HD10:=Lib.hid ((hb3.block _ (Array.getElem?_eq_some_iff.1 HDD.out).1).trans HDD.out)
     have xp : w3.cell? ⟨pb,g.player * 9,none⟩ = some (.int .i64 P):=HT10.out.at_pts HP9.out
     have fp:=HT10.out.pls.free (g.player * 9)
     clear hb3 xo xc xt9
     gi_wp2_with fail
     have hmk : Marks 0 w3 [D]:=(Marks.nil _ _).cons HD10.out (Nat.zero_le _) (by simp)
     refine leave_marks [D] _ (hmk.setCell ⟨pb,g.player * 9,none⟩ _ (by simp; omega)) fun W'' hp => ?_
     refine ⟨.tuple #[],by simp [results,go_sem],⟨_,rfl⟩, ?_,rel_passed (HR10.out.setCell (p:=⟨pb,g.player * 9,none⟩) (.inr rfl) _) hp (by intro D' h'; simp at h'; have:=HQ.out; omega)⟩
     have:=HFO.out
     rw [HOB.out,if_pos ⟨rfl,HC.out⟩,HGX.out] at this
     rw [← this]
     have hs:=HT10.out.setPts HP9.out.1 (P + pt)
     rw [HAT9.out] at hs
     rw [HP.out]
     exact hs.passed hp hDt.1 hDt.2
   ·have HC:=Lib.hid hcut
    rw [HC.out] at xc
    clear hcut
    gi_wp2_with fail
    have hmk : Marks 0 W' [D]:=(Marks.nil _ _).cons HDD.out (Nat.zero_le _) (by simp)
    refine leave_marks [D] _ hmk fun W'' hp => ?_
    refine ⟨.tuple #[],by simp [results,go_sem],⟨_,rfl⟩, ?_,rel_passed HR9.out hp (by intro D' h'; simp at h'; have:=HQ.out; omega)⟩
    have:=HFO.out
    rw [HOB.out,if_neg (by rw [HC.out]; simp),HGX.out] at this
    rw [← this]; exact HT9.out.passed hp hDt.1 hDt.2
 case stop => intro D c pre O₁ W' _ _ _ _ h; exact h.elim
end Go.Proofs.YtnhggfnnolfcdaaGreat
