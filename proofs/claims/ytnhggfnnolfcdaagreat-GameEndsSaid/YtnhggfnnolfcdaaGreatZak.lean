/- The texts HH, HI, in build order. -/
import Derived.Test.YtnhggfnnolfcdaaGreatZaj
import Derived.Deep.DeepCutAuto
import Derived.RangeFuncBound
import Derived.RangeFuncLeaves
import Derived.Shelf.Abstract
import Derived.Shelf.RegionOpen
import Derived.OwnWalkIn
import Derived.TacticsInMore
import Derived.LoopNIn
import Derived.LoopIn

/- Chapter 4: a dart of killer. -/
namespace Go.Proofs.YtnhggfnnolfcdaaGreat
open Go.RowKit Go.Oche Go.Proofs
def idxI (xs : List Int) (n : Int) : Int:=match xs.findIdx? (· == n) with | none => -1 | some i => (i : Nat)
set_option maxRecDepth 100000 in
set_option maxHeartbeats 1000000 in
theorem index_any {S : Nat → Prop} (xs : List Int) (n : Int) (v : Value) (w : World) (hs : Sl S w v (ints xs)) :
  Calls Tryz.prog 54 #[v,.int .i64 n] w fun e w' => e = .returned (.int .i64 (idxI xs n)) ∧ w = w':=by
 obtain ⟨a,cap,rfl,h2,h3,h4⟩ := hs
 simp only [ints_length] at *
 unfold maxLen at h3
 go_enter Tryz.func54,Tryz.ntmps54
 go_wp2
 go_loop [5,8] (fun _ i => ∃ k : Nat,k ≤ xs.length ∧ i = .int .i64 k ∧ Hid (∀ j,j < k → ∀ h : j < xs.length,xs[j] ≠ n)) (fun _ i => xs.length - (intOf i).toNat)
 case atStart => exact ⟨0,Nat.zero_le _,rfl,Lib.hid (fun j hj => by omega)⟩
 case round =>
  obtain ⟨k,hk,rfl,HP⟩ := hrel
  by_cases hlt : k < xs.length
  ·obtain ⟨b,off,rfl,_,hc⟩ := h4 k _ (intsAt hlt)
   clear h4
   obtain ⟨x,hx⟩ : ∃ x,xs[k] = x:=⟨_,rfl⟩
   rw [hx] at hc
   have HX:=Lib.hid hx
   clear hx
   by_cases e : n = x
   ·have ex : (n == x) = true:=by simp [e]
    have E:=Lib.hid e
    clear e
    go_wp2
    go_ret
    refine ⟨ret_int ?_,rfl⟩
    have : xs.findIdx? (· == n) = some k:=List.findIdx?_eq_some_iff_getElem.2 ⟨hlt,by simp [HX.out,E.out],fun j hj => by simpa using HP.out j hj (by omega)⟩
    unfold idxI; rw [this]
   ·have ex : (n == x) = false:=by simp [e]
    have E:=Lib.hid e
    clear e
    go_wp2
    go_round
    case rel => exact ⟨k + 1,by omega,by go_num,Lib.hid (fun j hj h => by
     by_cases q : j = k
     ·subst q; rw [HX.out]; exact fun e => E.out e.symm
     ·exact HP.out j (by omega) h)⟩
    case measure => simp [intOf]; omega
  ·obtain rfl : k = xs.length:=by omega
   clear h4
   go_wp2
   go_ret
   refine ⟨ret_int ?_,rfl⟩
   have : xs.findIdx? (· == n) = none:=List.findIdx?_eq_none_iff.2 fun x hx => by
    obtain ⟨j,hj,rfl⟩ := List.getElem_of_mem hx
    simpa using HP.out j hj hj
   unfold idxI; rw [this]
def leftK (r : Rul) (g : Gam) (k : Nat) : List Int:=((List.range k).filter fun p => !isOutG r g p).map fun (p : Nat) => (p : Int)
theorem leftK_succ (r : Rul) (g : Gam) (k : Nat) : leftK r g (k + 1) = leftK r g k ++ if isOutG r g k = true then [] else [(k : Int)]:=by
 unfold leftK
 rw [List.range_succ,List.filter_append,List.map_append]
 congr 1
 cases h : isOutG r g k <;> simp [h]
theorem leftK_len (r : Rul) (g : Gam) (k : Nat) : (leftK r g k).length ≤ k:=by
 unfold leftK; rw [List.length_map]; exact Nat.le_trans (List.length_filter_le _ _) (by simp)
theorem isOut_r (t pb p cap : Nat) (r : Rul) (g : Gam) (wv nv : Value) (b : Bool) (hb : Hid (isOutG r g p = b)) (w : World) (h : TabAt w t pb r g cap wv nv) (hp : p < g.pls.length) :
  Calls Tryz.prog 52 #[.pointer (some ⟨t,0,none⟩),.int .i64 p] w fun e w' => e = .returned (.bool b) ∧ w = w':=by
 rw [← hb.out]; exact isOut_any t pb p cap r g wv nv w h hp
set_option maxRecDepth 100000 in
set_option maxHeartbeats 4000000 in
theorem dart4_any (t pb cap : Nat) (r : Rul) (g : Gam) (wv nv : Value) (f n M : Int) (w : World) (h : TabAt w t pb r g cap wv nv) (hi : Run r M g) (k : r.kind = 4) (hM : M ≤ 1000000) :
  Calls Tryz.prog 125 #[.agg (rulA r nv),.pointer (some ⟨t,0,none⟩),.agg #[.int .i64 f,.int .i64 n]] w (DartPost t pb r cap wv nv w (dartKiller r g f n)):=by
 have hc:=ok4 hi.ok k
 have hlen : g.pls.length = r.nums.length:=by have:=hi.len; omega
 have h8 : g.pls.length ≤ 8:=by have:=hi.len; omega
 have two:=hi.two k
 obtain ⟨d,hd⟩ : ∃ d,dartKiller r g f n = d:=⟨_,rfl⟩
 have HD:=Lib.hid hd
 rw [hd]
 clear hd
 unfold rulA
 obtain ⟨w0,hw0⟩ : ∃ w0,(w.alloc (.cells #[.int .i64 r.kind,.int .i64 r.players,.int .i64 r.last,.bool r.bull,.bool r.jump,.int .i64 r.rounds,.bool r.cut,nv,.int .i64 r.lives,.bool r.own] 113)).alloc (.cells #[.int .i64 f,.int .i64 n] 61) = w0:=⟨_,rfl⟩
 have hb0 : Below w.heap.size w w0:=by rw [← hw0]; exact (aB _ _).alloc (by simp) _
 obtain ⟨q,hq⟩ : ∃ q,w.heap.size = q:=⟨_,rfl⟩
 have k0 : w0.heap[q]? = some (.cells #[.int .i64 r.kind,.int .i64 r.players,.int .i64 r.last,.bool r.bull,.bool r.jump,.int .i64 r.rounds,.bool r.cut,nv,.int .i64 r.lives,.bool r.own] 113 (0,0)):=by rw [← hw0,← hq]; exact heap_old (World.alloc_heap_new _ _)
 have k1 : w0.heap[q + 1]? = some (.cells #[.int .i64 f,.int .i64 n] 61 (0,0)):=by rw [← hw0,← hq]; exact heap_two _ _ _
 have ht0:=h.below hb0
 have c07 : w0.cell? ⟨q,7,none⟩ = some nv:=by rw [cell_of_heap k0]; rfl
 have c10 : w0.cell? ⟨q + 1,0,none⟩ = some (.int .i64 f):=by rw [cell_of_heap k1]; rfl
 have c11 : w0.cell? ⟨q + 1,1,none⟩ = some (.int .i64 n):=by rw [cell_of_heap k1]; rfl
 have hqq : t < q ∧ pb < q:=by rw [← hq]; exact ⟨h.lt t (.inl rfl),h.lt pb (.inr rfl)⟩
 have HT:=Lib.hid ht0
 have HB0:=Lib.hid hb0
 have HW0:=Lib.hid hw0
 have HPL:=Lib.hid hi.pl
 have HH:=Lib.hid h
 have K0:=Lib.hid k0
 have HQ:=Lib.hid hq
 have HLEN:=Lib.hid hlen
 have H8:=Lib.hid h8
 have HC:=Lib.hid hc
 have HI:=Lib.hid hi
 have HTWO:=Lib.hid two
 have HK:=Lib.hid k
 obtain ⟨iv,hiv⟩ : ∃ iv,idxI r.nums n = iv:=⟨_,rfl⟩
 have HIV:=Lib.hid hiv
 clear hb0 hw0 k0 k1 hq h hi hc k ht0 hlen two h8 hiv
 go_enter Tryz.func125,Tryz.ntmps125
 go_wp2_with fail
 rw [HW0.out,HQ.out]
 refine (index_any r.nums n nv w0 HT.out.num).mono ?_
 rintro e w1 ⟨rfl,rfl⟩
 rw [HIV.out]
 cases hfi : r.nums.findIdx? (· == n) with
 | none =>
  have hv : iv = -1:=by rw [← HIV.out]; unfold idxI; rw [hfi]
  have HD2 : Hid (d = (g,[])):=Lib.hid (by rw [← HD.out]; unfold dartKiller; rw [hfi])
  subst hv
  clear hfi
  go_wp2
  go_ret
  exact ⟨_,rfl,by rw [HD2.out]; exact Sl.nil _ _,by rw [HD2.out]; exact HT.out,Rel.of_below HB0.out HH.out.lt⟩
 | some i =>
  have hv : iv = (i : Nat):=by rw [← HIV.out]; unfold idxI; rw [hfi]
  subst hv
  have hil : i < g.pls.length:=by rw [HLEN.out]; exact (List.findIdx?_eq_some_iff_getElem.1 hfi).1
  have HD1 : Hid (d = if f ≠ 2 ∨ isOutG r g i = true then (g,[]) else (killHit r g i,if 1 < (leftG r (killHit r g i)).length then [] else leftG r (killHit r g i))):=Lib.hid (by rw [← HD.out]; unfold dartKiller; rw [hfi]; rfl)
  have HIL:=Lib.hid hil
  clear hfi
  obtain ⟨fb,hfb⟩ : ∃ fb,(f != 2) = fb:=⟨_,rfl⟩
  have HFB:=Lib.hid hfb
  cases fb
  ·obtain ⟨ob,hob⟩ : ∃ ob,isOutG r g i = ob:=⟨_,rfl⟩
   have HOB:=Lib.hid hob
   clear hob
   go_wp2_with fail
   refine (isOut_r t pb i cap r g wv nv ob HOB w0 HT.out HIL.out).mono ?_
   rintro e w1 ⟨rfl,rfl⟩
   cases ob
   ·have HD2:=Lib.hid (HD1.out.trans (by rw [if_neg (by rw [HOB.out]; have:=HFB.out; simp at this; simp [this])]))
    clear HD HD1 hfb c10 c11 c07
    go_wp2_with fail
    refine wp_region_seq 11 [.is (.pointer (some ⟨t,0,none⟩)),.is (.pointer (some ⟨pb,g.player * 9,none⟩)),.is (.pointer (some ⟨t,0,none⟩)),.is (.pointer (some ⟨t,0,none⟩)),.is (.pointer (some ⟨t,0,none⟩)),.is (.pointer (some ⟨t,3,none⟩)),.is (.slice (some ⟨pb,0,none⟩) g.pls.length cap),.is (.int .i64 i),.is (.pointer (some ⟨pb,i * 9,none⟩)),.is (.pointer (some ⟨pb,g.player * 9,none⟩)),.is (.pointer (some ⟨pb,i * 9,none⟩))] rfl mix (by kernel_rfl) (by kernel_rfl) ?seqm
    case seqm =>
     simp only [List.take_succ_cons,List.take_zero]
     refine seq_on (by rfl) (fun w3 hb3 _ => ?_) ?_
     ·have ht:=HT.out.below hb3
      have t3' : w3.cell? ⟨t,3,none⟩ = some (.slice (some ⟨pb,0,none⟩) g.pls.length cap):=ht.at_ rfl
      have hil:=HIL.out
      have hcp:=ht.cap
      simp [opOK,go_sem,Below.refl]
      try exact rfl
     simp only [Act.put,List.setIfInBounds_toArray,List.set_cons_succ,List.set_cons_zero]
     refine seq_on (by rfl) (fun w3 hb3 hH => ?_) ?_
     ·have ht:=HT.out.below hb3
      have t3' : w3.cell? ⟨t,3,none⟩ = some (.slice (some ⟨pb,0,none⟩) g.pls.length cap):=ht.at_ rfl
      have hil:=HIL.out
      have hcp:=ht.cap
      refine opOK_call (f:=104) (args:=#[.pointer (some ⟨t,0,none⟩)]) (by simp [go_sem]) ?_
      exact (now_any t pb cap r g wv nv w3 ht HPL.out).mono fun e W' ⟨he,hb⟩ => ⟨_,he,rfl,by obtain ⟨nd,hb⟩ := hb; rw [hb]; exact bDrew _ _⟩
     simp only [Act.put,List.setIfInBounds_toArray,List.set_cons_succ,List.set_cons_zero]
     iterate 9
      refine seq_on (by rfl) (fun w3 hb3 _ => ?_) ?_
      ·have ht:=HT.out.below hb3
       have t3' : w3.cell? ⟨t,3,none⟩ = some (.slice (some ⟨pb,0,none⟩) g.pls.length cap):=ht.at_ rfl
       have hil:=HIL.out
       have hcp:=ht.cap
       simp [opOK,go_sem,t3',hil,Below.refl]
       try exact rfl
      simp only [Act.put,List.setIfInBounds_toArray,List.set_cons_succ,List.set_cons_zero]
     refine seq_end fun w3 hb3 _ => ?_
     simp only [List.drop_succ_cons,List.drop_zero]
     have HB3:=Lib.hid (bThen HB0.out hb3)
     have HT3:=Lib.hid (HT.out.below hb3)
     have k3:=(hb3.block _ (Array.getElem?_eq_some_iff.1 K0.out).1).trans K0.out
     have c09 : w3.cell? ⟨q,9,none⟩ = some (.bool r.own):=by rw [cell_of_heap k3]; rfl
     obtain ⟨kb,hkb⟩ : ∃ kb,(plr g g.player).kl = kb:=⟨_,rfl⟩
     obtain ⟨x,hx⟩ : ∃ x,(plr g i).pts = x:=⟨_,rfl⟩
     have t1 : w3.cell? ⟨t,1,none⟩ = some (.int .i64 g.player):=HT3.out.at_ rfl
     have pk : w3.cell? ⟨pb,g.player * 9 + 8,none⟩ = some (.bool kb):=by rw [← hkb,← plr_at HPL.out]; exact HT3.out.pls.kl HPL.out
     have px : w3.cell? ⟨pb,i * 9,none⟩ = some (.int .i64 x):=HT3.out.at_pts ⟨HIL.out,hx⟩
     have fz:=HT3.out.pls.free (i * 9)
     have fz8:=HT3.out.pls.free (g.player * 9 + 8)
     have hxb : 0 ≤ x ∧ x ≤ 1000000:=by
      have:=HI.out.each _ (plr_mem HIL.out); rw [hx] at this
      have h1:=this.1.nn; rw [hx] at h1; omega
     have hxw : IntKind.i64.wrap (x - 1) = x - 1:=wrap_small _ (by omega) (by omega)
     have hsz : q ≤ w3.heap.size:=by have:=HB3.out.size; rw [HQ.out] at this; exact this
     have HR3:=Lib.hid (Rel.of_below HB3.out HH.out.lt)
     have HKB:=Lib.hid hkb
     have HX:=Lib.hid hx
     clear hb3 hkb hx k3
     by_cases hp : i = g.player
     ·have eq1 : (i == g.player) = true:=by simp [hp]
      have ne1 : (i != g.player) = false:=by simp [hp]
      have HPI:=Lib.hid hp
      clear hp
      cases kb
      ·as_aux_lemma =>
       have HT5:=Lib.hid (HT3.out.setKl HPL.out true)
       rw [show setP g g.player { plr g g.player with kl:=true } = killHit r g i by rw [killHit,if_neg (by rw [HKB.out]; simp),if_pos HPI.out,HPI.out]] at HT5
       have HR5:=Lib.hid (HR3.out.setCell (p:=⟨pb,g.player * 9 + 8,none⟩) (.inr rfl) (.bool true))
       obtain ⟨w5,hw5⟩ : ∃ w5,w3.setCell ⟨pb,g.player * 9 + 8,none⟩ (.bool true) = w5:=⟨_,rfl⟩
       have HW5:=Lib.hid hw5
       rw [hw5] at HT5 HR5
       clear hw5
       go_upto_region 10 with (fail)
       rw [HW5.out]
       clear pk px fz fz8 t1
       obtain ⟨N,hN⟩ : ∃ N,w5.heap.size = N:=⟨_,rfl⟩
       have HN:=Lib.hid hN
       obtain ⟨gg,hgg⟩ : ∃ gg,killHit r g i = gg:=⟨_,rfl⟩
       have hgl : gg.pls.length = g.pls.length:=by rw [← hgg]; exact (killHit_ok HI.out.toInv HK.out HIL.out HOB.out).2.len
       rw [hgg] at HT5 HD2
       obtain ⟨m,hm⟩ : ∃ m,g.pls.length = m:=⟨_,rfl⟩
       have hm8 : m ≤ 8:=by rw [← hm]; exact H8.out
       have t3 : w5.cell? ⟨t,3,none⟩ = some (.slice (some ⟨pb,0,none⟩) m cap):=by rw [← hm,← hgl]; exact HT5.out.at_ rfl
       have HMG : Hid (gg.pls.length = m):=Lib.hid (by rw [hgl,hm])
       have HG:=Lib.hid hgg
       have htN : t < N ∧ pb < N:=by rw [← hN]; exact ⟨HT5.out.lt t (.inl rfl),HT5.out.lt pb (.inr rfl)⟩
       clear hN hgl hgg hm c09
       go_wp2_with fail
       go_loopw [10,11,95] (fun lv _ iv wr => ∃ (k : Nat) (u : Value),u = lv ∧ k ≤ m ∧ iv = .int .i64 k ∧ Hid (wr.ownsRow N 3 1 u (leftK r gg k).length (ints (leftK r gg k))) ∧ Below w5.heap.size w5 wr) (fun _ _ iv _ => m - (intOf iv).toNat)
       case atStart => exact ⟨0,_,rfl,Nat.zero_le _,by go_num,Lib.hid (World.ownsRow_nil _ _ _ _),Below.refl _ _⟩
       case round =>
        obtain ⟨k,u,hu,hkm,rfl,HO,hb⟩ := hrel
        subst hu
        obtain ⟨wo,rfl⟩ : ∃ wo : World,wo = wr:=⟨_,rfl⟩
        have HB:=Lib.hid hb
        replace t3:=bAt hb t3
        have hsN : N ≤ wo.heap.size:=by rw [← HN.out]; exact hb.size
        clear hb
        by_cases hlt : k < m
        ·obtain ⟨o,ho⟩ : ∃ o,isOutG r gg k = o:=⟨_,rfl⟩
         have HOO:=Lib.hid ho
         have HLK:=Lib.hid (leftK_succ r gg k)
         have hlk:=leftK_len r gg k
         clear ho
         go_wp2_with fail
         refine (isOut_r t pb k cap r gg wv nv o HOO wo (HT5.out.below HB.out) (by rw [HMG.out]; exact hlt)).mono ?_
         rintro e w1 ⟨rfl,rfl⟩
         cases o
         ·obtain ⟨ln,hln⟩ : ∃ ln,(leftK r gg k).length = ln:=⟨_,rfl⟩
          have HLN:=Lib.hid hln
          rw [hln] at hlk HO
          clear hln
          go_wp2_with (at_builtin; refine wpList_append1 rfl (.tmp 102) (.tmp 104) 27 rfl N 3 (.int .i64 0) 8 Tryz.underlying27 info3 rfl _ ln _ rfl (HO.out.alloc _) wo.heap.size 0 1 (.int .i64 k) rfl (cell_new _ _ _) rfl (by omega) (by decide) (by simp; omega) ?_)
          intro g' c w2 ho2 hg2 _
          have hb2 : Below w5.heap.size w5 w2:=(bThen HB.out (aB _ _)).trans (below_grownBy hg2 (by rw [HN.out]; simp; omega) fun q hq => by rw [HN.out]; exact (HO.out.lt q hq).1)
          have HO2:=Lib.hid (show w2.ownsRow N 3 1 (.slice (some ⟨g',0,none⟩) (ln + 1) c) (leftK r gg (k + 1)).length (ints (leftK r gg (k + 1))) by rw [HLK.out,HOO.out]; simpa [ints,HLN.out] using ho2)
          have HB2:=Lib.hid hb2
          clear ho2 hg2 hb2
          go_wp2
          go_roundw
          case rel => exact ⟨k + 1,_,rfl,by omega,by go_num,HO2,HB2.out⟩
          case measure => simp [intOf]; omega
         ·have HO2:=Lib.hid (show wo.ownsRow N 3 1 u (leftK r gg (k + 1)).length (ints (leftK r gg (k + 1))) by rw [HLK.out,HOO.out]; simpa using HO.out)
          go_wp2
          go_roundw
          case rel => exact ⟨k + 1,_,rfl,by omega,by go_num,HO2,HB.out⟩
          case measure => simp [intOf]; omega
        ·obtain rfl : k = m:=by omega
         have HLA : Hid (leftK r gg k = leftG r gg):=Lib.hid (by rw [← HMG.out]; rfl)
         have hlk:=leftK_len r gg k
         rw [HLA.out] at HO hlk
         obtain ⟨ln,hln⟩ : ∃ ln,(leftG r gg).length = ln:=⟨_,rfl⟩
         have HLN:=Lib.hid hln
         rw [hln] at hlk HO
         obtain ⟨a,c,hu⟩ := owns_form HO.out
         have HU:=Lib.hid hu
         have HR6:=Lib.hid (HR5.out.ext HB.out)
         have HT6:=Lib.hid (HT5.out.below HB.out)
         have hsl : Sl (WS t pb) wo u (ints (leftG r gg)):=(Sl.of_owns HO.out).mono fun q hq => ⟨by omega,by omega⟩
         have HSL:=Lib.hid hsl
         clear hln hsl hu HO
         rw [HU.out] at HSL ⊢
         clear HU
         by_cases h1 : 1 < ln
         ·have HD3:=Lib.hid (HD2.out.trans (by rw [HLN.out,if_pos h1]))
          go_wp2
          go_ret
          exact ⟨_,rfl,by rw [HD3.out]; exact Sl.nil _ _,by rw [HD3.out]; exact HT6.out,HR6.out⟩
         ·have HD3:=Lib.hid (HD2.out.trans (by rw [HLN.out,if_neg h1]))
          go_wp2
          go_ret
          exact ⟨_,rfl,by rw [HD3.out]; exact HSL.out,by rw [HD3.out]; exact HT6.out,HR6.out⟩
      ·cases hown : r.own
       ·as_aux_lemma =>
        rw [hown] at c09
        have HOW:=Lib.hid hown
        clear hown
        have HT5:=Lib.hid (HT3.out.setKl HPL.out true)
        rw [show setP g g.player { plr g g.player with kl:=true } = killHit r g i by rw [killHit,if_neg (by rw [HOW.out]; simp [HPI.out]),if_pos HPI.out,HPI.out]] at HT5
        have HR5:=Lib.hid (HR3.out.setCell (p:=⟨pb,g.player * 9 + 8,none⟩) (.inr rfl) (.bool true))
        obtain ⟨w5,hw5⟩ : ∃ w5,w3.setCell ⟨pb,g.player * 9 + 8,none⟩ (.bool true) = w5:=⟨_,rfl⟩
        have HW5:=Lib.hid hw5
        rw [hw5] at HT5 HR5
        clear hw5
        go_upto_region 10 with (fail)
        rw [HW5.out]
        clear pk px fz fz8 t1
        obtain ⟨N,hN⟩ : ∃ N,w5.heap.size = N:=⟨_,rfl⟩
        have HN:=Lib.hid hN
        obtain ⟨gg,hgg⟩ : ∃ gg,killHit r g i = gg:=⟨_,rfl⟩
        have hgl : gg.pls.length = g.pls.length:=by rw [← hgg]; exact (killHit_ok HI.out.toInv HK.out HIL.out HOB.out).2.len
        rw [hgg] at HT5 HD2
        obtain ⟨m,hm⟩ : ∃ m,g.pls.length = m:=⟨_,rfl⟩
        have hm8 : m ≤ 8:=by rw [← hm]; exact H8.out
        have t3 : w5.cell? ⟨t,3,none⟩ = some (.slice (some ⟨pb,0,none⟩) m cap):=by rw [← hm,← hgl]; exact HT5.out.at_ rfl
        have HMG : Hid (gg.pls.length = m):=Lib.hid (by rw [hgl,hm])
        have HG:=Lib.hid hgg
        have htN : t < N ∧ pb < N:=by rw [← hN]; exact ⟨HT5.out.lt t (.inl rfl),HT5.out.lt pb (.inr rfl)⟩
        clear hN hgl hgg hm c09
        go_wp2_with fail
        go_loopw [10,11,95] (fun lv _ iv wr => ∃ (k : Nat) (u : Value),u = lv ∧ k ≤ m ∧ iv = .int .i64 k ∧ Hid (wr.ownsRow N 3 1 u (leftK r gg k).length (ints (leftK r gg k))) ∧ Below w5.heap.size w5 wr) (fun _ _ iv _ => m - (intOf iv).toNat)
        case atStart => exact ⟨0,_,rfl,Nat.zero_le _,by go_num,Lib.hid (World.ownsRow_nil _ _ _ _),Below.refl _ _⟩
        case round =>
         obtain ⟨k,u,hu,hkm,rfl,HO,hb⟩ := hrel
         subst hu
         obtain ⟨wo,rfl⟩ : ∃ wo : World,wo = wr:=⟨_,rfl⟩
         have HB:=Lib.hid hb
         replace t3:=bAt hb t3
         have hsN : N ≤ wo.heap.size:=by rw [← HN.out]; exact hb.size
         clear hb
         by_cases hlt : k < m
         ·obtain ⟨o,ho⟩ : ∃ o,isOutG r gg k = o:=⟨_,rfl⟩
          have HOO:=Lib.hid ho
          have HLK:=Lib.hid (leftK_succ r gg k)
          have hlk:=leftK_len r gg k
          clear ho
          go_wp2_with fail
          refine (isOut_r t pb k cap r gg wv nv o HOO wo (HT5.out.below HB.out) (by rw [HMG.out]; exact hlt)).mono ?_
          rintro e w1 ⟨rfl,rfl⟩
          cases o
          ·obtain ⟨ln,hln⟩ : ∃ ln,(leftK r gg k).length = ln:=⟨_,rfl⟩
           have HLN:=Lib.hid hln
           rw [hln] at hlk HO
           clear hln
           go_wp2_with (at_builtin; refine wpList_append1 rfl (.tmp 102) (.tmp 104) 27 rfl N 3 (.int .i64 0) 8 Tryz.underlying27 info3 rfl _ ln _ rfl (HO.out.alloc _) wo.heap.size 0 1 (.int .i64 k) rfl (cell_new _ _ _) rfl (by omega) (by decide) (by simp; omega) ?_)
           intro g' c w2 ho2 hg2 _
           have hb2 : Below w5.heap.size w5 w2:=(bThen HB.out (aB _ _)).trans (below_grownBy hg2 (by rw [HN.out]; simp; omega) fun q hq => by rw [HN.out]; exact (HO.out.lt q hq).1)
           have HO2:=Lib.hid (show w2.ownsRow N 3 1 (.slice (some ⟨g',0,none⟩) (ln + 1) c) (leftK r gg (k + 1)).length (ints (leftK r gg (k + 1))) by rw [HLK.out,HOO.out]; simpa [ints,HLN.out] using ho2)
           have HB2:=Lib.hid hb2
           clear ho2 hg2 hb2
           go_wp2
           go_roundw
           case rel => exact ⟨k + 1,_,rfl,by omega,by go_num,HO2,HB2.out⟩
           case measure => simp [intOf]; omega
          ·have HO2:=Lib.hid (show wo.ownsRow N 3 1 u (leftK r gg (k + 1)).length (ints (leftK r gg (k + 1))) by rw [HLK.out,HOO.out]; simpa using HO.out)
           go_wp2
           go_roundw
           case rel => exact ⟨k + 1,_,rfl,by omega,by go_num,HO2,HB.out⟩
           case measure => simp [intOf]; omega
         ·obtain rfl : k = m:=by omega
          have HLA : Hid (leftK r gg k = leftG r gg):=Lib.hid (by rw [← HMG.out]; rfl)
          have hlk:=leftK_len r gg k
          rw [HLA.out] at HO hlk
          obtain ⟨ln,hln⟩ : ∃ ln,(leftG r gg).length = ln:=⟨_,rfl⟩
          have HLN:=Lib.hid hln
          rw [hln] at hlk HO
          obtain ⟨a,c,hu⟩ := owns_form HO.out
          have HU:=Lib.hid hu
          have HR6:=Lib.hid (HR5.out.ext HB.out)
          have HT6:=Lib.hid (HT5.out.below HB.out)
          have hsl : Sl (WS t pb) wo u (ints (leftG r gg)):=(Sl.of_owns HO.out).mono fun q hq => ⟨by omega,by omega⟩
          have HSL:=Lib.hid hsl
          clear hln hsl hu HO
          rw [HU.out] at HSL ⊢
          clear HU
          by_cases h1 : 1 < ln
          ·have HD3:=Lib.hid (HD2.out.trans (by rw [HLN.out,if_pos h1]))
           go_wp2
           go_ret
           exact ⟨_,rfl,by rw [HD3.out]; exact Sl.nil _ _,by rw [HD3.out]; exact HT6.out,HR6.out⟩
          ·have HD3:=Lib.hid (HD2.out.trans (by rw [HLN.out,if_neg h1]))
           go_wp2
           go_ret
           exact ⟨_,rfl,by rw [HD3.out]; exact HSL.out,by rw [HD3.out]; exact HT6.out,HR6.out⟩
       ·as_aux_lemma =>
        rw [hown] at c09
        have HOW:=Lib.hid hown
        clear hown
        have HT5:=Lib.hid (HT3.out.setPts HIL.out (x - 1))
        rw [show setP g i { plr g i with pts:=x - 1 } = killHit r g i by rw [killHit,if_pos (.inr ⟨HPI.out,HKB.out,HOW.out⟩),HX.out]] at HT5
        have HR5:=Lib.hid (HR3.out.setCell (p:=⟨pb,i * 9,none⟩) (.inr rfl) (.int .i64 (x - 1)))
        obtain ⟨w5,hw5⟩ : ∃ w5,w3.setCell ⟨pb,i * 9,none⟩ (.int .i64 (x - 1)) = w5:=⟨_,rfl⟩
        have HW5:=Lib.hid hw5
        rw [hw5] at HT5 HR5
        clear hw5
        go_upto_region 10 with (fail)
        rw [HW5.out]
        clear pk px fz fz8 t1
        obtain ⟨N,hN⟩ : ∃ N,w5.heap.size = N:=⟨_,rfl⟩
        have HN:=Lib.hid hN
        obtain ⟨gg,hgg⟩ : ∃ gg,killHit r g i = gg:=⟨_,rfl⟩
        have hgl : gg.pls.length = g.pls.length:=by rw [← hgg]; exact (killHit_ok HI.out.toInv HK.out HIL.out HOB.out).2.len
        rw [hgg] at HT5 HD2
        obtain ⟨m,hm⟩ : ∃ m,g.pls.length = m:=⟨_,rfl⟩
        have hm8 : m ≤ 8:=by rw [← hm]; exact H8.out
        have t3 : w5.cell? ⟨t,3,none⟩ = some (.slice (some ⟨pb,0,none⟩) m cap):=by rw [← hm,← hgl]; exact HT5.out.at_ rfl
        have HMG : Hid (gg.pls.length = m):=Lib.hid (by rw [hgl,hm])
        have HG:=Lib.hid hgg
        have htN : t < N ∧ pb < N:=by rw [← hN]; exact ⟨HT5.out.lt t (.inl rfl),HT5.out.lt pb (.inr rfl)⟩
        clear hN hgl hgg hm c09
        go_wp2_with fail
        go_loopw [10,11,95] (fun lv _ iv wr => ∃ (k : Nat) (u : Value),u = lv ∧ k ≤ m ∧ iv = .int .i64 k ∧ Hid (wr.ownsRow N 3 1 u (leftK r gg k).length (ints (leftK r gg k))) ∧ Below w5.heap.size w5 wr) (fun _ _ iv _ => m - (intOf iv).toNat)
        case atStart => exact ⟨0,_,rfl,Nat.zero_le _,by go_num,Lib.hid (World.ownsRow_nil _ _ _ _),Below.refl _ _⟩
        case round =>
         obtain ⟨k,u,hu,hkm,rfl,HO,hb⟩ := hrel
         subst hu
         obtain ⟨wo,rfl⟩ : ∃ wo : World,wo = wr:=⟨_,rfl⟩
         have HB:=Lib.hid hb
         replace t3:=bAt hb t3
         have hsN : N ≤ wo.heap.size:=by rw [← HN.out]; exact hb.size
         clear hb
         by_cases hlt : k < m
         ·obtain ⟨o,ho⟩ : ∃ o,isOutG r gg k = o:=⟨_,rfl⟩
          have HOO:=Lib.hid ho
          have HLK:=Lib.hid (leftK_succ r gg k)
          have hlk:=leftK_len r gg k
          clear ho
          go_wp2_with fail
          refine (isOut_r t pb k cap r gg wv nv o HOO wo (HT5.out.below HB.out) (by rw [HMG.out]; exact hlt)).mono ?_
          rintro e w1 ⟨rfl,rfl⟩
          cases o
          ·obtain ⟨ln,hln⟩ : ∃ ln,(leftK r gg k).length = ln:=⟨_,rfl⟩
           have HLN:=Lib.hid hln
           rw [hln] at hlk HO
           clear hln
           go_wp2_with (at_builtin; refine wpList_append1 rfl (.tmp 102) (.tmp 104) 27 rfl N 3 (.int .i64 0) 8 Tryz.underlying27 info3 rfl _ ln _ rfl (HO.out.alloc _) wo.heap.size 0 1 (.int .i64 k) rfl (cell_new _ _ _) rfl (by omega) (by decide) (by simp; omega) ?_)
           intro g' c w2 ho2 hg2 _
           have hb2 : Below w5.heap.size w5 w2:=(bThen HB.out (aB _ _)).trans (below_grownBy hg2 (by rw [HN.out]; simp; omega) fun q hq => by rw [HN.out]; exact (HO.out.lt q hq).1)
           have HO2:=Lib.hid (show w2.ownsRow N 3 1 (.slice (some ⟨g',0,none⟩) (ln + 1) c) (leftK r gg (k + 1)).length (ints (leftK r gg (k + 1))) by rw [HLK.out,HOO.out]; simpa [ints,HLN.out] using ho2)
           have HB2:=Lib.hid hb2
           clear ho2 hg2 hb2
           go_wp2
           go_roundw
           case rel => exact ⟨k + 1,_,rfl,by omega,by go_num,HO2,HB2.out⟩
           case measure => simp [intOf]; omega
          ·have HO2:=Lib.hid (show wo.ownsRow N 3 1 u (leftK r gg (k + 1)).length (ints (leftK r gg (k + 1))) by rw [HLK.out,HOO.out]; simpa using HO.out)
           go_wp2
           go_roundw
           case rel => exact ⟨k + 1,_,rfl,by omega,by go_num,HO2,HB.out⟩
           case measure => simp [intOf]; omega
         ·obtain rfl : k = m:=by omega
          have HLA : Hid (leftK r gg k = leftG r gg):=Lib.hid (by rw [← HMG.out]; rfl)
          have hlk:=leftK_len r gg k
          rw [HLA.out] at HO hlk
          obtain ⟨ln,hln⟩ : ∃ ln,(leftG r gg).length = ln:=⟨_,rfl⟩
          have HLN:=Lib.hid hln
          rw [hln] at hlk HO
          obtain ⟨a,c,hu⟩ := owns_form HO.out
          have HU:=Lib.hid hu
          have HR6:=Lib.hid (HR5.out.ext HB.out)
          have HT6:=Lib.hid (HT5.out.below HB.out)
          have hsl : Sl (WS t pb) wo u (ints (leftG r gg)):=(Sl.of_owns HO.out).mono fun q hq => ⟨by omega,by omega⟩
          have HSL:=Lib.hid hsl
          clear hln hsl hu HO
          rw [HU.out] at HSL ⊢
          clear HU
          by_cases h1 : 1 < ln
          ·have HD3:=Lib.hid (HD2.out.trans (by rw [HLN.out,if_pos h1]))
           go_wp2
           go_ret
           exact ⟨_,rfl,by rw [HD3.out]; exact Sl.nil _ _,by rw [HD3.out]; exact HT6.out,HR6.out⟩
          ·have HD3:=Lib.hid (HD2.out.trans (by rw [HLN.out,if_neg h1]))
           go_wp2
           go_ret
           exact ⟨_,rfl,by rw [HD3.out]; exact HSL.out,by rw [HD3.out]; exact HT6.out,HR6.out⟩
     ·have eq1 : (i == g.player) = false:=by simp [hp]
      have ne1 : (i != g.player) = true:=by simp [hp]
      have eq2 : decide (i = g.player) = false:=decide_eq_false hp
      have eq3 : ((i : Int) == (g.player : Int)) = false:=beq_eq_false_iff_ne.2 (by omega)
      have ne3 : ((i : Int) != (g.player : Int)) = true:=by simp [bne,eq3]
      have HPI:=Lib.hid hp
      clear hp
      cases kb
      ·as_aux_lemma =>
       have HT5:=HT3
       rw [show g = killHit r g i by rw [killHit,if_neg (by rw [HKB.out]; simp),if_neg HPI.out]] at HT5
       have HR5:=HR3
       go_upto_region 10 with (fail)
       clear pk px fz fz8 t1
       obtain ⟨N,hN⟩ : ∃ N,w3.heap.size = N:=⟨_,rfl⟩
       have HN:=Lib.hid hN
       obtain ⟨gg,hgg⟩ : ∃ gg,killHit r g i = gg:=⟨_,rfl⟩
       have hgl : gg.pls.length = g.pls.length:=by rw [← hgg]; exact (killHit_ok HI.out.toInv HK.out HIL.out HOB.out).2.len
       rw [hgg] at HT5 HD2
       obtain ⟨m,hm⟩ : ∃ m,g.pls.length = m:=⟨_,rfl⟩
       have hm8 : m ≤ 8:=by rw [← hm]; exact H8.out
       have t3 : w3.cell? ⟨t,3,none⟩ = some (.slice (some ⟨pb,0,none⟩) m cap):=by rw [← hm,← hgl]; exact HT5.out.at_ rfl
       have HMG : Hid (gg.pls.length = m):=Lib.hid (by rw [hgl,hm])
       have HG:=Lib.hid hgg
       have htN : t < N ∧ pb < N:=by rw [← hN]; exact ⟨HT5.out.lt t (.inl rfl),HT5.out.lt pb (.inr rfl)⟩
       clear hN hgl hgg hm c09
       go_wp2_with fail
       go_loopw [10,11,95] (fun lv _ iv wr => ∃ (k : Nat) (u : Value),u = lv ∧ k ≤ m ∧ iv = .int .i64 k ∧ Hid (wr.ownsRow N 3 1 u (leftK r gg k).length (ints (leftK r gg k))) ∧ Below w3.heap.size w3 wr) (fun _ _ iv _ => m - (intOf iv).toNat)
       case atStart => exact ⟨0,_,rfl,Nat.zero_le _,by go_num,Lib.hid (World.ownsRow_nil _ _ _ _),Below.refl _ _⟩
       case round =>
        obtain ⟨k,u,hu,hkm,rfl,HO,hb⟩ := hrel
        subst hu
        obtain ⟨wo,rfl⟩ : ∃ wo : World,wo = wr:=⟨_,rfl⟩
        have HB:=Lib.hid hb
        replace t3:=bAt hb t3
        have hsN : N ≤ wo.heap.size:=by rw [← HN.out]; exact hb.size
        clear hb
        by_cases hlt : k < m
        ·obtain ⟨o,ho⟩ : ∃ o,isOutG r gg k = o:=⟨_,rfl⟩
         have HOO:=Lib.hid ho
         have HLK:=Lib.hid (leftK_succ r gg k)
         have hlk:=leftK_len r gg k
         clear ho
         go_wp2_with fail
         refine (isOut_r t pb k cap r gg wv nv o HOO wo (HT5.out.below HB.out) (by rw [HMG.out]; exact hlt)).mono ?_
         rintro e w1 ⟨rfl,rfl⟩
         cases o
         ·obtain ⟨ln,hln⟩ : ∃ ln,(leftK r gg k).length = ln:=⟨_,rfl⟩
          have HLN:=Lib.hid hln
          rw [hln] at hlk HO
          clear hln
          go_wp2_with (at_builtin; refine wpList_append1 rfl (.tmp 102) (.tmp 104) 27 rfl N 3 (.int .i64 0) 8 Tryz.underlying27 info3 rfl _ ln _ rfl (HO.out.alloc _) wo.heap.size 0 1 (.int .i64 k) rfl (cell_new _ _ _) rfl (by omega) (by decide) (by simp; omega) ?_)
          intro g' c w2 ho2 hg2 _
          have hb2 : Below w3.heap.size w3 w2:=(bThen HB.out (aB _ _)).trans (below_grownBy hg2 (by rw [HN.out]; simp; omega) fun q hq => by rw [HN.out]; exact (HO.out.lt q hq).1)
          have HO2:=Lib.hid (show w2.ownsRow N 3 1 (.slice (some ⟨g',0,none⟩) (ln + 1) c) (leftK r gg (k + 1)).length (ints (leftK r gg (k + 1))) by rw [HLK.out,HOO.out]; simpa [ints,HLN.out] using ho2)
          have HB2:=Lib.hid hb2
          clear ho2 hg2 hb2
          go_wp2
          go_roundw
          case rel => exact ⟨k + 1,_,rfl,by omega,by go_num,HO2,HB2.out⟩
          case measure => simp [intOf]; omega
         ·have HO2:=Lib.hid (show wo.ownsRow N 3 1 u (leftK r gg (k + 1)).length (ints (leftK r gg (k + 1))) by rw [HLK.out,HOO.out]; simpa using HO.out)
          go_wp2
          go_roundw
          case rel => exact ⟨k + 1,_,rfl,by omega,by go_num,HO2,HB.out⟩
          case measure => simp [intOf]; omega
        ·obtain rfl : k = m:=by omega
         have HLA : Hid (leftK r gg k = leftG r gg):=Lib.hid (by rw [← HMG.out]; rfl)
         have hlk:=leftK_len r gg k
         rw [HLA.out] at HO hlk
         obtain ⟨ln,hln⟩ : ∃ ln,(leftG r gg).length = ln:=⟨_,rfl⟩
         have HLN:=Lib.hid hln
         rw [hln] at hlk HO
         obtain ⟨a,c,hu⟩ := owns_form HO.out
         have HU:=Lib.hid hu
         have HR6:=Lib.hid (HR5.out.ext HB.out)
         have HT6:=Lib.hid (HT5.out.below HB.out)
         have hsl : Sl (WS t pb) wo u (ints (leftG r gg)):=(Sl.of_owns HO.out).mono fun q hq => ⟨by omega,by omega⟩
         have HSL:=Lib.hid hsl
         clear hln hsl hu HO
         rw [HU.out] at HSL ⊢
         clear HU
         by_cases h1 : 1 < ln
         ·have HD3:=Lib.hid (HD2.out.trans (by rw [HLN.out,if_pos h1]))
          go_wp2
          go_ret
          exact ⟨_,rfl,by rw [HD3.out]; exact Sl.nil _ _,by rw [HD3.out]; exact HT6.out,HR6.out⟩
         ·have HD3:=Lib.hid (HD2.out.trans (by rw [HLN.out,if_neg h1]))
          go_wp2
          go_ret
          exact ⟨_,rfl,by rw [HD3.out]; exact HSL.out,by rw [HD3.out]; exact HT6.out,HR6.out⟩
      ·as_aux_lemma =>
       have HT5:=Lib.hid (HT3.out.setPts HIL.out (x - 1))
       rw [show setP g i { plr g i with pts:=x - 1 } = killHit r g i by rw [killHit,if_pos (.inl ⟨HPI.out,HKB.out⟩),HX.out]] at HT5
       have HR5:=Lib.hid (HR3.out.setCell (p:=⟨pb,i * 9,none⟩) (.inr rfl) (.int .i64 (x - 1)))
       obtain ⟨w5,hw5⟩ : ∃ w5,w3.setCell ⟨pb,i * 9,none⟩ (.int .i64 (x - 1)) = w5:=⟨_,rfl⟩
       have HW5:=Lib.hid hw5
       rw [hw5] at HT5 HR5
       clear hw5
       go_upto_region 10 with (fail)
       rw [HW5.out]
       clear pk px fz fz8 t1
       obtain ⟨N,hN⟩ : ∃ N,w5.heap.size = N:=⟨_,rfl⟩
       have HN:=Lib.hid hN
       obtain ⟨gg,hgg⟩ : ∃ gg,killHit r g i = gg:=⟨_,rfl⟩
       have hgl : gg.pls.length = g.pls.length:=by rw [← hgg]; exact (killHit_ok HI.out.toInv HK.out HIL.out HOB.out).2.len
       rw [hgg] at HT5 HD2
       obtain ⟨m,hm⟩ : ∃ m,g.pls.length = m:=⟨_,rfl⟩
       have hm8 : m ≤ 8:=by rw [← hm]; exact H8.out
       have t3 : w5.cell? ⟨t,3,none⟩ = some (.slice (some ⟨pb,0,none⟩) m cap):=by rw [← hm,← hgl]; exact HT5.out.at_ rfl
       have HMG : Hid (gg.pls.length = m):=Lib.hid (by rw [hgl,hm])
       have HG:=Lib.hid hgg
       have htN : t < N ∧ pb < N:=by rw [← hN]; exact ⟨HT5.out.lt t (.inl rfl),HT5.out.lt pb (.inr rfl)⟩
       clear hN hgl hgg hm c09
       go_wp2_with fail
       go_loopw [10,11,95] (fun lv _ iv wr => ∃ (k : Nat) (u : Value),u = lv ∧ k ≤ m ∧ iv = .int .i64 k ∧ Hid (wr.ownsRow N 3 1 u (leftK r gg k).length (ints (leftK r gg k))) ∧ Below w5.heap.size w5 wr) (fun _ _ iv _ => m - (intOf iv).toNat)
       case atStart => exact ⟨0,_,rfl,Nat.zero_le _,by go_num,Lib.hid (World.ownsRow_nil _ _ _ _),Below.refl _ _⟩
       case round =>
        obtain ⟨k,u,hu,hkm,rfl,HO,hb⟩ := hrel
        subst hu
        obtain ⟨wo,rfl⟩ : ∃ wo : World,wo = wr:=⟨_,rfl⟩
        have HB:=Lib.hid hb
        replace t3:=bAt hb t3
        have hsN : N ≤ wo.heap.size:=by rw [← HN.out]; exact hb.size
        clear hb
        by_cases hlt : k < m
        ·obtain ⟨o,ho⟩ : ∃ o,isOutG r gg k = o:=⟨_,rfl⟩
         have HOO:=Lib.hid ho
         have HLK:=Lib.hid (leftK_succ r gg k)
         have hlk:=leftK_len r gg k
         clear ho
         go_wp2_with fail
         refine (isOut_r t pb k cap r gg wv nv o HOO wo (HT5.out.below HB.out) (by rw [HMG.out]; exact hlt)).mono ?_
         rintro e w1 ⟨rfl,rfl⟩
         cases o
         ·obtain ⟨ln,hln⟩ : ∃ ln,(leftK r gg k).length = ln:=⟨_,rfl⟩
          have HLN:=Lib.hid hln
          rw [hln] at hlk HO
          clear hln
          go_wp2_with (at_builtin; refine wpList_append1 rfl (.tmp 102) (.tmp 104) 27 rfl N 3 (.int .i64 0) 8 Tryz.underlying27 info3 rfl _ ln _ rfl (HO.out.alloc _) wo.heap.size 0 1 (.int .i64 k) rfl (cell_new _ _ _) rfl (by omega) (by decide) (by simp; omega) ?_)
          intro g' c w2 ho2 hg2 _
          have hb2 : Below w5.heap.size w5 w2:=(bThen HB.out (aB _ _)).trans (below_grownBy hg2 (by rw [HN.out]; simp; omega) fun q hq => by rw [HN.out]; exact (HO.out.lt q hq).1)
          have HO2:=Lib.hid (show w2.ownsRow N 3 1 (.slice (some ⟨g',0,none⟩) (ln + 1) c) (leftK r gg (k + 1)).length (ints (leftK r gg (k + 1))) by rw [HLK.out,HOO.out]; simpa [ints,HLN.out] using ho2)
          have HB2:=Lib.hid hb2
          clear ho2 hg2 hb2
          go_wp2
          go_roundw
          case rel => exact ⟨k + 1,_,rfl,by omega,by go_num,HO2,HB2.out⟩
          case measure => simp [intOf]; omega
         ·have HO2:=Lib.hid (show wo.ownsRow N 3 1 u (leftK r gg (k + 1)).length (ints (leftK r gg (k + 1))) by rw [HLK.out,HOO.out]; simpa using HO.out)
          go_wp2
          go_roundw
          case rel => exact ⟨k + 1,_,rfl,by omega,by go_num,HO2,HB.out⟩
          case measure => simp [intOf]; omega
        ·obtain rfl : k = m:=by omega
         have HLA : Hid (leftK r gg k = leftG r gg):=Lib.hid (by rw [← HMG.out]; rfl)
         have hlk:=leftK_len r gg k
         rw [HLA.out] at HO hlk
         obtain ⟨ln,hln⟩ : ∃ ln,(leftG r gg).length = ln:=⟨_,rfl⟩
         have HLN:=Lib.hid hln
         rw [hln] at hlk HO
         obtain ⟨a,c,hu⟩ := owns_form HO.out
         have HU:=Lib.hid hu
         have HR6:=Lib.hid (HR5.out.ext HB.out)
         have HT6:=Lib.hid (HT5.out.below HB.out)
         have hsl : Sl (WS t pb) wo u (ints (leftG r gg)):=(Sl.of_owns HO.out).mono fun q hq => ⟨by omega,by omega⟩
         have HSL:=Lib.hid hsl
         clear hln hsl hu HO
         rw [HU.out] at HSL ⊢
         clear HU
         by_cases h1 : 1 < ln
         ·have HD3:=Lib.hid (HD2.out.trans (by rw [HLN.out,if_pos h1]))
          go_wp2
          go_ret
          exact ⟨_,rfl,by rw [HD3.out]; exact Sl.nil _ _,by rw [HD3.out]; exact HT6.out,HR6.out⟩
         ·have HD3:=Lib.hid (HD2.out.trans (by rw [HLN.out,if_neg h1]))
          go_wp2
          go_ret
          exact ⟨_,rfl,by rw [HD3.out]; exact HSL.out,by rw [HD3.out]; exact HT6.out,HR6.out⟩
   ·have HD2 : Hid (d = (g,[])):=Lib.hid (HD1.out.trans (by rw [if_pos (.inr HOB.out)]))
    clear HD HD1 hfb
    go_wp2
    go_ret
    exact ⟨_,rfl,by rw [HD2.out]; exact Sl.nil _ _,by rw [HD2.out]; exact HT.out,Rel.of_below HB0.out HH.out.lt⟩
  ·have HD2 : Hid (d = (g,[])):=Lib.hid (HD1.out.trans (by rw [if_pos (.inl (by simpa using HFB.out))]))
   clear HD HD1
   go_wp2
   go_ret
   exact ⟨_,rfl,by rw [HD2.out]; exact Sl.nil _ _,by rw [HD2.out]; exact HT.out,Rel.of_below HB0.out HH.out.lt⟩
end Go.Proofs.YtnhggfnnolfcdaaGreat

/- Chapter 4: all players but one (others). -/
namespace Go.Proofs.YtnhggfnnolfcdaaGreat
open Go.RowKit Go.Oche Go.Proofs
attribute [local go_sem] Oper.semAt_some
def encO (pb : Nat) : Nat → Array Value → (Nat → Prop) → World → Prop:=fun i args _ _ => args = #[.int .i64 i,.pointer (some ⟨pb,i * 9,none⟩)]
def othK (p k : Nat) : List Nat:=(List.range k).filter fun i => i != p
theorem othK_succ (p k : Nat) : othK p (k + 1) = othK p k ++ if k = p then [] else [k]:=by
 unfold othK
 rw [List.range_succ,List.filter_append]
 congr 1
 by_cases h : k = p <;> simp [h]
theorem othK_split {p k n : Nat} (hk : k < n) (hp : k ≠ p) : ∃ post,othK p n = othK p k ++ k :: post:=by
 induction n with
 | zero => omega
 | succ n ih =>
  by_cases e : k = n
  ·subst e; exact ⟨[],by rw [othK_succ,if_neg hp]⟩
  ·obtain ⟨post,h⟩ := ih (by omega)
   exact ⟨post ++ if n = p then [] else [n],by rw [othK_succ,h]; simp⟩
theorem othK_prefix {p k n : Nat} (hk : k < n) (hp : k ≠ p) : othK p (k + 1) <+: othK p n:=by
 obtain ⟨post,h⟩ := othK_split hk hp
 exact ⟨post,by rw [h,othK_succ,if_neg hp]; simp⟩
set_option maxRecDepth 100000 in
set_option maxHeartbeats 1000000 in
theorem others_in (t pb cap pl n : Nat) (w : World) (Rs : Nat → Prop) (c1 : w.cell? ⟨t,1,none⟩ = some (.int .i64 pl)) (c3 : w.cell? ⟨t,3,none⟩ = some (.slice (some ⟨pb,0,none⟩) n cap)) (hn : n ≤ cap ∧ cap ≤ 9223372036854775807) (r1 : Rs t) :
  IterIn 3 Tryz.prog 116 #[.pointer (some ⟨t,0,none⟩)] #[] (encO pb) (othK pl n) Rs w:=by
 intro l J Jx O W hBW hO hRs hJ hJx hY h0
 have c1':=bAt hBW c1
 have c3':=bAt hBW c3
 have n1:=(hRs t r1).2
 have HY:=Lib.hid hY
 clear hY hRs c1 c3
 refine callsIn_of_wp Tryz.func116 rfl trivial ?_ rfl
 simp only [Tryz.ntmps116,List.size_toArray,List.length_cons,List.length_nil,Nat.reduceAdd,Nat.reduceSub,Array.replicate_succ,Array.replicate_zero,List.push_toArray,List.append_toArray,List.nil_append,List.cons_append]
 gi_wp2
 gi_loopw [4,11] (fun _ i wr => ∃ (k : Nat) (O₁ : Nat → Prop),k ≤ n ∧ i = .int .i64 k ∧ Rel O W O₁ wr ∧ J (othK pl k) O₁ wr) (fun _ i _ => n - (intOf i).toNat)
 case atStart => exact ⟨0,O,Nat.zero_le _,rfl,Rel.refl hO,h0⟩
 case round =>
  obtain ⟨k,O₁,hk,rfl,hr,hj⟩ := hrel
  obtain ⟨wi,rfl⟩ : ∃ wi : World,wi = wr:=⟨_,rfl⟩
  have HJ:=Lib.hid hj
  have d1:=rAt hr c1' n1
  have d3:=rAt hr c3' n1
  clear hj c1' c3'
  by_cases hlt : k < n
  ·by_cases hp : k = pl
   ·have HJ2 : Hid (J (othK pl (k + 1)) O₁ wi):=Lib.hid (by rw [othK_succ,if_pos hp]; simpa using HJ.out)
    clear HJ
    obtain rfl : pl = k:=hp.symm
    clear hp
    gi_wp2_with (refine wpListIn_skip (by rfl) (by rfl) ?_)
    go_roundw
    case rel => exact ⟨pl + 1,O₁,by omega,by go_num,hr,HJ2.out⟩
    case measure => simp [intOf]; omega
   ·have eq1 : (k != pl) = true:=by simp [hp]
    have eq2 : ((k : Int) != (pl : Int)) = true:=by simp; omega
    obtain ⟨post,hsplit⟩ := othK_split hlt hp
    have htk : othK pl k ++ [k] = othK pl (k + 1):=by rw [othK_succ,if_neg hp]
    have HTK:=Lib.hid htk
    have HPX:=Lib.hid (othK_prefix hlt hp)
    obtain ⟨fn,tmps,assign,body,hy,hR⟩ := HY.out (othK pl k) k post #[.int .i64 k,.pointer (some ⟨pb,k * 9,none⟩)] O₁ wi hsplit hr HJ.out rfl
    have HRo:=Lib.hid hR
    clear hR hsplit htk hp HJ
    gi_wp2_with fail
    refine ⟨rfl,RoundIn.mono HRo.out ?_⟩
    rintro e W3 ⟨O',hr3,(⟨rfl,hj3⟩ | ⟨rfl,hj3⟩)⟩
    ·have HJ3:=Lib.hid (show J (othK pl (k + 1)) O' W3 by rw [← HTK.out]; exact hj3)
     have hr4:=hr.trans hr3
     clear hj3 d1 d3 hr hr3
     gi_wp2
     go_roundw
     case rel => exact ⟨k + 1,O',by omega,by go_num,hr4,HJ3.out⟩
     case measure => simp [intOf]; omega
    ·have HJ3:=Lib.hid (show Jx (othK pl (k + 1)) O' W3 by rw [← HTK.out]; exact hj3)
     have hr4:=hr.trans hr3
     clear hj3 d1 d3 hr hr3
     gi_wp2
     refine bodyPost_ret (results_none rfl _ _ _) rfl ?_
     exact ⟨⟨_,rfl⟩,O',hr4,.inr ⟨_,HPX.out,HJ3.out⟩⟩
  ·obtain rfl : k = n:=by omega
   clear d1 d3
   gi_wp2
   go_end0
   exact ⟨⟨_,rfl⟩,O₁,hr,.inl HJ.out⟩
end Go.Proofs.YtnhggfnnolfcdaaGreat
