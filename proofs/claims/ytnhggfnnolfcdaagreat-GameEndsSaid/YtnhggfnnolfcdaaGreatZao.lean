/- The texts HO, HN, HP, in build order. -/
import Derived.Test.YtnhggfnnolfcdaaGreatZan

/- Chapter 4: methods of a law by its kind. -/
namespace Go.Proofs.YtnhggfnnolfcdaaGreat
open Go.RowKit Go.Oche Go.Proofs
theorem m_begin1 (A : Array Value) (w : World) : (method 271 110 (.agg A) "oche/game.begin").run Tryz.prog w = .ok (98, .agg A) w := by kernel_rfl
theorem m_dart1 (A : Array Value) (w : World) : (method 271 110 (.agg A) "oche/game.dart").run Tryz.prog w = .ok (100, .agg A) w := by kernel_rfl
theorem m_compare1 (A : Array Value) (w : World) : (method 271 110 (.agg A) "oche/game.compare").run Tryz.prog w = .ok (99, .agg A) w := by kernel_rfl
theorem m_begin2 (A : Array Value) (w : World) : (method 271 111 (.agg A) "oche/game.begin").run Tryz.prog w = .ok (107, .agg A) w := by kernel_rfl
theorem m_dart2 (A : Array Value) (w : World) : (method 271 111 (.agg A) "oche/game.dart").run Tryz.prog w = .ok (109, .agg A) w := by kernel_rfl
theorem m_end2 (A : Array Value) (w : World) : (method 271 111 (.agg A) "oche/game.end").run Tryz.prog w = .ok (110, .agg A) w := by kernel_rfl
theorem m_compare2 (A : Array Value) (w : World) : (method 271 111 (.agg A) "oche/game.compare").run Tryz.prog w = .ok (108, .agg A) w := by kernel_rfl
theorem m_begin3 (A : Array Value) (w : World) : (method 271 112 (.agg A) "oche/game.begin").run Tryz.prog w = .ok (119, .agg A) w := by kernel_rfl
theorem m_dart3 (A : Array Value) (w : World) : (method 271 112 (.agg A) "oche/game.dart").run Tryz.prog w = .ok (121, .agg A) w := by kernel_rfl
theorem m_end3 (A : Array Value) (w : World) : (method 271 112 (.agg A) "oche/game.end").run Tryz.prog w = .ok (122, .agg A) w := by kernel_rfl
theorem m_compare3 (A : Array Value) (w : World) : (method 271 112 (.agg A) "oche/game.compare").run Tryz.prog w = .ok (120, .agg A) w := by kernel_rfl
theorem m_begin4 (A : Array Value) (w : World) : (method 271 113 (.agg A) "oche/game.begin").run Tryz.prog w = .ok (123, .agg A) w := by kernel_rfl
theorem m_dart4 (A : Array Value) (w : World) : (method 271 113 (.agg A) "oche/game.dart").run Tryz.prog w = .ok (125, .agg A) w := by kernel_rfl
theorem m_compare4 (A : Array Value) (w : World) : (method 271 113 (.agg A) "oche/game.compare").run Tryz.prog w = .ok (124, .agg A) w := by kernel_rfl
end Go.Proofs.YtnhggfnnolfcdaaGreat

/- Chapter 4: the end of a game, the next player. -/
namespace Go.Proofs.YtnhggfnnolfcdaaGreat
open Go.RowKit Go.Oche Go.Proofs
def kBest (S : Nat → Prop) (xs : List Value) : Kn where
 s:=fun v => ∃ a c,v = .slice a xs.length c
 p:=fun v w => Sl S w v xs
 m:=fun _ _ _ hb h => h.below hb
set_option maxRecDepth 100000 in
set_option maxHeartbeats 4000000 in
theorem end2_any (t pb cap : Nat) (r : Rul) (g : Gam) (wv nv : Value) (M : Int) (w : World) (h : TabAt w t pb r g cap wv nv) (hi : Inv r M g) (kd : r.kind = 2) :
  Calls Tryz.prog 110 #[.agg (rulA r nv),.pointer (some ⟨t,0,none⟩)] w fun e w' => ∃ v,e = .returned v ∧ Below w.heap.size w w' ∧ Sl (WS t pb) w' v (ints (bestG r g.pls)):=by
 unfold rulA
 obtain ⟨w0,hw0⟩ : ∃ w0,w.alloc (.cells #[.int .i64 r.kind,.int .i64 r.players,.int .i64 r.last,.bool r.bull,.bool r.jump,.int .i64 r.rounds,.bool r.cut,nv,.int .i64 r.lives,.bool r.own] 111) = w0:=⟨_,rfl⟩
 have hb0 : Below w.heap.size w w0:=by rw [← hw0]; exact aB _ _
 obtain ⟨q,hq⟩ : ∃ q,w.heap.size = q:=⟨_,rfl⟩
 have k0 : w0.heap[q]? = some (.cells #[.int .i64 r.kind,.int .i64 r.players,.int .i64 r.last,.bool r.bull,.bool r.jump,.int .i64 r.rounds,.bool r.cut,nv,.int .i64 r.lives,.bool r.own] 111 (0,0)):=by rw [← hw0,← hq]; exact World.alloc_heap_new _ _
 have hpl:=players_of hi.ok
 have hlen:=hi.len
 have HT:=Lib.hid (h.below hb0)
 have HB0:=Lib.hid hb0
 have HW0:=Lib.hid hw0
 have K0:=Lib.hid k0
 have HQ:=Lib.hid hq
 have HKD:=Lib.hid kd
 have HOK:=Lib.hid (fun p hp => (hi.each p hp).1)
 have HN0:=Lib.hid (show 0 < g.pls.length by omega)
 have HN8:=Lib.hid (show g.pls.length ≤ 8 by omega)
 clear hb0 hw0 k0 h hi kd hpl hlen hq
 go_enter Tryz.func110,Tryz.ntmps110
 go_wp2_with fail
 rw [HW0.out,HQ.out]
 refine wp_region_seq 8 [.is (.pointer (some ⟨t,0,none⟩)),.is (.pointer (some ⟨t,0,none⟩)),.is (.pointer (some ⟨t,0,none⟩)),.is (.pointer (some ⟨t,3,none⟩)),.is (.slice (some ⟨pb,0,none⟩) g.pls.length cap),.is (.agg #[.int .i64 r.kind,.int .i64 r.players,.int .i64 r.last,.bool r.bull,.bool r.jump,.int .i64 r.rounds,.bool r.cut,nv,.int .i64 r.lives,.bool r.own]),.is (.func (.func 108) #[.agg #[.int .i64 r.kind,.int .i64 r.players,.int .i64 r.last,.bool r.bull,.bool r.jump,.int .i64 r.rounds,.bool r.cut,nv,.int .i64 r.lives,.bool r.own]] #[]),kBest (WS t pb) (ints (bestG r g.pls))] rfl mix (by kernel_rfl) (by kernel_rfl) ?seqm
 case seqm =>
  simp only [List.take_succ_cons,List.take_zero]
  iterate 7
   refine seq_on (by rfl) (fun w3 hb3 _ => ?_) ?_
   ·have ht:=HT.out.below hb3
    have c3 : w3.cell? ⟨t,3,none⟩ = some (.slice (some ⟨pb,0,none⟩) g.pls.length cap):=ht.at_ rfl
    have c0 : ∀ j,w3.cell? ⟨q,j,none⟩ = _:=fun j => cell_of_heap (o:=j) ((hb3.block _ (Array.getElem?_eq_some_iff.1 K0.out).1).trans K0.out)
    simp [opOK,go_sem,c3,c0,Below.refl]
    try exact rfl
   simp only [Act.put,List.setIfInBounds_toArray,List.set_cons_succ,List.set_cons_zero]
  refine seq_new ⟨.slice none (ints (bestG r g.pls)).length 0,none,0,rfl⟩ (by rfl) (fun w3 hb3 hH => ?_) ?_
  ·have ht:=HT.out.below hb3
   have c3 : w3.cell? ⟨t,3,none⟩ = some (.slice (some ⟨pb,0,none⟩) g.pls.length cap):=ht.at_ rfl
   have c0 : ∀ j,w3.cell? ⟨q,j,none⟩ = _:=fun j => cell_of_heap (o:=j) ((hb3.block _ (Array.getElem?_eq_some_iff.1 K0.out).1).trans K0.out)
   refine opOK_call (f:=117) (args:=#[.slice (some ⟨pb,0,none⟩) g.pls.length cap,.func (.func 108) #[.agg #[.int .i64 r.kind,.int .i64 r.players,.int .i64 r.last,.bool r.bull,.bool r.jump,.int .i64 r.rounds,.bool r.cut,nv,.int .i64 r.lives,.bool r.own]] #[]]) (by simp [go_sem]) ?_
   exact (best2_any r nv HKD.out g.pls pb cap w3 ht.pls HOK.out HN0.out HN8.out ht.cap).mono fun e W' ⟨v,he,hb,hs⟩ => ⟨v,he,hb,by obtain ⟨a,c,e,_⟩ := hs.form; exact ⟨a,c,e⟩,hs.mono fun q hq => ⟨by have:=ht.lt t (.inl rfl); omega,by have:=ht.lt pb (.inr rfl); omega⟩⟩
  rintro v ⟨a,c,rfl⟩
  simp only [Act.put,List.setIfInBounds_toArray,List.set_cons_succ,List.set_cons_zero]
  refine seq_end fun w3 hb3 hH => ?_
  simp only [List.drop_succ_cons,List.drop_zero]
  have hs:=hH 7 (by decide)
  simp [addH] at hs
  have HS : Hid (Sl (WS t pb) w3 (.slice a (ints (bestG r g.pls)).length c) (ints (bestG r g.pls))):=Lib.hid (by rw [ints_length]; exact hs)
  have HB3:=Lib.hid (bThen HB0.out hb3)
  clear hs hb3 hH
  go_wp2
  go_ret
  exact ⟨_,rfl,HB3.out,HS.out⟩
set_option maxRecDepth 100000 in
set_option maxHeartbeats 4000000 in
theorem end3_any (t pb cap : Nat) (r : Rul) (g : Gam) (wv nv : Value) (M : Int) (w : World) (h : TabAt w t pb r g cap wv nv) (hi : Inv r M g) (kd : r.kind = 3) :
  Calls Tryz.prog 122 #[.agg (rulA r nv),.pointer (some ⟨t,0,none⟩)] w fun e w' => ∃ v,e = .returned v ∧ Below w.heap.size w w' ∧ Sl (WS t pb) w' v (ints (bestG r g.pls)):=by
 unfold rulA
 obtain ⟨w0,hw0⟩ : ∃ w0,w.alloc (.cells #[.int .i64 r.kind,.int .i64 r.players,.int .i64 r.last,.bool r.bull,.bool r.jump,.int .i64 r.rounds,.bool r.cut,nv,.int .i64 r.lives,.bool r.own] 112) = w0:=⟨_,rfl⟩
 have hb0 : Below w.heap.size w w0:=by rw [← hw0]; exact aB _ _
 obtain ⟨q,hq⟩ : ∃ q,w.heap.size = q:=⟨_,rfl⟩
 have k0 : w0.heap[q]? = some (.cells #[.int .i64 r.kind,.int .i64 r.players,.int .i64 r.last,.bool r.bull,.bool r.jump,.int .i64 r.rounds,.bool r.cut,nv,.int .i64 r.lives,.bool r.own] 112 (0,0)):=by rw [← hw0,← hq]; exact World.alloc_heap_new _ _
 have hpl:=players_of hi.ok
 have hlen:=hi.len
 have HT:=Lib.hid (h.below hb0)
 have HB0:=Lib.hid hb0
 have HW0:=Lib.hid hw0
 have K0:=Lib.hid k0
 have HQ:=Lib.hid hq
 have HKD:=Lib.hid kd
 have HOK:=Lib.hid (fun p hp => (hi.each p hp).1)
 have HN0:=Lib.hid (show 0 < g.pls.length by omega)
 have HN8:=Lib.hid (show g.pls.length ≤ 8 by omega)
 clear hb0 hw0 k0 h hi kd hpl hlen hq
 go_enter Tryz.func122,Tryz.ntmps122
 go_wp2_with fail
 rw [HW0.out,HQ.out]
 refine wp_region_seq 8 [.is (.pointer (some ⟨t,0,none⟩)),.is (.pointer (some ⟨t,0,none⟩)),.is (.pointer (some ⟨t,0,none⟩)),.is (.pointer (some ⟨t,3,none⟩)),.is (.slice (some ⟨pb,0,none⟩) g.pls.length cap),.is (.agg #[.int .i64 r.kind,.int .i64 r.players,.int .i64 r.last,.bool r.bull,.bool r.jump,.int .i64 r.rounds,.bool r.cut,nv,.int .i64 r.lives,.bool r.own]),.is (.func (.func 120) #[.agg #[.int .i64 r.kind,.int .i64 r.players,.int .i64 r.last,.bool r.bull,.bool r.jump,.int .i64 r.rounds,.bool r.cut,nv,.int .i64 r.lives,.bool r.own]] #[]),kBest (WS t pb) (ints (bestG r g.pls))] rfl mix (by kernel_rfl) (by kernel_rfl) ?seqm
 case seqm =>
  simp only [List.take_succ_cons,List.take_zero]
  iterate 7
   refine seq_on (by rfl) (fun w3 hb3 _ => ?_) ?_
   ·have ht:=HT.out.below hb3
    have c3 : w3.cell? ⟨t,3,none⟩ = some (.slice (some ⟨pb,0,none⟩) g.pls.length cap):=ht.at_ rfl
    have c0 : ∀ j,w3.cell? ⟨q,j,none⟩ = _:=fun j => cell_of_heap (o:=j) ((hb3.block _ (Array.getElem?_eq_some_iff.1 K0.out).1).trans K0.out)
    simp [opOK,go_sem,c3,c0,Below.refl]
    try exact rfl
   simp only [Act.put,List.setIfInBounds_toArray,List.set_cons_succ,List.set_cons_zero]
  refine seq_new ⟨.slice none (ints (bestG r g.pls)).length 0,none,0,rfl⟩ (by rfl) (fun w3 hb3 hH => ?_) ?_
  ·have ht:=HT.out.below hb3
   have c3 : w3.cell? ⟨t,3,none⟩ = some (.slice (some ⟨pb,0,none⟩) g.pls.length cap):=ht.at_ rfl
   have c0 : ∀ j,w3.cell? ⟨q,j,none⟩ = _:=fun j => cell_of_heap (o:=j) ((hb3.block _ (Array.getElem?_eq_some_iff.1 K0.out).1).trans K0.out)
   refine opOK_call (f:=117) (args:=#[.slice (some ⟨pb,0,none⟩) g.pls.length cap,.func (.func 120) #[.agg #[.int .i64 r.kind,.int .i64 r.players,.int .i64 r.last,.bool r.bull,.bool r.jump,.int .i64 r.rounds,.bool r.cut,nv,.int .i64 r.lives,.bool r.own]] #[]]) (by simp [go_sem]) ?_
   exact (best3_any r nv HKD.out g.pls pb cap w3 ht.pls HOK.out HN0.out HN8.out ht.cap).mono fun e W' ⟨v,he,hb,hs⟩ => ⟨v,he,hb,by obtain ⟨a,c,e,_⟩ := hs.form; exact ⟨a,c,e⟩,hs.mono fun q hq => ⟨by have:=ht.lt t (.inl rfl); omega,by have:=ht.lt pb (.inr rfl); omega⟩⟩
  rintro v ⟨a,c,rfl⟩
  simp only [Act.put,List.setIfInBounds_toArray,List.set_cons_succ,List.set_cons_zero]
  refine seq_end fun w3 hb3 hH => ?_
  simp only [List.drop_succ_cons,List.drop_zero]
  have hs:=hH 7 (by decide)
  simp [addH] at hs
  have HS : Hid (Sl (WS t pb) w3 (.slice a (ints (bestG r g.pls)).length c) (ints (bestG r g.pls))):=Lib.hid (by rw [ints_length]; exact hs)
  have HB3:=Lib.hid (bThen HB0.out hb3)
  clear hs hb3 hH
  go_wp2
  go_ret
  exact ⟨_,rfl,HB3.out,HS.out⟩
theorem TabAt.setHitV {w : World} {t pb cap : Nat} {r : Rul} {g : Gam} {wv nv : Value} (h : TabAt w t pb r g cap wv nv) (h5 : g.hit.length = 5) {k : Nat} (hk : k < 5) (b : Bool) : TabAt (w.setCell ⟨t,16 + k,none⟩ (.bool b)) t pb r { g with hit:=g.hit.set k b } cap wv nv:=by
 refine h.setT ?_ rfl rfl
 obtain ⟨rd,pl,da,pls,win,hit⟩ := g
 match hit,h5 with
 | [a,b,c,d,e],_ =>
  obtain rfl | rfl | rfl | rfl | rfl : k = 0 ∨ k = 1 ∨ k = 2 ∨ k = 3 ∨ k = 4:=by omega
  all_goals rfl
theorem hit_all {l : List Bool} (h : l.length = 5) : ((((l.set 0 false).set 1 false).set 2 false).set 3 false).set 4 false = List.replicate 5 false:=by
 match l,h with
 | [a,b,c,d,e],_ => rfl
theorem none_step {r : Rul} {g : Gam} {n p rd k : Nat} (hn : g.pls.length = n) (ho : isOutG r g (stepP n p rd).1 = false) : nextP r g k p rd = stepP n p rd:=by
 cases k with
 | zero => rw [nextP,hn]
 | succ k => rw [nextP,hn,ho]; simp
theorem some_step {r : Rul} {g : Gam} {n p rd k : Nat} (hn : g.pls.length = n) (ho : isOutG r g (stepP n p rd).1 = true) : nextP r g (k + 1) p rd = nextP r g k (stepP n p rd).1 (stepP n p rd).2:=by
 rw [nextP,hn,ho]; simp
theorem step_pos {n p rd : Nat} (hp : p < n) : (stepP n p rd).1 < n ∧ (stepP n p rd).2 * n + (stepP n p rd).1 = rd * n + p + 1 ∧ (stepP n p rd).1 = (p + 1) % n:=by
 unfold stepP
 split
 ·rename_i e; rw [Nat.add_mul,e,Nat.mod_self]; dsimp only; omega
 ·rw [Nat.mod_eq_of_lt (by omega)]; dsimp only; omega
set_option maxRecDepth 100000 in
set_option maxHeartbeats 4000000 in
theorem next_any (t pb cap : Nat) (r : Rul) (g : Gam) (wv nv : Value) (M : Int) (w : World) (h : TabAt w t pb r g cap wv nv) (hi : Inv r M g) (ha : 1 ≤ alive r g) (hw : g.win = []) (hrd : g.round < 100000) :
  Calls Tryz.prog 53 #[.pointer (some ⟨t,0,none⟩)] w fun e w' => (∃ v,e = .returned v) ∧ Rel (TO t pb) w (TO t pb) w' ∧ ∃ wv',TabAt w' t pb r (nextG r g) cap wv' nv:=by
 have hpl:=players_of hi.ok
 have hlen:=hi.len
 have hpn:=hi.pl
 obtain ⟨jx,hj1,hj2,hj3⟩ := somebody ha hpn
 obtain ⟨p0,hp0⟩ : ∃ p,g.player = p:=⟨_,rfl⟩
 obtain ⟨r0,hr0⟩ : ∃ p,g.round = p:=⟨_,rfl⟩
 obtain ⟨n,hn⟩ : ∃ n,g.pls.length = n:=⟨_,rfl⟩
 rw [hp0,hn] at hj3 hpn
 rw [hn] at hj2 hlen
 rw [hr0] at hrd
 have t0 : w.cell? ⟨t,0,none⟩ = some (.int .i64 r0):=by rw [← hr0]; exact h.at_ rfl
 have t1 : w.cell? ⟨t,1,none⟩ = some (.int .i64 p0):=by rw [← hp0]; exact h.at_ rfl
 have HX:=Lib.hid (And.intro hj1 (And.intro hj2 hj3))
 have HT:=Lib.hid h
 have HI:=Lib.hid hi
 have HW:=Lib.hid hw
 have HP0:=Lib.hid hp0
 have HR0:=Lib.hid hr0
 have HN:=Lib.hid hn
 have hn8 : 1 ≤ n ∧ n ≤ 8:=by omega
 have hcap : n ≤ cap ∧ cap ≤ 9223372036854775807:=by rw [← hn]; exact h.cap
 clear h hi hw hj1 hj2 hj3 hp0 hr0 hn hpl hlen ha
 go_enter Tryz.func53,Tryz.ntmps53
 go_wp2_with fail
 refine wp_region_seq 12 [.is (.pointer (some ⟨t,0,none⟩)),.is (.pointer (some ⟨t,0,none⟩)),.is (.pointer (some ⟨t,0,none⟩)),.is (.pointer (some ⟨t,1,none⟩)),.is (.int .i64 p0),.is (.pointer (some ⟨t,0,none⟩)),.is (.pointer (some ⟨t,0,none⟩)),.is (.pointer (some ⟨t,0,none⟩)),.is (.pointer (some ⟨t,0,none⟩)),.is (.int .i64 r0),.is (.int .i64 p0),.is (.int .i64 r0)] rfl mix (by kernel_rfl) (by kernel_rfl) ?seqm
 case seqm =>
  simp only [List.take_succ_cons,List.take_zero]
  iterate 12
   refine seq_on (by rfl) (fun w3 hb3 _ => ?_) ?_
   ·have t0':=bAt hb3 t0
    have t1':=bAt hb3 t1
    simp [opOK,go_sem,t0',t1',Below.refl]
    try exact rfl
   simp only [Act.put,List.setIfInBounds_toArray,List.set_cons_succ,List.set_cons_zero]
  refine seq_end fun w3 hb3 _ => ?_
  simp only [List.drop_succ_cons,List.drop_zero]
  have HB:=Lib.hid hb3
  have HT3:=Lib.hid (HT.out.below hb3)
  have t3 : w3.cell? ⟨t,3,none⟩ = some (.slice (some ⟨pb,0,none⟩) n cap):=by rw [← HN.out]; exact HT3.out.at_ rfl
  clear hb3 t0 t1
  go_wp2_with fail
  go_loop [2,3] (fun pv rv => ∃ (j p rd : Nat),j < n ∧ p < n ∧ rd ≤ r0 + j ∧ pv = .int .i64 p ∧ rv = .int .i64 rd ∧ Hid (rd * n + p = r0 * n + p0 + j) ∧ Hid (nextP r g n p0 r0 = nextP r g (n - j) p rd) ∧ Hid (p = (p0 + j) % n) ∧ Hid (∀ i,1 ≤ i → i ≤ j → isOutG r g ((p0 + i) % n) = true)) (fun pv rv => r0 * n + p0 + n - ((intOf rv).toNat * n + (intOf pv).toNat))
  case atStart => exact ⟨0,p0,r0,by omega,hpn,by omega,rfl,rfl,Lib.hid (by omega),Lib.hid rfl,Lib.hid (by rw [Nat.add_zero,Nat.mod_eq_of_lt hpn]),Lib.hid (fun i h1 h2 => by omega)⟩
  case round =>
   obtain ⟨j,p,rd,hj,hp,hrj,rfl,rfl,HPOS,HNX,HMOD,HALL⟩ := hrel
   obtain ⟨sp,hsp⟩ : ∃ sp,stepP n p rd = sp:=⟨_,rfl⟩
   obtain ⟨p',rd'⟩ := sp
   have hst:=step_pos (rd:=rd) hp
   rw [hsp] at hst
   dsimp only at hst
   have HSP:=Lib.hid hsp
   have HST:=Lib.hid hst
   have hp'n:=hst.1
   obtain ⟨o,ho⟩ : ∃ o,isOutG r g p' = o:=⟨_,rfl⟩
   have HO:=Lib.hid ho
   have hrd' : rd' ≤ rd + 1:=by unfold stepP at hsp; split at hsp <;> simp at hsp <;> omega
   have hm' : p' = (p0 + (j + 1)) % n:=by rw [hst.2.2,HMOD.out,Nat.mod_add_mod]; rfl
   have HM':=Lib.hid hm'
   unfold stepP at hsp
   clear hst ho hm'
   by_cases hpe : p + 1 = n
   all_goals
    first | rw [if_pos hpe] at hsp | rw [if_neg hpe] at hsp
    simp only [Prod.mk.injEq] at hsp
    obtain ⟨rfl,rfl⟩ := hsp
    first
     | have e1 : ((p : Int) + 1 == (n : Int)) = true:=by simp; omega
     | have e1 : ((p : Int) + 1 == (n : Int)) = false:=by simp; omega
    first
     | have e2 : (p + 1 == n) = true:=by simp; omega
     | have e2 : (p + 1 == n) = false:=by simp; omega
    have hwp : IntKind.i64.wrap ((p : Int) + 1) = (p : Int) + 1:=wrap_small _ (by omega) (by omega)
    have hwr : IntKind.i64.wrap ((rd : Int) + 1) = (rd : Int) + 1:=wrap_small _ (by omega) (by omega)
    go_wp2_with fail
   ·have hc:=isOut_r t pb 0 cap r g wv nv o HO w3 HT3.out (by rw [HN.out]; omega)
    rw [show ((0 : Nat) : Int) = 0 from rfl] at hc
    refine hc.mono ?_
    rintro e w4 ⟨rfl,rfl⟩
    clear hc
    cases o
    ·have HQQ : Hid (nextP r g n p0 r0 = (0,(rd + 1))):=Lib.hid (by rw [HNX.out,none_step HN.out (by rw [HSP.out]; exact HO.out),HSP.out])
     have t11 : w3.cell? ⟨t,11,none⟩ = some (.int .i64 r.rounds):=HT3.out.at_ rfl
     have c0 : w3.cell? ⟨t,0,none⟩ = some (.int .i64 r0):=by rw [← HR0.out]; exact HT3.out.at_ rfl
     have c1 : w3.cell? ⟨t,1,none⟩ = some (.int .i64 p0):=by rw [← HP0.out]; exact HT3.out.at_ rfl
     have c2 : w3.cell? ⟨t,2,none⟩ = some (.int .i64 g.darts):=HT3.out.at_ rfl
     have c4 : w3.cell? ⟨t,4,none⟩ = some wv:=HT3.out.at_ rfl
     have f0:=HT3.out.free 0
     have f1:=HT3.out.free 1
     have f2:=HT3.out.free 2
     have f4:=HT3.out.free 4
     have f16:=HT3.out.free 16
     have c16 : w3.cell? ⟨t,16,none⟩ = some (.bool (hitB g 0)):=HT3.out.at_ rfl
     have f17:=HT3.out.free 17
     have c17 : w3.cell? ⟨t,17,none⟩ = some (.bool (hitB g 1)):=HT3.out.at_ rfl
     have f18:=HT3.out.free 18
     have c18 : w3.cell? ⟨t,18,none⟩ = some (.bool (hitB g 2)):=HT3.out.at_ rfl
     have f19:=HT3.out.free 19
     have c19 : w3.cell? ⟨t,19,none⟩ = some (.bool (hitB g 3)):=HT3.out.at_ rfl
     have f20:=HT3.out.free 20
     have c20 : w3.cell? ⟨t,20,none⟩ = some (.bool (hitB g 4)):=HT3.out.at_ rfl
     obtain ⟨rb,hrb⟩ : ∃ rb,decide (0 < r.rounds) = rb:=⟨_,rfl⟩
     have HRB:=Lib.hid hrb
     cases rb
     ·have HNG : Hid (nextG r g = { g with player:=0,round:=(rd + 1),darts:=0,hit:=List.replicate 5 false }):=Lib.hid (by
       unfold nextG; rw [HP0.out,HR0.out,HN.out,HQQ.out]; dsimp only; rw [if_neg (by have h1:=HRB.out; simp at h1; rintro ⟨h2,_⟩; omega)])
      clear HALL HMOD HPOS
      go_wp2
      go_end0
      refine ⟨⟨_,rfl⟩, ?_,wv, ?_⟩
      ·exact ((((((((Rel.of_below HB.out HT.out.lt).setCell (.inl rfl) _).setCell (.inl rfl) _).setCell (.inl rfl) _).setCell (.inl rfl) _).setCell (.inl rfl) _).setCell (.inl rfl) _).setCell (.inl rfl) _).setCell (.inl rfl) _
      ·rw [HNG.out,← hit_all HI.out.hit]
       exact ((((((((HT3.out.setPlayer 0).setRound (rd + 1)).setDarts 0).setHitV HI.out.hit (k:=0) (by decide) false).setHitV (by simpa using HI.out.hit) (k:=1) (by decide) false).setHitV (by simpa using HI.out.hit) (k:=2) (by decide) false).setHitV (by simpa using HI.out.hit) (k:=3) (by decide) false).setHitV (by simpa using HI.out.hit) (k:=4) (by decide) false)
     ·obtain ⟨eb,heb⟩ : ∃ eb,((((rd + 1) : Nat) : Int) == r.rounds) = eb:=⟨_,rfl⟩
      have HEB:=Lib.hid heb
      try push_cast at heb
      cases eb
      ·have HNG : Hid (nextG r g = { g with player:=0,round:=(rd + 1),darts:=0,hit:=List.replicate 5 false }):=Lib.hid (by
        unfold nextG; rw [HP0.out,HR0.out,HN.out,HQQ.out]; dsimp only; rw [if_neg (by have h1:=HRB.out; have h3:=HEB.out; simp at h3; rintro ⟨_,h4⟩; omega)])
       clear HALL HMOD HPOS
       go_wp2
       go_end0
       refine ⟨⟨_,rfl⟩, ?_,wv, ?_⟩
       ·exact ((((((((Rel.of_below HB.out HT.out.lt).setCell (.inl rfl) _).setCell (.inl rfl) _).setCell (.inl rfl) _).setCell (.inl rfl) _).setCell (.inl rfl) _).setCell (.inl rfl) _).setCell (.inl rfl) _).setCell (.inl rfl) _
       ·rw [HNG.out,← hit_all HI.out.hit]
        exact ((((((((HT3.out.setPlayer 0).setRound (rd + 1)).setDarts 0).setHitV HI.out.hit (k:=0) (by decide) false).setHitV (by simpa using HI.out.hit) (k:=1) (by decide) false).setHitV (by simpa using HI.out.hit) (k:=2) (by decide) false).setHitV (by simpa using HI.out.hit) (k:=3) (by decide) false).setHitV (by simpa using HI.out.hit) (k:=4) (by decide) false)
      ·have hreq : (((rd + 1) : Nat) : Int) = r.rounds:=by have h3:=HEB.out; simpa using h3
       have hrp : 0 < r.rounds:=by have h1:=HRB.out; simpa using h1
       have hk : r.kind = 2 ∨ r.kind = 3:=by
        rcases kind_of HI.out.ok with q | q | q | q
        ·have:=(ok1 HI.out.ok q).2.2.1; omega
        ·exact .inl q
        ·exact .inr q
        ·have:=(ok4 HI.out.ok q).2.2.2.2.2.2.2.2.1; omega
       have HNG : Hid (nextG r g = { g with win:=bestG r g.pls }):=Lib.hid (by
        unfold nextG; rw [HP0.out,HR0.out,HN.out,HQQ.out]; dsimp only; rw [if_pos ⟨hrp,hreq⟩,if_pos hk])
       clear hreq hrp HALL HMOD HPOS c0 c1 c2 f0 f1 f2 c16 f16 c17 f17 c18 f18 c19 f19 c20 f20
       rcases hk with kk | kk
       ·have c5 : w3.cell? ⟨t,5,none⟩ = some (.iface 111 (.agg #[.int .i64 r.kind,.int .i64 r.players,.int .i64 r.last,.bool r.bull,.bool r.jump,.int .i64 r.rounds,.bool r.cut,nv,.int .i64 r.lives,.bool r.own])):=by have h5:=HT3.out.at_ (j:=5) (v:=lawV r nv) rfl; rw [lawV,lawT,if_neg (by omega),if_pos kk] at h5; exact h5
        have KK:=Lib.hid kk
        have hm:=m_end2 #[.int .i64 r.kind,.int .i64 r.players,.int .i64 r.last,.bool r.bull,.bool r.jump,.int .i64 r.rounds,.bool r.cut,nv,.int .i64 r.lives,.bool r.own]
        clear kk
        go_wp2_with fail
        refine (end2_any t pb cap r g wv nv M w3 HT3.out HI.out KK.out).mono ?_
        rintro e w4 ⟨v,rfl,hb4,hs4⟩
        obtain ⟨va,vc,rfl,_,_⟩ := hs4.form
        replace c4:=bAt hb4 c4
        have HT4:=Lib.hid (HT3.out.below hb4)
        replace f4:=HT4.out.free 4
        rw [ints_length] at hs4
        have HS4:=Lib.hid hs4
        have HB4:=Lib.hid (bThen HB.out hb4)
        clear hb4 hs4 c5 hm t11
        go_wp2
        refine bodyPost_ret (results_none rfl _ _ _) rfl ?_
        refine ⟨⟨_,rfl⟩,(Rel.of_below HB4.out HT.out.lt).setCell (.inl rfl) _,.slice va (bestG r g.pls).length vc, ?_⟩
        rw [HNG.out]
        exact HT4.out.setWin HS4.out
       ·have c5 : w3.cell? ⟨t,5,none⟩ = some (.iface 112 (.agg #[.int .i64 r.kind,.int .i64 r.players,.int .i64 r.last,.bool r.bull,.bool r.jump,.int .i64 r.rounds,.bool r.cut,nv,.int .i64 r.lives,.bool r.own])):=by have h5:=HT3.out.at_ (j:=5) (v:=lawV r nv) rfl; rw [lawV,lawT,if_neg (by omega),if_neg (by omega),if_pos kk] at h5; exact h5
        have KK:=Lib.hid kk
        have hm:=m_end3 #[.int .i64 r.kind,.int .i64 r.players,.int .i64 r.last,.bool r.bull,.bool r.jump,.int .i64 r.rounds,.bool r.cut,nv,.int .i64 r.lives,.bool r.own]
        clear kk
        go_wp2_with fail
        refine (end3_any t pb cap r g wv nv M w3 HT3.out HI.out KK.out).mono ?_
        rintro e w4 ⟨v,rfl,hb4,hs4⟩
        obtain ⟨va,vc,rfl,_,_⟩ := hs4.form
        replace c4:=bAt hb4 c4
        have HT4:=Lib.hid (HT3.out.below hb4)
        replace f4:=HT4.out.free 4
        rw [ints_length] at hs4
        have HS4:=Lib.hid hs4
        have HB4:=Lib.hid (bThen HB.out hb4)
        clear hb4 hs4 c5 hm t11
        go_wp2
        refine bodyPost_ret (results_none rfl _ _ _) rfl ?_
        refine ⟨⟨_,rfl⟩,(Rel.of_below HB4.out HT.out.lt).setCell (.inl rfl) _,.slice va (bestG r g.pls).length vc, ?_⟩
        rw [HNG.out]
        exact HT4.out.setWin HS4.out
    ·have HALL2 : Hid (∀ i,1 ≤ i → i ≤ j + 1 → isOutG r g ((p0 + i) % n) = true):=Lib.hid (fun i h1 h2 => by
      by_cases e : i = j + 1
      ·subst e; rw [← HM'.out]; exact HO.out
      ·exact HALL.out i h1 (by omega))
     have hjn : j + 1 < n:=by
      obtain ⟨x1,x2,x3⟩ := HX.out
      by_cases q : j + 1 < n
      ·exact q
      ·have:=HALL2.out jx x1 (by omega); rw [x3] at this; cases this
     have HNX2 : Hid (nextP r g n p0 r0 = nextP r g (n - (j + 1)) 0 (rd + 1)):=Lib.hid (by
      rw [HNX.out,show n - j = n - (j + 1) + 1 by omega,some_step HN.out (by rw [HSP.out]; exact HO.out),HSP.out])
     have HPOS2 : Hid ((rd + 1) * n + 0 = r0 * n + p0 + (j + 1)):=Lib.hid (by have h1:=HST.out.2.1; have h2:=HPOS.out; omega)
     go_wp2
     go_round
     case rel => exact ⟨j + 1,0,(rd + 1),hjn,by omega,by omega,by go_num,by go_num,HPOS2,HNX2,HM',HALL2⟩
     case measure =>
      have h1:=HPOS2.out
      have h2:=HPOS.out
      simp [intOf]
      omega
   ·have hc:=isOut_r t pb (p + 1) cap r g wv nv o HO w3 HT3.out (by rw [HN.out]; omega)
    rw [show ((p + 1 : Nat) : Int) = (p : Int) + 1 from rfl] at hc
    refine hc.mono ?_
    rintro e w4 ⟨rfl,rfl⟩
    clear hc
    cases o
    ·have HQQ : Hid (nextP r g n p0 r0 = ((p + 1),rd)):=Lib.hid (by rw [HNX.out,none_step HN.out (by rw [HSP.out]; exact HO.out),HSP.out])
     have t11 : w3.cell? ⟨t,11,none⟩ = some (.int .i64 r.rounds):=HT3.out.at_ rfl
     have c0 : w3.cell? ⟨t,0,none⟩ = some (.int .i64 r0):=by rw [← HR0.out]; exact HT3.out.at_ rfl
     have c1 : w3.cell? ⟨t,1,none⟩ = some (.int .i64 p0):=by rw [← HP0.out]; exact HT3.out.at_ rfl
     have c2 : w3.cell? ⟨t,2,none⟩ = some (.int .i64 g.darts):=HT3.out.at_ rfl
     have c4 : w3.cell? ⟨t,4,none⟩ = some wv:=HT3.out.at_ rfl
     have f0:=HT3.out.free 0
     have f1:=HT3.out.free 1
     have f2:=HT3.out.free 2
     have f4:=HT3.out.free 4
     have f16:=HT3.out.free 16
     have c16 : w3.cell? ⟨t,16,none⟩ = some (.bool (hitB g 0)):=HT3.out.at_ rfl
     have f17:=HT3.out.free 17
     have c17 : w3.cell? ⟨t,17,none⟩ = some (.bool (hitB g 1)):=HT3.out.at_ rfl
     have f18:=HT3.out.free 18
     have c18 : w3.cell? ⟨t,18,none⟩ = some (.bool (hitB g 2)):=HT3.out.at_ rfl
     have f19:=HT3.out.free 19
     have c19 : w3.cell? ⟨t,19,none⟩ = some (.bool (hitB g 3)):=HT3.out.at_ rfl
     have f20:=HT3.out.free 20
     have c20 : w3.cell? ⟨t,20,none⟩ = some (.bool (hitB g 4)):=HT3.out.at_ rfl
     obtain ⟨rb,hrb⟩ : ∃ rb,decide (0 < r.rounds) = rb:=⟨_,rfl⟩
     have HRB:=Lib.hid hrb
     cases rb
     ·have HNG : Hid (nextG r g = { g with player:=(p + 1),round:=rd,darts:=0,hit:=List.replicate 5 false }):=Lib.hid (by
       unfold nextG; rw [HP0.out,HR0.out,HN.out,HQQ.out]; dsimp only; rw [if_neg (by have h1:=HRB.out; simp at h1; rintro ⟨h2,_⟩; omega)])
      clear HALL HMOD HPOS
      go_wp2
      go_end0
      refine ⟨⟨_,rfl⟩, ?_,wv, ?_⟩
      ·exact ((((((((Rel.of_below HB.out HT.out.lt).setCell (.inl rfl) _).setCell (.inl rfl) _).setCell (.inl rfl) _).setCell (.inl rfl) _).setCell (.inl rfl) _).setCell (.inl rfl) _).setCell (.inl rfl) _).setCell (.inl rfl) _
      ·rw [HNG.out,← hit_all HI.out.hit]
       exact ((((((((HT3.out.setPlayer (p + 1)).setRound rd).setDarts 0).setHitV HI.out.hit (k:=0) (by decide) false).setHitV (by simpa using HI.out.hit) (k:=1) (by decide) false).setHitV (by simpa using HI.out.hit) (k:=2) (by decide) false).setHitV (by simpa using HI.out.hit) (k:=3) (by decide) false).setHitV (by simpa using HI.out.hit) (k:=4) (by decide) false)
     ·obtain ⟨eb,heb⟩ : ∃ eb,(((rd : Nat) : Int) == r.rounds) = eb:=⟨_,rfl⟩
      have HEB:=Lib.hid heb
      try push_cast at heb
      cases eb
      ·have HNG : Hid (nextG r g = { g with player:=(p + 1),round:=rd,darts:=0,hit:=List.replicate 5 false }):=Lib.hid (by
        unfold nextG; rw [HP0.out,HR0.out,HN.out,HQQ.out]; dsimp only; rw [if_neg (by have h1:=HRB.out; have h3:=HEB.out; simp at h3; rintro ⟨_,h4⟩; omega)])
       clear HALL HMOD HPOS
       go_wp2
       go_end0
       refine ⟨⟨_,rfl⟩, ?_,wv, ?_⟩
       ·exact ((((((((Rel.of_below HB.out HT.out.lt).setCell (.inl rfl) _).setCell (.inl rfl) _).setCell (.inl rfl) _).setCell (.inl rfl) _).setCell (.inl rfl) _).setCell (.inl rfl) _).setCell (.inl rfl) _).setCell (.inl rfl) _
       ·rw [HNG.out,← hit_all HI.out.hit]
        exact ((((((((HT3.out.setPlayer (p + 1)).setRound rd).setDarts 0).setHitV HI.out.hit (k:=0) (by decide) false).setHitV (by simpa using HI.out.hit) (k:=1) (by decide) false).setHitV (by simpa using HI.out.hit) (k:=2) (by decide) false).setHitV (by simpa using HI.out.hit) (k:=3) (by decide) false).setHitV (by simpa using HI.out.hit) (k:=4) (by decide) false)
      ·have hreq : ((rd : Nat) : Int) = r.rounds:=by have h3:=HEB.out; simpa using h3
       have hrp : 0 < r.rounds:=by have h1:=HRB.out; simpa using h1
       have hk : r.kind = 2 ∨ r.kind = 3:=by
        rcases kind_of HI.out.ok with q | q | q | q
        ·have:=(ok1 HI.out.ok q).2.2.1; omega
        ·exact .inl q
        ·exact .inr q
        ·have:=(ok4 HI.out.ok q).2.2.2.2.2.2.2.2.1; omega
       have HNG : Hid (nextG r g = { g with win:=bestG r g.pls }):=Lib.hid (by
        unfold nextG; rw [HP0.out,HR0.out,HN.out,HQQ.out]; dsimp only; rw [if_pos ⟨hrp,hreq⟩,if_pos hk])
       clear hreq hrp HALL HMOD HPOS c0 c1 c2 f0 f1 f2 c16 f16 c17 f17 c18 f18 c19 f19 c20 f20
       rcases hk with kk | kk
       ·have c5 : w3.cell? ⟨t,5,none⟩ = some (.iface 111 (.agg #[.int .i64 r.kind,.int .i64 r.players,.int .i64 r.last,.bool r.bull,.bool r.jump,.int .i64 r.rounds,.bool r.cut,nv,.int .i64 r.lives,.bool r.own])):=by have h5:=HT3.out.at_ (j:=5) (v:=lawV r nv) rfl; rw [lawV,lawT,if_neg (by omega),if_pos kk] at h5; exact h5
        have KK:=Lib.hid kk
        have hm:=m_end2 #[.int .i64 r.kind,.int .i64 r.players,.int .i64 r.last,.bool r.bull,.bool r.jump,.int .i64 r.rounds,.bool r.cut,nv,.int .i64 r.lives,.bool r.own]
        clear kk
        go_wp2_with fail
        refine (end2_any t pb cap r g wv nv M w3 HT3.out HI.out KK.out).mono ?_
        rintro e w4 ⟨v,rfl,hb4,hs4⟩
        obtain ⟨va,vc,rfl,_,_⟩ := hs4.form
        replace c4:=bAt hb4 c4
        have HT4:=Lib.hid (HT3.out.below hb4)
        replace f4:=HT4.out.free 4
        rw [ints_length] at hs4
        have HS4:=Lib.hid hs4
        have HB4:=Lib.hid (bThen HB.out hb4)
        clear hb4 hs4 c5 hm t11
        go_wp2
        refine bodyPost_ret (results_none rfl _ _ _) rfl ?_
        refine ⟨⟨_,rfl⟩,(Rel.of_below HB4.out HT.out.lt).setCell (.inl rfl) _,.slice va (bestG r g.pls).length vc, ?_⟩
        rw [HNG.out]
        exact HT4.out.setWin HS4.out
       ·have c5 : w3.cell? ⟨t,5,none⟩ = some (.iface 112 (.agg #[.int .i64 r.kind,.int .i64 r.players,.int .i64 r.last,.bool r.bull,.bool r.jump,.int .i64 r.rounds,.bool r.cut,nv,.int .i64 r.lives,.bool r.own])):=by have h5:=HT3.out.at_ (j:=5) (v:=lawV r nv) rfl; rw [lawV,lawT,if_neg (by omega),if_neg (by omega),if_pos kk] at h5; exact h5
        have KK:=Lib.hid kk
        have hm:=m_end3 #[.int .i64 r.kind,.int .i64 r.players,.int .i64 r.last,.bool r.bull,.bool r.jump,.int .i64 r.rounds,.bool r.cut,nv,.int .i64 r.lives,.bool r.own]
        clear kk
        go_wp2_with fail
        refine (end3_any t pb cap r g wv nv M w3 HT3.out HI.out KK.out).mono ?_
        rintro e w4 ⟨v,rfl,hb4,hs4⟩
        obtain ⟨va,vc,rfl,_,_⟩ := hs4.form
        replace c4:=bAt hb4 c4
        have HT4:=Lib.hid (HT3.out.below hb4)
        replace f4:=HT4.out.free 4
        rw [ints_length] at hs4
        have HS4:=Lib.hid hs4
        have HB4:=Lib.hid (bThen HB.out hb4)
        clear hb4 hs4 c5 hm t11
        go_wp2
        refine bodyPost_ret (results_none rfl _ _ _) rfl ?_
        refine ⟨⟨_,rfl⟩,(Rel.of_below HB4.out HT.out.lt).setCell (.inl rfl) _,.slice va (bestG r g.pls).length vc, ?_⟩
        rw [HNG.out]
        exact HT4.out.setWin HS4.out
    ·have HALL2 : Hid (∀ i,1 ≤ i → i ≤ j + 1 → isOutG r g ((p0 + i) % n) = true):=Lib.hid (fun i h1 h2 => by
      by_cases e : i = j + 1
      ·subst e; rw [← HM'.out]; exact HO.out
      ·exact HALL.out i h1 (by omega))
     have hjn : j + 1 < n:=by
      obtain ⟨x1,x2,x3⟩ := HX.out
      by_cases q : j + 1 < n
      ·exact q
      ·have:=HALL2.out jx x1 (by omega); rw [x3] at this; cases this
     have HNX2 : Hid (nextP r g n p0 r0 = nextP r g (n - (j + 1)) (p + 1) rd):=Lib.hid (by
      rw [HNX.out,show n - j = n - (j + 1) + 1 by omega,some_step HN.out (by rw [HSP.out]; exact HO.out),HSP.out])
     have HPOS2 : Hid (rd * n + (p + 1) = r0 * n + p0 + (j + 1)):=Lib.hid (by have h1:=HST.out.2.1; have h2:=HPOS.out; omega)
     go_wp2
     go_round
     case rel => exact ⟨j + 1,(p + 1),rd,hjn,by omega,by omega,by go_num,by go_num,HPOS2,HNX2,HM',HALL2⟩
     case measure =>
      have h1:=HPOS2.out
      have h2:=HPOS.out
      simp [intOf]
      omega
end Go.Proofs.YtnhggfnnolfcdaaGreat

/- Chapter 4: a dart is thrown (throw). -/
namespace Go.Proofs.YtnhggfnnolfcdaaGreat
open Go.RowKit Go.Oche Go.Proofs
theorem dart_law (t pb cap : Nat) (r : Rul) (g : Gam) (wv nv : Value) (f n M : Int) (hi : Run r M g) (hM : M ≤ 800000) (hb : okHit f n) :
  ∃ F, Enters Tryz.prog F ∧ (∀ w, (method 271 (lawT r) (.agg #[.int .i64 r.kind, .int .i64 r.players, .int .i64 r.last, .bool r.bull, .bool r.jump, .int .i64 r.rounds, .bool r.cut, nv, .int .i64 r.lives, .bool r.own]) "oche/game.dart").run Tryz.prog w = .ok (F, .agg #[.int .i64 r.kind, .int .i64 r.players, .int .i64 r.last, .bool r.bull, .bool r.jump, .int .i64 r.rounds, .bool r.cut, nv, .int .i64 r.lives, .bool r.own]) w) ∧
   ∀ w,TabAt w t pb r g cap wv nv → Calls Tryz.prog F #[.agg #[.int .i64 r.kind,.int .i64 r.players,.int .i64 r.last,.bool r.bull,.bool r.jump,.int .i64 r.rounds,.bool r.cut,nv,.int .i64 r.lives,.bool r.own],.pointer (some ⟨t,0,none⟩),.agg #[.int .i64 f,.int .i64 n]] w (DartPost t pb r cap wv nv w (dartG r g f n)):=by
 rcases kind_of hi.ok with k | k | k | k
 ·refine ⟨100,enters_of Tryz.func100 (by kernel_rfl) rfl,fun w => ?_,fun w h => ?_⟩
  ·rw [lawT,if_pos k]; exact m_dart1 _ w
  ·rw [dartG,if_pos k]; exact dart1_any t pb cap r g wv nv f n M w h hi k (by omega) hb.f
 ·refine ⟨109,enters_of Tryz.func109 (by kernel_rfl) rfl,fun w => ?_,fun w h => ?_⟩
  ·rw [lawT,if_neg (by omega),if_pos k]; exact m_dart2 _ w
  ·rw [dartG,if_neg (by omega),if_pos k]; exact dart2_any t pb cap r g wv nv f n M w h hi k (by omega) hb
 ·refine ⟨121,enters_of Tryz.func121 (by kernel_rfl) rfl,fun w => ?_,fun w h => ?_⟩
  ·rw [lawT,if_neg (by omega),if_neg (by omega),if_pos k]; exact m_dart3 _ w
  ·rw [dartG,if_neg (by omega),if_neg (by omega),if_pos k]; exact dart3_any t pb cap r g wv nv f n M w h hi k (by omega) hb
 ·refine ⟨125,enters_of Tryz.func125 (by kernel_rfl) rfl,fun w => ?_,fun w h => ?_⟩
  ·rw [lawT,if_neg (by omega),if_neg (by omega),if_neg (by omega)]; exact m_dart4 _ w
  ·rw [dartG,if_neg (by omega),if_neg (by omega),if_neg (by omega)]; exact dart4_any t pb cap r g wv nv f n M w h hi k (by omega)
set_option maxRecDepth 100000 in
set_option maxHeartbeats 4000000 in
theorem throw_any (t pb cap : Nat) (r : Rul) (g : Gam) (wv nv : Value) (f n M : Int) (w : World) (h : TabAt w t pb r g cap wv nv) (hl : Live r M g) (hM : M ≤ 800000) (hb : okHit f n) (hrd : g.round < 100000) :
  Calls Tryz.prog 38 #[.pointer (some ⟨t,0,none⟩),.agg #[.int .i64 f,.int .i64 n]] w fun e w' => (∃ v,e = .returned v) ∧ Rel (TO t pb) w (TO t pb) w' ∧ ∃ wv',TabAt w' t pb r (throwG r g f n) cap wv' nv:=by
 obtain ⟨F,hF,hm,hcall⟩ := dart_law t pb cap r { g with darts:=g.darts + 1 } wv nv f n M (hl.toRun.dart _) hM hb
 have hdok:=dart_ok (hl.toRun.dart (g.darts + 1)) hb
 obtain ⟨d,hd⟩ : ∃ d,dartG r { g with darts:=g.darts + 1 } f n = d:=⟨_,rfl⟩
 rw [hd] at hdok hcall
 have HTH : Hid (throwG r g f n = if d.2 = [] ∧ (d.1.darts = 3 ∨ isOutG r { d.1 with win:=d.2 } d.1.player = true) then nextG r { d.1 with win:=d.2 } else { d.1 with win:=d.2 }):=Lib.hid (by unfold throwG; rw [hd])
 obtain ⟨w0,hw0⟩ : ∃ w0,w.alloc (.cells #[.int .i64 f,.int .i64 n] 61) = w0:=⟨_,rfl⟩
 have hb0 : Below w.heap.size w w0:=by rw [← hw0]; exact aB _ _
 obtain ⟨q,hq⟩ : ∃ q,w.heap.size = q:=⟨_,rfl⟩
 have k0 : w0.heap[q]? = some (.cells #[.int .i64 f,.int .i64 n] 61 (0,0)):=by rw [← hw0,← hq]; exact World.alloc_heap_new _ _
 have ht0:=h.below hb0
 have htq : t < q ∧ pb < q:=by rw [← hq]; exact ⟨h.lt t (.inl rfl),h.lt pb (.inr rfl)⟩
 obtain ⟨w1,hw1⟩ : ∃ w1,w0.setCell ⟨t,2,none⟩ (.int .i64 ((g.darts : Int) + 1)) = w1:=⟨_,rfl⟩
 have ht1 : TabAt w1 t pb r { g with darts:=g.darts + 1 } cap wv nv:=by rw [← hw1]; exact ht0.setDarts (g.darts + 1)
 have hr1 : Rel (TO t pb) w (TO t pb) w1:=by rw [← hw1]; exact (Rel.of_below hb0 h.lt).setCell (.inl rfl) _
 have k1 : w1.heap[q]? = some (.cells #[.int .i64 f,.int .i64 n] 61 (0,0)):=by rw [← hw1]; exact (Below.heap_setCell _ _ _ _ (by dsimp only; omega)).trans k0
 have c2 : (w.alloc (.cells #[.int .i64 f,.int .i64 n] 61)).cell? ⟨t,2,none⟩ = some (.int .i64 g.darts):=by rw [hw0]; exact ht0.at_ rfl
 have f2 : (w.alloc (.cells #[.int .i64 f,.int .i64 n] 61)).frozen? ⟨t,2,none⟩ = false:=by rw [hw0]; exact ht0.free 2
 have hdr:=hl.darts
 have hwd : IntKind.i64.wrap ((g.darts : Int) + 1) = (g.darts : Int) + 1:=wrap_small _ (by omega) (by omega)
 have l5 : ∀ W,TabAt W t pb r { g with darts:=g.darts + 1 } cap wv nv → W.cell? ⟨t,5,none⟩ = some (.iface (lawT r) (.agg #[.int .i64 r.kind,.int .i64 r.players,.int .i64 r.last,.bool r.bull,.bool r.jump,.int .i64 r.rounds,.bool r.cut,nv,.int .i64 r.lives,.bool r.own])):=fun W hW => hW.at_ (j:=5) rfl
 obtain ⟨LT,hLT⟩ : ∃ LT,lawT r = LT:=⟨_,rfl⟩
 rw [hLT] at hm l5
 have HF:=Lib.hid hF
 have HM:=Lib.hid hm
 have HCALL:=Lib.hid hcall
 have HDOK:=Lib.hid hdok
 have HW0:=Lib.hid hw0
 have HW1:=Lib.hid hw1
 have HQ:=Lib.hid hq
 have K1:=Lib.hid k1
 have HT1:=Lib.hid ht1
 have HR1:=Lib.hid hr1
 have HL5:=Lib.hid l5
 have HLV:=Lib.hid hl
 have HLT:=Lib.hid hLT
 clear hF hm hcall hdok hd hw0 hb0 hq k0 ht0 hw1 ht1 hr1 k1 l5 hl h hLT
 go_enter Tryz.func38,Tryz.ntmps38
 go_wp2_with fail
 rw [HW0.out,HQ.out,HW1.out]
 clear c2 f2
 refine wp_region_gen 11 (fun i v W => match i with
  | 0 | 1 | 2 | 5 | 8 | 9 => v = .pointer (some ⟨t,0,none⟩)
  | 3 => v = .pointer (some ⟨t,5,none⟩)
  | 4 => v = .iface LT (.agg #[.int .i64 r.kind,.int .i64 r.players,.int .i64 r.last,.bool r.bull,.bool r.jump,.int .i64 r.rounds,.bool r.cut,nv,.int .i64 r.lives,.bool r.own])
  | 6 => v = .agg #[.int .i64 f,.int .i64 n]
  | 7 => Sl (WS t pb) W v (ints d.2)
  | 10 => v = .pointer (some ⟨t,4,none⟩)
  | _ => True) (JSt 7 [4,6] (fun W => Below w1.heap.size w1 W) (fun W => TabAt W t pb r d.1 cap wv nv ∧ Rel (TO t pb) w1 (TO t pb) W)) mix (by kernel_rfl) (JSt.start ⟨rfl,rfl,rfl,Nat.le_refl _,fun _ _ => rfl⟩) ?_ ?_
 ·refine ⟨?_, ?_, ?_, ?_, ?_, ?_, ?_, ?_, ?_, ?_, ?_,trivial⟩
  all_goals refine gen_plain rfl fun a W L hSi hJ hpre ht' => ?_
  all_goals
   simp [Region.binds] at hpre
  ·have t0:=ht' 0 rfl
   simp at t0
   simp [opOK,go_sem,t0]
   exact ⟨hJ.read (by omega),fun j _ _ v h _ => h⟩
  ·have t0:=ht' 0 rfl
   simp at t0
   simp [opOK,go_sem,t0]
   exact ⟨hJ.read (by omega),fun j _ _ v h _ => h⟩
  ·simp [opOK,go_sem,hpre]
   exact ⟨hJ.read (by omega),fun j _ _ v h _ => h⟩
  ·simp [opOK,go_sem,hpre]
   exact ⟨hJ.read (by omega),fun j _ _ v h _ => h⟩
  ·have hl5:=HL5.out W (HT1.out.below (hJ.look (by simp) hSi))
   simp [opOK,go_sem,hpre,hl5]
   exact ⟨hJ.read (by omega),fun j _ _ v h _ => h⟩
  ·have t0:=ht' 0 rfl
   simp at t0
   simp [opOK,go_sem,t0]
   exact ⟨hJ.read (by omega),fun j _ _ v h _ => h⟩
  ·have t3:=ht' 3 rfl
   simp at t3
   have kk:=((hJ.look (i:=6) (by simp) hSi).block _ (Array.getElem?_eq_some_iff.1 K1.out).1).trans K1.out
   have x0 : W.cell? ⟨q,0,none⟩ = some (.int .i64 f):=by rw [cell_of_heap kk]; rfl
   have x1 : W.cell? ⟨q,1,none⟩ = some (.int .i64 n):=by rw [cell_of_heap kk]; rfl
   simp [opOK,go_sem,t3,x0,x1]
   exact ⟨hJ.read (by omega),fun j _ _ v h _ => h⟩
  ·have hw:=hJ.off hSi
   have hm:=HM.out
   have hen:=HF.out
   unfold Enters at hen
   have h46 : L 4 = true ∧ L 6 = true:=⟨by simp_all,by simp_all⟩
   refine opOK_call (f:=F) (args:=#[.agg #[.int .i64 r.kind,.int .i64 r.players,.int .i64 r.last,.bool r.bull,.bool r.jump,.int .i64 r.rounds,.bool r.cut,nv,.int .i64 r.lives,.bool r.own],.pointer (some ⟨t,0,none⟩),.agg #[.int .i64 f,.int .i64 n]]) (by simp [go_sem,hpre,hm,hen]) ?_
   refine (HCALL.out W (HT1.out.below hw)).mono fun e W' ⟨v,he,hs,ht,hr⟩ => ⟨v,he,JSt.write (fun i hi => by simp at hi; rcases hi with rfl | rfl; exact h46.1; exact h46.2) ⟨ht,(Rel.of_below hw HT1.out.lt).trans hr⟩,fun j hj _ v h _ => ?_,hs⟩
   match j with
   | 0 | 1 | 2 | 3 | 4 | 5 | 6 | 8 | 9 | 10 => exact h
   | 7 => exact (hj rfl).elim
   | (_ + 11) => trivial
  ·simp [opOK,go_sem,hpre]
   exact ⟨hJ.read (by omega),fun j _ _ v h _ => h⟩
  ·simp [opOK,go_sem,hpre]
   exact ⟨hJ.read (by omega),fun j _ _ v h _ => h⟩
  ·simp [opOK,go_sem,hpre]
   exact ⟨hJ.read (by omega),fun j _ _ v h _ => h⟩
 intro w2 hJ
 simp only [List.take_succ_cons,List.take_zero,List.drop_succ_cons,List.drop_zero,EndAll]
 rintro _ rfl _ rfl _ rfl _ rfl _ rfl _ rfl _ rfl v hsv _ rfl _ rfl _ rfl
 obtain ⟨va,vc,rfl,_,_⟩ := hsv.form
 rw [ints_length] at hsv
 simp only [Act.put,List.setIfInBounds_toArray,List.set_cons_succ,List.set_cons_zero]
 obtain ⟨ht2,hr2⟩ := hJ.on (by decide)
 have c4 : w2.cell? ⟨t,4,none⟩ = some wv:=ht2.at_ rfl
 have f4:=ht2.free 4
 obtain ⟨w3,hw3⟩ : ∃ w3,w2.setCell ⟨t,4,none⟩ (.slice va d.2.length vc) = w3:=⟨_,rfl⟩
 have ht3 : TabAt w3 t pb r { d.1 with win:=d.2 } cap (.slice va d.2.length vc) nv:=by rw [← hw3]; exact ht2.setWin hsv
 have hr3 : Rel (TO t pb) w (TO t pb) w3:=by rw [← hw3]; exact (HR1.out.trans hr2).setCell (.inl rfl) _
 have HT3:=Lib.hid ht3
 have HR3:=Lib.hid hr3
 have HW3:=Lib.hid hw3
 clear ht2 hr2 hJ hsv ht3 hr3 hw3
 obtain ⟨ov,hov⟩ : ∃ ov,(!d.2.isEmpty) = ov:=⟨_,rfl⟩
 have HOV:=Lib.hid hov
 go_wp2_with fail
 rw [HW3.out]
 clear c4 f4
 refine (isOver_any t pb cap r { d.1 with win:=d.2 } _ nv w3 HT3.out).mono ?_
 rintro e w4 ⟨rfl,rfl⟩
 dsimp only
 rw [hov]
 clear hov
 cases ov
 ·have he : d.2 = []:=by have:=HOV.out; simpa using this
  have HE : Hid (({ d.1 with win:=d.2 } : Gam).win = []):=Lib.hid he
  have HE2:=Lib.hid he
  have HINV : Hid (Inv r (M + 100) { d.1 with win:=d.2 }):=Lib.hid ⟨HDOK.out.inv.ok,HDOK.out.inv.len,HDOK.out.inv.pl,HDOK.out.inv.each,HDOK.out.inv.hit⟩
  have HAL : Hid (1 ≤ alive r { d.1 with win:=d.2 }):=Lib.hid (by
   show 1 ≤ alive r d.1
   by_cases k4 : r.kind = 4
   ·have:=HDOK.out.two he k4; omega
   ·rw [alive_kind k4]; have:=HDOK.out.inv.pl; omega)
  have HRD : Hid (({ d.1 with win:=d.2 } : Gam).round < 100000):=Lib.hid (by show d.1.round < 100000; rw [HDOK.out.kept.round]; exact hrd)
  have c2 : w3.cell? ⟨t,2,none⟩ = some (.int .i64 d.1.darts):=HT3.out.at_ rfl
  have c1 : w3.cell? ⟨t,1,none⟩ = some (.int .i64 d.1.player):=HT3.out.at_ rfl
  obtain ⟨db,hdb⟩ : ∃ db,((d.1.darts : Int) == 3) = db:=⟨_,rfl⟩
  have HDB:=Lib.hid hdb
  clear he
  cases db
  ·obtain ⟨ob,hob⟩ : ∃ ob,isOutG r { d.1 with win:=d.2 } d.1.player = ob:=⟨_,rfl⟩
   have HOB:=Lib.hid hob
   clear hob
   go_wp2_with fail
   refine (isOut_r t pb d.1.player cap r { d.1 with win:=d.2 } _ nv ob HOB w3 HT3.out HDOK.out.inv.pl).mono ?_
   rintro e w4 ⟨rfl,rfl⟩
   cases ob
   ·have HG : Hid (throwG r g f n = { d.1 with win:=d.2 }):=Lib.hid (by
     rw [HTH.out,if_neg]
     rintro ⟨-,h1 | h1⟩
     ·have:=HDB.out; simp at this; omega
     ·rw [HOB.out] at h1; cases h1)
    go_wp2
    go_end0
    exact ⟨⟨_,rfl⟩,HR3.out,_,by rw [HG.out]; exact HT3.out⟩
   ·have HG : Hid (throwG r g f n = nextG r { d.1 with win:=d.2 }):=Lib.hid (by
     rw [HTH.out,if_pos ⟨HE2.out,.inr HOB.out⟩])
    go_wp2_with fail
    refine (next_any t pb cap r { d.1 with win:=d.2 } _ nv (M + 100) w3 HT3.out HINV.out HAL.out HE.out HRD.out).mono ?_
    rintro e w5 ⟨⟨v,rfl⟩,hr5,wv',ht5⟩
    have HT5:=Lib.hid ht5
    have HR5:=Lib.hid (HR3.out.trans hr5)
    clear ht5 hr5
    go_wp2
    go_end0
    exact ⟨⟨_,rfl⟩,HR5.out,wv',by rw [HG.out]; exact HT5.out⟩
  ·have HG : Hid (throwG r g f n = nextG r { d.1 with win:=d.2 }):=Lib.hid (by
    rw [HTH.out,if_pos ⟨HE2.out,.inl (by have:=HDB.out; simp at this; omega)⟩])
   go_wp2_with fail
   refine (next_any t pb cap r { d.1 with win:=d.2 } _ nv (M + 100) w3 HT3.out HINV.out HAL.out HE.out HRD.out).mono ?_
   rintro e w5 ⟨⟨v,rfl⟩,hr5,wv',ht5⟩
   have HT5:=Lib.hid ht5
   have HR5:=Lib.hid (HR3.out.trans hr5)
   clear ht5 hr5
   go_wp2
   go_end0
   exact ⟨⟨_,rfl⟩,HR5.out,wv',by rw [HG.out]; exact HT5.out⟩
 ·have he : d.2 ≠ []:=by have:=HOV.out; simpa using this
  have HG : Hid (throwG r g f n = { d.1 with win:=d.2 }):=Lib.hid (by rw [HTH.out,if_neg (fun e => he e.1)])
  clear he
  go_wp2
  go_end0
  exact ⟨⟨_,rfl⟩,HR3.out,_,by rw [HG.out]; exact HT3.out⟩
end Go.Proofs.YtnhggfnnolfcdaaGreat
