/- The texts EE, JApp, IG, in build order. -/
import Derived.Test.YtnhggfnnolfcdaaGreatZat
import Derived.Deep.DeepCutAuto
import Derived.Deep.CutRange

/- Chapter 4: slices.Sort and slices.Sorted of at most 12 beds. -/
namespace Go.Proofs.YtnhggfnnolfcdaaGreat
open Go.RowKit Go.Oche Go.Proofs

set_option maxRecDepth 100000 in
set_option maxHeartbeats 4000000 in
theorem bitsLen_small (n : Nat) (hn : n ≤ 12) (w : World) : Calls Tryz.prog 48 #[.int .u64 n] w fun e w' => ∃ L : Int,e = .returned (.int .i64 L) ∧ w = w':=by
 have h : n = 0 ∨ n = 1 ∨ n = 2 ∨ n = 3 ∨ n = 4 ∨ n = 5 ∨ n = 6 ∨ n = 7 ∨ n = 8 ∨ n = 9 ∨ n = 10 ∨ n = 11 ∨ n = 12:=by omega
 rcases h with rfl | rfl | rfl | rfl | rfl | rfl | rfl | rfl | rfl | rfl | rfl | rfl | rfl
 all_goals
  go_enter Tryz.func48,Tryz.ntmps48
  go_wp2_with fail
  refine Calls.mono (R:=fun e w' => ∃ L : Int,e = .returned (.int .i64 L) ∧ w = w') ?_ ?_
  ·go_enter Tryz.func69,Tryz.ntmps69
   go_wp2
   go_returns
   exact ⟨_,rfl,rfl⟩
  ·rintro e w1 ⟨L,rfl,rfl⟩
   go_wp2
   go_returns
   exact ⟨_,rfl,rfl⟩
set_option maxRecDepth 100000 in
set_option maxHeartbeats 4000000 in
theorem pdqB_any (base g c n : Nat) (L : Int) (xs : List Int) (w : World) (ho : w.ownsRow base 45 1 (.slice (some ⟨g,0,none⟩) n c) n (ints xs)) (hn : n ≤ 12) :
  Calls Tryz.prog 47 #[.slice (some ⟨g,0,none⟩) n c,.int .i64 0,.int .i64 n,.int .i64 L] w fun e w' =>
   e = .returned (.tuple #[]) ∧ ∃ ys,w'.ownsRow base 45 1 (.slice (some ⟨g,0,none⟩) n c) n (ints ys) ∧ w.grownBy w' (some g) ∧ SegB xs (max 1 n) ys:=by
 have d1 : decide ((n : Int) ≤ 12) = true:=decide_eq_true (by omega)
 have d1n : decide (n ≤ 12) = true:=decide_eq_true hn
 have hw0 : IntKind.i64.wrap (n : Int) = n:=wrap_small _ (by omega) (by omega)
 have HO:=Lib.hid ho
 clear ho
 go_enter Tryz.func47,Tryz.ntmps47
 go_wp2_with fail
 go_loopw [1,2,3] (fun av bv lv wr => av = .int .i64 0 ∧ bv = .int .i64 n ∧ lv = .int .i64 L ∧ Hid (wr = w)) (fun _ _ _ _ => 0)
 case atStart => exact ⟨rfl,rfl,rfl,Lib.hid rfl⟩
 case round =>
  obtain ⟨rfl,rfl,rfl,HW⟩ := hrel
  go_wp2_with fail
  have hw:=HW.out
  subst hw
  refine (insB_any base g c n xs _ HO.out (by omega)).mono ?_
  rintro e w1 ⟨rfl,ys,h1,h2,h3⟩
  have H1:=Lib.hid h1
  have H2:=Lib.hid h2
  have H3:=Lib.hid h3
  clear h1 h2 h3
  go_wp2
  go_returns
  exact ⟨rfl,ys,H1.out,H2.out,H3.out⟩
set_option maxRecDepth 100000 in
set_option maxHeartbeats 4000000 in
theorem sortB_any (base g c n : Nat) (xs : List Int) (w : World) (ho : w.ownsRow base 45 1 (.slice (some ⟨g,0,none⟩) n c) n (ints xs)) (hn : n ≤ 12) :
  Calls Tryz.prog 32 #[.slice (some ⟨g,0,none⟩) n c] w fun e w' =>
   e = .returned (.tuple #[]) ∧ ∃ ys,w'.ownsRow base 45 1 (.slice (some ⟨g,0,none⟩) n c) n (ints ys) ∧ w.grownBy w' (some g) ∧ SegB xs (max 1 n) ys:=by
 have hw0 : IntKind.u64.wrap (n : Int) = n:=by rw [IntKind.wrap_u64]; omega
 have HO:=Lib.hid ho
 clear ho
 go_enter Tryz.func32,Tryz.ntmps32
 go_wp2_with fail
 refine (bitsLen_small n hn w).mono ?_
 rintro e w0 ⟨L,rfl,rfl⟩
 go_wp2_with fail
 refine (pdqB_any base g c n L xs _ HO.out hn).mono ?_
 rintro e w1 ⟨rfl,ys,h1,h2,h3⟩
 have H1:=Lib.hid h1
 have H2:=Lib.hid h2
 have H3:=Lib.hid h3
 clear h1 h2 h3
 go_wp2
 go_returns
 exact ⟨rfl,ys,H1.out,H2.out,H3.out⟩
set_option maxRecDepth 100000 in
set_option maxHeartbeats 4000000 in
theorem sortB0_any (w : World) : Calls Tryz.prog 32 #[.slice none 0 0] w fun e w' => e = .returned (.tuple #[]) ∧ w = w':=by
 have hw0 : IntKind.u64.wrap (0 : Int) = 0:=by decide
 go_enter Tryz.func32,Tryz.ntmps32
 go_wp2_with fail
 refine (bitsLen_small 0 (by omega) w).mono ?_
 rintro e w0 ⟨L,rfl,rfl⟩
 go_wp2_with fail
 refine Calls.mono (R:=fun e w' => e = .returned (.tuple #[]) ∧ w = w') ?_ ?_
 ·go_enter Tryz.func47,Tryz.ntmps47
  go_wp2
  refine wp_loop_rounds 1 ?_
  rw [rounds_succ]
  go_wp2_with fail
  refine Calls.mono (R:=fun e w' => e = .returned (.tuple #[]) ∧ w = w') ?_ ?_
  ·go_enter Tryz.func59,Tryz.ntmps59
   go_wp2
   refine wp_loop_rounds 1 ?_
   rw [rounds_succ]
   go_wp2
   go_returns
   exact ⟨rfl,rfl⟩
  ·rintro e w1 ⟨rfl,rfl⟩
   go_wp2
   go_returns
   exact ⟨rfl,rfl⟩
 ·rintro e w1 ⟨rfl,rfl⟩
  go_wp2
  go_returns
  exact ⟨rfl,rfl⟩
set_option maxRecDepth 100000 in
set_option maxHeartbeats 4000000 in
theorem sortedB_any {S : Nat → Prop} (cs : List Int) (pb : Nat) (v : Value) (w : World) (cb : w.cell? ⟨pb,0,none⟩ = some v) (hsl : Sl S w v (ints cs)) (hl : cs.length ≤ 12) :
  Calls Tryz.prog 14 #[.func (.func 33) #[] #[.pointer (some ⟨pb,0,none⟩)]] w fun e w' =>
   ∃ v' ys,e = .returned v' ∧ Below w.heap.size w w' ∧ w'.ownsRow w.heap.size 45 1 v' cs.length (ints ys) ∧ ys.Perm cs ∧ ys.Pairwise (· ≤ ·):=by
 have hap:=appendBeds_any cs pb v w cb hsl (by omega)
 clear cb hsl
 go_enter Tryz.func14,Tryz.ntmps14
 go_wp2_with fail
 refine Calls.mono (R:=fun e w' => ∃ v',e = .returned v' ∧ Below w.heap.size w w' ∧ w'.ownsRow w.heap.size 45 1 v' cs.length (ints cs)) ?_ ?_
 ·go_enter Tryz.func31,Tryz.ntmps31
  go_wp2_with fail
  refine hap.mono ?_
  rintro e w1 ⟨v',rfl,hb1,ho1⟩
  obtain ⟨a,c,rfl⟩ := owns_form ho1
  have HB:=Lib.hid hb1
  have HO:=Lib.hid ho1
  clear hb1 ho1 hap
  go_wp2
  go_ret
  exact ⟨_,rfl,HB.out,HO.out⟩
 ·clear hap
  rintro e w1 ⟨v',rfl,hb1,ho1⟩
  rcases ho1.2 with ⟨rfl,h0⟩ | ⟨g,c,cur,rfl,_⟩
  ·have HB:=Lib.hid hb1
   have h00:=List.eq_nil_of_length_eq_zero h0
   have HO:=Lib.hid ho1
   have H0:=Lib.hid h00
   clear hb1 ho1 h0 h00
   go_wp2_with fail
   refine (sortB0_any w1).mono ?_
   rintro e w2 ⟨rfl,rfl⟩
   go_wp2
   go_ret
   exact ⟨_,cs,rfl,HB.out,HO.out,List.Perm.refl _,by rw [H0.out]; exact List.Pairwise.nil⟩
  ·have HB:=Lib.hid hb1
   have HO:=Lib.hid ho1
   have hlt:=(ho1.lt g rfl).1
   have HLT:=Lib.hid hlt
   clear hb1 ho1 hlt
   go_wp2_with fail
   refine (sortB_any w.heap.size g c cs.length cs w1 HO.out hl).mono ?_
   rintro e w2 ⟨rfl,ys,ho2,hg2,hs2⟩
   have HB2:=Lib.hid (HB.out.trans (below_grownBy hg2 HB.out.size fun q hq => by cases hq; exact HLT.out))
   have HO2:=Lib.hid ho2
   have HP2:=Lib.hid hs2.perm
   have HS2 : Hid (ys.Pairwise (· ≤ ·)):=Lib.hid (by
    rw [List.pairwise_iff_getElem]
    intro p q h1 h2 h3
    have hl:=hs2.perm.length_eq
    have:=hs2.asc p q h3 (by omega)
    rwa [at0_eq h1,at0_eq h2] at this)
   clear ho2 hg2 hs2
   go_wp2
   go_ret
   exact ⟨_,ys,rfl,HB2.out,HO2.out,HP2.out,HS2.out⟩
end Go.Proofs.YtnhggfnnolfcdaaGreat

/- A region that draws its order, with one append of one new element to a row of one's own, among operations that only read. -/
namespace Go.Oche
open Go Go.RowKit
structure JApp (w : World) (v : Value) (il ia : Nat) (sg : List Nat) (L : Nat → Bool) (W : World) : Prop where
 off : L ia = false → Below w.heap.size w W
 on : L ia = true → L il = true ∧ w.grownBy W v.ownBlock
 asg : ∀ i ∈ sg,L i = true → L ia = true
def LitAt (w : World) (u : Value) (v' : Value) (W : World) : Prop := ∃ b,v' = .slice (some ⟨b,0,none⟩) 1 1 ∧ w.heap.size ≤ b ∧ b < W.heap.size ∧ W.cell? ⟨b,0,none⟩ = some u
section
variable {w W : World} {v : Value} {il ia : Nat} {sg : List Nat} {L : Nat → Bool}
theorem JApp.start : JApp w v il ia sg (fun _ => false) w.drew:=⟨fun _ => ⟨rfl,rfl,rfl,Nat.le_refl _,fun _ _ => rfl⟩,fun h => (by cases h),fun _ _ h => (by cases h)⟩
theorem JApp.size (h : JApp w v il ia sg L W) : w.heap.size ≤ W.heap.size:=by
 cases hL : L ia with
 | false => exact (h.off hL).size
 | true => exact (h.on hL).2.size
theorem JApp.cell (h : JApp w v il ia sg L W) {b o : Nat} {x : Value} (hv : w.cell? ⟨b,o,none⟩ = some x) (hb : some b ≠ v.ownBlock) : W.cell? ⟨b,o,none⟩ = some x:=by
 have hlt:=World.block_lt_of_cell? w _ hv
 cases hL : L ia with
 | false => exact bAt (h.off hL) hv
 | true => exact (World.cell?_of_block (w:=w) ((h.on hL).2.block b hlt hb)).trans hv
theorem JApp.read (h : JApp w v il ia sg L W) {i : Nat} (h1 : ia ≠ i) (h2 : i ∉ sg) : JApp w v il ia sg (setB L i) W:=by
 refine ⟨?_, ?_,fun j hj hs => ?_⟩
 ·rw [setB_ne h1]; exact h.off
 ·rw [setB_ne h1]; exact fun hL => ⟨by unfold setB; split; rfl; exact (h.on hL).1,(h.on hL).2⟩
 ·rw [setB_ne h1]; rw [setB_ne (show j ≠ i from fun e => h2 (by rw [← e]; exact hj))] at hs; exact h.asg j hj hs
theorem JApp.readAs (h : JApp w v il ia sg L W) {i : Nat} (h1 : ia ≠ i) (hL : L ia = true) : JApp w v il ia sg (setB L i) W:=by
 refine ⟨?_, ?_,fun j _ _ => ?_⟩
 ·rw [setB_ne h1]; exact h.off
 ·rw [setB_ne h1]; exact fun hL => ⟨by unfold setB; split; rfl; exact (h.on hL).1,(h.on hL).2⟩
 ·rw [setB_ne h1]; exact hL
theorem JApp.not_app (h : JApp w v il ia sg L W) (hL : L il = false) : L ia = false:=by
 cases hA : L ia with
 | false => rfl
 | true => rw [(h.on hA).1] at hL; cases hL
theorem JApp.lit (h : JApp w v il ia sg L W) (hL : L il = false) (hne : ia ≠ il) (hn : il ∉ sg) (ob : Obj) : JApp w v il ia sg (setB L il) (W.alloc ob):=by
 have hA:=h.not_app hL
 refine ⟨fun _ => (h.off hA).trans ((aB _ _).mono (h.off hA).size),fun h' => ?_,fun j hj hs => ?_⟩
 ·rw [setB_ne hne,hA] at h'; cases h'
 ·rw [setB_ne (show j ≠ il from fun e => hn (by rw [← e]; exact hj))] at hs; rw [setB_ne hne]; exact h.asg j hj hs
theorem JApp.app (h : JApp w v il ia sg L W) (hL : L il = true) (hA : L ia = false) {Wn : World} (hg : W.grownBy Wn v.ownBlock) (hne : il ≠ ia) : JApp w v il ia sg (setB L ia) Wn:=by
 refine ⟨fun h' => ?_,fun _ => ⟨by rw [setB_ne hne]; exact hL,grownBy_trans (grownBy_below _ (h.off hA)) hg⟩,fun _ _ _ => setB_eq⟩
 rw [setB_eq] at h'; cases h'
theorem LitAt.alloc {u v' : Value} (h : LitAt w u v' W) (ob : Obj) : LitAt w u v' (W.alloc ob):=by
 obtain ⟨b,e,h1,h2,h3⟩ := h
 exact ⟨b,e,h1,by simp; omega,bAt (aB _ _) h3⟩
theorem LitAt.grown {u v' : Value} {Wn : World} (h : LitAt w u v' W) (hg : W.grownBy Wn v.ownBlock) (hv : ∀ g,v.ownBlock = some g → g < w.heap.size) : LitAt w u v' Wn:=by
 obtain ⟨b,e,h1,h2,h3⟩ := h
 refine ⟨b,e,h1,Nat.lt_of_lt_of_le h2 hg.size, ?_⟩
 exact (World.cell?_of_block (w:=W) (hg.block b h2 (fun e => by have:=hv b e.symm; omega))).trans h3
end
end Go.Oche

/- Chapter 4: the ranking (Rank). -/
namespace Go.Proofs.YtnhggfnnolfcdaaGreat
open Go.RowKit Go.Oche Go.Proofs
def lenAt (w : World) (q : Nat) : Nat:=match w.cell? ⟨q,0,none⟩ with | some (.slice _ n _) => n | _ => 0
theorem belowSz {B : Nat} {w w' : World} (hB : w.heap.size = B) (h : Below B w w') : B ≤ w'.heap.size:=by rw [← hB]; exact h.size
def restK (g : Gam) (k : Nat) : List Int:=((List.range k).filter fun (i : Nat) => !g.win.contains (i : Int)).map fun (i : Nat) => (i : Int)
theorem restK_succ (g : Gam) (k : Nat) : restK g (k + 1) = restK g k ++ if g.win.contains (k : Int) = true then [] else [(k : Int)]:=by
 unfold restK
 rw [List.range_succ,List.filter_append,List.map_append]
 congr 1
 cases h : g.win.contains (k : Int) <;> simp_all
theorem restK_len (g : Gam) (k : Nat) : (restK g k).length ≤ k:=by
 unfold restK
 rw [List.length_map]
 exact Nat.le_trans (List.length_filter_le _ _) (by simp)
def RankPost (r : Rul) (w : World) (x : Option Gam × Nat × Int) (e : Ending) (w' : World) : Prop :=
 Below w.heap.size w w' ∧ ((∃ a er,x = (none,a,er) ∧ e = .returned (.tuple #[.slice none 0 0,.int .i64 er])) ∨
  ∃ g gv,x = (some g,0,0) ∧ e = .returned (.tuple #[gv,.int .i64 0]) ∧ SlSl (fun _ => True) w' gv (rankG r g))
def InnerOk (S : Nat → Prop) (w : World) (vals : List Value) (gs : List (List Int)) : Prop:=vals.length = gs.length ∧ ∀ i (h : i < gs.length), ∃ u,vals[i]? = some u ∧ Sl S w u (ints gs[i])
theorem InnerOk.keep {S S' : Nat → Prop} {w w' : World} {vals : List Value} {gs : List (List Int)} (h : InnerOk S w vals gs) (hS : ∀ k,S k → S' k) (hk : ∀ k,S k → k < w.heap.size → w'.heap[k]? = w.heap[k]?) : InnerOk S' w' vals gs :=
 ⟨h.1,fun i hi => let ⟨u,e,hu⟩ := h.2 i hi; ⟨u,e,(hu.lt.cells (fun b o hb _ => World.cell?_of_block (w:=w) (hk b hb.1 hb.2))).mono fun k hk => hS k hk.1⟩⟩
theorem InnerOk.add {S : Nat → Prop} {w : World} {vals : List Value} {gs : List (List Int)} (h : InnerOk S w vals gs) {u : Value} {xs : List Int} (hu : Sl S w u (ints xs)) : InnerOk S w (vals ++ [u]) (gs ++ [xs]):=by
 obtain ⟨hl,hi⟩ := h
 refine ⟨by simp [hl],fun i h => ?_⟩
 by_cases e : i < gs.length
 ·obtain ⟨v,h1,h2⟩ := hi i e
  exact ⟨v,by rw [List.getElem?_append_left (by omega)]; exact h1,by rw [List.getElem_append_left e]; exact h2⟩
 ·have e2 : i = gs.length:=by simp at h; omega
  subst e2
  exact ⟨u,by rw [← hl,List.getElem?_append_right (Nat.le_refl _)]; simp,by rw [List.getElem_append_right (Nat.le_refl _)]; simpa using hu⟩
theorem _root_.Go.Oche.Sl.keepB {S : Nat → Prop} {w w' : World} {v : Value} {xs : List Value} (h : Sl S w v xs) (hk : ∀ k,S k → k < w.heap.size → w'.heap[k]? = w.heap[k]?) : Sl S w' v xs :=
 h.cells fun b o hb hs => World.cell?_of_block (w:=w) (hk b hb (by
  obtain ⟨x,hx⟩ := Option.isSome_iff_exists.1 hs
  exact World.block_lt_of_cell? w _ hx))
theorem sl_slice {S : Nat → Prop} {w : World} {b o n c : Nat} {xs : List Value} (h : Sl S w (.slice (some ⟨b,o,none⟩) n c) xs) {lo hi : Nat} (h1 : lo ≤ hi) (h2 : hi ≤ n) : Sl S w (.slice (some ⟨b,o + lo,none⟩) (hi - lo) (c - lo)) ((xs.take hi).drop lo):=by
 obtain ⟨a,cap,e,l1,l2,hc⟩ := h
 cases e
 have hlen : ((xs.take hi).drop lo).length = hi - lo:=by simp; omega
 refine ⟨_,c - lo,by rw [hlen],by rw [hlen]; omega,by omega,fun i x hx => ?_⟩
 have hil : i < hi - lo:=by rw [← hlen]; exact (List.getElem?_eq_some_iff.1 hx).1
 rw [List.getElem?_drop,List.getElem?_take,if_pos (by omega)] at hx
 obtain ⟨b',off',e,s,hcell⟩ := hc (lo + i) x hx
 cases e
 exact ⟨b,o + lo,rfl,s,by rw [Nat.add_assoc]; exact hcell⟩
theorem ints_take_drop (xs : List Int) (lo hi : Nat) : ((ints xs).take hi).drop lo = ints ((xs.take hi).drop lo):=by simp [ints,List.map_take,List.map_drop]
theorem info_sl : (Tryz.prog.info? 27).map (fun i => (i.zero,i.size,i.bytes)) = some (some (.slice none 0 0),1,24):=by kernel_rfl
theorem ec41 : Enters Tryz.prog 41:=enters_of Tryz.func41 (by kernel_rfl) rfl
theorem ec44 : Enters Tryz.prog 44:=enters_of Tryz.func44 (by kernel_rfl) rfl
theorem store_new1 {P : Program} (w : World) (t : TypeId) (x y : Value) (h : y.oneCell' = true) : (store ⟨w.heap.size,0,none⟩ y).run P (w.alloc (.cells #[x] t)) = .ok () (w.alloc (.cells #[y] t)):=by
 have hg:=World.alloc_heap_new w (.cells #[x] t)
 have hc : (w.alloc (.cells #[x] t)).cell? ⟨w.heap.size,0,none⟩ = some x:=by rw [cell_of_heap hg]; rfl
 have hf:=frozen_of_heap (o:=0) hg
 rw [run_store P _ _ y _ h,hc]
 simp only [hf,Bool.false_eq_true,if_false]
 rw [setCell_eq_setRow _ w.heap.size 0 #[x] t (0,0) y hg]
 exact congrArg (Result.ok ()) (World.setRow_alloc_new w #[x] #[y] t)
set_option maxRecDepth 100000 in
set_option maxHeartbeats 4000000 in
theorem rank_any {S S' : Nat → Prop} (r : Rul) (va : Option Addr) (nl vc : Nat) (da : Option Addr) (n0 dc : Nat) (darts : List Int) (hn : darts.length = n0) (h64 : ∀ b ∈ darts, -9223372036854775808 ≤ b ∧ b ≤ 9223372036854775807) (w : World) (hs : Sl S w (.slice va nl vc) (ints r.nums)) (hd : Sl S' w (.slice da n0 dc) (ints darts)) :
  Calls Tryz.prog 26 #[.agg #[.int .i64 r.kind,.int .i64 r.players,.int .i64 r.last,.bool r.bull,.bool r.jump,.int .i64 r.rounds,.bool r.cut,.slice va nl vc,.int .i64 r.lives,.bool r.own],.slice da n0 dc] w (RankPost r w (playG r darts)):=by
 obtain ⟨w0,hw0⟩ : ∃ w0,w.alloc (.cells #[.int .i64 r.kind,.int .i64 r.players,.int .i64 r.last,.bool r.bull,.bool r.jump,.int .i64 r.rounds,.bool r.cut,.slice va nl vc,.int .i64 r.lives,.bool r.own] 29) = w0:=⟨_,rfl⟩
 have hb0 : Below w.heap.size w w0:=by rw [← hw0]; exact aB _ _
 have hc:=open_any r va nl vc da n0 dc darts hn h64 w0 (hs.below hb0) (hd.below hb0)
 obtain ⟨x,hx⟩ : ∃ x,playG r darts = x:=⟨_,rfl⟩
 rw [hx] at hc ⊢
 have HC:=Lib.hid hc
 have HX:=Lib.hid hx
 have HB0:=Lib.hid hb0
 have HW0:=Lib.hid hw0
 clear hs hd hc hx hb0 hw0 h64 hn
 go_enter Tryz.func26,Tryz.ntmps26
 go_wp2_with fail
 rw [HW0.out]
 refine HC.out.mono ?_
 rintro e w1 ⟨hb1,(⟨a,er,he,rfl⟩ | ⟨g,t,pb,cap,wv,he,rfl,ht,q1,q2⟩)⟩
 ·have hne : er ≠ 0:=playG_err (by rw [HX.out]; exact he)
  have eb : (er != 0) = true:=by simp [hne]
  have HB1:=Lib.hid ((bThen HB0.out hb1).trans ((aB w1 (.cells #[.pointer none] 52)).mono (bThen HB0.out hb1).size))
  have HR:=Lib.hid he
  clear hb1 he hne
  go_wp2
  go_returns
  exact ⟨HB1.out,.inl ⟨a,er,HR.out,rfl⟩⟩
 obtain ⟨wva,wvc,rfl,_,_⟩ := ht.win.form
 rw [ints_length] at ht
 obtain ⟨wvl,hwl⟩ : ∃ l,g.win.length = l:=⟨_,rfl⟩
 rw [hwl] at ht
 clear hwl
 obtain ⟨w2,hw2⟩ : ∃ w2,w1.alloc (.cells #[.pointer (some ⟨t,0,none⟩)] 52) = w2:=⟨_,rfl⟩
 obtain ⟨q6,hq6⟩ : ∃ q6,w1.heap.size = q6:=⟨_,rfl⟩
 have hb2 : Below w1.heap.size w1 w2:=by rw [← hw2]; exact aB _ _
 have c6 : w2.cell? ⟨q6,0,none⟩ = some (.pointer (some ⟨t,0,none⟩)):=by rw [← hw2,← hq6]; simp
 have ht2:=ht.below hb2
 have hgd:=playG_good (by rw [HX.out]; exact he : playG r darts = (some g,0,0))
 obtain ⟨n,hn⟩ : ∃ n,g.pls.length = n:=⟨_,rfl⟩
 have hn8 : 1 ≤ n ∧ n ≤ 8:=by have:=players_of hgd.1.inv.ok; have:=hgd.1.inv.len; omega
 obtain ⟨M,hM⟩ : ∃ M,(9 + 100 * (darts.length : Int)) = M:=⟨_,rfl⟩
 have HI : Hid (Inv r M g):=Lib.hid (by rw [← hM]; exact hgd.1.inv)
 obtain ⟨B,hB⟩ : ∃ B,w2.heap.size = B:=⟨_,rfl⟩
 have HBB:=Lib.hid hB
 have HB2:=Lib.hid (bThen HB0.out (bThen hb1 hb2))
 have HT:=Lib.hid ht2
 have HE:=Lib.hid he
 have HN:=Lib.hid hn
 have HW2:=Lib.hid hw2
 have HQ6:=Lib.hid hq6
 have C6:=Lib.hid c6
 obtain ⟨V0,hV0⟩ : ∃ V0 : List Value,(if g.win = [] then [] else [.slice wva wvl wvc]) = V0:=⟨_,rfl⟩
 have HV0:=Lib.hid hV0
 obtain ⟨ov,hov⟩ : ∃ ov,(!g.win.isEmpty) = ov:=⟨_,rfl⟩
 have HOV:=Lib.hid hov
 have c4 : ∀ W,TabAt W t pb r g cap (.slice wva wvl wvc) (.slice va nl vc) → W.cell? ⟨t,4,none⟩ = some (.slice wva wvl wvc):=fun W hW => hW.at_ (j:=4) rfl
 have c3 : ∀ W,TabAt W t pb r g cap (.slice wva wvl wvc) (.slice va nl vc) → W.cell? ⟨t,3,none⟩ = some (.slice (some ⟨pb,0,none⟩) n cap):=fun W hW => by rw [← hn]; exact hW.at_ (j:=3) rfl
 have C4:=Lib.hid c4
 have C3:=Lib.hid c3
 have hoc : (w1.alloc (.cells #[.pointer (some ⟨t,0,none⟩)] 52)).cell? ⟨w1.heap.size,0,none⟩ = some (.pointer (some ⟨t,0,none⟩)):=by simp
 clear hb1 ht q1 q2 hw2 hq6 hb2 c6 ht2 hgd hn hM hB he hV0 hov c4 c3
 go_upto_if 23 with (rw [HW2.out,HQ6.out]; refine (isOver_r t pb cap r g (.slice wva wvl wvc) _ ov HOV w2 HT.out).mono ?_; rintro e w' ⟨rfl,rfl⟩)
 clear hoc
 go_cut [4] from 24 to 75 (fun gv wc => Hid (wc.ownsRow B 27 1 gv V0.length V0) ∧ Hid (Below B w2 wc))
 case first =>
  have c6':=C6.out
  have c4':=C4.out w2 HT.out
  cases ov
  ·have hw : g.win = []:=by have:=HOV.out; simpa using this
   have hV : V0 = []:=by rw [← HV0.out,if_pos hw]
   have HVN:=Lib.hid hV
   clear hw hV
   go_wp2_with fail
   go_meet
   case rel => exact ⟨Lib.hid (by rw [HVN.out]; exact World.ownsRow_nil _ _ _ _),Lib.hid (by rw [← HBB.out]; exact Below.refl _ _)⟩
  ·have hw : g.win ≠ []:=by have:=HOV.out; simpa using this
   have hV : V0 = [.slice wva wvl wvc]:=by rw [← HV0.out,if_neg hw]
   have HVN:=Lib.hid hV
   clear hw hV
   go_wp2_with fail
   go_meet
   case rel => exact ⟨Lib.hid (by rw [HVN.out,← HBB.out]; exact World.ownsRow_lit w2 #[.slice wva wvl wvc] 1 (Nat.le_refl _) (by decide) rfl),Lib.hid (by rw [← HBB.out]; exact aB _ _)⟩
 case rest =>
  obtain ⟨HGV,HB3⟩ := hcut
  obtain ⟨w3,rfl⟩ : ∃ w3 : World,w3 = wc:=⟨_,rfl⟩
  obtain ⟨V0l,hvl⟩ : ∃ l,V0.length = l:=⟨_,rfl⟩
  rw [hvl] at HGV
  have HVL:=Lib.hid hvl
  obtain ⟨gv,rfl⟩ : ∃ gv : Value,gv = u4:=⟨_,rfl⟩
  obtain ⟨w4,hw4⟩ : ∃ w4,w3.alloc (.cells #[.slice none 0 0] 27) = w4:=⟨_,rfl⟩
  obtain ⟨q8,hq8⟩ : ∃ q8,w3.heap.size = q8:=⟨_,rfl⟩
  have hb4 : Below w3.heap.size w3 w4:=by rw [← hw4]; exact aB _ _
  have k8 : w4.heap[q8]? = some (.cells #[.slice none 0 0] 27 (0,0)):=by rw [← hw4,← hq8]; exact World.alloc_heap_new _ _
  have HG8 : Hid (gv.ownBlock ≠ some q8):=Lib.hid fun e => by have:=(HGV.out.lt q8 e).2; omega
  have HB8 : Hid (B ≤ q8):=Lib.hid (by rw [← hq8]; exact belowSz HBB.out HB3.out)
  have HB4:=Lib.hid (HB3.out.trans (hb4.mono (belowSz HBB.out HB3.out)))
  have HGV4:=Lib.hid (ownsN_below HGV.out hb4)
  have K8:=Lib.hid k8
  have d6 : (w3.alloc (.cells #[.slice none 0 0] 27)).cell? ⟨q6,0,none⟩ = some (.pointer (some ⟨t,0,none⟩)):=by
   rw [hw4]; exact bAt (by rw [HBB.out]; exact HB4.out) C6.out
  have d3 : (w3.alloc (.cells #[.slice none 0 0] 27)).cell? ⟨t,3,none⟩ = some (.slice (some ⟨pb,0,none⟩) n cap):=by
   rw [hw4]; exact C3.out w4 (HT.out.below (by rw [HBB.out]; exact HB4.out))
  have HW4:=Lib.hid hw4
  have HQ8:=Lib.hid hq8
  clear hvl hw4 hq8 hb4 k8
  go_wp2_with fail
  rw [HW4.out,HQ8.out]
  clear d6 d3
  go_loopw [9,36] (fun _ iv wr => ∃ (k : Nat) (lv : Value),k ≤ n ∧ iv = .int .i64 k ∧ Hid (wr.heap[q8]? = some (.cells #[lv] 27 (0,0))) ∧ Hid (wr.ownsRow B 3 1 lv (restK g k).length (ints (restK g k))) ∧ Hid (restK g k = [] → lv = .slice none 0 0) ∧ Hid (wr.ownsRow B 27 1 gv V0l V0) ∧ Hid (Below B w2 wr)) (fun _ iv _ => n - (intOf iv).toNat)
  case atStart => exact ⟨0,.slice none 0 0,by omega,by go_num,K8,Lib.hid (World.ownsRow_nil _ _ _ _),Lib.hid (fun _ => rfl),HGV4,HB4⟩
  case round =>
   obtain ⟨k,lv,hk,rfl,HK,HO,HZ,HG,HB⟩ := hrel
   obtain ⟨wo,rfl⟩ : ∃ wo : World,wo = wr:=⟨_,rfl⟩
   obtain ⟨m,hm⟩ : ∃ m,(restK g k).length = m:=⟨_,rfl⟩
   have hmk : m ≤ k:=by rw [← hm]; exact restK_len g k
   rw [hm] at HO
   obtain ⟨la,lc,hlv⟩ := owns_form HO.out
   subst hlv
   have HMM:=Lib.hid hm
   clear hm HGV HGV4 HB4 K8 HB3 HW4 HQ8
   have HTO : Hid (TabAt wo t pb r g cap (.slice wva wvl wvc) (.slice va nl vc)):=Lib.hid (HT.out.below (by rw [HBB.out]; exact HB.out))
   have d6 : wo.cell? ⟨q6,0,none⟩ = some (.pointer (some ⟨t,0,none⟩)):=bAt (by rw [HBB.out]; exact HB.out) C6.out
   by_cases hlt : k < n
   ·have d4 : wo.cell? ⟨t,4,none⟩ = some (.slice wva wvl wvc):=C4.out wo HTO.out
    obtain ⟨cb,hcb⟩ : ∃ cb,g.win.contains (k : Int) = cb:=⟨_,rfl⟩
    have HCB:=Lib.hid hcb
    clear hcb
    go_wp2_with fail
    refine (contains_any g.win k _ wo HTO.out.win).mono ?_
    rintro e w' ⟨rfl,rfl⟩
    rw [HCB.out]
    clear d4 d6
    cases cb
    ·have HU : Hid (restK g (k + 1) = restK g k ++ [(k : Int)]):=Lib.hid (by rw [restK_succ,HCB.out]; simp)
     obtain ⟨wA,hwA⟩ : ∃ wA,wo.alloc (.cells #[.int .i64 k] 3) = wA:=⟨_,rfl⟩
     have hbA : Below wo.heap.size wo wA:=by rw [← hwA]; exact aB _ _
     have hcA : wA.cell? ⟨wo.heap.size,0,none⟩ = some (.int .i64 k):=by rw [← hwA]; simp
     have hk8:=(hbA.block _ (Array.getElem?_eq_some_iff.1 HK.out).1).trans HK.out
     have c8 : wo.cell? ⟨q8,0,none⟩ = some (.slice la m lc):=by rw [cell_of_heap HK.out]; rfl
     have HOA:=Lib.hid (ownsN_below HO.out hbA)
     have HGA:=Lib.hid (ownsN_below HG.out hbA)
     have HBA:=Lib.hid (HB.out.trans (hbA.mono (belowSz HBB.out HB.out)))
     have HK8:=Lib.hid hk8
     have HWA:=Lib.hid hwA
     have HSA : Hid (B ≤ wA.heap.size):=Lib.hid (belowSz HBB.out HBA.out)
     clear hbA hwA hk8 HO HG HB HK HTO
     go_wp2_with (at_builtin; rw [HWA.out]; refine wpList_append1 rfl _ _ 27 rfl B 3 (.int .i64 0) 8 Tryz.underlying27 info3 rfl _ m _ rfl HOA.out wo.heap.size 0 1 (.int .i64 k) rfl hcA rfl (by omega) (by decide) HSA.out ?_)
     intro g1 cp wB ho1 hg1 hat1
     have hne8 : some q8 ≠ (Value.slice la m lc).ownBlock:=owns_ne HOA.out HK8.out (by decide)
     have hb8 : q8 < wA.heap.size:=(Array.getElem?_eq_some_iff.1 HK8.out).1
     have k8:=(hg1.block q8 hb8 hne8).trans HK8.out
     have c8B : wB.cell? ⟨q8,0,none⟩ = some (.slice la m lc):=by rw [cell_of_heap k8]; rfl
     have f8B:=frozen_of_heap (o:=0) k8
     have hG1:=HGA.out.kept hg1 (ownsN_ne HGA.out HOA.out (by decide))
     have hg1q : g1 ≠ q8:=fun e => by
      rcases hat1 with h | h
      ·exact hne8 (by rw [h,e])
      ·omega
     obtain ⟨wC,hwC⟩ : ∃ wC,wB.setCell ⟨q8,0,none⟩ (.slice (some ⟨g1,0,none⟩) (m + 1) cp) = wC:=⟨_,rfl⟩
     have k8C : wC.heap[q8]? = some (.cells #[.slice (some ⟨g1,0,none⟩) (m + 1) cp] 27 (0,0)):=by rw [← hwC,heap_setCell_at k8]; rfl
     have hOC : wC.ownsRow B 3 1 (.slice (some ⟨g1,0,none⟩) (m + 1) cp) (m + 1) (ints (restK g k) ++ [.int .i64 k]):=by rw [← hwC]; exact ownsN_kept ho1 fun g2 hg2 => Below.heap_setCell _ _ _ _ (fun e => by cases hg2; exact hg1q e)
     have hGC : wC.ownsRow B 27 1 gv V0l V0:=by rw [← hwC]; exact ownsN_kept hG1 fun g2 hg2 => Below.heap_setCell _ _ _ _ (fun e => HG8.out (by rw [hg2]; exact congrArg some e))
     have hBC : Below B w2 wC:=by rw [← hwC]; exact (HBA.out.trans (below_grownBy hg1 HSA.out (fun q hq => (HOA.out.lt q hq).1))).setCell HB8.out _
     have HKC:=Lib.hid k8C
     have HOC : Hid (wC.ownsRow B 3 1 (.slice (some ⟨g1,0,none⟩) (m + 1) cp) (restK g (k + 1)).length (ints (restK g (k + 1)))):=Lib.hid (by rw [HU.out,List.length_append,HMM.out,ints_append]; exact hOC)
     have HGC:=Lib.hid hGC
     have HBC:=Lib.hid hBC
     have HZC : Hid (restK g (k + 1) = [] → Value.slice (some ⟨g1,0,none⟩) (m + 1) cp = .slice none 0 0):=Lib.hid fun h => by rw [HU.out] at h; simp at h
     have HWC:=Lib.hid hwC
     clear ho1 hg1 hat1 hne8 hb8 k8 hG1 hg1q hwC k8C hOC hGC hBC hcA c8
     go_wp2
     rw [HWC.out]
     go_roundw
     case rel => exact ⟨k + 1,_,by omega,by go_num,HKC,HOC,HZC,HGC,HBC⟩
     case measure => simp [intOf]; omega
    ·have HU : Hid (restK g (k + 1) = restK g k):=Lib.hid (by rw [restK_succ,HCB.out]; simp)
     go_wp2
     go_roundw
     case rel => exact ⟨k + 1,_,by omega,by go_num,HK,by rw [HU.out,HMM.out]; exact HO,by rw [HU.out]; exact HZ,HG,HB⟩
     case measure => simp [intOf]; omega
   ·obtain rfl : k = n:=by omega
    have c8 : wo.cell? ⟨q8,0,none⟩ = some (.slice la m lc):=by rw [cell_of_heap HK.out]; rfl
    obtain ⟨w5,hw5⟩ : ∃ w5,wo.alloc (.cells #[.func (.func 41) #[] #[.pointer (some ⟨q6,0,none⟩)]] 93) = w5:=⟨_,rfl⟩
    obtain ⟨q10,hq10⟩ : ∃ q10,wo.heap.size = q10:=⟨_,rfl⟩
    have hb5 : Below wo.heap.size wo w5:=by rw [← hw5]; exact aB _ _
    have k10 : w5.heap[q10]? = some (.cells #[.func (.func 41) #[] #[.pointer (some ⟨q6,0,none⟩)]] 93 (0,0)):=by rw [← hw5,← hq10]; exact World.alloc_heap_new _ _
    have c8' : (wo.alloc (.cells #[.func (.func 41) #[] #[.pointer (some ⟨q6,0,none⟩)]] 93)).cell? ⟨q8,0,none⟩ = some (.slice la m lc):=bAt (aB _ _) c8
    have c10' : (wo.alloc (.cells #[.func (.func 41) #[] #[.pointer (some ⟨q6,0,none⟩)]] 93)).cell? ⟨wo.heap.size,0,none⟩ = some (.func (.func 41) #[] #[.pointer (some ⟨q6,0,none⟩)]):=by simp
    have hst:=store_new1 (P:=Tryz.prog) wo 93 .nilFunc (.func (.func 41) #[] #[.pointer (some ⟨q6,0,none⟩)]) rfl
    have hq8o : q8 < wo.heap.size:=(Array.getElem?_eq_some_iff.1 HK.out).1
    have HK5:=Lib.hid ((hb5.block _ hq8o).trans HK.out)
    have HQQ : Hid (q8 < q10):=Lib.hid (by omega)
    have HO5:=Lib.hid (ownsN_below HO.out hb5)
    have HG5:=Lib.hid (ownsN_below HG.out hb5)
    have HB5:=Lib.hid (HB.out.trans (hb5.mono (belowSz HBB.out HB.out)))
    have HRE : Hid (restK g k = restG g):=Lib.hid (by unfold restG restK; rw [HN.out])
    have HCMP : Hid (CmpFn 41 #[.pointer (some ⟨q6,0,none⟩)] w2 (fun y => 0 ≤ y ∧ y.toNat < k) (rkG r g) (cvG r g)):=Lib.hid ⟨ec41,fun x y hx hy => cv_rk (by rw [HN.out]; exact hx.2) (by rw [HN.out]; exact hy.2),fun W x y hW hx hy => by
     obtain ⟨i,rfl⟩ : ∃ i : Nat,x = i:=⟨x.toNat,by omega⟩
     obtain ⟨j,rfl⟩ : ∃ j : Nat,y = j:=⟨y.toNat,by omega⟩
     exact rankCmp_any t pb cap q6 r g _ _ M i j W (HT.out.below hW) HI.out (bAt hW C6.out) (by rw [HN.out]; simpa using hx.2) (by rw [HN.out]; simpa using hy.2)⟩
    have HK10:=Lib.hid k10
    have HW5:=Lib.hid hw5
    have HQ10:=Lib.hid hq10
    clear hw5 hq10 hb5 k10 hq8o d6 c8 HTO HK HO HG HB
    go_wp2_with fail
    rw [HW5.out,HQ10.out]
    refine (sortStableV_any HCMP.out (.slice la m lc) m (restK g k) w5 (by rw [HBB.out]; exact HB5.out) (by rw [HBB.out]; exact HO5.out) HZ.out (by omega) (fun y hy => by have:=restG_mem (g:=g) (by rw [← HRE.out]; exact hy); rw [HN.out] at this; exact this) (by rw [HRE.out]; exact restG_asc g)).mono ?_
    rintro e w6 ⟨rfl,ys,ho6,hg6,hp6,hs6⟩
    rw [HBB.out] at ho6
    have hk8:=(hg6.block q8 (Array.getElem?_eq_some_iff.1 HK5.out).1 (owns_ne HO5.out HK5.out (by decide))).trans HK5.out
    have hk10:=(hg6.block q10 (Array.getElem?_eq_some_iff.1 HK10.out).1 (owns_ne HO5.out HK10.out (by decide))).trans HK10.out
    have hG6:=HG5.out.kept hg6 (ownsN_ne HG5.out HO5.out (by decide))
    have HB6:=Lib.hid (HB5.out.trans (below_grownBy hg6 (belowSz HBB.out HB5.out) (fun q hq => (HO5.out.lt q hq).1)))
    have HO6:=Lib.hid ho6
    have HG6:=Lib.hid hG6
    have HK6:=Lib.hid hk8
    have HK10':=Lib.hid hk10
    have hyl : ys.length = m:=by rw [hp6.length_eq,HMM.out]
    have HYL:=Lib.hid hyl
    have HGR : Hid ((if g.win = [] then [] else [g.win]) ++ grpL r g k ys = rankG r g):=Lib.hid (by
     unfold rankG
     rw [HN.out,grp_bests r g k ys (restG g) (fun y hy => by have:=restG_mem hy; exact this) (restG_asc g) hs6 (by rw [← HRE.out]; exact hp6)])
    have HMY : Hid (∀ y ∈ ys,0 ≤ y ∧ y.toNat < k):=Lib.hid fun y hy => by
     have:=restG_mem (g:=g) (by rw [← HRE.out]; exact hp6.mem_iff.1 hy); rw [HN.out] at this; exact this
    have HIN : Hid (InnerOk (fun b => b < B ∨ (Value.slice la m lc).ownBlock = some b) w6 V0 (if g.win = [] then [] else [g.win])):=Lib.hid (by
     rw [← HV0.out]
     by_cases hw : g.win = []
     ·rw [if_pos hw,if_pos hw]; exact ⟨rfl,fun i h => by simp at h⟩
     ·rw [if_neg hw,if_neg hw]
      refine ⟨rfl,fun i h => ?_⟩
      obtain rfl : i = 0:=by simpa using h
      have hsl:=(HT.out.win.lt.below (by rw [HBB.out]; exact HB6.out : Below w2.heap.size w2 w6)).mono (S':=fun b => b < B ∨ (Value.slice la m lc).ownBlock = some b) fun b hb => .inl (by rw [← HBB.out]; exact hb.2)
      exact ⟨_,rfl,hsl⟩)
    have HSL : Hid (Sl (fun b => b < B ∨ (Value.slice la m lc).ownBlock = some b) w6 (.slice la m lc) (ints ys)):=Lib.hid (by
     rcases HO6.out.2 with ⟨e,h0⟩ | ⟨gg,cp,cur,e,hb,hg,hnc,hcm,hcs,htk⟩
     ·rw [e]
      have : ys = []:=List.eq_nil_of_length_eq_zero (by rw [HYL.out,h0])
      rw [this]; exact Sl.nil _ _
     ·cases e
      have h1:=HO6.out
      have hl0 : (ints ys).length = m:=by simp [HYL.out]
      refine ⟨_,_,by rw [hl0],by rw [hl0]; exact hnc,hcm,fun i x hx => ⟨gg,0,rfl,.inr rfl, ?_⟩⟩
      have hi : i < m:=by rw [← hl0]; exact (List.getElem?_eq_some_iff.1 hx).1
      rw [Nat.zero_add,h1.cellAt i (by omega)]; exact hx)
    have HMK : Hid (m ≤ k):=Lib.hid hmk
    clear hst ho6 hg6 hp6 hs6 hk8 hk10 hG6 hyl HK5 HO5 HG5 HB5 HK10 HW5 c8' c10' HCMP hmk
    go_wp2_with fail
    go_loopw [4,11] (fun gu _ wr => ∃ (ls : List Int) (rv : Value) (done : List (List Int)) (vals : List Value) (f : Nat),Hid (wr.heap[q8]? = some (.cells #[rv] 27 (0,0))) ∧ Hid (Sl (fun b => b < B ∨ (Value.slice la m lc).ownBlock = some b) wr rv (ints ls)) ∧ Hid (wr.ownsRow B 27 1 gu vals.length vals) ∧ Hid (gu.ownBlock ≠ some q8) ∧ Hid (InnerOk (fun b => b < B ∨ (Value.slice la m lc).ownBlock = some b) wr vals done) ∧ Hid (done ++ grpL r g f ls = rankG r g) ∧ ls.length ≤ f ∧ vals.length + f ≤ 20 ∧ Hid (∀ y ∈ ls,0 ≤ y ∧ y.toNat < k) ∧ Hid (Below B w2 wr) ∧ Hid (wr.heap[q10]? = some (.cells #[.func (.func 41) #[] #[.pointer (some ⟨q6,0,none⟩)]] 93 (0,0))) ∧ Hid (wr.ownsRow B 3 1 (.slice la m lc) m (ints ys))) (fun _ _ wr => lenAt wr q8)
    case atStart => exact ⟨ys,_,_,V0,k,HK6,HSL,by rw [HVL.out]; exact HG6,HG8,HIN,HGR,by rw [HYL.out]; exact HMK.out,by have:=HV0.out; split at this <;> (rw [← this]; simp; omega),HMY,HB6,HK10',HO6⟩
    case round =>
     clear HK6 HSL HG6 HG8 HIN HGR HMY HB6 HK10' HO6
     obtain ⟨ls,rv,done,vals,f,HK,HSL,HG,HG8,HIN,HGR,hlf,hvf,HMY,HB,HK10,HO⟩ := hrel
     obtain ⟨wo2,rfl⟩ : ∃ wo : World,wo = wr:=⟨_,rfl⟩
     obtain ⟨gu,rfl⟩ : ∃ gu : Value,gu = u4:=⟨_,rfl⟩
     obtain ⟨ra,rc,hrv,r1,r2⟩ := HSL.out.form
     subst hrv
     obtain ⟨rl,hrl⟩ : ∃ rl,ls.length = rl:=⟨_,rfl⟩
     rw [ints_length,hrl] at HSL
     simp only [ints_length,hrl] at HK r1
     have HRL:=Lib.hid hrl
     have c8 : wo2.cell? ⟨q8,0,none⟩ = some (.slice ra rl rc):=by rw [cell_of_heap HK.out]; rfl
     have hmv:=hvf
     by_cases hls : ls = []
     ·have hr0 : rl = 0:=by rw [← hrl,hls]; rfl
      subst hr0
      have HF : Hid (done = rankG r g):=Lib.hid (by rw [← HGR.out,hls]; cases f <;> simp [grpL])
      have HFB : Hid (Below w.heap.size w wo2):=Lib.hid (bThen HB2.out (by rw [HBB.out]; exact HB.out))
      clear hls hrl
      go_wp2
      go_returns
      exact ⟨HFB.out,.inr ⟨g,gu,HE.out,rfl,by rw [← HF.out]; exact ⟨vals,(Sl.of_owns HG.out).mono fun _ _ => trivial,HIN.out.1,fun i hi => let ⟨u,e,hu⟩ := HIN.out.2 i hi; ⟨u,e,hu.mono fun _ _ => trivial⟩⟩⟩⟩
     ·obtain ⟨x0,l0,hx0⟩ : ∃ x0 l0,ls = x0 :: l0:=by cases ls with | nil => exact (hls rfl).elim | cons a b => exact ⟨a,b,rfl⟩
      subst hx0
      have hpos : 0 < rl:=by rw [← hrl]; simp
      obtain ⟨b,off,hal,hSb,hc0⟩ := HSL.out.cell (k:=0) (by simp)
      cases hal
      simp only [List.getElem_cons_zero,Nat.add_zero] at hc0
      have hx0b:=HMY.out x0 (by simp)
      obtain ⟨i0,rfl⟩ : ∃ i0 : Nat,x0 = i0:=⟨x0.toNat,by omega⟩
      obtain ⟨idx,hidx⟩ : ∃ idx,idxG r g i0 ((i0 : Int) :: l0) = idx:=⟨_,rfl⟩
      have hi1 : 0 < idx:=by rw [← hidx]; exact idx_pos r g i0 l0
      have hi2 : idx ≤ rl:=by rw [← hidx,← hrl]; exact idx_le r g i0 _
      have HIDX:=Lib.hid hidx
      have d1 : decide ((0 : Int) < (rl : Int)) = true:=decide_eq_true (by omega)
      have d1n : decide (0 < rl) = true:=decide_eq_true hpos
      have c10 : wo2.cell? ⟨q10,0,none⟩ = some (.func (.func 41) #[] #[.pointer (some ⟨q6,0,none⟩)]):=by rw [cell_of_heap HK10.out]; rfl
      have HTEST : Hid (TestFn 44 #[.pointer (some ⟨q10,0,none⟩),.pointer (some ⟨q8,0,none⟩)] wo2 (fun y => 0 ≤ y ∧ y.toNat < k) (fun y => decide (cvG r g i0 y < 0))):=Lib.hid ⟨ec44,fun W y hW hy => by
       obtain ⟨j,rfl⟩ : ∃ j : Nat,y = j:=⟨y.toNat,by omega⟩
       have:=rankIdx_any t pb cap q6 q10 q8 b off rl rc r g _ _ M i0 j W (HT.out.below (by rw [HBB.out]; exact HB.out.trans (hW.mono (belowSz HBB.out HB.out)))) HI.out (bAt (by rw [HBB.out]; exact HB.out.trans (hW.mono (belowSz HBB.out HB.out))) C6.out) (bAt hW c10) (bAt hW c8) (bAt hW hc0) hpos (by rw [HN.out]; simpa using hx0b.2) (by rw [HN.out]; simpa using hy.2)
       exact this.mono fun e w' ⟨he,hb⟩ => ⟨by rw [he]; exact congrArg (fun b => Ending.returned (.bool b)) (decide_eq_decide.2 (by show _ ↔ cvG r g i0 j < 0; unfold cvG; rw [Int.toNat_natCast,Int.toNat_natCast])),hb⟩⟩
      have HLO : Hid (lenAt wo2 q8 = rl):=Lib.hid (by unfold lenAt; rw [c8])
      have HC0:=Lib.hid hc0
      have HC8:=Lib.hid c8
      have HC10:=Lib.hid c10
      clear hidx hrl hx0b hc0 hls hSb
      go_wp2_with fail
      refine (idxFn_any HTEST.out (some ⟨b,off,none⟩) rl rc _ HRL.out wo2 (Below.refl _ _) HSL.out HMY.out).mono ?_
      rintro e w7 ⟨rfl,hb7⟩
      have hz0 : (List.findIdx (fun y => decide (cvG r g i0 y < 0)) ((i0 : Int) :: l0)) = idx:=HIDX.out
      rw [hz0]
      obtain ⟨z,hz⟩ : ∃ z : Int,(if idx < rl then (idx : Int) else -1) = z:=⟨_,rfl⟩
      rw [hz]
      have HZ7:=Lib.hid hz
      have c8':=bAt hb7 HC8.out
      have HB7:=Lib.hid hb7
      clear hz hz0 hb7 c8 c10 d1 d1n
      go_upto_if 63 with fail
      go_cut [11] from 64 to 65 (fun zv wx => zv = .int .i64 idx ∧ wx = w7)
      case first =>
       by_cases hlt2 : idx < rl
       ·have hze : z = idx:=by rw [← HZ7.out,if_pos hlt2]
        subst hze
        have dz : decide ((idx : Int) < 0) = false:=decide_eq_false (by omega)
        go_wp2_with fail
        go_meet
        case rel => exact ⟨rfl,rfl⟩
       ·have hze : z = -1:=by rw [← HZ7.out,if_neg hlt2]
        subst hze
        obtain rfl : idx = rl:=by omega
        go_wp2_with fail
        go_meet
        case rel => exact ⟨rfl,rfl⟩
      case rest =>
       obtain ⟨rfl,rfl⟩ := hcut
       obtain ⟨w7,rfl⟩ : ∃ w : World,w = wc:=⟨_,rfl⟩
       have HO7:=Lib.hid (ownsN_below HO.out HB7.out)
       have HG7:=Lib.hid (ownsN_below HG.out HB7.out)
       have HBX:=Lib.hid (HB.out.trans (HB7.out.mono (belowSz HBB.out HB.out)))
       have HK7:=Lib.hid ((HB7.out.block q8 (Array.getElem?_eq_some_iff.1 HK.out).1).trans HK.out)
       have HK107:=Lib.hid ((HB7.out.block q10 (Array.getElem?_eq_some_iff.1 HK10.out).1).trans HK10.out)
       have HSL7:=Lib.hid (HSL.out.below HB7.out)
       have HIN7:=Lib.hid (HIN.out.keep (S':=(fun b => b < B ∨ (Value.slice la m lc).ownBlock = some b)) (fun _ h => h) (fun q _ hq => HB7.out.block q hq))
       obtain ⟨vl,hvl⟩ : ∃ vl,vals.length = vl:=⟨_,rfl⟩
       rw [hvl] at HG7 hvf
       have HVLL:=Lib.hid hvl
       clear hvl hmv c8' HO HG HB HK HK10 HSL HIN HTEST HZ7 HC0 HC8 HC10
       go_wp2_with fail
       have c87 : w7.cell? ⟨q8,0,none⟩ = some (.slice (some ⟨b,off,none⟩) rl rc):=by rw [cell_of_heap HK7.out]; rfl
       have hub : some q8 ≠ gu.ownBlock:=fun e => HG8.out e.symm
       have hlu : ∀ q,gu.ownBlock = some q → q < w7.heap.size:=fun q hq => (HG7.out.lt q hq).2
       have hq87 : q8 < w7.heap.size:=(Array.getElem?_eq_some_iff.1 HK7.out).1
       have HLU:=Lib.hid hlu
       have HUB:=Lib.hid hub
       have HQ87:=Lib.hid hq87
       have HSZ : Hid (B ≤ w7.heap.size):=Lib.hid (belowSz HBB.out HBX.out)
       have hirc : idx ≤ rc:=by omega
       obtain ⟨ra2,hra2⟩ : ∃ ra2,(if rc = idx then some (⟨b,off,none⟩ : Addr) else some ⟨b,off + idx,none⟩) = ra2:=⟨_,rfl⟩
       have HSR : Hid (Sl (fun b => b < B ∨ (Value.slice la m lc).ownBlock = some b) w7 (.slice ra2 (rl - idx) (rc - idx)) (ints (((i0 : Int) :: l0).drop idx))):=Lib.hid (by
        by_cases hrc : rc = idx
        ·have h0 : rl - idx = 0:=by omega
         have hd : ((i0 : Int) :: l0).drop idx = []:=List.drop_eq_nil_of_le (by rw [HRL.out]; omega)
         rw [hd,h0]
         exact ⟨_,_,rfl,Nat.zero_le _,by have:=r2; omega,fun i x hx => by simp [ints] at hx⟩
        ·rw [← hra2,if_neg hrc]
         have:=sl_slice HSL7.out hi2 (Nat.le_refl rl)
         rw [ints_take_drop,List.take_of_length_le (by rw [HRL.out]; exact Nat.le_refl _)] at this
         exact this)
       have HSF : Hid (Sl (fun b => b < B ∨ (Value.slice la m lc).ownBlock = some b) w7 (.slice (some ⟨b,off,none⟩) idx rc) (ints (((i0 : Int) :: l0).take idx))):=Lib.hid (by
        have:=sl_slice HSL7.out (Nat.zero_le idx) hi2
        rw [ints_take_drop] at this
        simpa using this)
       have HRA2:=Lib.hid hra2
       clear hlu hub hq87
       refine wp_region_gen 10 (fun j v W => match j with
        | 0 => v = gu
        | 1 | 6 => v = .slice (some ⟨b,off,none⟩) rl rc
        | 2 | 7 => v = .int .i64 idx
        | 3 => v = .slice (some ⟨b,off,none⟩) idx rc
        | 4 => LitAt w7 (.slice (some ⟨b,off,none⟩) idx rc) v W
        | 5 | 9 => W.ownsRow B 27 1 v (vl + 1) (vals ++ [.slice (some ⟨b,off,none⟩) idx rc]) ∧ v.ownBlock ≠ some q8
        | 8 => v = .slice ra2 (rl - idx) (rc - idx)
        | _ => True) (JApp w7 gu 4 5 [9]) mix (by kernel_rfl) JApp.start ?_ ?_
       ·refine ⟨?_, ?_, ?_, ?_, ?_, ?_, ?_, ?_, ?_, ?_,trivial⟩
        all_goals refine gen_plain rfl fun a W L hSi hJ hpre ht' => ?_
        all_goals
         simp [Region.binds] at hpre
         have hcell:=hJ.cell c87 HUB.out
        ·have t4:=ht' 4 rfl
         simp at t4
         simp [opOK,go_sem,t4]
         exact ⟨hJ.read (by omega) (by simp),fun j _ _ v h _ => h⟩
        ·have t8:=ht' 8 rfl
         simp at t8
         simp [opOK,go_sem,t8,hcell]
         exact ⟨hJ.read (by omega) (by simp),fun j _ _ v h _ => h⟩
        ·have t11:=ht' 11 rfl
         simp at t11
         simp [opOK,go_sem,t11]
         exact ⟨hJ.read (by omega) (by simp),fun j _ _ v h _ => h⟩
        ·simp [opOK,go_sem,hpre,hirc]
         exact ⟨hJ.read (by omega) (by simp),fun j _ _ v h _ => h⟩
        ·refine opOK_val (v:=.slice (some ⟨W.heap.size,0,none⟩) 1 1) (w':=W.alloc (.cells #[.slice (some ⟨b,off,none⟩) idx rc] 27)) (by simp [go_sem,execOp,hpre]) ?_
         refine ⟨hJ.lit hSi (by omega) (by simp) _, ?_,_,rfl,hJ.size,by simp,cell_new _ _ _⟩
         intro j hj hLj v h _
         match j,hj,hLj,h with
         | 0,_,_,h | 1,_,_,h | 2,_,_,h | 3,_,_,h | 6,_,_,h | 7,_,_,h | 8,_,_,h => exact h
         | 4,hj,_,_ => exact absurd rfl hj
         | 5,_,_,h | 9,_,_,h => exact ⟨ownsN_below h.1 (aB _ _),h.2⟩
         | _ + 10,_,_,_ => trivial
        ·obtain ⟨⟨hS0,t0⟩,hS5,v5,⟨b5,rfl,hb1,hb2,hbc⟩,t5⟩ := hpre
         have hrow:=ownsN_below HG7.out (hJ.off hSi)
         refine opOK_mono (opOK_append1_at (.tmp 66) (.tmp 70) 75 rfl B 27 (.slice none 0 0) 24 Tryz.underlying75 info_sl rfl gu vl _ (by simp [go_sem,t0]) hrow b5 0 1 (.slice (some ⟨b,off,none⟩) idx rc) (by simp [go_sem,t5]) hbc rfl (by omega) (by decide) (Nat.le_trans HSZ.out hJ.size)) ?_
         rintro _ Wn ⟨gn,cap',rfl,hown,hg,hat⟩
         have hn8 : (Value.slice (some ⟨gn,0,none⟩) (vl + 1) cap').ownBlock ≠ some q8:=fun e => by
          have e2 : gn = q8:=by simpa [Value.ownBlock] using e
          rcases hat with h | h
          ·exact HUB.out (by rw [h,e2])
          ·have h3:=HQ87.out; have h4:=hJ.size; omega
         refine ⟨hJ.app hS5 hSi hg (by omega), ?_,hown,hn8⟩
         intro j hj hLj v h _
         match j,hj,hLj,h with
         | 0,_,_,h | 1,_,_,h | 2,_,_,h | 3,_,_,h | 6,_,_,h | 7,_,_,h | 8,_,_,h => exact h
         | 4,_,_,h => exact LitAt.grown h hg HLU.out
         | 5,hj,_,_ => exact absurd rfl hj
         | 9,_,hL9,_ => rw [hJ.asg 9 (by simp) hL9] at hSi; cases hSi
         | _ + 10,_,_,_ => trivial
        ·have t8:=ht' 8 rfl
         simp at t8
         simp [opOK,go_sem,t8,hcell]
         exact ⟨hJ.read (by omega) (by simp),fun j _ _ v h _ => h⟩
        ·have t11:=ht' 11 rfl
         simp at t11
         simp [opOK,go_sem,t11]
         exact ⟨hJ.read (by omega) (by simp),fun j _ _ v h _ => h⟩
        ·simp [opOK,go_sem,hpre,hi2,hra2]
         exact ⟨hJ.read (by omega) (by simp),fun j _ _ v h _ => h⟩
        ·obtain ⟨hS6,v6,hv6,t6⟩ := hpre.1
         simp [opOK,go_sem,t6]
         exact ⟨hJ.readAs (by omega) hS6,fun j _ _ v h _ => h,hv6⟩
       ·intro W' hJ
        simp only [List.take_succ_cons,List.take_zero,List.drop_succ_cons,List.drop_zero,EndAll]
        rintro gu rfl _ rfl _ rfl _ rfl v4 - v5 - _ rfl _ rfl _ rfl gn ⟨hgn,hgn8⟩
        simp only [Act.put,List.setIfInBounds_toArray,List.set_cons_succ,List.set_cons_zero]
        have hgr:=(hJ.on rfl).2
        have k8W:=(hgr.block q8 HQ87.out HUB.out).trans HK7.out
        have c8W : W'.cell? ⟨q8,0,none⟩ = some (.slice (some ⟨b,off,none⟩) rl rc):=by rw [cell_of_heap k8W]; rfl
        have f8W:=frozen_of_heap (o:=0) k8W
        obtain ⟨wX,hwX⟩ : ∃ wX,W'.setCell ⟨q8,0,none⟩ (.slice ra2 (rl - idx) (rc - idx)) = wX:=⟨_,rfl⟩
        have hkeep : ∀ q,q < w7.heap.size → gu.ownBlock ≠ some q → q ≠ q8 → wX.heap[q]? = w7.heap[q]? := fun q hq h1 h2 => by
         rw [← hwX,Below.heap_setCell _ _ _ _ h2]
         exact hgr.block q hq (fun e => h1 e.symm)
        have hne7:=ownsN_ne HG7.out HO7.out (by decide)
        have hlv8 : some q8 ≠ (Value.slice la m lc).ownBlock:=owns_ne HO7.out HK7.out (by decide)
        have hSk : ∀ q,(q < B ∨ (Value.slice la m lc).ownBlock = some q) → q < w7.heap.size → wX.heap[q]? = w7.heap[q]? := fun q hq hql => hkeep q hql
         (fun e => by
          rcases hq with h | h
          ·have:=(HG7.out.lt q e).1; omega
          ·rcases hne7 with h2 | h2
           ·rw [h2] at e; cases e
           ·exact h2 (e.trans h.symm))
         (fun e => by
          rcases hq with h | h
          ·have:=HB8.out; omega
          ·rw [e] at h; exact hlv8 h.symm)
        have HKX : Hid (wX.heap[q8]? = some (.cells #[.slice ra2 (rl - idx) (rc - idx)] 27 (0,0))):=Lib.hid (by rw [← hwX,heap_setCell_at k8W]; rfl)
        have HSX:=Lib.hid (HSR.out.keepB hSk)
        have HGX : Hid (wX.ownsRow B 27 1 gn (vl + 1) (vals ++ [.slice (some ⟨b,off,none⟩) idx rc])):=Lib.hid (by rw [← hwX]; exact ownsN_kept hgn fun q hq => Below.heap_setCell _ _ _ _ (fun e => hgn8 (by rw [hq]; exact congrArg some e)))
        have HG8X:=Lib.hid hgn8
        have HINX:=Lib.hid ((HIN7.out.add HSF.out).keep (fun _ h => h) hSk)
        have HGRX : Hid ((done ++ [((i0 : Int) :: l0).take idx]) ++ grpL r g (f - 1) (((i0 : Int) :: l0).drop idx) = rankG r g):=Lib.hid (by
         rw [← HGR.out]
         obtain ⟨f',rfl⟩ : ∃ f',f = f' + 1:=⟨f - 1,by have:=HRL.out; omega⟩
         rw [grpL,HIDX.out]
         simp)
        have HMX : Hid (∀ y ∈ ((i0 : Int) :: l0).drop idx,0 ≤ y ∧ y.toNat < k):=Lib.hid fun y hy => HMY.out y (List.mem_of_mem_drop hy)
        have HBN : Hid (Below B w2 wX):=Lib.hid (by rw [← hwX]; exact (HBX.out.trans (below_grownBy hgr HSZ.out (fun q hq => (HG7.out.lt q hq).1))).setCell HB8.out _)
        have hq10:=(Array.getElem?_eq_some_iff.1 HK107.out).1
        have HK10X:=Lib.hid ((hkeep q10 hq10 (fun e => owns_ne HG7.out HK107.out (by decide) e.symm) (fun e => by have:=HQQ.out; omega)).trans HK107.out)
        have HOX : Hid (wX.ownsRow B 3 1 (.slice la m lc) m (ints ys)):=Lib.hid (ownsN_kept HO7.out fun q hq => hSk q (.inr hq) (HO7.out.lt q hq).2)
        have HWX:=Lib.hid hwX
        have HLN : Hid (lenAt wX q8 = rl - idx ∧ lenAt wo2 q8 = rl):=Lib.hid (by
         constructor
         ·unfold lenAt; rw [cell_of_heap HKX.out]; rfl
         ·exact HLO.out)
        clear hJ hgr k8W hwX hkeep hne7 hlv8 hSk hgn hgn8 hq10
        go_wp2
        rw [HWX.out]
        go_roundw
        case rel => exact ⟨_,_,_,_,f - 1,HKX,HSX,by rw [List.length_append,HVLL.out]; exact HGX,HG8X,HINX,HGRX,by rw [List.length_drop,HRL.out]; have h:=hlf; rw [HRL.out] at h; omega,by rw [List.length_append,HVLL.out]; have h:=hlf; rw [HRL.out] at h; simp; omega,HMX,HBN,HK10X,HOX⟩
        case measure => rw [HLN.out.1,HLN.out.2]; omega
end Go.Proofs.YtnhggfnnolfcdaaGreat
