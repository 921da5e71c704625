/- The texts KP, in build order. -/
import Derived.Test.YtnhggfnnolfcdaaZbd
import Derived.Deep.DeepCutAuto
import Derived.Deep.CutRange
import Derived.Deep.CutBlock

/- Chapter 4, the reference: the ranking. -/
namespace Go.Proofs.Ytnhggfnnolfcdaa
open Go.RowKit Go.Oche Go.Proofs
structure RkSt (W : World) (N q : Nat) (G : Array Value) (R : List RowR) (u : Value) (dn : List Bool) : Prop where
 rows : Rws (N + 1) 3 W q R
 out : W.ownsRow (N + 1) 23 1 u R.length (R.map rowV)
 done : W.heap[q]? = some (.cells (dn.map Value.bool).toArray 65 (0,0))
 box : W.heap[N]? = some (.cells G 41 (0,0))
 sz : N + 1 ≤ W.heap.size
 qN : N + 1 ≤ q
theorem RkSt.below {W W' : World} {N q : Nat} {G : Array Value} {R : List RowR} {u : Value} {dn : List Bool} (h : RkSt W N q G R u dn) (hb : Below W.heap.size W W') : RkSt W' N q G R u dn :=
 ⟨h.rows.below hb,ownsN_below h.out hb,(hb.block q (Array.getElem?_eq_some_iff.1 h.done).1).trans h.done,(hb.block N (Array.getElem?_eq_some_iff.1 h.box).1).trans h.box,Nat.le_trans h.sz hb.size,h.qN⟩
theorem info_slK : (Try.prog.info? 23).map (fun i => (i.zero,i.size,i.bytes)) = some (some (.slice none 0 0),1,24):=by kernel_rfl
theorem ints_oneK (l : List Int) : ∀ u ∈ ints l,u.oneCell' = true:=by
 intro u hu
 obtain ⟨x, -,rfl⟩ := List.mem_map.1 hu
 rfl
section
variable {W : World} {N q : Nat} {G : Array Value} {R : List RowR} {u : Value} {dn : List Bool}
theorem RkSt.cell (h : RkSt W N q G R u dn) {x : Nat} (hx : x < dn.length) : W.cell? ⟨q,x,none⟩ = some (.bool (dnB dn x)):=by
 rw [cell_of_heap h.done,List.getElem?_toArray,List.getElem?_map,List.getElem?_eq_getElem hx]
 unfold dnB
 simp [List.getD,hx]
theorem RkSt.free (h : RkSt W N q G R u dn) (x : Nat) : W.frozen? ⟨q,x,none⟩ = false:=frozen_of_heap h.done
theorem RkSt.setDone (h : RkSt W N q G R u dn) (x : Nat) : RkSt (W.setCell ⟨q,x,none⟩ (.bool true)) N q G R u (dn.set x true):=by
 refine ⟨h.rows.kept fun r hr => Below.heap_setCell _ _ _ _ (h.rows.ne hr),ownsN_kept h.out fun k hk => Below.heap_setCell _ _ _ _ fun e => ?_, ?_,(Below.heap_setCell _ _ _ _ (by have:=h.qN; dsimp only; omega)).trans h.box,by rw [World.size_setCell]; exact h.sz,h.qN⟩
 ·dsimp only at e
  subst e
  rcases ownsN_ne_blk h.out h.done (by decide) with h1 | h1
  ·rw [h1] at hk; cases hk
  ·exact h1 hk
 ·rw [heap_setCell_at h.done]
  congr 2
  rw [List.setIfInBounds_toArray,List.map_set]
end
structure RkGr (W : World) (N q : Nat) (G : Array Value) (R : List RowR) (rw : RowR) (u : Value) (dn : List Bool) : Prop where
 rows : Rws (N + 1) 3 W q (R ++ [rw])
 out : W.ownsRow (N + 1) 23 1 u R.length (R.map rowV)
 done : W.heap[q]? = some (.cells (dn.map Value.bool).toArray 65 (0,0))
 box : W.heap[N]? = some (.cells G 41 (0,0))
 sz : N + 1 ≤ W.heap.size
 qN : N + 1 ≤ q
section
variable {W W' : World} {N q : Nat} {G : Array Value} {R : List RowR} {rw : RowR} {u : Value} {dn : List Bool}
theorem RkGr.below (h : RkGr W N q G R rw u dn) (hb : Below W.heap.size W W') : RkGr W' N q G R rw u dn :=
 ⟨h.rows.below hb,ownsN_below h.out hb,(hb.block q (Array.getElem?_eq_some_iff.1 h.done).1).trans h.done,(hb.block N (Array.getElem?_eq_some_iff.1 h.box).1).trans h.box,Nat.le_trans h.sz hb.size,h.qN⟩
theorem RkSt.group (h : RkSt W N q G R u dn) : RkGr (W.alloc (.cells #[] 3)) N q G R (W.heap.size,0,[]) u dn:=by
 have hb : Below W.heap.size W (W.alloc (.cells #[] 3)):=(Below.refl _ _).alloc (Nat.le_refl _) _
 have h1:=h.below hb
 exact ⟨h.rows.snoc (Array.getElem?_eq_some_iff.1 h.done).1 h.sz,h1.out,h1.done,h1.box,h1.sz,h.qN⟩
theorem RkGr.cell (h : RkGr W N q G R rw u dn) {x : Nat} (hx : x < dn.length) : W.cell? ⟨q,x,none⟩ = some (.bool (dnB dn x)):=by
 rw [cell_of_heap h.done,List.getElem?_toArray,List.getElem?_map,List.getElem?_eq_getElem hx]
 unfold dnB
 simp [List.getD,hx]
theorem RkGr.free (h : RkGr W N q G R rw u dn) (x : Nat) : W.frozen? ⟨q,x,none⟩ = false:=frozen_of_heap h.done
theorem RkGr.setDone (h : RkGr W N q G R rw u dn) (x : Nat) : RkGr (W.setCell ⟨q,x,none⟩ (.bool true)) N q G R rw u (dn.set x true):=by
 refine ⟨h.rows.kept fun r hr => Below.heap_setCell _ _ _ _ (h.rows.ne hr),ownsN_kept h.out fun k hk => Below.heap_setCell _ _ _ _ fun e => ?_, ?_,(Below.heap_setCell _ _ _ _ (by have:=h.qN; dsimp only; omega)).trans h.box,by rw [World.size_setCell]; exact h.sz,h.qN⟩
 ·dsimp only at e
  subst e
  rcases ownsN_ne_blk h.out h.done (by decide) with h1 | h1
  ·rw [h1] at hk; cases hk
  ·exact h1 hk
 ·rw [heap_setCell_at h.done]
  congr 2
  rw [List.setIfInBounds_toArray,List.map_set]
theorem RkGr.more {gp cp g' c' : Nat} {l : List Int} {x : Int} (h : RkGr W N q G R (gp,cp,l) u dn) (hg : (W.alloc (.cells #[.int .i64 x] 3)).grownBy W' (some gp)) (ho : W'.ownsRow (N + 1) 3 1 (.slice (some ⟨g',0,none⟩) (l.length + 1) c') (l.length + 1) (ints l ++ [.int .i64 x])) (hat : g' = gp ∨ g' = (W.alloc (.cells #[.int .i64 x] 3)).heap.size) : RkGr W' N q G R (g',c',l ++ [x]) u dn:=by
 have hb : Below W.heap.size W (W.alloc (.cells #[.int .i64 x] 3)):=(Below.refl _ _).alloc (Nat.le_refl _) _
 have hblk : ∀ k,k < W.heap.size → k ≠ gp → W'.heap[k]? = W.heap[k]? := fun k hk hne => (hg.block k (by simp; omega) (by simp [hne])).trans (hb.block k hk)
 have hrow:=h.rows.rows (gp,cp,l) (by simp)
 have hgl:=h.rows.lt (r:=(gp,cp,l)) (by simp)
 have hq:=(Array.getElem?_eq_some_iff.1 h.done).1
 have hN:=(Array.getElem?_eq_some_iff.1 h.box).1
 refine ⟨h.rows.lastV hblk ho (by rcases hat with e | e; exact .inl e; exact .inr (by rw [e]; simp)) hq,ownsN_kept h.out fun k hk => hblk k (h.out.lt k hk).2 fun e => ?_,(hblk q hq fun e => h.rows.ne (r:=(gp,cp,l)) (by simp) e.symm).trans h.done,(hblk N hN (by have:=hgl.1; dsimp only at this; omega)).trans h.box,Nat.le_trans h.sz (Nat.le_trans hb.size hg.size),h.qN⟩
 subst e
 rcases ownsN_ne h.out hrow (by decide) with h1 | h1
 ·rw [h1] at hk; cases hk
 ·exact h1 (by rw [hk]; rfl)
theorem RkGr.give {gp cp g' c' : Nat} {l : List Int} {v : Value} (h : RkGr W N q G R (gp,cp,l) u dn) (hv : v = rowV (gp,cp,l)) (hg : (W.alloc (.cells #[v] 23)).grownBy W' u.ownBlock) (ho : W'.ownsRow (N + 1) 23 1 (.slice (some ⟨g',0,none⟩) (R.length + 1) c') (R.length + 1) (R.map rowV ++ [v])) : RkSt W' N q G (R ++ [(gp,cp,l)]) (.slice (some ⟨g',0,none⟩) (R.length + 1) c') dn:=by
 have hb : Below W.heap.size W (W.alloc (.cells #[v] 23)):=(Below.refl _ _).alloc (Nat.le_refl _) _
 have hblk : ∀ k,k < W.heap.size → some k ≠ u.ownBlock → W'.heap[k]? = W.heap[k]? := fun k hk hne => (hg.block k (by simp; omega) hne).trans (hb.block k hk)
 have hq:=(Array.getElem?_eq_some_iff.1 h.done).1
 have hN:=(Array.getElem?_eq_some_iff.1 h.box).1
 refine ⟨h.rows.kept fun r hr => hblk _ (h.rows.lt hr).2 fun e => ?_,by rw [hv] at ho; simpa using ho,(hblk q hq fun e => ?_).trans h.done,(hblk N hN fun e => ?_).trans h.box,Nat.le_trans h.sz (Nat.le_trans hb.size hg.size),h.qN⟩
 ·rcases ownsN_ne (h.rows.rows r hr) h.out (by decide) with h1 | h1
  ·simp [rowV,Value.ownBlock] at h1
  ·exact h1 (by rw [← e]; rfl)
 ·rcases ownsN_ne_blk h.out h.done (by decide) with h1 | h1
  ·rw [h1] at e; cases e
  ·exact h1 e.symm
 ·have:=(h.out.lt N e.symm).1
  omega
end
set_option maxRecDepth 100000 in
set_option maxHeartbeats 8000000 in
theorem refRank_any (r : Rul) (g : Gam) (pb np cap : Nat) (nv : Value) (wa : Option Addr) (m wc : Nat) (M : Int) (w : World) (hnp : g.pls.length = np) (h : GamV w r g nv pb cap (.slice wa m wc)) (hi : Inv r M g) (hwn : Won r g) :
  Calls Try.prog 22 #[.agg #[.int .i64 r.kind,.int .i64 r.players,.int .i64 r.last,.bool r.bull,.bool r.jump,.int .i64 r.rounds,.bool r.cut,nv,.int .i64 r.lives,.bool r.own,.int .i64 g.round,.int .i64 g.player,.int .i64 g.darts,.slice (some ⟨pb,0,none⟩) np cap,.slice wa m wc,.bool (hitB g 0),.bool (hitB g 1),.bool (hitB g 2),.bool (hitB g 3),.bool (hitB g 4)]] w fun e w' => ∃ v,e = .returned v ∧ Below w.heap.size w w' ∧ SlSl (fun q => w.heap.size ≤ q) w' v (rankG r g):=by
 have hm : g.win.length = m:=by obtain ⟨_,_,e,_⟩ := h.win.form; rw [ints_length] at e; cases e; rfl
 have hlen:=hi.len
 have hp8:=players_of hi.ok
 rw [hnp] at hlen
 have hn8 : 1 ≤ np ∧ np ≤ 8:=by omega
 have hBO:=bet_ok hi
 have hrl:=rest_len hwn.asc hwn.mem
 obtain ⟨N,hN⟩ : ∃ N,w.heap.size = N:=⟨_,rfl⟩
 obtain ⟨w0,hw0⟩ : ∃ w0,w.alloc (.cells #[.int .i64 r.kind,.int .i64 r.players,.int .i64 r.last,.bool r.bull,.bool r.jump,.int .i64 r.rounds,.bool r.cut,nv,.int .i64 r.lives,.bool r.own,.int .i64 g.round,.int .i64 g.player,.int .i64 g.darts,.slice (some ⟨pb,0,none⟩) np cap,.slice wa m wc,.bool (hitB g 0),.bool (hitB g 1),.bool (hitB g 2),.bool (hitB g 3),.bool (hitB g 4)] 41) = w0:=⟨_,rfl⟩
 have hb0 : Below w.heap.size w w0:=by rw [← hw0]; exact aB _ _
 have k0 : w0.heap[N]? = some (.cells #[.int .i64 r.kind,.int .i64 r.players,.int .i64 r.last,.bool r.bull,.bool r.jump,.int .i64 r.rounds,.bool r.cut,nv,.int .i64 r.lives,.bool r.own,.int .i64 g.round,.int .i64 g.player,.int .i64 g.darts,.slice (some ⟨pb,0,none⟩) np cap,.slice wa m wc,.bool (hitB g 0),.bool (hitB g 1),.bool (hitB g 2),.bool (hitB g 3),.bool (hitB g 4)] 41 (0,0)):=by rw [← hw0,← hN]; exact World.alloc_heap_new _ _
 have hz0 : w0.heap.size = N + 1:=by rw [← hw0,← hN]; simp
 have c1 : w0.cell? ⟨N,1,none⟩ = some (.int .i64 (np : Int)):=by rw [cell_of_heap k0,hlen]; rfl
 have HV:=Lib.hid h
 have HB0:=Lib.hid hb0
 have HK0:=Lib.hid k0
 have HW0:=Lib.hid hw0
 have HZ0:=Lib.hid hz0
 have HN:=Lib.hid hN
 have HI:=Lib.hid hi
 have HWN:=Lib.hid hwn
 have HNP:=Lib.hid hnp
 have HM:=Lib.hid hm
 have HLEN:=Lib.hid hlen
 have HBO:=Lib.hid hBO
 have HRL:=Lib.hid hrl
 clear hb0 k0 hw0 hz0 hN h hi hwn hnp hm hlen hBO hrl hp8
 go_enter Try.func22,Try.ntmps22
 go_upto_region 1 with fail
 rw [HW0.out,HN.out]
 refine wp_region_seqV 9 ((fun v => ∃ p,v = .slice (some ⟨p,0,none⟩) 0 0) :: (fun v => v = .agg #[.bool false,.bool false,.bool false,.bool false,.bool false,.bool false,.bool false,.bool false]) :: (fun v => v = .pointer (some ⟨N,0,none⟩)) :: (fun v => v = .pointer (some ⟨N,1,none⟩)) :: (fun v => v = .int .i64 np) :: (fun v => ∃ q,v = .pointer (some ⟨q,0,none⟩)) :: (fun v => ∃ p,v = .slice (some ⟨p,0,none⟩) 0 0) :: (fun _ => True) :: (fun v => v = .int .i64 np) :: []) (JRk w0 0 5 6 23 65 #[.bool false,.bool false,.bool false,.bool false,.bool false,.bool false,.bool false,.bool false]) rfl mix (by kernel_rfl) (by kernel_rfl) (fun _ _ _ _ hc h => h.congr hc) (fun _ => .start) ?_
 simp only [List.take_succ_cons,List.take_zero]
 refine sv_newG ⟨_,0,rfl⟩ (by rfl) (fun u1 L1 vs1 hvs1 hL1 hJ1 hd => ?_) ?_
 ·exact opOK_val (v:=.slice (some ⟨u1.heap.size,0,none⟩) 0 0) (w':=u1.alloc (.cells #[] 23)) (by kernel_rfl) ⟨⟨_,rfl⟩,hJ1.mkA hL1 (by decide) (by decide)⟩
 rintro _ ⟨p,rfl⟩
 simp only [Act.put,List.setIfInBounds_toArray,List.set_cons_succ,List.set_cons_zero,List.nil_append,List.cons_append]
 refine sv_rdG (by rfl) (fun _ _ _ h => h.read (by simp) (by simp) (by simp)) (fun u1 L1 vs1 hvs1 hL1 hJ1 => ?_) ?_
 ·simp [opOK,go_sem]
 simp only [Act.put,List.setIfInBounds_toArray,List.set_cons_succ,List.set_cons_zero,List.nil_append,List.cons_append]
 refine sv_rdG (by rfl) (fun _ _ _ h => h.read (by simp) (by simp) (by simp)) (fun u1 L1 vs1 hvs1 hL1 hJ1 => ?_) ?_
 ·simp [opOK,go_sem]
 simp only [Act.put,List.setIfInBounds_toArray,List.set_cons_succ,List.set_cons_zero,List.nil_append,List.cons_append]
 refine sv_rdG (by rfl) (fun _ _ _ h => h.read (by simp) (by simp) (by simp)) (fun u1 L1 vs1 hvs1 hL1 hJ1 => ?_) ?_
 ·simp [opOK,go_sem]
 simp only [Act.put,List.setIfInBounds_toArray,List.set_cons_succ,List.set_cons_zero,List.nil_append,List.cons_append]
 refine sv_rdG (by rfl) (fun _ _ _ h => h.read (by simp) (by simp) (by simp)) (fun u1 L1 vs1 hvs1 hL1 hJ1 => ?_) ?_
 ·have y1:=bAt hJ1.sp.below c1
  simp [opOK,go_sem,y1]
 simp only [Act.put,List.setIfInBounds_toArray,List.set_cons_succ,List.set_cons_zero,List.nil_append,List.cons_append]
 refine sv_newG ⟨_,0,rfl⟩ (by rfl) (fun u1 L1 vs1 hvs1 hL1 hJ1 hd => ?_) ?_
 ·exact opOK_val (v:=.pointer (some ⟨u1.heap.size,0,none⟩)) (w':=u1.alloc (.cells #[.bool false,.bool false,.bool false,.bool false,.bool false,.bool false,.bool false,.bool false] 65)) (by kernel_rfl) ⟨⟨_,rfl⟩,hJ1.mkB (by decide) (by decide)⟩
 rintro _ ⟨q,rfl⟩
 simp only [Act.put,List.setIfInBounds_toArray,List.set_cons_succ,List.set_cons_zero,List.nil_append,List.cons_append]
 refine sv_newG ⟨_,0,rfl⟩ (by rfl) (fun u1 L1 vs1 hvs1 hL1 hJ1 hd => ?_) ?_
 ·have hl:=hd ⟨0,.data⟩ (by simp) rfl
  exact opOK_val (v:=.slice (some ⟨p,0,none⟩) 0 0) (w':=u1) (by kernel_rfl) ⟨⟨_,rfl⟩,hJ1.asg hl (hvs1 0 _ rfl) (by decide) (by decide)⟩
 rintro _ ⟨p6,rfl⟩
 simp only [Act.put,List.setIfInBounds_toArray,List.set_cons_succ,List.set_cons_zero,List.nil_append,List.cons_append]
 refine sv_newG ⟨undef,trivial⟩ (by rfl) (fun u1 L1 vs1 hvs1 hL1 hJ1 hd => ?_) ?_
 ·have hl:=hd ⟨5,.data⟩ (by simp) rfl
  obtain ⟨q',e1,e2,e3⟩ := hJ1.sp.b hl
  rw [hvs1 5 _ rfl] at e1
  cases e1
  exact opOK_store_row 65 (.tmp 4) (.tmp 13) rfl q #[.bool false,.bool false,.bool false,.bool false,.bool false,.bool false,.bool false,.bool false] (by kernel_rfl) (by kernel_rfl) 65 _ e3 (by kernel_rfl) rfl (by simp [Value.oneCell']) ⟨trivial,by rw [setRow_self _ _ _ _ _ e3]; exact hJ1.read (by simp) (by simp) (by simp)⟩
 rintro _ -
 simp only [Act.put,List.setIfInBounds_toArray,List.set_cons_succ,List.set_cons_zero,List.nil_append,List.cons_append]
 refine sv_rdG (by rfl) (fun _ _ _ h => h.read (by simp) (by simp) (by simp)) (fun u1 L1 vs1 hvs1 hL1 hJ1 => ?_) ?_
 ·simp [opOK,go_sem]
 simp only [Act.put,List.setIfInBounds_toArray,List.set_cons_succ,List.set_cons_zero,List.nil_append,List.cons_append]
 refine sv_end fun vs8 w8 hvs8 hJ8 => ?_
 simp only [List.drop_succ_cons,List.drop_zero]
 have hpe:=(hJ8.c (by decide)).2
 rw [hvs8 6 _ rfl,hvs8 0 _ rfl] at hpe
 cases hpe
 obtain ⟨p',ea,hp1,hp2⟩ := hJ8.sp.a (by decide)
 obtain ⟨q',eb,hq1,hq2⟩ := hJ8.sp.b (by decide)
 rw [hvs8 0 _ rfl] at ea
 rw [hvs8 5 _ rfl] at eb
 cases ea
 cases eb
 have HB8:=Lib.hid (HB0.out.trans (hJ8.sp.below.mono HB0.out.size))
 have HK8:=Lib.hid ((hJ8.sp.below.block N (by have:=HZ0.out; omega)).trans HK0.out)
 have HP8:=Lib.hid hp2
 have HQ8:=Lib.hid hq2
 have hpq : p ≠ q:=fun e => by rw [e,hq2] at hp2; simp at hp2
 have hpN : N + 1 ≤ p ∧ N + 1 ≤ q:=by have:=HZ0.out; omega
 clear hJ8 hvs8 hp1 hp2 hq1 hq2 c1
 go_upto_region 2 with fail
 have HST8 : Hid (RkSt w8 N q #[.int .i64 r.kind,.int .i64 r.players,.int .i64 r.last,.bool r.bull,.bool r.jump,.int .i64 r.rounds,.bool r.cut,nv,.int .i64 r.lives,.bool r.own,.int .i64 g.round,.int .i64 g.player,.int .i64 g.darts,.slice (some ⟨pb,0,none⟩) np cap,.slice wa m wc,.bool (hitB g 0),.bool (hitB g 1),.bool (hitB g 2),.bool (hitB g 3),.bool (hitB g 4)] [] (.slice (some ⟨p,0,none⟩) 0 0) (List.replicate 8 false) ∧ Below w.heap.size w w8):=Lib.hid ⟨⟨⟨fun r hr => (by cases hr),by simp⟩,owns_of_block HP8.out hpN.1,HQ8.out,HK8.out,by have:=(Array.getElem?_eq_some_iff.1 HP8.out).1; omega,by omega⟩,HB8.out⟩
 clear HP8 HQ8
 obtain ⟨ov,hov⟩ : ∃ b,(!g.win.isEmpty) = b:=⟨_,rfl⟩
 have hover:=refOver_v pb cap r g (.slice wa m wc) nv w8 (HV.out.below HB8.out)
 rw [hov,HNP.out] at hover
 have HOV:=Lib.hid hov
 have HOVER:=Lib.hid hover
 clear hov hover
 go_wp2_with (first | ((with_reducible refine wpList_opOK (o:=⟨some 17,Op.load 41 (.tmp 1),_,_,_,_⟩) (R:=fun v w' => v = .agg #[.int .i64 r.kind,.int .i64 r.players,.int .i64 r.last,.bool r.bull,.bool r.jump,.int .i64 r.rounds,.bool r.cut,nv,.int .i64 r.lives,.bool r.own,.int .i64 g.round,.int .i64 g.player,.int .i64 g.darts,.slice (some ⟨pb,0,none⟩) np cap,.slice wa m wc,.bool (hitB g 0),.bool (hitB g 1),.bool (hitB g 2),.bool (hitB g 3),.bool (hitB g 4)] ∧ w8 = w') ?_ ?_ ?_); rfl; (exact opOK_load_row 41 (.tmp 1) rfl N #[.int .i64 r.kind,.int .i64 r.players,.int .i64 r.last,.bool r.bull,.bool r.jump,.int .i64 r.rounds,.bool r.cut,nv,.int .i64 r.lives,.bool r.own,.int .i64 g.round,.int .i64 g.player,.int .i64 g.darts,.slice (some ⟨pb,0,none⟩) np cap,.slice wa m wc,.bool (hitB g 0),.bool (hitB g 1),.bool (hitB g 2),.bool (hitB g 3),.bool (hitB g 4)] (by kernel_rfl) 41 (0,0) HK8.out _ Try.underlying41 rfl (by kernel_rfl) ⟨rfl,rfl⟩); rintro _ _ ⟨rfl,rfl⟩) | fail)
 refine HOVER.out.mono ?_
 rintro e w9 ⟨rfl,hb9⟩
 have HST9 : Hid (RkSt w9 N q #[.int .i64 r.kind,.int .i64 r.players,.int .i64 r.last,.bool r.bull,.bool r.jump,.int .i64 r.rounds,.bool r.cut,nv,.int .i64 r.lives,.bool r.own,.int .i64 g.round,.int .i64 g.player,.int .i64 g.darts,.slice (some ⟨pb,0,none⟩) np cap,.slice wa m wc,.bool (hitB g 0),.bool (hitB g 1),.bool (hitB g 2),.bool (hitB g 3),.bool (hitB g 4)] [] (.slice (some ⟨p,0,none⟩) 0 0) (List.replicate 8 false) ∧ Below w.heap.size w w9):=Lib.hid ⟨HST8.out.1.below hb9,HST8.out.2.trans (hb9.mono HST8.out.2.size)⟩
 clear hb9 HST8 HOVER HK8 HB8
 go_upto_if 18 with fail
 go_cut [3,5,6] from 19 to 47 (fun uv lv _ wx => ∃ (R : List RowR) (u : Value),u = uv ∧ lv = .int .i64 ((np - m : Nat) : Int) ∧ Hid (R.map (·.2.2) = (if g.win = [] then [] else [g.win]) ∧ RkSt wx N q #[.int .i64 r.kind,.int .i64 r.players,.int .i64 r.last,.bool r.bull,.bool r.jump,.int .i64 r.rounds,.bool r.cut,nv,.int .i64 r.lives,.bool r.own,.int .i64 g.round,.int .i64 g.player,.int .i64 g.darts,.slice (some ⟨pb,0,none⟩) np cap,.slice wa m wc,.bool (hitB g 0),.bool (hitB g 1),.bool (hitB g 2),.bool (hitB g 3),.bool (hitB g 4)] R u (dnK (List.replicate 8 false) g.win) ∧ Below w.heap.size w wx))
 case first =>
  as_aux_lemma =>
  cases ov with
  | false =>
   have HWz : Hid (g.win = []):=Lib.hid (by have:=HOV.out; simpa using this)
   have hm0 : m = 0:=by rw [← HM.out,HWz.out]; rfl
   subst hm0
   go_wp2
   go_meet
   case rel => exact ⟨[],_,rfl,rfl,Lib.hid ⟨by rw [HWz.out]; rfl,by rw [HWz.out]; exact HST9.out⟩⟩
  | true =>
   have HWy : Hid (g.win ≠ []):=Lib.hid (by have:=HOV.out; intro e; rw [e] at this; cases this)
   have hm1 : 0 < m:=by rw [← HM.out]; exact List.length_pos_iff.2 HWy.out
   have hmm : m ≤ 8:=by have:=HRL.out; rw [HM.out,HNP.out] at this; omega
   have HSLW:=Lib.hid (HV.out.below HST9.out.2).win
   have HSZ9 : Hid (q < w9.heap.size ∧ p < w9.heap.size):=Lib.hid ⟨(Array.getElem?_eq_some_iff.1 HST9.out.1.done).1,(HST9.out.1.out.lt p rfl).2⟩
   go_upto_region 3 with fail
   have c14 : (w9.alloc (.cells #[] 3)).cell? ⟨N,14,none⟩ = some (.slice wa m wc):=bAt (aB _ _) (by rw [cell_of_heap HST9.out.1.box]; rfl)
   go_wp2_with (first | (at_builtin; refine wpList_copyE rfl (.tmp 20) (.tmp 23) 23 rfl 3 (.int .i64 0) 8 Try.underlying23 info3 rfl rfl (.slice wa m wc) (ints g.win) rfl HSLW.out (ints_oneK _) (by rw [ints_length,HM.out]; omega) (by decide) ?_) | fail)
   intro g1 c1 w10 hb10 ho10
   rw [HM.out] at ho10 ⊢
   have HB10:=Lib.hid hb10
   have HO10:=Lib.hid ho10
   have HU10:=Lib.hid (ownsN_below HST9.out.1.out hb10)
   have hs10 : N + 1 ≤ w10.heap.size:=Nat.le_trans HST9.out.1.sz hb10.size
   clear hb10 ho10 c14
   go_wp2_with (first | (at_builtin; refine wpList_append1 rfl (.tmp 19) (.tmp 25) 48 rfl (N + 1) 23 (.slice none 0 0) 24 Try.underlying48 info_slK rfl (.slice (some ⟨p,0,none⟩) 0 0) 0 [] rfl (HU10.out.alloc _) w10.heap.size 0 1 (.slice (some ⟨g1,0,none⟩) m c1) rfl (cell_new _ _ _) rfl (by omega) (by decide) (by simp; omega) ?_) | fail)
   intro g2 c2 w11 ho11 hg11 _
   have hg1:=HO10.out.lt g1 rfl
   have hp10:=HU10.out.lt p rfl
   have hg1p : g1 ≠ p:=by have:=HSZ9.out.2; omega
   have hblk : ∀ k,k < w10.heap.size → k ≠ p → w11.heap[k]? = w10.heap[k]? := fun k hk hne => (hg11.block k (by simp; omega) (by simp [Value.ownBlock,hne])).trans ((aB w10 (.cells #[.slice (some ⟨g1,0,none⟩) m c1] 23)).block k hk)
   have HST11 : Hid (RkSt w11 N q #[.int .i64 r.kind,.int .i64 r.players,.int .i64 r.last,.bool r.bull,.bool r.jump,.int .i64 r.rounds,.bool r.cut,nv,.int .i64 r.lives,.bool r.own,.int .i64 g.round,.int .i64 g.player,.int .i64 g.darts,.slice (some ⟨pb,0,none⟩) np cap,.slice wa m wc,.bool (hitB g 0),.bool (hitB g 1),.bool (hitB g 2),.bool (hitB g 3),.bool (hitB g 4)] [(g1,c1,g.win)] (.slice (some ⟨g2,0,none⟩) 1 c2) (List.replicate 8 false) ∧ Below w.heap.size w w11):=Lib.hid (by
    have hsz:=HB10.out.size
    have hq9:=HSZ9.out.1
    have hN9:=HST9.out.1.sz
    refine ⟨⟨⟨fun r hr => ?_, ?_⟩, ?_, ?_, ?_, ?_,HST9.out.1.qN⟩, ?_⟩
    ·rw [List.mem_singleton] at hr
     subst hr
     have h1:=ownsN_base HO10.out (base':=N + 1) hN9
     have h2 : w11.ownsRow (N + 1) 3 1 (.slice (some ⟨g1,0,none⟩) m c1) m (ints g.win):=ownsN_kept h1 fun k hk => by
      simp only [Value.ownBlock,Option.some.injEq] at hk
      rw [← hk]; exact hblk g1 hg1.2 hg1p
     simpa [rowV,HM.out] using h2
    ·simp; omega
    ·simpa [rowV,HM.out] using ho11
    ·exact (hblk q (by omega) (Ne.symm hpq)).trans ((HB10.out.block q hq9).trans HST9.out.1.done)
    ·exact (hblk N (by omega) (by omega)).trans ((HB10.out.block N (by omega)).trans HST9.out.1.box)
    ·exact Nat.le_trans hs10 (Nat.le_trans (aB w10 (.cells #[.slice (some ⟨g1,0,none⟩) m c1] 23)).size hg11.size)
    ·refine (HST9.out.2.trans (HB10.out.mono HST9.out.2.size)).trans ?_
     exact ((aB w10 (.cells #[.slice (some ⟨g1,0,none⟩) m c1] 23)).mono (by rw [HN.out]; omega)).trans (below_grownBy hg11 (by rw [HN.out]; simp; omega) fun k hk => by
      simp only [Value.ownBlock,Option.some.injEq] at hk
      rw [HN.out]; omega))
   clear ho11 hg11 hblk hg1 hp10 hg1p
   go_wp2_with fail
   have hmn : m ≤ np:=by have:=HRL.out; rw [HM.out,HNP.out] at this; omega
   go_loopw [6] (fun iv wr => ∃ i : Nat,i ≤ m ∧ iv = .int .i64 i ∧ Hid (RkSt wr N q #[.int .i64 r.kind,.int .i64 r.players,.int .i64 r.last,.bool r.bull,.bool r.jump,.int .i64 r.rounds,.bool r.cut,nv,.int .i64 r.lives,.bool r.own,.int .i64 g.round,.int .i64 g.player,.int .i64 g.darts,.slice (some ⟨pb,0,none⟩) np cap,.slice wa m wc,.bool (hitB g 0),.bool (hitB g 1),.bool (hitB g 2),.bool (hitB g 3),.bool (hitB g 4)] [(g1,c1,g.win)] (.slice (some ⟨g2,0,none⟩) 1 c2) (dnK (List.replicate 8 false) (g.win.take i)) ∧ Below w.heap.size w wr)) (fun iv _ => m - (intOf iv).toNat)
   case atStart => exact ⟨0,by omega,by go_num,HST11⟩
   case round =>
    clear HST11
    obtain ⟨i,hi,rfl,HR⟩ := hrel
    obtain ⟨wi,rfl⟩ : ∃ y : World,y = wr:=⟨_,rfl⟩
    have c14 : wi.cell? ⟨N,14,none⟩ = some (.slice wa m wc):=by rw [cell_of_heap HR.out.1.box]; rfl
    by_cases him : i < m
    ·have d1 : decide ((i : Int) < (m : Int)) = true:=decide_eq_true (by omega)
     have d1n : decide (i < m) = true:=decide_eq_true him
     have zi : IntKind.i64.wrap ((i : Int) + 1) = (i : Int) + 1:=wrap_small _ (by omega) (by omega)
     have hiw : i < g.win.length:=by rw [HM.out]; exact him
     obtain ⟨wb,wo,rfl, -,hx⟩ := (HV.out.below HR.out.2).win.cell hiw
     have hmem:=HWN.out.mem _ (List.getElem_mem hiw)
     have htk : g.win.take (i + 1) = g.win.take i ++ [g.win[i]]:=List.take_succ_eq_append_getElem hiw
     obtain ⟨x,hxe⟩ : ∃ x,g.win[i] = x:=⟨_,rfl⟩
     rw [hxe] at hx hmem htk
     obtain ⟨xn,rfl⟩ : ∃ k : Nat,x = k:=⟨x.toNat,by omega⟩
     have hxn : xn < 8:=by have:=HNP.out; omega
     have hxi : (xn : Int) < 8:=by omega
     have HTK:=Lib.hid htk
     have hdl : xn < (dnK (List.replicate 8 false) (g.win.take i)).length:=by rw [dnK_len,List.length_replicate]; exact hxn
     have cq:=HR.out.1.cell hdl
     have fq:=HR.out.1.free xn
     clear hxe hmem htk hiw hdl
     go_wp2
     go_roundw
     case rel =>
      refine ⟨i + 1,by omega,by go_num,Lib.hid ⟨?_,HR.out.2.setCell (by have:=HR.out.1.qN; have:=HN.out; dsimp only; omega) _⟩⟩
      rw [HTK.out,dnK_snoc]
      exact HR.out.1.setDone xn
     case measure => simp [intOf]; omega
    ·obtain rfl : i = m:=by omega
     obtain ⟨m,rfl⟩ : ∃ y : Nat,y = i:=⟨_,rfl⟩
     have d1 : decide ((m : Int) < (m : Int)) = false:=decide_eq_false (by omega)
     have zl : IntKind.i64.wrap ((np : Int) - (m : Int)) = (np : Int) - (m : Int):=wrap_small _ (by omega) (by omega)
     have hlc : ((np - m : Nat) : Int) = (np : Int) - (m : Int):=by omega
     have HLC:=Lib.hid hlc
     clear hlc
     go_wp2
     go_meet
     case rel =>
      refine ⟨[(g1,c1,g.win)],_,rfl,by rw [HLC.out],Lib.hid ⟨by rw [if_neg HWy.out]; rfl, ?_⟩⟩
      have:=HR.out
      rw [List.take_of_length_le (by rw [HM.out]; exact Nat.le_refl _)] at this
      exact this
 case rest =>
  as_aux_lemma =>
  obtain ⟨R0,u0,rfl,rfl,HC⟩ := hcut
  obtain ⟨w12,rfl⟩ : ∃ y : World,y = wc:=⟨_,rfl⟩
  have HLR : Hid (leftL g.pls.length (dnK (List.replicate 8 false) g.win) = restG g):=Lib.hid (left_rest HWN.out.mem (by rw [HNP.out]; exact hn8.2))
  have HLL : Hid ((np - m) = (leftL g.pls.length (dnK (List.replicate 8 false) g.win)).length):=Lib.hid (by rw [HLR.out]; have:=HRL.out; rw [HM.out,HNP.out] at this; omega)
  have HST0 : Hid ((dnK (List.replicate 8 false) g.win).length = 8 ∧ R0.map (·.2.2) ++ bestsL r g np (leftL g.pls.length (dnK (List.replicate 8 false) g.win)) = rankG r g ∧ R0.length ≤ 1 ∧ RkSt w12 N q #[.int .i64 r.kind,.int .i64 r.players,.int .i64 r.last,.bool r.bull,.bool r.jump,.int .i64 r.rounds,.bool r.cut,nv,.int .i64 r.lives,.bool r.own,.int .i64 g.round,.int .i64 g.player,.int .i64 g.darts,.slice (some ⟨pb,0,none⟩) np cap,.slice wa m wc,.bool (hitB g 0),.bool (hitB g 1),.bool (hitB g 2),.bool (hitB g 3),.bool (hitB g 4)] R0 u0 (dnK (List.replicate 8 false) g.win) ∧ Below w.heap.size w w12):=Lib.hid ⟨by rw [dnK_len,List.length_replicate],by rw [HC.out.1,HLR.out,← HNP.out]; rfl,by have:=congrArg List.length HC.out.1; rw [List.length_map] at this; rw [this]; split <;> simp,HC.out.2⟩
  clear HC
  go_wp2_with fail
  go_loopw [3,5] (fun uv lv wr => ∃ (R : List RowR) (u : Value) (dn : List Bool) (k ll : Nat),u = uv ∧ lv = .int .i64 (ll : Int) ∧ ll ≤ 8 ∧ ll ≤ k ∧ R.length + ll ≤ 9 ∧ Hid (ll = (leftL g.pls.length dn).length ∧ dn.length = 8 ∧ R.map (·.2.2) ++ bestsL r g k (leftL g.pls.length dn) = rankG r g ∧ RkSt wr N q #[.int .i64 r.kind,.int .i64 r.players,.int .i64 r.last,.bool r.bull,.bool r.jump,.int .i64 r.rounds,.bool r.cut,nv,.int .i64 r.lives,.bool r.own,.int .i64 g.round,.int .i64 g.player,.int .i64 g.darts,.slice (some ⟨pb,0,none⟩) np cap,.slice wa m wc,.bool (hitB g 0),.bool (hitB g 1),.bool (hitB g 2),.bool (hitB g 3),.bool (hitB g 4)] R u dn ∧ Below w.heap.size w wr)) (fun _ lv _ => (intOf lv).toNat)
  case atStart => exact ⟨R0,_,_,np,np - m,rfl,rfl,by omega,by omega,by have:=HST0.out.2.2.1; omega,Lib.hid ⟨HLL.out,HST0.out.1,HST0.out.2.1,HST0.out.2.2.2.1,HST0.out.2.2.2.2⟩⟩
  case round =>
   clear HST0 HLL HLR
   obtain ⟨R,u,dn,kf,ll,hu,rfl,hl8,hlk,hRl,HR⟩ := hrel
   subst hu
   obtain ⟨wi,rfl⟩ : ∃ y : World,y = wr:=⟨_,rfl⟩
   by_cases hll : 0 < ll
   ·as_aux_lemma =>
    have d0 : decide ((0 : Int) < (ll : Int)) = true:=decide_eq_true (by omega)
    have d0n : decide (0 < ll) = true:=decide_eq_true hll
    have HNXT:=Lib.hid (bests_step kf HBO.out (dn:=dn) (by rw [HNP.out,HR.out.2.1]; exact hn8.2) (by intro e; have:=HR.out.1; rw [e] at this; simp at this; omega) (by rw [← HR.out.1]; exact hlk))
    have HD8:=Lib.hid HR.out.2.1
    obtain ⟨w13,hw13⟩ : ∃ y,wi.alloc (.cells #[] 3) = y:=⟨_,rfl⟩
    obtain ⟨gp0,hgp0⟩ : ∃ y,wi.heap.size = y:=⟨_,rfl⟩
    have HG13 : Hid (RkGr w13 N q #[.int .i64 r.kind,.int .i64 r.players,.int .i64 r.last,.bool r.bull,.bool r.jump,.int .i64 r.rounds,.bool r.cut,nv,.int .i64 r.lives,.bool r.own,.int .i64 g.round,.int .i64 g.player,.int .i64 g.darts,.slice (some ⟨pb,0,none⟩) np cap,.slice wa m wc,.bool (hitB g 0),.bool (hitB g 1),.bool (hitB g 2),.bool (hitB g 3),.bool (hitB g 4)] R (gp0,0,[]) u dn ∧ Below w.heap.size w w13):=Lib.hid (by
     rw [← hw13,← hgp0]
     exact ⟨HR.out.2.2.2.1.group,HR.out.2.2.2.2.trans ((aB wi (.cells #[] 3)).mono HR.out.2.2.2.2.size)⟩)
    have HW13:=Lib.hid hw13
    have HGP0:=Lib.hid hgp0
    clear hw13 hgp0
    go_upto_block 4 with fail
    rw [HW13.out,HGP0.out]
    go_cut [8,9,10,7] from 51 to 86 (fun _ _ _ gv wx => ∃ (gp cp ln : Nat),gv = .slice (some ⟨gp,0,none⟩) ln cp ∧ Hid (ln = (grpK r g dn np).length ∧ RkGr wx N q #[.int .i64 r.kind,.int .i64 r.players,.int .i64 r.last,.bool r.bull,.bool r.jump,.int .i64 r.rounds,.bool r.cut,nv,.int .i64 r.lives,.bool r.own,.int .i64 g.round,.int .i64 g.player,.int .i64 g.darts,.slice (some ⟨pb,0,none⟩) np cap,.slice wa m wc,.bool (hitB g 0),.bool (hitB g 1),.bool (hitB g 2),.bool (hitB g 3),.bool (hitB g 4)] R (gp,cp,grpK r g dn np) u dn ∧ Below w.heap.size w wx))
    case first =>
     as_aux_lemma =>
     go_wp2_with fail
     go_loopw [8,7] (fun iv gv wr => ∃ (i gp cp ln : Nat),i ≤ np ∧ ln ≤ i ∧ iv = .int .i64 i ∧ gv = .slice (some ⟨gp,0,none⟩) ln cp ∧ Hid (ln = (grpK r g dn i).length ∧ RkGr wr N q #[.int .i64 r.kind,.int .i64 r.players,.int .i64 r.last,.bool r.bull,.bool r.jump,.int .i64 r.rounds,.bool r.cut,nv,.int .i64 r.lives,.bool r.own,.int .i64 g.round,.int .i64 g.player,.int .i64 g.darts,.slice (some ⟨pb,0,none⟩) np cap,.slice wa m wc,.bool (hitB g 0),.bool (hitB g 1),.bool (hitB g 2),.bool (hitB g 3),.bool (hitB g 4)] R (gp,cp,grpK r g dn i) u dn ∧ Below w.heap.size w wr)) (fun iv _ _ => np - (intOf iv).toNat)
     case atStart => exact ⟨0,gp0,0,0,by omega,by omega,by go_num,rfl,Lib.hid ⟨rfl,HG13.out⟩⟩
     case round =>
      obtain ⟨i,gp,cp,ln,hi,hln,rfl,rfl,HI3⟩ := hrel
      obtain ⟨wj,rfl⟩ : ∃ y : World,y = wr:=⟨_,rfl⟩
      have c1 : wj.cell? ⟨N,1,none⟩ = some (.int .i64 (np : Int)):=by rw [cell_of_heap HI3.out.2.1.box,HLEN.out]; rfl
      by_cases hin : i < np
      ·have d1 : decide ((i : Int) < (np : Int)) = true:=decide_eq_true (by omega)
       have d1n : decide (i < np) = true:=decide_eq_true hin
       have zi : IntKind.i64.wrap ((i : Int) + 1) = (i : Int) + 1:=wrap_small _ (by omega) (by omega)
       have hi8 : i < 8:=by omega
       have hi8i : (i : Int) < 8:=by omega
       obtain ⟨db,hdb⟩ : ∃ y,dnB dn i = y:=⟨_,rfl⟩
       have ci : wj.cell? ⟨q,i,none⟩ = some (.bool db):=by rw [← hdb]; exact HI3.out.2.1.cell (by rw [HD8.out]; exact hi8)
       obtain ⟨nd,hnd⟩ : ∃ y,(!db) = y:=⟨_,rfl⟩
       have HB0' : Hid (nd = bsT r g dn i 0):=Lib.hid (by rw [bsT_zero,hdb,hnd])
       clear hdb
       go_wp2_with fail
       clear ci
       go_loopw [9,10] (fun bv kv wr => ∃ (k : Nat) (b : Bool),k ≤ np ∧ kv = .int .i64 k ∧ bv = .bool b ∧ Hid (b = bsT r g dn i k ∧ Below wj.heap.size wj wr)) (fun _ kv _ => np - (intOf kv).toNat)
       case atStart => exact ⟨0,nd,by omega,by go_num,by first | rfl | rw [hnd],Lib.hid ⟨HB0'.out,Below.refl _ _⟩⟩
       case round =>
        obtain ⟨k,b,hk,rfl,rfl,HK⟩ := hrel
        obtain ⟨wk,rfl⟩ : ∃ y : World,y = wr:=⟨_,rfl⟩
        have HGk:=Lib.hid (HI3.out.2.1.below HK.out.2)
        have c1 : wk.cell? ⟨N,1,none⟩ = some (.int .i64 (np : Int)):=bAt HK.out.2 c1
        by_cases hkn : k < np
        ·have d2 : decide ((k : Int) < (np : Int)) = true:=decide_eq_true (by omega)
         have d2n : decide (k < np) = true:=decide_eq_true hkn
         have zk : IntKind.i64.wrap ((k : Int) + 1) = (k : Int) + 1:=wrap_small _ (by omega) (by omega)
         have hk8 : k < 8:=by omega
         have hk8i : (k : Int) < 8:=by omega
         have HS:=Lib.hid (bsT_succ r g dn i k)
         cases b with
         | false =>
          have HS2 : Hid (false = bsT r g dn i (k + 1)):=Lib.hid (by rw [HS.out,← HK.out.1]; rfl)
          go_wp2
          go_roundw
          case rel => exact ⟨k + 1,false,by omega,by go_num,rfl,Lib.hid ⟨HS2.out,HK.out.2⟩⟩
          case measure => simp [intOf]; omega
         | true =>
          obtain ⟨dk,hdk⟩ : ∃ y,dnB dn k = y:=⟨_,rfl⟩
          have ck : wk.cell? ⟨q,k,none⟩ = some (.bool dk):=by rw [← hdk]; exact HGk.out.cell (by rw [HD8.out]; exact hk8)
          have HDK:=Lib.hid hdk
          clear hdk
          cases dk with
          | true =>
           have HS2 : Hid (true = bsT r g dn i (k + 1)):=Lib.hid (by rw [HS.out,← HK.out.1,HDK.out]; rfl)
           go_wp2
           go_roundw
           case rel => exact ⟨k + 1,true,by omega,by go_num,rfl,Lib.hid ⟨HS2.out,HK.out.2⟩⟩
           case measure => simp [intOf]; omega
          | false =>
           obtain ⟨bx,hbx⟩ : ∃ y,betterR r (plr g k) (plr g i) = y:=⟨_,rfl⟩
           have HS2 : Hid (bsT r g dn i (k + 1) = !bx):=Lib.hid (by rw [HS.out,← HK.out.1,HDK.out,hbx]; rfl)
           have hbt:=refBetter_v pb cap r g (.slice wa m wc) nv wk (HV.out.below (HI3.out.2.2.trans (HK.out.2.mono HI3.out.2.2.size))) (fun p hp => (HI.out.each p hp).1) k i (by rw [HNP.out]; exact hkn) (by rw [HNP.out]; exact hin)
           rw [hbx,HNP.out] at hbt
           have HBT:=Lib.hid hbt
           clear hbt hbx
           go_wp2_with (first | ((with_reducible refine wpList_opOK_on (o:=⟨some 75,Op.load 41 (.tmp 1),_,_,_,_⟩) (R:=fun v w' => v = .agg #[.int .i64 r.kind,.int .i64 r.players,.int .i64 r.last,.bool r.bull,.bool r.jump,.int .i64 r.rounds,.bool r.cut,nv,.int .i64 r.lives,.bool r.own,.int .i64 g.round,.int .i64 g.player,.int .i64 g.darts,.slice (some ⟨pb,0,none⟩) np cap,.slice wa m wc,.bool (hitB g 0),.bool (hitB g 1),.bool (hitB g 2),.bool (hitB g 3),.bool (hitB g 4)] ∧ wk = w') ?_ ?_ ?_); rfl; (exact opOK_load_row 41 (.tmp 1) rfl N #[.int .i64 r.kind,.int .i64 r.players,.int .i64 r.last,.bool r.bull,.bool r.jump,.int .i64 r.rounds,.bool r.cut,nv,.int .i64 r.lives,.bool r.own,.int .i64 g.round,.int .i64 g.player,.int .i64 g.darts,.slice (some ⟨pb,0,none⟩) np cap,.slice wa m wc,.bool (hitB g 0),.bool (hitB g 1),.bool (hitB g 2),.bool (hitB g 3),.bool (hitB g 4)] (by kernel_rfl) 41 (0,0) HGk.out.box _ Try.underlying41 rfl (by kernel_rfl) ⟨rfl,rfl⟩); rintro _ _ ⟨rfl,rfl⟩) | fail)
           refine HBT.out.mono ?_
           rintro e w15 ⟨rfl,hb15⟩
           have HB15:=Lib.hid (bThen HK.out.2 hb15)
           clear hb15 HBT ck
           cases bx with
           | true =>
            have HS3 : Hid (false = bsT r g dn i (k + 1)):=Lib.hid (by rw [HS2.out]; rfl)
            go_wp2
            go_roundw
            case rel => exact ⟨k + 1,false,by omega,by go_num,rfl,Lib.hid ⟨HS3.out,HB15.out⟩⟩
            case measure => simp [intOf]; omega
           | false =>
            have HS3 : Hid (true = bsT r g dn i (k + 1)):=Lib.hid (by rw [HS2.out]; rfl)
            go_wp2
            go_roundw
            case rel => exact ⟨k + 1,true,by omega,by go_num,rfl,Lib.hid ⟨HS3.out,HB15.out⟩⟩
            case measure => simp [intOf]; omega
        ·obtain rfl : k = np:=by omega
         obtain ⟨np,rfl⟩ : ∃ y : Nat,y = k:=⟨_,rfl⟩
         have d2 : decide ((np : Int) < (np : Int)) = false:=decide_eq_false (by omega)
         have HSG:=Lib.hid (grpK_succ r g dn i)
         have HBk:=Lib.hid (HI3.out.2.2.trans (HK.out.2.mono HI3.out.2.2.size))
         cases b with
         | false =>
          have HGN : Hid (grpK r g dn (i + 1) = grpK r g dn i):=Lib.hid (by rw [HSG.out,HNP.out,← HK.out.1]; simp)
          go_wp2
          go_roundw
          case rel => exact ⟨i + 1,gp,cp,ln,by omega,by omega,by go_num,rfl,Lib.hid ⟨by rw [HGN.out]; exact HI3.out.1,by rw [HGN.out]; exact HGk.out,HBk.out⟩⟩
          case measure => simp [intOf]; omega
         | true =>
          have HGN : Hid (grpK r g dn (i + 1) = grpK r g dn i ++ [(i : Int)]):=Lib.hid (by rw [HSG.out,HNP.out,← HK.out.1]; simp)
          have ho:=HGk.out.rows.rows (gp,cp,grpK r g dn i) (by simp)
          have hov : wk.ownsRow (N + 1) 3 1 (.slice (some ⟨gp,0,none⟩) ln cp) ln (ints (grpK r g dn i)):=by rw [HI3.out.1]; exact ho
          have HO:=Lib.hid hov
          have hzk:=HGk.out.sz
          clear ho hov
          go_wp2_with (first | (at_builtin; refine wpList_append1 rfl (.tmp 83) (.tmp 85) 23 rfl (N + 1) 3 (.int .i64 0) 8 Try.underlying23 info3 rfl (.slice (some ⟨gp,0,none⟩) ln cp) ln _ rfl (HO.out.alloc _) wk.heap.size 0 1 (.int .i64 i) rfl (cell_new _ _ _) rfl (by omega) (by decide) (by simp; omega) ?_) | fail)
          intro g' c' w16 ho16 hg16 hat16
          have hb16 : Below (N + 1) wk w16:=((aB wk (.cells #[.int .i64 i] 3)).mono hzk).trans (below_grownBy hg16 (by simp; omega) fun q hq => (HO.out.lt q hq).1)
          have HG16 : Hid (RkGr w16 N q #[.int .i64 r.kind,.int .i64 r.players,.int .i64 r.last,.bool r.bull,.bool r.jump,.int .i64 r.rounds,.bool r.cut,nv,.int .i64 r.lives,.bool r.own,.int .i64 g.round,.int .i64 g.player,.int .i64 g.darts,.slice (some ⟨pb,0,none⟩) np cap,.slice wa m wc,.bool (hitB g 0),.bool (hitB g 1),.bool (hitB g 2),.bool (hitB g 3),.bool (hitB g 4)] R (g',c',grpK r g dn (i + 1)) u dn):=Lib.hid (by
           rw [HGN.out]
           have hln:=HI3.out.1
           refine HGk.out.more (x:=(i : Int)) hg16 (by rw [← hln]; exact ho16) ?_
           rcases hat16 with e | e
           ·left; simpa [Value.ownBlock] using e.symm
           ·exact .inr (by rw [e]; simp))
          go_wp2
          go_roundw
          case rel => exact ⟨i + 1,g',c',ln + 1,by omega,by omega,by go_num,by go_num,Lib.hid ⟨by rw [HGN.out,List.length_append,← HI3.out.1]; rfl,HG16.out,HBk.out.trans (hb16.mono (by rw [HN.out]; omega))⟩⟩
          case measure => simp [intOf]; omega
      ·obtain rfl : i = np:=by omega
       obtain ⟨np,rfl⟩ : ∃ y : Nat,y = i:=⟨_,rfl⟩
       have d1 : decide ((np : Int) < (np : Int)) = false:=decide_eq_false (by omega)
       go_wp2
       go_meet
       case rel => exact ⟨gp,cp,ln,rfl,HI3⟩
    case rest =>
     as_aux_lemma =>
     obtain ⟨gp,cp,ln,rfl,HGc⟩ := hcut
     obtain ⟨w17,rfl⟩ : ∃ y : World,y = wc:=⟨_,rfl⟩
     obtain ⟨l,hl⟩ : ∃ y,grpK r g dn np = y:=⟨_,rfl⟩
     have hnx:=HNXT.out
     rw [HNP.out,hl] at hnx
     have HNX2:=Lib.hid hnx
     have HMEM : Hid (∀ x ∈ l,0 ≤ x ∧ x.toNat < np):=Lib.hid (fun x hx => by rw [← hl] at hx; have:=grpK_mem.1 hx; omega)
     have HLn : Hid (ln = l.length):=Lib.hid (by rw [← hl]; exact HGc.out.1)
     have hln8 : ln ≤ 8 ∧ 0 < ln ∧ ln ≤ ll:=by
      have h1:=HLn.out
      have h2:=hnx.2.1
      have h3:=hnx.2.2
      have h4:=HR.out.1
      rw [HNP.out] at h4
      omega
     have HG17 : Hid (RkGr w17 N q #[.int .i64 r.kind,.int .i64 r.players,.int .i64 r.last,.bool r.bull,.bool r.jump,.int .i64 r.rounds,.bool r.cut,nv,.int .i64 r.lives,.bool r.own,.int .i64 g.round,.int .i64 g.player,.int .i64 g.darts,.slice (some ⟨pb,0,none⟩) np cap,.slice wa m wc,.bool (hitB g 0),.bool (hitB g 1),.bool (hitB g 2),.bool (hitB g 3),.bool (hitB g 4)] R (gp,cp,l) u dn ∧ Below w.heap.size w w17):=Lib.hid (by rw [← hl]; exact HGc.out.2)
     clear HGc hnx hl HNXT
     go_wp2_with fail
     go_loopw [11] (fun iv wr => ∃ i : Nat,i ≤ ln ∧ iv = .int .i64 i ∧ Hid (RkGr wr N q #[.int .i64 r.kind,.int .i64 r.players,.int .i64 r.last,.bool r.bull,.bool r.jump,.int .i64 r.rounds,.bool r.cut,nv,.int .i64 r.lives,.bool r.own,.int .i64 g.round,.int .i64 g.player,.int .i64 g.darts,.slice (some ⟨pb,0,none⟩) np cap,.slice wa m wc,.bool (hitB g 0),.bool (hitB g 1),.bool (hitB g 2),.bool (hitB g 3),.bool (hitB g 4)] R (gp,cp,l) u (dnK dn (l.take i)) ∧ Below w.heap.size w wr)) (fun iv _ => ln - (intOf iv).toNat)
     case atStart => exact ⟨0,by omega,by go_num,HG17⟩
     case round =>
      clear HG17
      obtain ⟨i,hi,rfl,HG⟩ := hrel
      obtain ⟨wj,rfl⟩ : ∃ y : World,y = wr:=⟨_,rfl⟩
      by_cases him : i < ln
      ·have d1 : decide ((i : Int) < (ln : Int)) = true:=decide_eq_true (by omega)
       have d1n : decide (i < ln) = true:=decide_eq_true him
       have zi : IntKind.i64.wrap ((i : Int) + 1) = (i : Int) + 1:=wrap_small _ (by omega) (by omega)
       have hil : i < l.length:=by rw [← HLn.out]; exact him
       obtain ⟨b5,o5,hal, -,hx⟩ := (Sl.of_owns (HG.out.1.rows.rows (gp,cp,l) (by simp))).cell hil
       cases hal
       rw [Nat.zero_add] at hx
       have hmem:=HMEM.out _ (List.getElem_mem hil)
       have htk : l.take (i + 1) = l.take i ++ [l[i]]:=List.take_succ_eq_append_getElem hil
       obtain ⟨x,hxe⟩ : ∃ x,l[i] = x:=⟨_,rfl⟩
       dsimp only at hx
       rw [hxe] at hx hmem htk
       obtain ⟨xn,rfl⟩ : ∃ k : Nat,x = k:=⟨x.toNat,by omega⟩
       have hxn : xn < 8:=by omega
       have hxi : (xn : Int) < 8:=by omega
       have HTK:=Lib.hid htk
       have cq:=HG.out.1.cell (x:=xn) (by rw [dnK_len,HD8.out]; exact hxn)
       have fq:=HG.out.1.free xn
       clear hxe hmem htk hil
       go_wp2
       go_roundw
       case rel =>
        refine ⟨i + 1,by omega,by go_num,Lib.hid ⟨?_,HG.out.2.setCell (by have:=HG.out.1.qN; have:=HN.out; dsimp only; omega) _⟩⟩
        rw [HTK.out,dnK_snoc]
        exact HG.out.1.setDone xn
       case measure => simp [intOf]; omega
      ·obtain rfl : i = ln:=by omega
       obtain ⟨ln,rfl⟩ : ∃ y : Nat,y = i:=⟨_,rfl⟩
       have d1 : decide ((ln : Int) < (ln : Int)) = false:=decide_eq_false (by omega)
       have zl : IntKind.i64.wrap ((ll : Int) - (ln : Int)) = (ll : Int) - (ln : Int):=wrap_small _ (by omega) (by omega)
       have hlc : ((ll - ln : Nat) : Int) = (ll : Int) - (ln : Int):=by omega
       have HLC:=Lib.hid hlc
       have hgg:=HG.out.1
       rw [List.take_of_length_le (by rw [HLn.out]; exact Nat.le_refl _)] at hgg
       have HGG:=Lib.hid hgg
       have HO:=Lib.hid hgg.out
       have hzj:=hgg.sz
       have HV' : Hid ((.slice (some ⟨gp,0,none⟩) ln cp : Value) = rowV (gp,cp,l)):=Lib.hid (by unfold rowV; rw [HLn.out])
       clear hlc hgg
       go_wp2_with (first | (at_builtin; refine wpList_append1 rfl (.tmp 98) (.tmp 100) 48 rfl (N + 1) 23 (.slice none 0 0) 24 Try.underlying48 info_slK rfl u R.length _ rfl (HO.out.alloc _) wj.heap.size 0 1 (.slice (some ⟨gp,0,none⟩) ln cp) rfl (cell_new _ _ _) rfl (by omega) (by decide) (by simp; omega) ?_) | fail)
       intro g' c' w19 ho19 hg19 _
       have HST19:=Lib.hid (HGG.out.give HV'.out hg19 ho19)
       have HB19 : Hid (Below w.heap.size w w19):=Lib.hid (HG.out.2.trans (((aB wj (.cells #[.slice (some ⟨gp,0,none⟩) ln cp] 23)).mono (Nat.le_trans (by rw [HN.out]; omega) hzj)).trans (below_grownBy hg19 (by rw [HN.out]; simp; omega) fun k hk => by have:=(HO.out.lt k hk).1; rw [HN.out]; omega)))
       clear ho19 hg19
       go_wp2
       go_roundw
       case rel =>
        refine ⟨R ++ [(gp,cp,l)],_,dnK dn l,kf - 1,ll - ln,rfl,by rw [HLC.out],by omega,by omega,by rw [List.length_append]; simp; omega,Lib.hid ⟨?_,by rw [dnK_len]; exact HD8.out, ?_,HST19.out,HB19.out⟩⟩
        ·have h1:=HNX2.out.2.2
         have h2:=HR.out.1
         have h3:=HLn.out
         rw [HNP.out] at h2 ⊢
         omega
        ·have h1:=HNX2.out.1
         have h2:=HR.out.2.2.1
         rw [HNP.out] at h2 ⊢
         rw [← h2,h1]; simp
       case measure => simp [intOf]; omega
   ·as_aux_lemma =>
    have hl0 : ll = 0:=by omega
    subst hl0
    have d0 : decide ((0 : Int) < ((0 : Nat) : Int)) = false:=by simp
    have HRK : Hid (R.map (·.2.2) = rankG r g):=Lib.hid (by
     have h1:=HR.out.2.2.1
     have h2 : leftL g.pls.length dn = []:=List.eq_nil_of_length_eq_zero HR.out.1.symm
     rw [h2] at h1
     have h3 : bestsL r g kf [] = []:=by cases kf <;> rfl
     rw [h3,List.append_nil] at h1
     exact h1)
    have HSS : Hid (SlSl (fun q => w.heap.size ≤ q) wi u (rankG r g)):=Lib.hid (by
     rw [← HRK.out]
     have hst:=HR.out.2.2.2.1
     rcases hst.out.2 with ⟨e,h0⟩ | ⟨g',c',cur,e, -, -, -⟩
     ·have hR0 : R = []:=List.eq_nil_of_length_eq_zero h0
      rw [e,hR0]
      exact ⟨[],Sl.nil _ _,rfl,fun i hi => by simp at hi⟩
     ·have ho:=hst.out
      rw [e] at ho ⊢
      exact (hst.rows.slsl ho (Nat.le_refl _)).mono fun k hk => by have:=HN.out; omega)
    go_wp2
    go_returns
    exact ⟨u,rfl,HR.out.2.2.2.2,HSS.out⟩
end Go.Proofs.Ytnhggfnnolfcdaa
