/- The texts EB, EC, ED, in build order. -/
import Derived.Test.YtnhggfnnolfcdaaGreatZas
import Derived.ArgAppend
import Derived.BigQuiet
import Derived.Handy
import Derived.RangeFuncBound
import Derived.RangeFuncLeaves
import Derived.Shelf.Abstract
import Derived.Shelf.RegionOpen
import Derived.OwnWalkIn
import Derived.TacticsInMore
import Derived.LoopNIn
import Derived.LoopIn

/- Chapter 4: all lists with which the next player wins (win). -/
namespace Go.Proofs.YtnhggfnnolfcdaaGreat
open Go.RowKit Go.Oche Go.Proofs

section
variable {P : Program} {ops : Array Oper} {rest : List Oper} {o : Oper} {a : Act} {Q : Exit → Act → World → Prop} {w : World}
theorem wpList_appendNew {S : Nat → Prop} (hg : o.guard = none) (s x : Operand) (t : TypeId) (ho : o.op = .call { callee:=.builtin .append,args:=#[s,x],argTypes:=#[t,t] })
  (e : TypeId) (z : Value) (bytes : Nat) (ht : P.underlying t = some (.slice e)) (hi : (P.info? e).map (fun i => (i.zero,i.size,i.bytes)) = some (some z,1,bytes)) (hzs : z.cells.size = 1)
  (ao : Option Addr) (n : Nat) (olds : List Value) (hs : a.eval s = .slice ao n n) (hnone : ao = none → n = 0) (hsl : Sl S w (.slice ao n n) olds) (b off c : Nat) (u : Value) (hx : a.eval x = .slice (some ⟨b,off,none⟩) 1 c) (hc : w.cell? ⟨b,off,none⟩ = some u) (h1 : u.oneCell' = true)
  (h63 : n + 1 ≤ 100000) (hbytes : bytes ≤ 1000)
  (hK : ∀ g cap w',w'.ownsRow w.heap.size e 1 (.slice (some ⟨g,0,none⟩) (n + 1) cap) (n + 1) (olds ++ [u]) → w.grownBy w' none → wpList P ops Q rest (a.put o.dst (.slice (some ⟨g,0,none⟩) (n + 1) cap)) w') :
  wpList P ops Q (o :: rest) a w:=by
 cases hie : P.info? e with
 | none => rw [hie] at hi; cases hi
 | some i =>
  rw [hie] at hi
  simp only [Option.map_some,Option.some.injEq,Prod.mk.injEq] at hi
  obtain ⟨hz,hsz,hby⟩ := hi
  obtain ⟨a',cap',e',_,_,h3⟩ := hsl
  have hlen : olds.length = n:=by cases e'; rfl
  refine wpList_append_grows w hg s x t ho e i z 1 bytes ht hie hz hsz hby hzs (by decide) ao n n olds hs (fun h => ⟨hnone h,hnone h⟩) (by omega) ?_ ⟨b,off,none⟩ 1 c [u] hx rfl ?_ (by simpa using h1) (by omega) (by unfold maxLen; omega) ?_ fun v' w' r1 r2 => ?_
  ·intro b0 hb0 j u' hj
   obtain ⟨b1,o1,e1,_,hc1⟩ := h3 j u' hj
   cases e'
   rw [hb0] at e1
   cases e1
   rw [addr_at]; exact hc1
  ·intro j u' hj
   cases j with
   | zero => cases hj; rw [addr_at]; exact hc
   | succ j => cases hj
  ·have : (n + 1) * bytes ≤ 100000 * 1000:=Nat.mul_le_mul h63 hbytes
   omega
  ·have r1':=r1
   rcases r1.2 with ⟨_,h⟩ | ⟨g,cap,cur,e1,_⟩
   ·omega
   ·subst e1
    exact hK g cap w' r1' r2
end
theorem sl_and {S S' : Nat → Prop} {w : World} {v : Value} {l : List Value} (h : Sl S w v l) (h' : Sl S' w v l) : Sl (fun q => S q ∧ S' q) w v l:=by
 obtain ⟨a,cap,e,h1,h2,h3⟩ := h
 obtain ⟨a',cap',e',_,_,h3'⟩ := h'
 refine ⟨a,cap,e,h1,h2,fun i x hx => ?_⟩
 obtain ⟨b,o,ea,s,c⟩ := h3 i x hx
 obtain ⟨b',o',ea',s',c'⟩ := h3' i x hx
 subst e
 cases e'
 subst ea
 cases ea'
 exact ⟨_,_,rfl,⟨s,s'⟩,c⟩
theorem _root_.Go.Oche.Sl.cut {S : Nat → Prop} {w : World} {a : Option Addr} {n c : Nat} {l : List Value} (h : Sl S w (.slice a n c) l) : Sl S w (.slice a n n) l:=by
 obtain ⟨a',cap,e,h1,h2,h3⟩ := h
 cases e
 exact ⟨_,_,rfl,Nat.le_refl _,by omega,h3⟩
theorem clip_any (la : Option Addr) (n c : Nat) (hc : n ≤ c) (hm : c ≤ maxLen) (hn : la = none → n = 0 ∧ c = 0) (w : World) :
  Calls Tryz.prog 37 #[.slice la n c] w fun e w' => e = .returned (.slice la n n) ∧ w = w':=by
 unfold maxLen at hm
 cases la with
 | none =>
  obtain ⟨rfl,rfl⟩ := hn rfl
  clear hn hc hm
  go_enter Tryz.func37,Tryz.ntmps37
  go_wp2
  go_returns
  exact ⟨rfl,rfl⟩
 | some a =>
  obtain ⟨b,o,_⟩ := a
  clear hn
  go_enter Tryz.func37,Tryz.ntmps37
  go_wp2
  go_returns
  exact ⟨rfl,rfl⟩
structure Ways (bx : Nat) (O : Nat → Prop) (ws : List (List Int)) (W : World) : Prop where
 ex : ∃ lv us,BoxRow bx 37 30 1 us.length us O lv W ∧ us.length = ws.length ∧ ∀ i (h : i < ws.length), ∃ u,us[i]? = some u ∧ Sl (fun q => ¬ O q) W u (ints ws[i])
theorem Ways.ge {bx : Nat} {O : Nat → Prop} {ws : List (List Int)} {W : World} (h : Ways bx O ws W) : ∀ q,O q → bx ≤ q ∧ q < W.heap.size:=by
 obtain ⟨lv,us,h1,_,_⟩ := h.ex
 intro q hq
 rcases (h1.o q).1 hq with rfl | e
 ·exact ⟨Nat.le_refl _,(Array.getElem?_eq_some_iff.1 h1.box).1⟩
 ·have:=h1.row.lt q e; omega
theorem Ways.below {bx : Nat} {O : Nat → Prop} {ws : List (List Int)} {W W' : World} (h : Ways bx O ws W) (hb : Below W.heap.size W W') : Ways bx O ws W':=by
 obtain ⟨lv,us,h1,h2,h3⟩ := h.ex
 refine ⟨lv,us,h1.stab fun k hk _ => hb.block k hk,h2,fun i hi => ?_⟩
 obtain ⟨u,e,hs⟩ := h3 i hi
 exact ⟨u,e,hs.below hb⟩
theorem sl_rel {O O' S : Nat → Prop} {w w' : World} {v : Value} {l : List Value} (h : Sl S w v l) (hr : Rel O w O' w') (hS : ∀ q,S q → ¬ O q) : Sl (fun q => S q ∧ ¬ O' q) w' v l :=
 (h.lt.rel hr fun k hk => hS k hk.1).mono fun k hk => ⟨hk.1,fun e => by rcases hr.own k e with h1 | h1; exact hS k hk.1 h1; omega⟩
theorem Ways.more {bx : Nat} {O : Nat → Prop} {ws : List (List Int)} {W Wa Wb : World} {lv lv' : Value} {us : List Value} (h1 : BoxRow bx 37 30 1 us.length us O lv W) (h2 : us.length = ws.length) (h3 : ∀ i (h : i < ws.length), ∃ u,us[i]? = some u ∧ Sl (fun q => ¬ O q) W u (ints ws[i]))
  {u : Value} {x : List Int} (hu : Sl (fun q => ¬ O q) W u (ints x)) (hb : Below W.heap.size W Wa) (ho : Wb.ownsRow (bx + 1) 30 1 lv' (us.length + 1) (us ++ [u])) (hg : Wa.grownBy Wb lv.ownBlock) (hat : lv'.ownBlock = lv.ownBlock ∨ lv'.ownBlock = some Wa.heap.size) :
  Ways bx (fun k => k = bx ∨ lv'.ownBlock = some k) (ws ++ [x]) (Wb.setCell ⟨bx,0,none⟩ lv') ∧ Rel O W (fun k => k = bx ∨ lv'.ownBlock = some k) (Wb.setCell ⟨bx,0,none⟩ lv') ∧ Wb.cell? ⟨bx,0,none⟩ = some lv ∧ Wb.frozen? ⟨bx,0,none⟩ = false:=by
 obtain ⟨m1,m2,m3,m4⟩ := h1.more (m:=1) (news:=[u]) hb ho hg hat
 refine ⟨⟨lv',us ++ [u],by rw [List.length_append]; exact m1,by simp [h2],fun i hi => ?_⟩,m2,m3,m4⟩
 rw [List.length_append,List.length_singleton] at hi
 by_cases e : i < ws.length
 ·obtain ⟨v,e1,hs⟩ := h3 i e
  refine ⟨v,by rw [List.getElem?_append_left (by omega)]; exact e1, ?_⟩
  rw [List.getElem_append_left e]
  exact (sl_rel hs m2 fun q hq => hq).mono fun q hq => hq.2
 ·have e' : i = ws.length:=by omega
  subst e'
  refine ⟨u,by rw [List.getElem?_append_right (by omega),← h2]; simp, ?_⟩
  rw [List.getElem_append_right (by omega)]
  simp only [Nat.sub_self,List.getElem_singleton]
  exact (sl_rel hu m2 fun q hq => hq).mono fun q hq => hq.2
theorem TabAt.relW {w w' : World} {t pb cap bx : Nat} {r : Rul} {g : Gam} {wv nv : Value} {O O' : Nat → Prop} (h : TabAt w t pb r g cap wv nv) (hg : g.win = []) (hn : Sl (fun q => q < bx) w nv (ints r.nums)) (hr : Rel O w O' w') (hto : ∀ q,TO t pb q → ¬ O q) (hO : ∀ q,O q → bx ≤ q) :
  TabAt w' t pb r g cap wv nv:=by
 refine ⟨(hr.block t (h.lt t (.inl rfl)) (hto t (.inl rfl))).trans h.box,h.pls.keep (hr.block pb (h.lt pb (.inr rfl)) (hto pb (.inr rfl))), ?_, ?_,h.ne,h.cap⟩
 ·obtain ⟨a,cp,e,h1,h2,_⟩ := h.win
  refine ⟨a,cp,e,h1,h2,fun i x hx => ?_⟩
  rw [hg] at hx; cases hx
 ·exact (sl_rel (sl_and h.num hn) hr fun q hq e => by have:=hO q e; omega).mono fun q hq => hq.1.1
theorem info_beds : (Tryz.prog.info? 30).map (fun i => (i.zero,i.size,i.bytes)) = some (some (.slice none 0 0),1,24):=by kernel_rfl
set_option maxRecDepth 100000 in
set_option maxHeartbeats 4000000 in
theorem yield_any {bx : Nat} {O : Nat → Prop} {ws : List (List Int)} (x : List Int) (u : Value) (w : World) (h : Ways bx O ws w) (hu : Sl (fun q => ¬ O q) w u (ints x)) (hl : ws.length + 1 ≤ 90000) :
  Calls Tryz.prog 22 #[u,.pointer (some ⟨bx,0,none⟩)] w fun e w' => e = .returned (.tuple #[]) ∧ ∃ O',Ways bx O' (ws ++ [x]) w' ∧ Rel O w O' w':=by
 obtain ⟨lv,us,h1,h2,h3⟩ := h.ex
 have c0 : w.cell? ⟨bx,0,none⟩ = some lv:=by rw [cell_of_heap h1.box]; rfl
 have hform:=owns_form h1.row
 obtain ⟨la,lc,rfl⟩ := hform
 have H1:=Lib.hid h1
 have H2:=Lib.hid h2
 have H3:=Lib.hid h3
 have HU:=Lib.hid hu
 obtain ⟨ua,uc,rfl,_,_⟩ := hu.form
 rw [ints_length] at *
 obtain ⟨m,hm⟩ : ∃ m,x.length = m:=⟨_,rfl⟩
 rw [hm] at HU ⊢
 obtain ⟨w1,hw1⟩ : ∃ w1,w.alloc (.cells #[.slice ua m uc] 30) = w1:=⟨_,rfl⟩
 have hb1 : Below w.heap.size w w1:=by rw [← hw1]; exact aB _ _
 have hc1 : w1.cell? ⟨w.heap.size,0,none⟩ = some (.slice ua m uc):=by rw [← hw1]; simp
 have HB1:=Lib.hid hb1
 have HW1:=Lib.hid hw1
 have HO1:=Lib.hid (ownsN_below h1.row hb1)
 have hbl : bx + 1 ≤ w1.heap.size:=by have:=(Array.getElem?_eq_some_iff.1 h1.box).1; have:=hb1.size; omega
 clear h h1 h2 h3 hu hb1 hw1 hm
 go_enter Tryz.func22,Tryz.ntmps22
 go_wp2_with (at_builtin; rw [HW1.out]; refine wpList_append1 rfl _ _ 37 rfl (bx + 1) 30 (.slice none 0 0) 24 Tryz.underlying37 info_beds rfl _ us.length _ rfl HO1.out w.heap.size 0 1 (.slice ua m uc) rfl hc1 rfl (by have:=H2.out; omega) (by decide) hbl ?_)
 intro g1 cp wB ho1 hg1 hat1
 obtain ⟨m1,m2,m3,m4⟩ := Ways.more H1.out H2.out H3.out HU.out HB1.out ho1 hg1 (hat1.imp (fun e => by rw [e]; rfl) (fun e => by rw [e]; rfl))
 have M1:=Lib.hid m1
 have M2:=Lib.hid m2
 clear m1 m2 ho1 hg1 hat1
 go_wp2
 go_returns
 exact ⟨rfl,_,M1.out,M2.out⟩
theorem winR_len (r : Rul) (beds : List Int) : ∀ (n : Nat) (g : Gam) (l : List Int),(winR r beds n g l).length ≤ beds.length ^ n
 | 0,g,l => by simp [winR]
 | n + 1,g,l => by
  rw [winR]
  have key : ∀ bs : List Int,(bs.flatMap fun b => if (thr r g b).win ≠ [] then (if n = 0 ∧ (g.player : Int) ∈ (thr r g b).win then [l ++ [b]] else []) else if 0 < n ∧ goOn g (thr r g b) = true then winR r beds n (thr r g b) (l ++ [b]) else []).length ≤ bs.length * beds.length ^ n:=by
   intro bs
   induction bs with
   | nil => simp
   | cons b bs ih =>
    rw [List.flatMap_cons,List.length_append,List.length_cons,Nat.succ_mul]
    have h1 : (if (thr r g b).win ≠ [] then (if n = 0 ∧ (g.player : Int) ∈ (thr r g b).win then [l ++ [b]] else []) else if 0 < n ∧ goOn g (thr r g b) = true then winR r beds n (thr r g b) (l ++ [b]) else []).length ≤ beds.length ^ n:=by
     split
     ·split
      ·rename_i h; rw [h.1]; simp
      ·simp
     ·split
      ·exact winR_len r beds n _ _
      ·simp
    omega
  rw [Nat.pow_succ,Nat.mul_comm]
  exact key beds
def winB (r : Rul) (beds : List Int) (n : Nat) (g : Gam) (l : List Int) (b : Int) : List (List Int) :=
 if (thr r g b).win ≠ [] then (if n = 0 ∧ (g.player : Int) ∈ (thr r g b).win then [l ++ [b]] else [])
 else if 0 < n ∧ goOn g (thr r g b) = true then winR r beds n (thr r g b) (l ++ [b]) else []
theorem winB_len (r : Rul) (beds : List Int) (n : Nat) (g : Gam) (l : List Int) (b : Int) : (winB r beds n g l b).length ≤ beds.length ^ n:=by
 unfold winB
 split
 ·split
  ·rename_i h; rw [h.1]; simp
  ·simp
 ·split
  ·exact winR_len r beds n _ _
  ·simp
theorem winB_take (r : Rul) (beds : List Int) (n : Nat) (g : Gam) (l : List Int) (k : Nat) : ((beds.take k).flatMap (winB r beds n g l)).length ≤ k * beds.length ^ n:=by
 have key : ∀ bs : List Int,(bs.flatMap (winB r beds n g l)).length ≤ bs.length * beds.length ^ n:=by
  intro bs
  induction bs with
  | nil => simp
  | cons b bs ih =>
   rw [List.flatMap_cons,List.length_append,List.length_cons,Nat.succ_mul]
   have:=winB_len r beds n g l b
   omega
 refine Nat.le_trans (key _) (Nat.mul_le_mul_right _ ?_)
 rw [List.length_take]; omega
theorem take_flat {r : Rul} {beds : List Int} {n : Nat} {g : Gam} {l : List Int} {k : Nat} {b : Int} (h : beds[k]? = some b) : (beds.take (k + 1)).flatMap (winB r beds n g l) = (beds.take k).flatMap (winB r beds n g l) ++ winB r beds n g l b:=by
 rw [List.take_add_one,h,List.flatMap_append]; simp
theorem isOver_w (t pb cap : Nat) (r : Rul) (g : Gam) (wv nv : Value) (w : World) (h : TabAt w t pb r g cap wv nv) (ov : Bool) (ho : Hid ((!g.win.isEmpty) = ov)) :
  Calls Tryz.prog 30 #[.pointer (some ⟨t,0,none⟩)] w fun e w' => e = .returned (.bool ov) ∧ w = w':=by
 rw [← ho.out]; exact isOver_any t pb cap r g wv nv w h
theorem contains_r {S : Nat → Prop} (xs : List Int) (n : Int) (v : Value) (w : World) (hs : Sl S w v (ints xs)) (ov : Bool) (ho : Hid (xs.contains n = ov)) :
  Calls Tryz.prog 39 #[v,.int .i64 n] w fun e w' => e = .returned (.bool ov) ∧ w = w':=by
 rw [← ho.out]; exact contains_any xs n v w hs
theorem contains_q {S : Nat → Prop} (xs : List Int) (n : Int) (v : Value) (w : World) (hs : Sl S w v (ints xs)) (ov : Bool) (ho : Hid (xs.contains n = ov)) (k : Nat) :
  Calls Tryz.prog 39 #[v,.int .i64 n] (w.drewN k) fun e w' => e = .returned (.bool ov) ∧ w' = w.drewN k :=
 (contains_r xs n v (w.drewN k) (hs.below (bDrew w k)) ov ho).mono fun _ _ ⟨a,b⟩ => ⟨a,b.symm⟩
set_option maxRecDepth 100000 in
set_option maxHeartbeats 16000000 in
theorem win_any (r : Rul) (nv : Value) (bx : Nat) (ba : Option Addr) (L bc : Nat) (beds : List Int) (hL : beds.length = L) (hL20 : L ≤ 20) (hob : ∀ b ∈ beds,okBed b = true) :
  ∀ (n : Nat) (mi : Int) (_ : mi = (n : Int) + 1) (_ : n ≤ 2) (t pb cap : Nat) (g : Gam) (wv : Value) (la : Option Addr) (ll lc : Nat) (list : List Int) (_ : list.length = ll) (_ : ll + n ≤ 10) (M : Int) (O : Nat → Prop) (ws : List (List Int)) (w : World)
  (_ : TabAt w t pb r g cap wv nv) (_ : g.win = []) (_ : Live r M g) (_ : M + 100 * n ≤ 800000) (_ : g.round + 2 * n < 100000) (_ : Sl (fun q => q < bx) w nv (ints r.nums)) (_ : ∀ q,TO t pb q → ¬ O q) (_ : Sl (fun q => ¬ O q) w (.slice la ll lc) (ints list)) (_ : la = none → ll = 0 ∧ lc = 0)
  (_ : Sl (fun q => ¬ O q) w (.slice ba L bc) (ints beds)) (_ : Ways bx O ws w) (_ : ws.length + L ^ (n + 1) ≤ 80000),
  Calls Tryz.prog 21 #[.pointer (some ⟨t,0,none⟩),.slice la ll lc,.slice ba L bc,.int .i64 mi,.func (.func 22) #[] #[.pointer (some ⟨bx,0,none⟩)]] w fun e w' =>
   e = .returned (.tuple #[]) ∧ ∃ O',Ways bx O' (ws ++ winR r beds (n + 1) g list) w' ∧ Rel O w O' w':=by
 intro n
 induction n using Nat.strongRecOn with
 | ind n ih =>
 intro mi hmi hn2 t pb cap g wv la ll lc list hll hll10 M O ws w ht hw hlv hM hrd hnv hto hls hla hbs hW hws
 obtain ⟨la',lcap,elc,hlc1,hlc2, -⟩ := id hls
 rw [ints_length,hll] at elc hlc1
 simp only [Value.slice.injEq,true_and] at elc
 obtain ⟨rfl,rfl⟩ := elc
 have IH:=Lib.hid ih
 have HMI:=Lib.hid (And.intro hmi hn2)
 have HT:=Lib.hid ht
 have HWN:=Lib.hid hw
 have HLV:=Lib.hid hlv
 have HM:=Lib.hid (And.intro hM hrd)
 have HNV:=Lib.hid hnv
 have HTO:=Lib.hid hto
 have HLS:=Lib.hid hls
 have HLL:=Lib.hid (And.intro hll hll10)
 have HLA:=Lib.hid (And.intro hla (And.intro hlc1 hlc2))
 have HBS:=Lib.hid hbs
 have HWY:=Lib.hid hW
 have HWS:=Lib.hid hws
 have HOB:=Lib.hid hob
 have HL:=Lib.hid hL
 have HGE:=Lib.hid hW.ge
 clear ih hmi hn2 ht hw hlv hM hrd hnv hto hls hll hll10 hla hbs hW hws hob hL hlc1 hlc2
 go_enter Tryz.func21,Tryz.ntmps21
 go_wp2_with fail
 go_loopw [11,12,13,14,15,18] (fun _ _ _ _ _ iv wr => ∃ (k : Nat) (Ok : Nat → Prop),k ≤ L ∧ iv = .int .i64 k ∧ Hid (Ways bx Ok (ws ++ (beds.take k).flatMap (winB r beds n g list)) wr) ∧ Hid (Rel O w Ok wr)) (fun _ _ _ _ _ iv _ => L - (intOf iv).toNat)
 case atStart => exact ⟨0,O,by omega,by go_num,Lib.hid (by simpa using HWY.out),Lib.hid (Rel.refl fun q hq => (HGE.out q hq).2)⟩
 case round =>
  obtain ⟨k,Ok,hk,rfl,HW,HR⟩ := hrel
  obtain ⟨wo,rfl⟩ : ∃ wo : World,wo = wr:=⟨_,rfl⟩
  by_cases hlt : k < L
  ·have hOk : ∀ q,Ok q → bx ≤ q:=fun q hq => (HW.out.ge q hq).1
   have hlo : ∀ q,q < w.heap.size → ¬ O q → ¬ Ok q:=fun q h1 h2 h3 => by rcases HR.out.own q h3 with h4 | h4; exact h2 h4; omega
   have HTo:=Lib.hid (HT.out.relW HWN.out HNV.out HR.out HTO.out fun q hq => (HGE.out q hq).1)
   have HTOo : Hid (∀ q,TO t pb q → ¬ Ok q):=Lib.hid fun q hq => hlo q (HT.out.lt q hq) (HTO.out q hq)
   have HLSo : Hid (Sl (fun q => ¬ Ok q) wo (.slice la ll lc) (ints list)):=Lib.hid ((sl_rel HLS.out HR.out fun q hq => hq).mono fun q hq => hq.2)
   have HBSo : Hid (Sl (fun q => ¬ Ok q) wo (.slice ba L bc) (ints beds)):=Lib.hid ((sl_rel HBS.out HR.out fun q hq => hq).mono fun q hq => hq.2)
   have HNVo : Hid (Sl (fun q => q < bx) wo nv (ints r.nums)):=Lib.hid ((sl_rel HNV.out HR.out fun q hq e => by have:=(HGE.out q e).1; omega).mono fun q hq => hq.1)
   have HSZ : Hid (t < wo.heap.size ∧ pb < wo.heap.size ∧ w.heap.size ≤ wo.heap.size):=Lib.hid ⟨HTo.out.lt t (.inl rfl),HTo.out.lt pb (.inr rfl),HR.out.size⟩
   have HOk:=Lib.hid hOk
   have hkx : k < beds.length:=by rw [HL.out]; exact hlt
   obtain ⟨bb,off,hal,_,hc⟩ := HBSo.out.cell hkx
   cases hal
   obtain ⟨b,hb⟩ : ∃ b,beds[k] = b:=⟨_,rfl⟩
   rw [hb] at hc
   have HBK : Hid (beds[k]? = some b):=Lib.hid (by rw [← hb]; exact List.getElem?_eq_getElem hkx)
   have HBB : Hid (okBed b = true):=Lib.hid (HOB.out b (by rw [← hb]; exact List.getElem_mem hkx))
   have HBM : Hid (b ∈ beds):=Lib.hid (by rw [← hb]; exact List.getElem_mem hkx)
   clear hOk hlo hb hkx
   go_wp2_with fail
   refine (clone_any t pb cap r g wv nv M wo HTo.out HLV.out.toInv HWN.out).mono ?_
   rintro e w1 ⟨t2,pb2,cap2,rfl,hb1,ht1,q1,q2⟩
   have HT1:=Lib.hid ht1
   have HB1:=Lib.hid hb1
   have HQ1 : Hid (wo.heap.size ≤ t2 ∧ wo.heap.size ≤ pb2):=Lib.hid ⟨q1,q2⟩
   clear hb1 ht1 q1 q2 hc
   go_wp2_with fail
   refine (clip_any la ll lc HLA.out.2.1 HLA.out.2.2 HLA.out.1 w1).mono ?_
   rintro e w1' ⟨rfl,rfl⟩
   obtain ⟨w2,hw2⟩ : ∃ w2,w1.alloc (.cells #[.int .i64 b] 45) = w2:=⟨_,rfl⟩
   have hb2 : Below w1.heap.size w1 w2:=by rw [← hw2]; exact aB _ _
   have hc2 : w2.cell? ⟨w1.heap.size,0,none⟩ = some (.int .i64 b):=by rw [← hw2]; simp
   have HB2:=Lib.hid (HB1.out.trans (hb2.mono HB1.out.size))
   have HT2:=Lib.hid (HT1.out.below hb2)
   have HW2:=Lib.hid hw2
   have HLS2:=Lib.hid (HLSo.out.below HB2.out)
   have HLT2 : Hid (t2 < w2.heap.size ∧ pb2 < w2.heap.size):=Lib.hid ⟨HT2.out.lt t2 (.inl rfl),HT2.out.lt pb2 (.inr rfl)⟩
   clear hb2 hw2 HT1 HB1
   go_wp2_with (at_builtin; rw [HW2.out]; refine wpList_appendNew rfl _ _ 30 rfl 45 (.int .i64 0) 8 Tryz.underlying30 info_bed rfl la ll (ints list) rfl (fun h => (HLA.out.1 h).1) (Sl.cut HLS2.out) w1.heap.size 0 1 (.int .i64 b) rfl hc2 rfl (by have:=HLL.out.2; omega) (by decide) ?_)
   intro gn cn w3 ho3 hg3
   have hb3 : Below wo.heap.size wo w3:=HB2.out.trans (below_grownBy hg3 HB2.out.size (fun q hq => by cases hq))
   have HB3:=Lib.hid hb3
   have HT3:=Lib.hid (HT2.out.below (below_grownBy hg3 (Nat.le_refl _) (fun q hq => by cases hq)))
   have HN3 : Hid (w3.ownsRow w2.heap.size 45 1 (.slice (some ⟨gn,0,none⟩) (ll + 1) cn) (ll + 1) (ints (list ++ [b]))):=Lib.hid (by rw [ints_append]; exact ho3)
   clear ho3 hg3 hb3 hc2 HT2
   obtain ⟨hf,hhf⟩ : ∃ f,b.tdiv 100 = f:=⟨_,rfl⟩
   obtain ⟨hn,hhn⟩ : ∃ f,b.tmod 100 = f:=⟨_,rfl⟩
   have hnew:=newHit_r b true HBB (by have:=okBed_bd HBB.out; omega) w3
   rw [hhf,hhn] at hnew
   have HNEW:=Lib.hid hnew
   have HHF:=Lib.hid (And.intro hhf hhn)
   have HH : Hid (okHit hf hn):=Lib.hid (by rw [← hhf,← hhn]; exact okBed_hit HBB.out)
   clear hnew hhf hhn
   go_wp2_with fail
   refine HNEW.out.mono ?_
   rintro e w4 ⟨rfl,hb4⟩
   obtain ⟨w5,hw5⟩ : ∃ w5,w4.alloc (.cells #[.int .i64 hf,.int .i64 hn] 61) = w5:=⟨_,rfl⟩
   obtain ⟨q5,hq5⟩ : ∃ q5,w4.heap.size = q5:=⟨_,rfl⟩
   have hb5 : Below w3.heap.size w3 w5:=by rw [← hw5]; exact bThen hb4 (aB _ _)
   have k5 : w5.heap[q5]? = some (.cells #[.int .i64 hf,.int .i64 hn] 61 (0,0)):=by rw [← hw5,← hq5]; exact World.alloc_heap_new _ _
   have c0 : w5.cell? ⟨q5,0,none⟩ = some (.int .i64 hf):=by rw [cell_of_heap k5]; rfl
   have c1 : w5.cell? ⟨q5,1,none⟩ = some (.int .i64 hn):=by rw [cell_of_heap k5]; rfl
   have HB5:=Lib.hid (bThen HB3.out hb5)
   have HT5:=Lib.hid (HT3.out.below hb5)
   have HN5:=Lib.hid (ownsN_below HN3.out hb5)
   have HQ5 : Hid (w2.heap.size ≤ w5.heap.size ∧ wo.heap.size ≤ w2.heap.size):=Lib.hid ⟨by have:=hb5.size; have:=(HN3.out.lt gn rfl); omega,HB2.out.size⟩
   have HW5:=Lib.hid hw5
   have HQq:=Lib.hid hq5
   clear hb4 hw5 hq5 hb5 k5 HB3 HT3 HN3
   go_wp2_with fail
   rw [HW5.out,HQq.out]
   go_wp2_with fail
   refine (throw_any t2 pb2 cap2 r g wv nv hf hn M w5 HT5.out HLV.out (by have:=HM.out; omega) HH.out (by have:=HM.out; omega)).mono ?_
   rintro e w6 ⟨⟨v6,rfl⟩,hr6,wv6,ht6⟩
   obtain ⟨gc,hgc⟩ : ∃ gc,thr r g b = gc:=⟨_,rfl⟩
   have hgc' : throwG r g hf hn = gc:=by rw [← hgc,← HHF.out.1,← HHF.out.2]; rfl
   have hth:=throw_thrown HLV.out HH.out
   have hrd6:=throw_round HLV.out HH.out
   rw [hgc'] at ht6 hth hrd6
   have HTH:=Lib.hid hth
   have HRD6:=Lib.hid hrd6
   have hb6 : Below wo.heap.size wo w6:=HB5.out.trans (hr6.below HB5.out.size (fun q hq e => by have:=HQ1.out; rcases e with e | e <;> omega))
   have HT6:=Lib.hid ht6
   have HB6:=Lib.hid hb6
   have HGC:=Lib.hid hgc
   have HN6 : Hid (Sl (fun q => wo.heap.size ≤ q) w6 (.slice (some ⟨gn,0,none⟩) (ll + 1) cn) (ints (list ++ [b]))):=Lib.hid ((Sl.of_owns (ownsN_kept HN5.out fun q hq => hr6.block q (HN5.out.lt q hq).2 (fun e => by
    have h1:=(HN5.out.lt q hq).1; have h2:=HLT2.out; rcases e with e | e <;> omega))).mono fun q hq => by have:=HB2.out.size; omega)
   obtain ⟨ov,hov⟩ : ∃ ov,(!gc.win.isEmpty) = ov:=⟨_,rfl⟩
   have HOV:=Lib.hid hov
   clear hr6 hb6 ht6 hgc hgc' hth hrd6 hov c0 c1
   go_wp2_with fail
   refine (isOver_w t2 pb2 cap2 r gc wv6 nv w6 HT6.out ov HOV).mono ?_
   rintro e w6' ⟨rfl,rfl⟩
   have p1 : w6.cell? ⟨t2,1,none⟩ = some (.int .i64 gc.player):=HT6.out.at_ rfl
   have p2 : w6.cell? ⟨t2,2,none⟩ = some (.int .i64 gc.darts):=HT6.out.at_ rfl
   have p4 : w6.cell? ⟨t2,4,none⟩ = some wv6:=HT6.out.at_ rfl
   have o1 : w6.cell? ⟨t,1,none⟩ = some (.int .i64 g.player):=(HTo.out.below HB6.out).at_ rfl
   have o2 : w6.cell? ⟨t,2,none⟩ = some (.int .i64 g.darts):=(HTo.out.below HB6.out).at_ rfl
   have HTK:=Lib.hid (take_flat (r:=r) (n:=n) (g:=g) (l:=list) HBK.out)
   cases ov
   ·have hgw : gc.win = []:=by have:=HOV.out; simpa using this
    by_cases hn0 : n = 0
    ·subst hn0
     obtain rfl : mi = 1:=by have:=HMI.out.1; omega
     have HE : Hid (winB r beds 0 g list b = []):=Lib.hid (by unfold winB; rw [HGC.out,if_neg (by simp [hgw]),if_neg (by omega)])
     clear hgw
     go_upto_region 9 with fail
     go_quiet (fail)
     generalize hwd : World.drewN _ _ = wd
     have hbd : Below w6.heap.size w6 wd:=by rw [← hwd]; exact bDrew _ _
     clear hwd p1 p2 p4 o1 o2
     have HF:=Lib.hid (HB6.out.trans (hbd.mono HB6.out.size))
     clear hbd
     go_wp2
     go_roundw
     case rel => exact ⟨k + 1,Ok,by omega,by go_num,Lib.hid (by rw [HTK.out,HE.out,List.append_nil]; exact HW.out.below HF.out),Lib.hid (HR.out.ext HF.out)⟩
     case measure => simp [intOf]; omega
    ·have e1 : decide ((1 : Int) < mi) = true:=decide_eq_true (by have:=HMI.out.1; omega)
     obtain ⟨bp,hbp⟩ : ∃ bp,decide (gc.player = g.player) = bp:=⟨_,rfl⟩
     have hbp' : ((gc.player : Int) == (g.player : Int)) = bp:=by rw [← hbp,Bool.eq_iff_iff,beq_iff_eq,decide_eq_true_eq]; omega
     cases bp
     ·have HE : Hid (winB r beds n g list b = []):=Lib.hid (by unfold winB; rw [HGC.out,if_neg (by simp [hgw]),if_neg (by unfold goOn; rw [hbp]; simp)])
      clear hgw
      go_upto_region 9 with fail
      go_quiet (fail)
      generalize hwd : World.drewN _ _ = wd
      have hbd : Below w6.heap.size w6 wd:=by rw [← hwd]; exact bDrew _ _
      clear hwd p1 p2 p4 o1 o2 hbp hbp'
      have HF:=Lib.hid (HB6.out.trans (hbd.mono HB6.out.size))
      clear hbd
      go_wp2
      go_roundw
      case rel => exact ⟨k + 1,Ok,by omega,by go_num,Lib.hid (by rw [HTK.out,HE.out,List.append_nil]; exact HW.out.below HF.out),Lib.hid (HR.out.ext HF.out)⟩
      case measure => simp [intOf]; omega
     ·obtain ⟨bd,hbd0⟩ : ∃ bd,decide (gc.darts = g.darts + 1) = bd:=⟨_,rfl⟩
      have hdw : IntKind.i64.wrap ((g.darts : Int) + 1) = (g.darts : Int) + 1:=by have:=HLV.out.darts; rw [wrap_small _ (by omega) (by omega)]
      have hbd1 : ((gc.darts : Int) == (g.darts : Int) + 1) = bd:=by rw [← hbd0,Bool.eq_iff_iff,beq_iff_eq,decide_eq_true_eq]; omega
      cases bd
      ·have HE : Hid (winB r beds n g list b = []):=Lib.hid (by unfold winB; rw [HGC.out,if_neg (by simp [hgw]),if_neg (by unfold goOn; rw [hbd0]; simp)])
       clear hgw
       go_upto_region 9 with fail
       go_quiet (fail)
       generalize hwd : World.drewN _ _ = wd
       have hbd : Below w6.heap.size w6 wd:=by rw [← hwd]; exact bDrew _ _
       clear hwd p1 p2 p4 o1 o2 hbp hbp' hbd0 hbd1 hdw
       have HF:=Lib.hid (HB6.out.trans (hbd.mono HB6.out.size))
       clear hbd
       go_wp2
       go_roundw
       case rel => exact ⟨k + 1,Ok,by omega,by go_num,Lib.hid (by rw [HTK.out,HE.out,List.append_nil]; exact HW.out.below HF.out),Lib.hid (HR.out.ext HF.out)⟩
       case measure => simp [intOf]; omega
      ·obtain ⟨m,rfl⟩ : ∃ m,n = m + 1:=⟨n - 1,by omega⟩
       have HE : Hid (winB r beds (m + 1) g list b = winR r beds (m + 1) gc (list ++ [b])):=Lib.hid (by unfold winB; rw [HGC.out,if_neg (by simp [hgw]),if_pos ⟨by omega,by unfold goOn; rw [hbp,hbd0]; rfl⟩])
       have HGW:=Lib.hid hgw
       have hmw : IntKind.i64.wrap (mi - 1) = mi - 1:=by have:=HMI.out; rw [wrap_small _ (by omega) (by omega)]
       clear hgw
       go_upto_region 9 with fail
       go_quiet (fail)
       generalize hwd : World.drewN _ _ = wd
       have hbd : Below w6.heap.size w6 wd:=by rw [← hwd]; exact bDrew _ _
       have HNd:=Lib.hid (HN6.out.below hbd)
       have HTd:=Lib.hid (HT6.out.below hbd)
       have HF:=Lib.hid (HB6.out.trans (hbd.mono HB6.out.size))
       clear hbd hwd p1 p2 p4 o1 o2 hbp hbp' hbd0 hbd1 hdw HN6 HT6
       go_wp2_with fail
       refine (IH.out m (by omega) (mi - 1) (by have:=HMI.out.1; omega) (by have:=HMI.out.2; omega) t2 pb2 cap2 gc wv6 (some ⟨gn,0,none⟩) (ll + 1) cn (list ++ [b]) (by rw [List.length_append,HLL.out.1]; rfl) (by have:=HLL.out.2; omega) (M + 100) Ok _ wd HTd.out HGW.out (HTH.out.live HGW.out) (by have:=HM.out; omega) (by have:=HM.out; have:=HRD6.out; omega) (HNVo.out.below HF.out) (fun q hq e => by have h1:=(HW.out.ge q e).2; have:=HQ1.out; rcases hq with e' | e' <;> omega) (HNd.out.mono fun q hq e => by have h1:=(HW.out.ge q e).2; omega) (fun e => by cases e) (HBSo.out.below HF.out) (HW.out.below HF.out) ?_).mono ?_
       ·have h1:=HWS.out
        have h2:=winB_take r beds (m + 1) g list k
        rw [HL.out] at h2
        have h3 : (k + 1) * L ^ (m + 1) ≤ L * L ^ (m + 1):=Nat.mul_le_mul_right _ (by omega)
        rw [Nat.pow_succ,Nat.mul_comm] at h1
        rw [Nat.succ_mul] at h3
        rw [List.length_append]
        omega
       ·rintro e w7 ⟨rfl,O7,hW7,hR7⟩
        have HW7:=Lib.hid hW7
        have HR7:=Lib.hid hR7
        clear hW7 hR7
        go_wp2
        go_roundw
        case rel => exact ⟨k + 1,O7,by omega,by go_num,Lib.hid (by rw [HTK.out,HE.out,← List.append_assoc]; exact HW7.out),Lib.hid ((HR.out.ext HF.out).trans HR7.out)⟩
        case measure => simp [intOf]; omega
   ·have hgw : gc.win ≠ []:=by have:=HOV.out; intro q; rw [q] at this; cases this
    by_cases hn0 : n = 0
    ·subst hn0
     obtain rfl : mi = 1:=by have:=HMI.out.1; omega
     obtain ⟨fb,hfb⟩ : ∃ fb,gc.win.contains (g.player : Int) = fb:=⟨_,rfl⟩
     have HFB:=Lib.hid hfb
     have HE : Hid (winB r beds 0 g list b = if fb = true then [list ++ [b]] else []):=Lib.hid (by
      unfold winB; rw [HGC.out,if_pos hgw,← hfb]; simp)
     clear hgw hfb
     go_upto_region 7 with fail
     go_quiet ((go_at_call 39; exact Calls.quiet_of_same (contains_q _ _ _ _ HT6.out.win fb HFB _)))
     generalize hwd : World.drewN _ _ = wd
     have hbd : Below w6.heap.size w6 wd:=by rw [← hwd]; exact bDrew _ _
     have HNd:=Lib.hid (HN6.out.below hbd)
     have HF:=Lib.hid (HB6.out.trans (hbd.mono HB6.out.size))
     clear hwd p1 p2 p4 o1 o2 hbd
     cases fb
     ·go_wp2
      go_roundw
      case rel => exact ⟨k + 1,Ok,by omega,by go_num,Lib.hid (by rw [HTK.out,HE.out,if_neg (by decide),List.append_nil]; exact HW.out.below HF.out),Lib.hid (HR.out.ext HF.out)⟩
      case measure => simp [intOf]; omega
     ·go_wp2_with fail
      refine (yield_any (list ++ [b]) _ wd (HW.out.below HF.out) (HNd.out.mono fun q hq e => by have h1:=(HW.out.ge q e).2; omega) ?_).mono ?_
      ·have h1:=HWS.out
       have h2:=winB_take r beds 0 g list k
       rw [Nat.pow_zero] at h2
       rw [Nat.zero_add,Nat.pow_one] at h1
       rw [List.length_append]
       omega
      ·rintro e w7 ⟨rfl,O7,hW7,hR7⟩
       have HW7:=Lib.hid hW7
       have HR7:=Lib.hid hR7
       clear hW7 hR7
       go_wp2
       go_roundw
       case rel => exact ⟨k + 1,O7,by omega,by go_num,Lib.hid (by rw [HTK.out,HE.out,if_pos trivial,← List.append_assoc]; exact HW7.out),Lib.hid ((HR.out.ext HF.out).trans HR7.out)⟩
       case measure => simp [intOf]; omega
    ·have e1 : (mi == 1) = false:=by rw [beq_eq_false_iff_ne]; have:=HMI.out.1; omega
     have HE : Hid (winB r beds n g list b = []):=Lib.hid (by unfold winB; rw [HGC.out,if_pos hgw,if_neg (by omega)])
     clear hgw
     go_upto_region 7 with fail
     go_quiet (fail)
     generalize hwd : World.drewN _ _ = wd
     have hbd : Below w6.heap.size w6 wd:=by rw [← hwd]; exact bDrew _ _
     clear hwd p1 p2 p4 o1 o2
     have HF:=Lib.hid (HB6.out.trans (hbd.mono HB6.out.size))
     clear hbd
     go_wp2
     go_roundw
     case rel => exact ⟨k + 1,Ok,by omega,by go_num,Lib.hid (by rw [HTK.out,HE.out,List.append_nil]; exact HW.out.below HF.out),Lib.hid (HR.out.ext HF.out)⟩
     case measure => simp [intOf]; omega
  ·obtain rfl : k = L:=by omega
   have HF : Hid (Ways bx Ok (ws ++ winR r beds (n + 1) g list) wo):=Lib.hid (by
    have:=HW.out
    rw [List.take_of_length_le (Nat.le_of_eq HL.out)] at this; exact this)
   clear HL
   go_wp2
   go_returns
   exact ⟨rfl,_,HF.out,HR.out⟩
end Go.Proofs.YtnhggfnnolfcdaaGreat

/- Chapter 4: beds in ascending order (slices.Sorted of slices.Values). -/
namespace Go.Proofs.YtnhggfnnolfcdaaGreat
open Go.RowKit Go.Oche Go.Proofs
attribute [local go_sem] Oper.semAt_some

def encI : Int → Array Value → (Nat → Prop) → World → Prop:=fun c args _ _ => args = #[.int .i64 c]
set_option maxRecDepth 100000 in
set_option maxHeartbeats 1000000 in
theorem valuesI_in {S : Nat → Prop} (cs : List Int) (pb : Nat) (v : Value) (w : World) (Rs : Nat → Prop)
  (cb : w.cell? ⟨pb,0,none⟩ = some v) (hsl : Sl S w v (ints cs)) (r1 : Rs pb) (r2 : ∀ k,S k → k < w.heap.size → Rs k) :
  IterIn 3 Tryz.prog 33 #[] #[.pointer (some ⟨pb,0,none⟩)] encI cs Rs w:=by
 intro l J Jx O W hBW hO hRs hJ hJx hY h0
 have hsl':=(hsl.lt.mono (S':=Rs) fun k hk => r2 k hk.1 hk.2).below hBW
 obtain ⟨a,cap,rfl,h2,h3⟩ := hsl'.form
 simp only [ints_length] at *
 unfold maxLen at h3
 have cb':=bAt hBW cb
 clear cb hsl
 have HS:=Lib.hid hsl'
 have HY:=Lib.hid hY
 have HRS : Hid (∀ k,Rs k → ¬ O k):=Lib.hid (fun k hk => (hRs k hk).2)
 have n1:=(hRs pb r1).2
 clear hsl' hY hRs
 refine callsIn_of_wp Tryz.func33 rfl trivial ?_ rfl
 simp only [Tryz.ntmps33,List.size_toArray,List.length_cons,List.length_nil,Nat.reduceAdd,Nat.reduceSub,Array.replicate_succ,Array.replicate_zero,List.push_toArray,List.append_toArray,List.nil_append,List.cons_append]
 gi_wp2
 gi_loopw [7] (fun i wr => ∃ (k : Nat) (O₁ : Nat → Prop),k ≤ cs.length ∧ i = .int .i64 k ∧ Rel O W O₁ wr ∧ J (cs.take k) O₁ wr) (fun i _ => cs.length - (intOf i).toNat)
 case atStart => exact ⟨0,O,Nat.zero_le _,rfl,Rel.refl hO,by simpa using h0⟩
 case round =>
  obtain ⟨k,O₁,hk,rfl,hr,hj⟩ := hrel
  have HJ:=Lib.hid hj
  clear hj cb'
  by_cases hlt : k < cs.length
  ·obtain ⟨b,off,hal,_,hc⟩ := (Sl.rel HS.out hr HRS.out).cell hlt
   cases hal
   obtain ⟨x,hx⟩ : ∃ x,cs[k] = x:=⟨_,rfl⟩
   rw [hx] at hc
   have hsplit : cs = cs.take k ++ x :: cs.drop (k + 1):=by rw [← hx,← List.drop_eq_getElem_cons hlt,List.take_append_drop]
   have htk : cs.take k ++ [x] = cs.take (k + 1):=by rw [List.take_succ_eq_append_getElem hlt,hx]
   have HTK:=Lib.hid htk
   obtain ⟨fn,tmps,assign,body,hy,hR⟩ := HY.out (cs.take k) x (cs.drop (k + 1)) #[.int .i64 x] O₁ wr hsplit hr HJ.out rfl
   have HRo:=Lib.hid hR
   clear hR hsplit hx htk HJ
   gi_wp2_with fail
   refine ⟨rfl,RoundIn.mono HRo.out ?_⟩
   rintro e W3 ⟨O',hr3,(⟨rfl,hj3⟩ | ⟨rfl,hj3⟩)⟩
   ·have HJ3:=Lib.hid (show J (cs.take (k + 1)) O' W3 by rw [← HTK.out]; exact hj3)
    have hr4:=hr.trans hr3
    clear hj3 hc
    gi_wp2
    go_roundw
    case rel => exact ⟨k + 1,O',by omega,by go_num,hr4,HJ3.out⟩
    case measure => simp [intOf]; omega
   ·have HJ3:=Lib.hid (show Jx (cs.take (k + 1)) O' W3 by rw [← HTK.out]; exact hj3)
    have hr4:=hr.trans hr3
    clear hj3 hc
    gi_wp2
    refine bodyPost_ret (results_none rfl _ _ _) rfl ?_
    exact ⟨⟨_,rfl⟩,O',hr4,.inr ⟨_,List.take_prefix _ _,HJ3.out⟩⟩
  ·obtain rfl : k = cs.length:=by omega
   gi_wp2
   go_end0
   exact ⟨⟨_,rfl⟩,O₁,hr,.inl (by simpa using HJ.out)⟩
def BI (bx : Nat) (pre : List Int) (O : Nat → Prop) (W : World) : Prop := ∃ lv,BoxRow bx 30 45 1 pre.length (ints pre) O lv W
set_option maxRecDepth 100000 in
set_option maxHeartbeats 4000000 in
theorem appendBeds_any {S : Nat → Prop} (cs : List Int) (pb : Nat) (v : Value) (w : World) (cb : w.cell? ⟨pb,0,none⟩ = some v) (hsl : Sl S w v (ints cs)) (hl : cs.length ≤ 1000) :
  Calls Tryz.prog 46 #[.slice none 0 0,.func (.func 33) #[] #[.pointer (some ⟨pb,0,none⟩)]] w fun e w' =>
   ∃ v',e = .returned v' ∧ Below w.heap.size w w' ∧ w'.ownsRow w.heap.size 45 1 v' cs.length (ints cs):=by
 obtain ⟨w0,hw0⟩ : ∃ w0,w.alloc (.cells #[.slice none 0 0] 30) = w0:=⟨_,rfl⟩
 have hb0 : Below w.heap.size w w0:=by rw [← hw0]; exact aB _ _
 have hz0 : w0.heap.size = w.heap.size + 1:=by rw [← hw0]; simp
 have hbx : w0.heap[w.heap.size]? = some (.cells #[.slice none 0 0] 30 (0,0)):=by rw [← hw0]; exact World.alloc_heap_new _ _
 have HBX:=Lib.hid hbx
 have HPB:=Lib.hid (World.block_lt_of_cell? w _ cb)
 have HCB:=Lib.hid (bAt hb0 cb)
 have HSL:=Lib.hid (hsl.lt.below hb0)
 have HW:=Lib.hid hw0
 have HZ:=Lib.hid hz0
 clear hw0 hbx cb hsl hz0
 refine (callsIn_wide (n:=0)).1 (callsIn_of_wp_marks Tryz.func46 rfl trivial ?_ rfl)
 simp only [Tryz.ntmps46,List.size_toArray,List.length_cons,List.length_nil,Nat.reduceAdd,Nat.reduceSub,Array.replicate_succ,Array.replicate_zero,List.push_toArray,List.append_toArray,List.nil_append,List.cons_append]
 gi_wp2_with fail
 rw [HW.out]
 obtain ⟨N,hN⟩ : ∃ N,w.heap.size = N:=⟨_,rfl⟩
 rw [hN] at HBX HSL HPB HZ hb0 ⊢
 have HN:=Lib.hid hN
 clear hN
 refine wpIn_range (t:=3) (gf:=33) (fa:=#[]) (lb:=#[.pointer (some ⟨pb,0,none⟩)]) rfl (enters_of Tryz.func33 (by kernel_rfl) rfl)
  (valuesI_in cs pb v w0 (fun j => j < N) HCB.out HSL.out HPB.out (fun k hk _ => hk.2))
  (BI N) (fun _ _ _ _ => False) (fun pre O A B h _ _ _ _ hk => by obtain ⟨lv,h⟩ := h; exact ⟨lv,h.stab fun k h1 h2 => hk k h1 (.inl h2)⟩) (fun _ _ _ _ _ h => h.elim)
  (fun j => j = N) (fun j hj => by have:=HZ.out; omega) (fun j hj => by have:=HZ.out; omega) ⟨.slice none 0 0,⟨fun k => by simp [Value.ownBlock],HBX.out,World.ownsRow_nil _ _ _ _⟩⟩
  (fun b args O W' h => by subst h; rfl) ?round ?done ?stop
 case round =>
  rintro l pre x post args O₁ W₁ hL hl1 hl2 hnl hnl' hrel hI henc
  subst henc
  clear hI
  have hpre : pre.length ≤ 1000:=by have:=congrArg List.length hL; simp at this; omega
  clear hL
  gi_wp2_with fail
  refine ⟨Below.refl _ _, ?_⟩
  rintro W₃ hon ⟨lv,hB⟩
  obtain ⟨la,lc,rfl⟩ : ∃ a c,lv = .slice a pre.length c:=owns_form hB.row
  have xb : W₃.cell? ⟨N,0,none⟩ = some (.slice la pre.length lc):=by rw [cell_of_heap hB.box]; rfl
  have hNW : N + 1 ≤ W₃.heap.size:=(Array.getElem?_eq_some_iff.1 hB.box).1
  have hn9 : (W₃.alloc (.cells #[.int .i64 x] 45)).cell? ⟨W₃.heap.size,0,none⟩ = some (.int .i64 x):=by simp
  have HB:=Lib.hid hB
  have HN9:=Lib.hid hn9
  clear hB hon hn9
  gi_wp2_with (refine wpListIn_append1 (open_round l) rfl (.tmp 8) (.tmp 10) 30 rfl (N + 1) 45 (.int .i64 0) 8 Tryz.underlying30 info_bed rfl _ pre.length _ rfl (HB.out.row.alloc _) W₃.heap.size 0 1 (.int .i64 x) rfl HN9.out rfl (by omega) (by decide) (by simp; omega) ?_)
  intro g' c' W4 ho hg hat
  obtain ⟨m1,m2,y4,f4⟩ := HB.out.more (m:=1) (news:=[.int .i64 x]) (aB W₃ _) ho hg (by rcases hat with e | e; exact .inl e.symm; exact .inr (by rw [e]; simp [Value.ownBlock]))
  have M1:=Lib.hid m1
  have M2:=Lib.hid m2
  clear m1 m2 ho hg hat xb
  gi_wp2_with fail
  exact ⟨_,M2.out,_,by rw [List.length_append,ints_append]; exact M1.out⟩
 case done =>
  intro D O₁ W' hD hnD hrel hI hDD
  obtain ⟨lv,hB⟩ := hI
  obtain ⟨la,lc,rfl⟩ : ∃ a c,lv = .slice a cs.length c:=owns_form hB.row
  have xb : W'.cell? ⟨N,0,none⟩ = some (.slice la cs.length lc):=by rw [cell_of_heap hB.box]; rfl
  have hB' : Below N w W':=hb0.trans (hrel.below (by have:=HZ.out; omega) (fun j hj e => by omega))
  have HR:=Lib.hid hB.row
  have HB':=Lib.hid hB'
  have HDD:=Lib.hid hDD
  have HDN:=Lib.hid hnD
  have HOO : Hid ((Value.slice la cs.length lc).ownBlock = some D → O₁ D):=Lib.hid (fun h => (hB.o D).2 (.inr h))
  clear hB hB' hDD hrel hnD
  gi_wp2_with fail
  have hmk : Marks 0 W' [D]:=(Marks.nil _ _).cons HDD.out (Nat.zero_le _) (by simp)
  refine leave_marks [D] _ hmk fun W'' hp => ?_
  refine ⟨.slice la cs.length lc,by simp [results,go_sem],_,rfl, ?_, ?_⟩
  ·rw [HN.out]; exact HB'.out.trans (hp.below fun E hE => by simp at hE; have:=HZ.out; omega)
  ·rw [HN.out]
   exact ownsN_base (ownsN_kept HR.out fun g hg => hp.block g fun h => by simp at h; subst h; exact HDN.out (HOO.out hg)) (by omega)
 case stop => intro D c pre O₁ W' _ _ _ _ h; exact h.elim
end Go.Proofs.YtnhggfnnolfcdaaGreat

/- Chapter 4: insertion sort of beds (slices.insertionSortOrdered), slices.Sort of at most 12. -/
namespace Go.Proofs.YtnhggfnnolfcdaaGreat
open Go.RowKit Go.Oche Go.Proofs

structure SegB (xs : List Int) (i : Nat) (ys : List Int) : Prop where
 perm : ys.Perm xs
 asc : ∀ p q,p < q → q < i → at0 ys p ≤ at0 ys q
structure SlideB (xs : List Int) (i j : Nat) (zs : List Int) : Prop where
 perm : zs.Perm xs
 le : j ≤ i
 asc : ∀ p q,p < q → q ≤ i → p ≠ j → q ≠ j → at0 zs p ≤ at0 zs q
 low : ∀ q,j < q → q ≤ i → at0 zs j ≤ at0 zs q
theorem SegB.start (xs : List Int) : SegB xs 1 xs:=⟨List.Perm.refl _,fun p q h1 h2 => by omega⟩
theorem SegB.slide {xs : List Int} {i : Nat} {ys : List Int} (h : SegB xs i ys) : SlideB xs i i ys :=
 ⟨h.perm,Nat.le_refl _,fun p q h1 h2 _ h4 => h.asc p q h1 (by omega),fun q h1 h2 => by omega⟩
theorem SlideB.next {xs : List Int} {i j : Nat} {zs : List Int} (h : SlideB xs i j zs) (hj : j = 0 ∨ at0 zs (j - 1) ≤ at0 zs j) : SegB xs (i + 1) zs:=by
 refine ⟨h.perm,fun p q h1 h2 => ?_⟩
 by_cases e : p = j
 ·subst e; exact h.low q h1 (by omega)
 by_cases e2 : q = j
 ·subst e2
  rcases hj with e3 | e3
  ·omega
  by_cases e4 : p = q - 1
  ·subst e4; exact e3
  ·exact Int.le_trans (h.asc p (q - 1) (by omega) (by omega) e (by omega)) e3
 ·exact h.asc p q h1 (by omega) e e2
theorem swap_perm {l : List Int} {i j : Nat} (hi : i < l.length) (hj : j < l.length) : ((l.set j (at0 l i)).set i (at0 l j)).Perm l:=by
 rw [at0_eq hi,at0_eq hj]
 exact List.set_set_perm hj hi
theorem SlideB.step {xs : List Int} {i j : Nat} {zs : List Int} (h : SlideB xs i j zs) (hj : 0 < j) (hi : i < zs.length) (hlt : at0 zs j < at0 zs (j - 1)) : SlideB xs i (j - 1) ((zs.set j (at0 zs (j - 1))).set (j - 1) (at0 zs j)):=by
 have hle:=h.le
 have key : ∀ p,at0 ((zs.set j (at0 zs (j - 1))).set (j - 1) (at0 zs j)) p = if p = j - 1 then at0 zs j else if p = j then at0 zs (j - 1) else at0 zs p:=fun p => by
  rw [at0_set (by simp; omega),at0_set (by omega)]
 refine ⟨(swap_perm (by omega) (by omega)).trans h.perm,by omega,fun p q h1 h2 h3 h4 => ?_,fun q h1 h2 => ?_⟩
 ·rw [key,key,if_neg h3,if_neg h4]
  by_cases e : p = j
  ·rw [if_pos e,if_neg (by omega)]; exact h.asc (j - 1) q (by omega) h2 (by omega) (by omega)
  ·rw [if_neg e]
   by_cases e2 : q = j
   ·rw [if_pos e2]; exact h.asc p (j - 1) (by omega) (by omega) (by omega) (by omega)
   ·rw [if_neg e2]; exact h.asc p q h1 h2 e e2
 ·rw [key,key,if_pos rfl,if_neg (by omega)]
  by_cases e : q = j
  ·rw [if_pos e]; omega
  ·rw [if_neg e]; exact h.low q (by omega) h2
theorem isNaNB_any (a : Int) (w : World) : Calls Tryz.prog 78 #[.int .i64 a] w fun e w' => e = .returned (.bool false) ∧ w = w':=by
 go_enter Tryz.func78,Tryz.ntmps78
 go_wp2
 go_ret
 exact ⟨ret_bool (by simp),rfl⟩
theorem less_any (a b : Int) (w : World) : Calls Tryz.prog 65 #[.int .i64 a,.int .i64 b] w fun e w' => e = .returned (.bool (decide (a < b))) ∧ Below w.heap.size w w':=by
 go_enter Tryz.func65,Tryz.ntmps65
 go_wp2_with fail
 refine (isNaNB_any a w).mono ?_
 rintro e w1 ⟨rfl,rfl⟩
 go_wp2
 go_returns
 exact ⟨rfl,Below.refl _ _⟩
set_option maxRecDepth 100000 in
set_option maxHeartbeats 4000000 in
theorem insB_any (base g c n : Nat) (xs : List Int) (w : World) (ho : w.ownsRow base 45 1 (.slice (some ⟨g,0,none⟩) n c) n (ints xs)) (hn : n ≤ 100) :
  Calls Tryz.prog 59 #[.slice (some ⟨g,0,none⟩) n c,.int .i64 0,.int .i64 n] w fun e w' =>
   e = .returned (.tuple #[]) ∧ ∃ ys,w'.ownsRow base 45 1 (.slice (some ⟨g,0,none⟩) n c) n (ints ys) ∧ w.grownBy w' (some g) ∧ SegB xs (max 1 n) ys:=by
 have hxl:=rowLen ho
 simp only [ints_length] at hxl
 have HO:=Lib.hid ho
 have hw0 : IntKind.i64.wrap ((0 : Int) + 1) = 1:=by decide
 clear ho
 go_enter Tryz.func59,Tryz.ntmps59
 go_wp2_with fail
 clear hw0
 go_loopw [6] (fun iv wr => ∃ (i : Nat) (ys : List Int),1 ≤ i ∧ i ≤ max 1 n ∧ iv = .int .i64 i ∧ Hid (SegB xs i ys) ∧ Hid (wr.ownsRow base 45 1 (.slice (some ⟨g,0,none⟩) n c) n (ints ys)) ∧ Hid (w.grownBy wr (some g))) (fun iv _ => n - (intOf iv).toNat)
 case atStart => exact ⟨1,xs,by omega,by omega,by go_num,Lib.hid (SegB.start xs),HO,Lib.hid ⟨rfl,rfl,rfl,Nat.le_refl _,fun _ _ _ => rfl⟩⟩
 case round =>
  clear HO
  obtain ⟨i,ys,hi1,hi2,rfl,HS,HO,HG⟩ := hrel
  by_cases hlt : i < n
  ·obtain ⟨wo,rfl⟩ : ∃ wo : World,wo = wr:=⟨_,rfl⟩
   go_wp2_with fail
   go_loopw [7] (fun jv wi => ∃ (j : Nat) (zs : List Int),jv = .int .i64 j ∧ Hid (SlideB xs i j zs) ∧ Hid (wi.ownsRow base 45 1 (.slice (some ⟨g,0,none⟩) n c) n (ints zs)) ∧ Hid (w.grownBy wi (some g))) (fun jv _ => (intOf jv).toNat)
   case atStart => exact ⟨i,ys,rfl,Lib.hid HS.out.slide,HO,HG⟩
   case round =>
    clear HO HG
    obtain ⟨j,zs,rfl,HZ,HO,HG⟩ := hrel
    have hj2:=HZ.out.le
    have HZL : zs.length = n:=by have:=HZ.out.perm.length_eq; omega
    obtain ⟨wi,rfl⟩ : ∃ wi : World,wi = wr:=⟨_,rfl⟩
    by_cases hja : 0 < j
    ·have d1 : decide ((0 : Int) < (j : Int)) = true:=decide_eq_true (by omega)
     have d1n : decide (0 < j) = true:=decide_eq_true hja
     obtain ⟨m,hm⟩ : ∃ m,j = m + 1:=⟨j - 1,by omega⟩
     have hwm : IntKind.i64.wrap ((j : Int) - 1) = (m : Int):=by rw [IntKind.wrap_i64]; omega
     obtain ⟨x,hx⟩ : ∃ x,at0 zs j = x:=⟨_,rfl⟩
     obtain ⟨y,hy⟩ : ∃ y,at0 zs m = y:=⟨_,rfl⟩
     have k1 : wi.cell? ⟨g,j,none⟩ = some (.int .i64 x):=by rw [HO.out.cellAt j (by omega),intsAt (by omega),← at0_eq (by omega),hx]
     have k0 : wi.cell? ⟨g,m,none⟩ = some (.int .i64 y):=by rw [HO.out.cellAt m (by omega),intsAt (by omega),← at0_eq (by omega),hy]
     have hm1n : j < n:=by omega
     have hmn : m < n:=by omega
     obtain ⟨bb,hbb⟩ : ∃ bb,decide (x < y) = bb:=⟨_,rfl⟩
     have HX:=Lib.hid hx
     have HY:=Lib.hid hy
     have HBB:=Lib.hid hbb
     have HM:=Lib.hid hm
     clear hx hy hbb hm
     go_wp2_with fail
     refine wp_region_seq 15 [.is ?_,.is ?_,.is (.bool true),.is (.bool true),.is ?_,.is ?_,.is ?_,.is ?_,.is ?_,.is ?_,.is ?_,.is ?_,.is ?_,.is (.bool bb),.is (.bool bb)] rfl mix (by kernel_rfl) (by kernel_rfl) ?seqm
     case seqm =>
      simp only [List.take_succ_cons,List.take_zero]
      iterate 4
       refine seq_is rfl (fun w1 hb1 _ => ?_) ?_
       ·simp [opOK,go_sem,hja,Below.refl]
        try exact rfl
       simp only [Act.put,List.setIfInBounds_toArray,List.set_cons_succ,List.set_cons_zero]
      iterate 9
       refine seq_on (by rfl) (fun w1 hb1 _ => ?_) ?_
       ·have k0':=bAt hb1 k0
        have k1':=bAt hb1 k1
        simp [opOK,go_sem,k0',k1',hwm,hm1n,hmn,Below.refl]
        try exact rfl
       simp only [Act.put,List.setIfInBounds_toArray,List.set_cons_succ,List.set_cons_zero]
      refine seq_on (by rfl) (fun w1 hb1 _ => ?_) ?_
      ·refine opOK_call (f:=65) (args:=#[.int .i64 x,.int .i64 y]) (by simp [go_sem]) ?_
       refine (less_any x y w1).mono ?_
       rintro e w2 ⟨rfl,hb2⟩
       exact ⟨_,rfl,by rw [HBB.out],hb2⟩
      simp only [Act.put,List.setIfInBounds_toArray,List.set_cons_succ,List.set_cons_zero]
      refine seq_is rfl (fun w1 hb1 _ => ?_) ?_
      ·simp [opOK,go_sem,Below.refl]
       try exact rfl
      simp only [Act.put,List.setIfInBounds_toArray,List.set_cons_succ,List.set_cons_zero]
      refine seq_end fun w6 hb6 _ => ?_
      simp only [List.drop_succ_cons,List.drop_zero]
      have hO6:=ownsN_below HO.out hb6
      have HO6:=Lib.hid hO6
      have hg6:=grownBy_trans HG.out (grownBy_below _ hb6)
      have HG6:=Lib.hid hg6
      have l1:=bAt hb6 k1
      have l0:=bAt hb6 k0
      have l1f:=hO6.frozenAt j
      have l0f:=hO6.frozenAt m
      clear k0 k1 hO6 hg6 hb6
      cases bb
      ·go_wp2_with fail
       go_roundw
       case rel => exact ⟨i + 1,zs,by omega,by omega,by go_num,Lib.hid (HZ.out.next (.inr (by
        have h1:=of_decide_eq_false HBB.out
        have h2:=HM.out
        subst h2
        rw [Nat.add_sub_cancel,HX.out,HY.out]; omega))),HO6,HG6⟩
       case measure => simp [intOf]; omega
      ·go_wp2_with fail
       have hO6:=HO6.out
       obtain ⟨hO8,hg8⟩ := hO6.stored j (.int .i64 y)
       rw [ints_set] at hO8
       have HO8:=Lib.hid hO8
       have HG8:=Lib.hid (grownBy_trans HG6.out hg8)
       have HZ9 : Hid (SlideB xs i m ((zs.set j y).set m x)):=Lib.hid (by
        have h2:=HM.out
        subst h2
        have h1:=of_decide_eq_true HBB.out
        have:=HZ.out.step hja (by omega) (by rw [Nat.add_sub_cancel,HX.out,HY.out]; exact h1)
        rw [Nat.add_sub_cancel,HX.out,HY.out] at this
        exact this)
       have hmj : ¬ m = j:=by have:=HM.out; omega
       obtain ⟨w8,hw8⟩ : ∃ w8,w6.setCell ⟨g,j,none⟩ (.int .i64 y) = w8:=⟨_,rfl⟩
       rw [hw8] at HO8 HG8
       have HW8:=Lib.hid hw8
       clear hO6 hO8 hg8 hw8
       refine wp_region_gen 17 (fun i v _ => match i with
        | 0 | 2 | 5 | 10 => v = .slice (some ⟨g,0,none⟩) n c
        | 1 | 3 | 6 | 11 => v = .int .i64 j
        | 4 | 7 => v = .int .i64 m
        | 8 | 16 => v = .pointer (some ⟨g,m,none⟩)
        | 9 => v = .int .i64 y
        | 12 | 14 => v = .pointer (some ⟨g,j,none⟩)
        | 13 => v = .int .i64 x
        | _ => True) (JSt 15 [9,13] (fun W => W = w6.drew) (fun W => W = w8.drew)) mix (by kernel_rfl) (JSt.start rfl) ?_ ?_
       ·refine ⟨?_, ?_, ?_, ?_, ?_, ?_, ?_, ?_, ?_, ?_, ?_, ?_, ?_, ?_, ?_, ?_, ?_,trivial⟩
        all_goals refine gen_plain rfl fun a W S hSi hJ hpre ht' => ?_
        all_goals
         simp [Region.binds] at hpre
         have t0:=ht' 0 rfl
         have t9:=ht' 7 rfl
         simp at t0 t9
        iterate 9
         (·simp [opOK,go_sem,hpre,t0,t9,hwm,hmn]
           refine ⟨hJ.read (by omega), ?_⟩
           intro j _ _ v h _
           exact h)
        ·have hW:=hJ.look (i:=9) (by simp) hSi
         have q0 : W.cell? ⟨g,m,none⟩ = some (.int .i64 y):=by rw [hW]; exact l0
         simp [opOK,go_sem,hpre,q0]
         refine ⟨hJ.read (by omega), ?_⟩
         intro j _ _ v h _
         exact h
        iterate 3
         (·simp [opOK,go_sem,hpre,t0,t9,hm1n]
           refine ⟨hJ.read (by omega), ?_⟩
           intro j _ _ v h _
           exact h)
        ·have hW:=hJ.look (i:=13) (by simp) hSi
         have q0 : W.cell? ⟨g,j,none⟩ = some (.int .i64 x):=by rw [hW]; exact l1
         simp [opOK,go_sem,hpre,q0]
         refine ⟨hJ.read (by omega), ?_⟩
         intro j _ _ v h _
         exact h
        ·simp [opOK,go_sem,hpre,hm1n]
         refine ⟨hJ.read (by omega), ?_⟩
         intro j _ _ v h _
         exact h
        ·have hW:=hJ.off hSi
         have q0 : W.cell? ⟨g,j,none⟩ = some (.int .i64 x):=by rw [hW]; exact l1
         have q1 : W.frozen? ⟨g,j,none⟩ = false:=by rw [hW]; exact l1f
         have e8 : W.setCell ⟨g,j,none⟩ (.int .i64 y) = w8.drew:=by rw [hW,← HW8.out]; rfl
         simp [opOK,go_sem,hpre,q0,q1,e8]
         refine ⟨JSt.write (by simp [hpre]) rfl, ?_⟩
         intro j hj _ v h _
         exact h
        ·simp [opOK,go_sem,hpre,hmn]
         refine ⟨hJ.read (by omega), ?_⟩
         intro j _ _ v h _
         exact h
       ·intro W' hJ
        have hW:=hJ.on (by decide)
        subst hW
        simp only [List.take_succ_cons,List.take_zero,List.drop_succ_cons,List.drop_zero,EndAll]
        rintro _ rfl _ rfl _ rfl _ rfl _ rfl _ rfl _ rfl _ rfl _ rfl _ rfl _ rfl _ rfl _ rfl _ rfl _ rfl v15 - _ rfl
        have q0 : w8.cell? ⟨g,m,none⟩ = some (.int .i64 y):=by rw [← HW8.out,World.cell?_setCell_other _ _ _ _ (by intro e; cases e; exact hmj rfl)]; exact l0
        have q0f:=HO8.out.frozenAt m
        obtain ⟨hO9,hg9⟩ := HO8.out.stored m (.int .i64 x)
        rw [ints_set] at hO9
        have HO9:=Lib.hid hO9
        have HG9:=Lib.hid (grownBy_trans HG8.out hg9)
        clear hO9 hg9 l0 l1 l0f l1f hJ
        go_wp2_with fail
        go_roundw
        case rel => exact ⟨m,_,rfl,HZ9,HO9,Lib.hid ⟨HG9.out.os,HG9.out.tape,HG9.out.output,HG9.out.size,HG9.out.block⟩⟩
        case measure => simp [intOf]; have:=HM.out; omega
    ·have d1 : decide ((0 : Int) < (j : Int)) = false:=decide_eq_false (by omega)
     have d1n : decide (0 < j) = false:=decide_eq_false hja
     go_wp2_with fail
     refine wp_region_seq 15 [.is ?_,.is ?_,.is (.bool false),.is (.bool false),.is undef,.is undef,.is undef,.is undef,.is undef,.is undef,.is undef,.is undef,.is undef,.is undef,.is (.bool false)] rfl mix (by kernel_rfl) (by kernel_rfl) ?seqm
     case seqm =>
      simp only [List.take_succ_cons,List.take_zero]
      iterate 4
       refine seq_is rfl (fun w1 hb1 _ => ?_) ?_
       ·simp [opOK,go_sem,hja,Below.refl]
        try exact rfl
       simp only [Act.put,List.setIfInBounds_toArray,List.set_cons_succ,List.set_cons_zero]
      iterate 10
       refine seq_off (by rfl) ?_
       simp only [Act.put,List.setIfInBounds_toArray,List.set_cons_succ,List.set_cons_zero]
      refine seq_is rfl (fun w1 hb1 _ => ?_) ?_
      ·simp [opOK,go_sem,Below.refl]
       try exact rfl
      simp only [Act.put,List.setIfInBounds_toArray,List.set_cons_succ,List.set_cons_zero]
      refine seq_end fun w6 hb6 _ => ?_
      simp only [List.drop_succ_cons,List.drop_zero]
      have HO6:=Lib.hid (ownsN_below HO.out hb6)
      have HG6:=Lib.hid (grownBy_trans HG.out (grownBy_below _ hb6))
      clear hb6
      go_wp2_with fail
      go_roundw
      case rel => exact ⟨i + 1,zs,by omega,by omega,by go_num,Lib.hid (HZ.out.next (.inl (by omega))),HO6,HG6⟩
      case measure => simp [intOf]; omega
  ·obtain rfl : i = max 1 n:=by omega
   go_wp2
   go_returns
   exact ⟨rfl,ys,HO.out,HG.out,HS.out⟩
end Go.Proofs.YtnhggfnnolfcdaaGreat
