/- The texts O2J, O2K, O2L, O2M, O2N, O2O, O2P, O2Q, O2R, O2S, O2T, O2U, O2V, in build order. -/
import Derived.Test.YtnbmgkmcaoafnaaGreatDoorZac
import Derived.Lib.SliceRun
import Derived.ArgAppend

/- Chapter 2: newBoard. -/
namespace Go.Proofs.YtnbmgkmcaoafnaaGreatDoor.O2
open Go.RowKit Go.Oche Go.Oche.O2 Go.Proofs

theorem grownBy_none {w w' : World} (h : Below w.heap.size w w') : w.grownBy w' none:=⟨h.os,h.tape,h.output,h.size,fun k hk _ => h.block k hk⟩
theorem stepped {w : World} {base n : Nat} {e : TypeId} {v : Value} {xs : List Value} (h : w.ownsRow base e 1 v n xs) {p : Addr} (hp : some p.block ≠ v.ownBlock) (u : Value) : (w.setCell p u).ownsRow base e 1 v n xs:=by
 refine ⟨h.1, ?_⟩
 rcases h.2 with hn | ⟨g,cap,cur,rfl,hb,hgg,rest⟩
 ·exact .inl hn
 ·exact .inr ⟨g,cap,cur,rfl,hb,by rw [Below.heap_setCell _ _ _ _ (fun e => hp (by rw [← e]; rfl))]; exact hgg,rest⟩

theorem info91 : (Tryz.prog.info? 229).map (fun i => (i.zero,i.size,i.bytes)) = some (some (.agg #[.int .i64 0]),1,8):=by kernel_rfl
theorem info45 : (Tryz.prog.info? 33).map (fun i => (i.zero,i.size,i.bytes)) = some (some (.slice none 0 0),1,24):=by kernel_rfl

structure NB1 (g : Int) (bs : List Int) (N : Nat) (w : World) (k : Nat) (vb : Value) (W : World) : Prop where
 below : Below N w W
 blk : W.heap[N]? = some (.cells #[vb,.int .i64 g,.slice none 0 0] 200 (0,0))
 own : W.ownsRow (N + 1) 229 1 vb k (ints (bs.take k))

def rowV (m R : Nat) : Value:=.slice (some ⟨R,0,none⟩) (m + 1) (m + 1)
structure NB2 (g : Int) (bs : List Int) (m N : Nat) (w : World) (k : Nat) (vb vc : Value) (Rs : List Nat) (W : World) : Prop where
 below : Below N w W
 blk : W.heap[N]? = some (.cells #[vb,.int .i64 g,vc] 200 (0,0))
 beds : W.ownsRow (N + 1) 229 1 vb bs.length (ints bs)
 own : W.ownsRow (N + 1) 33 1 vc (k + 1) (Rs.map (rowV m))
 len : Rs.length = k + 1
 rows : ∀ i (h : i < Rs.length),N < Rs[i] ∧ IntBlk W Rs[i] 3 (m + 1) (fun s => (cntRow g bs m i).getD s 0)

structure JB (m N k g2 : Nat) (vc : Value) (Rs : List Nat) (wr : World) (L : Nat → Bool) (W : World) : Prop where
 grown : wr.grownBy W (some g2)
 own : L 10 = false → W.ownsRow (N + 1) 33 1 vc (k + 1) (Rs.map (rowV m))
 c8 : L 8 = true → L 7 = true
 c9 : L 9 = true → L 8 = true
 c10 : L 10 = true → L 9 = true
theorem JB.read {m N k g2 : Nat} {vc : Value} {Rs : List Nat} {wr : World} {L : Nat → Bool} {W : World} (h : JB m N k g2 vc Rs wr L W) {i : Nat} (hi : i < 7) : JB m N k g2 vc Rs wr (setB L i) W:=by
 have e : ∀ j,7 ≤ j → setB L i j = L j:=fun j hj => by unfold setB; rw [if_neg (by omega)]
 exact ⟨h.grown,by rw [e 10 (by omega)]; exact h.own,by rw [e 8 (by omega),e 7 (by omega)]; exact h.c8,by rw [e 9 (by omega),e 8 (by omega)]; exact h.c9,by rw [e 10 (by omega),e 9 (by omega)]; exact h.c10⟩
theorem JB.step {m N k g2 : Nat} {vc : Value} {Rs : List Nat} {wr : World} {L : Nat → Bool} {W W' : World} (h : JB m N k g2 vc Rs wr L W) {i : Nat} (hi : i = 7 ∨ (i = 8 ∧ L 7 = true) ∨ (i = 9 ∧ L 8 = true)) (hb : Below W.heap.size W W') : JB m N k g2 vc Rs wr (setB L i) W':=by
 refine ⟨grownBy_trans h.grown (grownBy_below _ hb), ?_, ?_, ?_, ?_⟩
 ·intro h10
  have : L 10 = false:=by
   unfold setB at h10;rw [if_neg (by omega)] at h10; exact h10
  exact (h.own this).kept (grownBy_none hb) (by cases vc.ownBlock <;> simp)
 all_goals
  unfold setB;have h8:=h.c8;have h9:=h.c9;have h10:=h.c10;rcases hi with rfl | ⟨rfl,h1⟩ | ⟨rfl,h1⟩ <;> simp_all
theorem JB.off {m N k g2 : Nat} {vc : Value} {Rs : List Nat} {wr : World} {L : Nat → Bool} {W : World} (h : JB m N k g2 vc Rs wr L W) {i : Nat} (hi : i = 7 ∨ i = 8 ∨ i = 9 ∨ i = 10) (hL : L i = false) : W.ownsRow (N + 1) 33 1 vc (k + 1) (Rs.map (rowV m)):=by
 refine h.own ?_
 cases h10 : L 10 with
 | false => rfl
 | true =>
  have a9:=h.c10 h10;have a8:=h.c9 a9;have a7:=h.c8 a8;rcases hi with rfl | rfl | rfl | rfl <;> simp_all

def phiB (m N k : Nat) (f : Nat → Int) (vc x : Value) (Rs : List Nat) (wr : World) : Nat → Value → World → Prop
 | 0,v,_ | 1,v,_ | 2,v,_ | 5,v,_ | 6,v,_ => v = .pointer (some ⟨N,0,none⟩)
 | 3,v,_ => v = .pointer (some ⟨N,2,none⟩)
 | 4,v,_ => v = vc
 | 7,v,_ => v = x
 | 8,v,W => ∃ R,v = rowV m R ∧ N < R ∧ wr.heap.size ≤ R ∧ IntBlk W R 3 (m + 1) f
 | 9,v,W => ∃ B R,v = .slice (some ⟨B,0,none⟩) 1 1 ∧ wr.heap.size ≤ B ∧ W.cell? ⟨B,0,none⟩ = some (rowV m R) ∧ N < R ∧ wr.heap.size ≤ R ∧ IntBlk W R 3 (m + 1) f
 | 10,v,W => ∃ R,(∃ g cap,v = .slice (some ⟨g,0,none⟩) (k + 1 + 1) cap) ∧ W.ownsRow (N + 1) 33 1 v (k + 1 + 1) (Rs.map (rowV m) ++ [rowV m R]) ∧ N < R ∧ wr.heap.size ≤ R ∧ IntBlk W R 3 (m + 1) f
 | _,_,_ => True
theorem phiB_below {m N k : Nat} {f : Nat → Int} {vc x : Value} {Rs : List Nat} {wr : World} : ∀ (j : Nat) (v : Value) (W W' : World),Below W.heap.size W W' → phiB m N k f vc x Rs wr j v W → phiB m N k f vc x Rs wr j v W'
 | 0,_,_,_,_,h | 1,_,_,_,_,h | 2,_,_,_,_,h | 5,_,_,_,_,h | 6,_,_,_,_,h | 3,_,_,_,_,h | 4,_,_,_,_,h | 7,_,_,_,_,h => h
 | 8,_,_,_,hb,⟨R,h1,h2,h3,h4⟩ => ⟨R,h1,h2,h3,h4.below hb⟩
 | 9,_,_,_,hb,⟨B,R,h1,h2,h3,h4,h5,h6⟩ => ⟨B,R,h1,h2,bAt hb h3,h4,h5,h6.below hb⟩
 | 10,v,_,_,hb,⟨R,h1,h2,h3,h4,h5⟩ => ⟨R,h1,h2.kept (grownBy_none hb) (by cases v.ownBlock <;> simp),h3,h4,h5.below hb⟩
 | _ + 11,_,_,_,_,_ => trivial

set_option maxRecDepth 100000 in
theorem make_row (m : Nat) (hm : m ≤ 1001) (W : World) : (Instr.makeSlice 33 (.int .i64 ((m : Int) + 1)) (.int .i64 ((m : Int) + 1))).run Tryz.prog W = .ok (.slice (some ⟨W.heap.size,0,none⟩) (m + 1) (m + 1)) (W.alloc (.cells (madeCells #[.int .i64 0] (m + 1)) 3)):=by
 have:=make_ints (m + 1) (by omega) W
 simpa using this

set_option maxRecDepth 100000 in
set_option maxHeartbeats 1000000 in
theorem newBoard_any {S : Nat → Prop} (bs : List Int) (g : Int) (d m : Nat) (v : Value) (w : World) (hs : Sl S w v (ints bs)) (hbs : ∀ b ∈ bs,bedOk b = true) (hbl : bs.length ≤ 82) (hd : d ≤ 9) (hm : m ≤ 1001) :
  Calls Tryz.prog 101 #[v,.int .i64 g,.int .i64 d,.int .i64 m] w fun e w' => ∃ P,e = .returned (.pointer (some ⟨P,0,none⟩)) ∧ Below w.heap.size w w' ∧ Board (fun k => w.heap.size ≤ k ∧ k < w'.heap.size) w' P bs g (cnts g bs d m):=by
 obtain ⟨a,cap,rfl,h2,h3,h4⟩ := hs.lt;simp only [ints_length] at *;unfold maxLen at h3;have H4:=Lib.hid h4;have HBS:=Lib.hid hbs;clear h4 hbs hs;obtain ⟨i0,hi,hz0,hz1,hz2⟩ := info_parts info91;have HI0:=Lib.hid (And.intro hi (And.intro hz0 (And.intro hz1 hz2)));clear hi hz0 hz1 hz2;obtain ⟨N,hN⟩ : ∃ N,N = w.heap.size:=⟨_,rfl⟩
 go_enter Tryz.func101,Tryz.ntmps101
 go_wp2_with fail;rw [← hN];have HN:=Lib.hid hN;obtain ⟨W0,hW0⟩ : ∃ W0,w.alloc (.cells #[.slice none 0 0,.int .i64 g,.slice none 0 0] 200) = W0:=⟨_,rfl⟩;have hI0 : NB1 g bs N w 0 (.slice none 0 0) W0:=by
  rw [← hW0,hN];exact ⟨aB _ _,World.alloc_heap_new _ _,World.ownsRow_nil _ _ _ _⟩
 rw [hW0];clear hW0 hN;go_loopw [11,18] (fun _ i wr => ∃ (k : Nat) (vb : Value),k ≤ bs.length ∧ i = .int .i64 k ∧ NB1 g bs N w k vb wr) (fun _ i _ => bs.length - (intOf i).toNat)
 case atStart => exact ⟨0,_,Nat.zero_le _,rfl,hI0⟩
 case round =>
  obtain ⟨k,vb,hk,rfl,⟨hB,hP,hown⟩⟩ := hrel;have hNz : N < wr.heap.size:=(Array.getElem?_eq_some_iff.1 hP).1
  by_cases hlt : k < bs.length
  ·obtain ⟨b,off,rfl,hb1,hc⟩ := H4.out k _ (intsAt hlt)
   have hc' : wr.cell? ⟨b,off + k,none⟩ = some (.int .i64 bs[k]):=(hB.cell (p:=⟨b,off + k,none⟩) (by rw [HN.out]; exact hb1.2)).trans hc
   obtain ⟨x,hx⟩ : ∃ x,bs[k] = x:=⟨_,rfl⟩;rw [hx] at hc';have HX : Hid (bs.take (k + 1) = bs.take k ++ [x]):=by rw [← hx]; exact List.take_succ_eq_append_getElem hlt
   have hp0 : wr.cell? ⟨N,0,none⟩ = some vb:=by rw [cell_of_heap hP]; rfl
   clear hc hx hI0
   go_wp2_with (at_builtin; refine wpList_append_own _ rfl _ _ 198 rfl (N + 1) 229 i0 (.agg #[.int .i64 0]) 1 8 Tryz.underlying198 HI0.out.1 HI0.out.2.1 HI0.out.2.2.1 HI0.out.2.2.2 rfl (by decide) _ _ _ rfl (hown.alloc _) ⟨wr.heap.size,0,none⟩ 1 1 [.int .i64 x] rfl rfl ?c1 ?c2 ?c3 ?c4 ?c5 ?_)
   case c1 =>
    intro j u hj
    match j,hj with
    | 0,hj => simp at hj; subst hj; exact cell_new _ _ _
    | j + 1,hj => simp at hj
   case c2 => intro u hu; simp at hu; subst hu; rfl
   case c3 => unfold maxLen; omega
   case c4 => omega
   case c5 => simp; omega
   ·intro v' w1 hown' hgrow _
    obtain ⟨g',cap',rfl⟩ := ownsRow_succ hown';have hg1:=hown'.lt g' rfl;have hvb : ∀ q,vb.ownBlock = some q → N + 1 ≤ q:=fun q hq => (hown.lt q hq).1
    have hP1 : w1.heap[N]? = some (.cells #[vb,.int .i64 g,.slice none 0 0] 200 (0,0)):=by
     rw [hgrow.block N (by simp; omega) (fun e => by have:=hvb N e.symm; omega)]
     exact (Below.heap_alloc _ _ _ hNz).trans hP
    have hB1 : Below N w w1:=(hB.alloc (by omega) _).grown hgrow (by simp; omega) (fun q hq => by have:=hvb q hq; omega)
    have hq0 : w1.cell? ⟨N,0,none⟩ = some vb:=by rw [cell_of_heap hP1]; rfl
    have hq1 : w1.frozen? ⟨N,0,none⟩ = false:=frozen_of_heap hP1;have hl2 : k < bs.length:=hlt;clear hown hP hp0 hc' hB;go_wp2;go_roundw
    case rel =>
     refine ⟨k + 1,.slice (some ⟨g',0,none⟩) (k + 1) cap',by omega,by go_num,⟨hB1.setCell (p:=⟨N,0,none⟩) (Nat.le_refl _) _, ?_, ?_⟩⟩
     ·rw [heap_setCell_at hP1]; rfl
     ·have:=ownsRow_setCell_below hown' (a:=⟨N,0,none⟩) (by simp) (.slice (some ⟨g',0,none⟩) (k + 1) cap')
      rw [HX.out,ints_append]; exact this
    case measure => simp [intOf]; omega
  ·obtain rfl : k = bs.length:=by omega
   obtain ⟨W1,hW1⟩ : ∃ W1,wr.alloc (.cells (madeCells #[.int .i64 0] (m + 1)) 3) = W1:=⟨_,rfl⟩;obtain ⟨R,hR⟩ : ∃ R,wr.heap.size = R:=⟨_,rfl⟩;have hb1 : Below wr.heap.size wr W1:=by rw [← hW1]; exact aB _ _
   have hr1 : IntBlk W1 R 3 (m + 1) (fun _ => 0):=by rw [← hW1,← hR]; exact IntBlk.made _ _ _
   have hmk : (Instr.makeSlice 33 (.int .i64 ((m : Int) + 1)) (.int .i64 ((m : Int) + 1))).run Tryz.prog wr = .ok (.slice (some ⟨R,0,none⟩) (m + 1) (m + 1)) W1:=by rw [← hW1,← hR]; exact make_row m hm wr
   have k1:=hr1.cell (j:=0) (by omega)
   have k2:=hr1.frozen 0;have hP1 : W1.heap[N]? = some (.cells #[vb,.int .i64 g,.slice none 0 0] 200 (0,0)):=(hb1.block N hNz).trans hP;have hown1 : W1.ownsRow (N + 1) 229 1 vb bs.length (ints bs):=by
    have:=hown.kept (w':=W1) (row:=none) (grownBy_none hb1) (by cases vb.ownBlock <;> simp)
    rwa [List.take_length] at this
   have hB1 : Below N w W1:=hB.trans (hb1.mono (by omega))
   have hRN : N < R:=by omega
   have hR1 : R < W1.heap.size:=hr1.lt;clear hW1 hb1 hP hown hB hR hI0;obtain ⟨W2,hW2⟩ : ∃ W2,W1.setCell ⟨R,0,none⟩ (.int .i64 1) = W2:=⟨_,rfl⟩;have hP2 : W2.heap[N]? = some (.cells #[vb,.int .i64 g,.slice none 0 0] 200 (0,0)):=by rw [← hW2,Below.heap_setCell _ _ _ _ (by simp; omega)]; exact hP1
   have hown2 : W2.ownsRow (N + 1) 229 1 vb bs.length (ints bs):=by
    rw [← hW2]; exact stepped hown1 (by obtain ⟨A,hA,_⟩ := hr1; exact owns_ne hown1 hA (by decide)) _
   have hB2 : Below N w W2:=by rw [← hW2]; exact hB1.setCell (p:=⟨R,0,none⟩) (by simp; omega) _
   have hr2 : IntBlk W2 R 3 (m + 1) (fun s => (cntRow g bs m 0).getD s 0):=by
    rw [← hW2];refine (hr1.set 0 1).congr fun j hj => ?_
    rw [cntRow_zero]
   have hR2 : R < W2.heap.size:=hr2.lt;have hN2 : N < W2.heap.size:=by omega
   have p2 : W2.cell? ⟨N,2,none⟩ = some (.slice none 0 0):=by rw [cell_of_heap hP2]; rfl
   have HZ12 : Hid (W2.heap.size = W1.heap.size):=by show _ = _; rw [← hW2]; simp
   have p2':=p2;rw [← hW2] at p2';have HW2:=Lib.hid hW2;clear hP1 hown1 hB1 hr1 hW2 hR1;obtain ⟨j0,hj,hjz,hj1,hj2⟩ := info_parts info45;have HJ0:=Lib.hid (And.intro hj (And.intro hjz (And.intro hj1 hj2)));clear hj hjz hj1 hj2
   go_wp2_with (at_builtin; rw [HW2.out]; refine wpList_append_own _ rfl _ _ 66 rfl (N + 1) 33 j0 (.slice none 0 0) 1 24 Tryz.underlying66 HJ0.out.1 HJ0.out.2.1 HJ0.out.2.2.1 HJ0.out.2.2.2 rfl (by decide) _ _ _ rfl ((World.ownsRow_nil W2 _ _ _).alloc _) ⟨W1.heap.size,0,none⟩ 1 1 [rowV m R] rfl rfl ?d1 ?d2 ?d3 ?d4 ?d5 ?_)
   case d1 =>
    intro j u hj
    match j,hj with
    | 0,hj => simp at hj; subst hj; rw [← HZ12.out]; exact cell_new _ _ _
    | j + 1,hj => simp at hj
   case d2 => intro u hu; simp at hu; subst hu; rfl
   case d3 => unfold maxLen; omega
   case d4 => omega
   case d5 => simp; omega
   intro vc W3 hown3 hgrow3 _
   obtain ⟨gc,capc,rfl⟩ := ownsRow_succ hown3;have hgc:=hown3.lt gc rfl;have hkeep : ∀ q,q < W2.heap.size → W3.heap[q]? = W2.heap[q]? := fun q hq => (hgrow3.block q (by simp; omega) (by simp [Value.ownBlock])).trans (Below.heap_alloc _ _ _ hq)
   have hP3:=(hkeep N hN2).trans hP2;have hB3 : Below N w W3:=(hB2.alloc (by omega) _).grown hgrow3 (by simp; omega) (fun q hq => by simp [Value.ownBlock] at hq)
   have hr3:=hr2.keep (hkeep R hR2);have hown4 : W3.ownsRow (N + 1) 229 1 vb bs.length (ints bs):=(hown2.alloc _).kept hgrow3 (by cases vb.ownBlock <;> simp [Value.ownBlock])
   have hq2 : W3.cell? ⟨N,2,none⟩ = some (.slice none 0 0):=by rw [cell_of_heap hP3]; rfl
   have hq3 : W3.frozen? ⟨N,2,none⟩ = false:=frozen_of_heap hP3;clear hgrow3 hkeep hown2 hr2 hB2 hP2 hN2 hR2 p2 p2' k1 k2;obtain ⟨W4,hW4⟩ : ∃ W4,W3.setCell ⟨N,2,none⟩ (.slice (some ⟨gc,0,none⟩) 1 capc) = W4:=⟨_,rfl⟩;have hI4 : NB2 g bs m N w 0 vb (.slice (some ⟨gc,0,none⟩) 1 capc) [R] W4:=by
    rw [← hW4];refine ⟨hB3.setCell (p:=⟨N,2,none⟩) (Nat.le_refl _) _,by rw [heap_setCell_at hP3]; rfl,stepped hown4 (owns_ne hown4 hP3 (by decide)) _, ?_,rfl, ?_⟩
    ·have:=stepped hown3 (p:=⟨N,2,none⟩) (owns_ne hown3 hP3 (by decide)) (.slice (some ⟨gc,0,none⟩) 1 capc)
     simpa using this
    ·intro i h
     have : i = 0:=by simpa using h
     subst this;exact ⟨hRN,hr3.keep (Below.heap_setCell _ _ _ _ (by simp; omega))⟩
   have HW4:=Lib.hid hW4;clear hW4 hown3 hown4 hr3 hB3 hP3;go_wp2_with fail;rw [HW4.out];go_loopw [50] (fun i wr => ∃ (k : Nat) (vc : Value) (Rs : List Nat),k ≤ d ∧ i = .int .i64 k ∧ NB2 g bs m N w k vb vc Rs wr) (fun i _ => d - (intOf i).toNat)
   case atStart => exact ⟨0,_,_,Nat.zero_le _,rfl,hI4⟩
   case round =>
    clear hI4;obtain ⟨k,vc,Rs,hk,rfl,⟨hB,hP,hbeds,hown,hlen,hrows⟩⟩ := hrel;have hNz : N < wr.heap.size:=(Array.getElem?_eq_some_iff.1 hP).1
    obtain ⟨g2,cap2,rfl⟩ := ownsRow_succ hown;have hg2:=hown.lt g2 rfl;by_cases hlt : k < d
    ·obtain ⟨Rk,hRk⟩ : ∃ Rk,Rs[k]'(by omega) = Rk:=⟨_,rfl⟩
     have hrow:=hrows k (by omega)
     rw [hRk] at hrow;have HP:=Lib.hid hP;have HBD:=Lib.hid hbeds;have HRW:=Lib.hid hrows;have HRK:=Lib.hid hRk;clear hP hbeds hrows hRk;go_wp2_with fail;refine wp_region_gen 11 (phiB m N k (fun s => (cntRow g bs m (k + 1)).getD s 0) (.slice (some ⟨g2,0,none⟩) (k + 1) cap2) (rowV m Rk) Rs wr) (JB m N k g2 (.slice (some ⟨g2,0,none⟩) (k + 1) cap2) Rs wr) mix (by kernel_rfl) ?_ ?_ ?_
     ·exact ⟨⟨rfl,rfl,rfl,Nat.le_refl _,fun _ _ _ => rfl⟩,fun _ => hown.kept ⟨rfl,rfl,rfl,Nat.le_refl _,fun _ _ _ => rfl⟩ (row:=none) (by simp [Value.ownBlock]),by simp,by simp,by simp⟩
     ·refine ⟨?_, ?_, ?_, ?_, ?_, ?_, ?_, ?_, ?_, ?_, ?_,trivial⟩
      all_goals refine gen_plain rfl fun a W L hLi hJ hp ht => ?_
      all_goals
       simp [Region.binds,phiB] at hp
       have t9:=ht 9 rfl;simp at t9;have hPW : W.heap[N]? = _:=(hJ.grown.block N hNz (by simp; omega)).trans HP.out
       have d0 : W.cell? ⟨N,0,none⟩ = some vb:=by rw [cell_of_heap hPW]; rfl
       have d1 : W.cell? ⟨N,1,none⟩ = some (.int .i64 g):=by rw [cell_of_heap hPW]; rfl
       have d2 : W.cell? ⟨N,2,none⟩ = some (.slice (some ⟨g2,0,none⟩) (k + 1) cap2):=by rw [cell_of_heap hPW]; rfl
       clear hPW
      iterate 7
       (·simp [opOK,go_sem,hp,t9,d2,phiB]
         refine ⟨hJ.read (by omega), ?_⟩
         intro j _ _ v h _
         exact h)
      ·have hown7:=hJ.off (.inl rfl) hLi
       have hc : W.cell? ⟨g2,0 + k,none⟩ = some (rowV m Rk):=by
        obtain ⟨a',cap',e1,_,_,h4⟩ := Sl.of_owns hown7;obtain ⟨b',off',rfl,_,hc⟩ := h4 k (rowV m Rk) (by rw [← HRK.out]; simp [hlen])
        simp only [Value.slice.injEq,Option.some.injEq,Addr.mk.injEq] at e1;obtain ⟨⟨rfl,rfl,_⟩,_⟩ := e1;exact hc
       refine opOK_call (f:=140) (args:=#[.pointer (some ⟨N,0,none⟩)]) (by simp [go_sem,hp]) ?_
       exact (last_any (_S:=fun _ => True) N g2 0 k cap2 (rowV m Rk) W (by omega) d2 hc ⟨_,_,_,rfl⟩).mono fun e W' ⟨he,hb⟩ => ⟨_,he,hJ.step (.inl rfl) hb,fun j _ _ v h _ => phiB_below j v _ _ hb h,rfl⟩
      ·have hrk : IntBlk W Rk 3 (m + 1) (fun s => (cntRow g bs m k).getD s 0):=hrow.2.keep (hJ.grown.block Rk hrow.2.lt (hrow.2.ne hown (by decide)))
       have hslk:=hrk.sl (by unfold maxLen; omega)
       have hlist : (List.range (m + 1)).map (fun s => (cntRow g bs m k).getD s 0) = cntRow g bs m k:=by
        refine List.ext_getElem (by simp [cntRow_length]) fun j h1 h2 => ?_
        simp [List.getD_eq_getElem?_getD,h2]
       rw [hlist] at hslk;have hbd : W.ownsRow (N + 1) 229 1 vb bs.length (ints bs):=HBD.out.kept hJ.grown (by
        obtain ⟨A,hA,_⟩ := hrow.2;rcases hv : vb.ownBlock with _ | q
        ·exact .inl rfl
        ·right
         intro e
         simp only [Option.some.injEq] at e;subst e;rcases hown.2 with ⟨h,_⟩ | ⟨g3,c3,cur3,h3,_,hh3,_⟩
         ·cases h
         ·simp only [Value.slice.injEq,Option.some.injEq,Addr.mk.injEq] at h3
          obtain ⟨⟨rfl,_⟩,_⟩ := h3;exact owns_ne HBD.out hh3 (by decide) hv.symm)
       have hp82 : (0 : Int) ≤ 82 ^ k:=Int.pow_nonneg (by decide)
       have hpow : (82 : Int) ^ k * 82 ≤ 9223372036854775807:=by
        have : ∀ j : Fin 9,(82 : Int) ^ (j : Nat) * 82 ≤ 9223372036854775807:=by decide
        exact this ⟨k,by omega⟩
       refine opOK_call (f:=139) (args:=#[.pointer (some ⟨N,0,none⟩),rowV m Rk]) (by simp [go_sem,hp]) ?_
       refine (row_any g bs (cntRow g bs m k) N vb (rowV m Rk) W (82 ^ k) HBS.out hbl (by rw [cntRow_length]; omega) (cntRow_bd g hbl m k) hp82 hpow d0 d1 (Sl.of_owns hbd) hslk).mono ?_
       rintro e W' ⟨R',rfl,hz,hb,hR'⟩;rw [cntRow_length] at hR' ⊢;have hwz:=hJ.grown.size;refine ⟨_,rfl,hJ.step (.inr (.inl ⟨rfl,hp.2.1⟩)) hb,fun j _ _ v h _ => phiB_below j v _ _ hb h,R',rfl,by omega,by omega,hR'.congr fun j hj => (cntRow_succ g bs m k j hj).symm⟩
      ·obtain ⟨hL8,v8,⟨R',rfl,hR1,hR2,hR3⟩,hv8⟩ := hp
       have hwz:=hJ.grown.size;have hb:=aB W (.cells #[rowV m R'] 33);refine opOK_val (v:=.slice (some ⟨W.heap.size,0,none⟩) 1 1) (w':=W.alloc (.cells #[rowV m R'] 33)) (by simp [go_sem,hv8,rowV]) ?_
       exact ⟨hJ.step (.inr (.inr ⟨rfl,hL8⟩)) hb,fun j _ _ v h _ => phiB_below j v _ _ hb h,_,R',rfl,by omega,cell_new _ _ _,hR1,hR2,hR3.below hb⟩
      ·obtain ⟨⟨_,h56⟩,⟨hL9,x9,⟨B,rfl,hB1,R',hB2,hR1,hR2,hR3⟩,h61⟩,_⟩ := hp
       have hwz:=hJ.grown.size;have hown10:=hJ.own hLi;refine opOK_mono (opOK_append1 (.tmp 56) (.tmp 61) 66 rfl (N + 1) 33 (.slice none 0 0) 24 Tryz.underlying66 info45 rfl _ (k + 1) (Rs.map (rowV m)) (by simp [Act.eval,h56]) hown10 B 0 1 (rowV m R') (by simp [Act.eval,h61]) hB2 rfl (by omega) (by omega) (by omega)) ?_
       rintro v' W' ⟨hform,hown',hg'⟩;refine ⟨⟨grownBy_trans hJ.grown hg',fun h => by simp [setB] at h, ?_, ?_, ?_⟩, ?_, ?_⟩
       ·have h8:=hJ.c8; have h9:=hJ.c9; simp [setB]; intro h; exact h8 h
       ·have h9:=hJ.c9; simp [setB]; intro h; exact h9 h
       ·simp [setB]; exact hL9
       ·intro j hj _ v hv _
        match j,hj,hv with
        | 0,_,h | 1,_,h | 2,_,h | 3,_,h | 4,_,h | 5,_,h | 6,_,h | 7,_,h => exact h
        | 8,_,⟨R,h1,h2,h3,h4⟩ => exact ⟨R,h1,h2,h3,h4.keep (hg'.block R h4.lt (h4.ne hown10 (by decide)))⟩
        | 9,_,⟨B,R,h1,h2,h3,h4,h5,h6⟩ => exact ⟨B,R,h1,h2,by rw [World.cell?_of_block (hg'.block B (World.block_lt_of_cell? W _ h3) (by simp [Value.ownBlock]; omega))]; exact h3,h4,h5,h6.keep (hg'.block R h6.lt (h6.ne hown10 (by decide)))⟩
        | 10,hj,_ => exact absurd rfl hj
        | _ + 11,_,_ => trivial
       ·exact ⟨R',hform,hown',hR1,hR2,hR3.keep (hg'.block R' hR3.lt (hR3.ne hown10 (by decide)))⟩
     ·intro W' hJ
      simp only [List.take_succ_cons,List.take_zero,List.drop_succ_cons,List.drop_zero,EndAll,phiB];rintro _ rfl _ rfl _ rfl _ rfl _ rfl _ rfl _ rfl _ rfl v8 _ v9 _ v10 ⟨R',⟨g',cap',rfl⟩,hown',hR1,hR2,hR3⟩;have hg:=hJ.grown;have hPW : W'.heap[N]? = _:=(hg.block N hNz (by simp; omega)).trans HP.out
      have q0 : W'.cell? ⟨N,2,none⟩ = some (.slice (some ⟨g2,0,none⟩) (k + 1) cap2):=by rw [cell_of_heap hPW]; rfl
      have q1 : W'.frozen? ⟨N,2,none⟩ = false:=frozen_of_heap hPW;have hbd' : W'.ownsRow (N + 1) 229 1 vb bs.length (ints bs):=HBD.out.kept hg (by
       rcases hv : vb.ownBlock with _ | q
       ·exact .inl rfl
       ·right
        intro e
        simp only [Option.some.injEq] at e;subst e;rcases hown.2 with ⟨h,_⟩ | ⟨g3,c3,cur3,h3,_,hh3,_⟩
        ·cases h
        ·simp only [Value.slice.injEq,Option.some.injEq,Addr.mk.injEq] at h3
         obtain ⟨⟨rfl,_⟩,_⟩ := h3;exact owns_ne HBD.out hh3 (by decide) hv.symm)
      have hB' : Below N w W':=hB.grown hg (by omega) (fun q hq => by simp only [Option.some.injEq] at hq; omega)
      have hI : NB2 g bs m N w (k + 1) vb (.slice (some ⟨g',0,none⟩) (k + 1 + 1) cap') (Rs ++ [R']) (W'.setCell ⟨N,2,none⟩ (.slice (some ⟨g',0,none⟩) (k + 1 + 1) cap')):=by
       refine ⟨hB'.setCell (p:=⟨N,2,none⟩) (Nat.le_refl _) _,by rw [heap_setCell_at hPW]; rfl,stepped hbd' (owns_ne hbd' hPW (by decide)) _, ?_,by simp [hlen], ?_⟩
       ·rw [List.map_append]
        exact stepped hown' (p:=⟨N,2,none⟩) (owns_ne hown' hPW (by decide)) _
       ·intro i h
        by_cases hi : i < Rs.length
        ·rw [List.getElem_append_left hi]
         have h1:=HRW.out i hi;refine ⟨h1.1,h1.2.keep ?_⟩
         rw [Below.heap_setCell _ _ _ _ (by simp; omega)]
         exact hg.block _ h1.2.lt (h1.2.ne hown (by decide))
        ·have hi' : i = Rs.length:=by simp at h; omega
         subst hi';rw [List.getElem_append_right (Nat.le_refl _)];simp only [Nat.sub_self,List.getElem_cons_zero];rw [hlen];exact ⟨hR1,hR3.keep (Below.heap_setCell _ _ _ _ (by simp; omega))⟩
      have HI:=Lib.hid hI;clear hI hB' hbd' hPW hJ hg hown' hR3;simp only [Act.put,List.setIfInBounds_toArray,List.set_cons_succ,List.set_cons_zero];go_wp2;go_roundw
      case rel => exact ⟨k + 1,.slice (some ⟨g',0,none⟩) (k + 1 + 1) cap',_,by omega,by go_num,HI.out⟩
      case measure => simp [intOf]; omega
    ·obtain rfl : k = d:=by omega
     go_wp2
     go_ret
     have HNo:=HN.out;refine ⟨N,rfl,HNo ▸ hB,⟨by omega,hNz⟩,vb,.slice (some ⟨g2,0,none⟩) (k + 1) cap2,Rs.map (rowV m), ?_, ?_, ?_, ?_, ?_, ?_, ?_⟩
     ·rw [cell_of_heap hP]; rfl
     ·rw [cell_of_heap hP]; rfl
     ·rw [cell_of_heap hP]; rfl
     ·exact (Sl.of_owns hbeds).lt.mono fun q hq => ⟨by omega,hq.2⟩
     ·exact (Sl.of_owns hown).lt.mono fun q hq => ⟨by omega,hq.2⟩
     ·simp [hlen]
     ·intro i h
      have hi : i < Rs.length:=by simp at h; omega
      have h1:=hrows i hi;refine ⟨rowV m Rs[i],by simp [hi], ?_⟩
      have h2:=(h1.2.sl (by unfold maxLen; omega)).lt
      have hlist : (List.range (m + 1)).map (fun s => (cntRow g bs m i).getD s 0) = (cnts g bs k m)[i]:=by
       simp only [cnts,List.getElem_map,List.getElem_range];refine List.ext_getElem (by simp [cntRow_length]) fun j h1 h2 => ?_
       simp [List.getD_eq_getElem?_getD,h2]
      rw [← hlist];exact h2.mono fun q hq => ⟨by have:=hq.1; omega,hq.2⟩
open Go.RowKit Go.Oche Go.Oche.O2 Go.Proofs

def scoreErr (bs : List Int) (g d s : Int) : Int:=if rulesOk bs g d then (if isIn s 1 1001 then 0 else 3) else 2
set_option maxRecDepth 100000 in
theorem rulesOk_spec {bs : List Int} {g d : Int} (h : rulesOk bs g d = true) : bedsOk bs = true ∧ gateOk g = true ∧ 1 ≤ d ∧ d ≤ 9:=by
 simp only [rulesOk,Bool.and_eq_true,isIn,decide_eq_true_eq] at h;exact ⟨h.1.1,h.1.2,h.2.1,h.2.2⟩

theorem check_r {S : Nat → Prop} (bs : List Int) (g d : Int) (r : Bool) (hr : Hid (rulesOk bs g d = r)) (v : Value) (w : World) (hs : Sl S w v (ints bs)) (hi : ∀ b ∈ bs,I64 b) :
  Calls Tryz.prog 99 #[.agg #[v,.int .i64 g,.int .i64 d]] w fun e w' => e = .returned (.int .i64 (chkN r)) ∧ Below w.heap.size w w':=by rw [← hr.out]; exact check_any bs g d v w hs hi

set_option maxRecDepth 100000 in
set_option maxRecDepth 100000 in
set_option maxHeartbeats 1000000 in
theorem newFinish_bad {S : Nat → Prop} (bs : List Int) (g d s : Int) (v : Value) (w : World) (hs : Sl S w v (ints bs)) (hi : ∀ b ∈ bs,I64 b) (herr : scoreErr bs g d s ≠ 0) :
  Calls Tryz.prog 62 #[.agg #[v,.int .i64 g,.int .i64 d],.int .i64 s] w fun e w' => e = .returned (.tuple #[.agg #[.pointer none,.slice none 0 0,.int .i64 0,.int .i64 0,.int .i64 0],.int .i64 (scoreErr bs g d s)]) ∧ Below w.heap.size w w':=by
 obtain ⟨a,cap,rfl,_,_⟩ := hs.form;simp only [ints_length] at *;obtain ⟨w0,hw0⟩ : ∃ w0,w0 = (w.alloc (.cells #[.slice a bs.length cap,.int .i64 g,.int .i64 d] 120)).alloc (.cells #[.pointer none,.slice none 0 0,.int .i64 0,.int .i64 0,.int .i64 0] 162):=⟨_,rfl⟩;have hb0 : Below w.heap.size w w0:=by rw [hw0]; exact ((Below.refl _ _).alloc (Nat.le_refl _) _).alloc (by simp) _
 have hz0 : w0.heap.size = w.heap.size + 2:=by rw [hw0]; simp
 have h4 : w0.heap[w.heap.size + 1]? = some (.cells #[.pointer none,.slice none 0 0,.int .i64 0,.int .i64 0,.int .i64 0] 162 (0,0)):=by
  rw [hw0]; have:=World.alloc_heap_new (w.alloc (.cells #[.slice a bs.length cap,.int .i64 g,.int .i64 d] 120)) (.cells #[.pointer none,.slice none 0 0,.int .i64 0,.int .i64 0,.int .i64 0] 162); rw [World.size_alloc] at this; exact this
 have HS:=Lib.hid (hs.below hb0);have HI:=Lib.hid hi;have HW:=Lib.hid hw0;have H4:=Lib.hid h4;have HZ:=Lib.hid hz0;clear hs hi hw0 h4 hz0;cases hr : rulesOk bs g d
 ·have HR:=Lib.hid hr
  have HE : Hid (scoreErr bs g d s = 2):=by unfold scoreErr; rw [hr]; exact rfl
  clear hr herr
  go_enter Tryz.func62,Tryz.ntmps62
  go_wp2_with fail;rw [← HW.out];refine (check_r bs g d _ HR _ _ HS.out HI.out).mono ?_
  rintro e w1 ⟨rfl,hb1⟩;have hz:=HZ.out;have hB1:=(hb1.block (w.heap.size + 1) (by omega)).trans H4.out
  have q0 : w1.cell? ⟨w.heap.size + 1,0,none⟩ = some (.pointer none):=by rw [cell_of_heap hB1]; rfl
  have q1 : w1.cell? ⟨w.heap.size + 1,1,none⟩ = some (.slice none 0 0):=by rw [cell_of_heap hB1]; rfl
  have q2 : w1.cell? ⟨w.heap.size + 1,2,none⟩ = some (.int .i64 0):=by rw [cell_of_heap hB1]; rfl
  have q3 : w1.cell? ⟨w.heap.size + 1,3,none⟩ = some (.int .i64 0):=by rw [cell_of_heap hB1]; rfl
  have q4 : w1.cell? ⟨w.heap.size + 1,4,none⟩ = some (.int .i64 0):=by rw [cell_of_heap hB1]; rfl
  have f0 : ∀ o,w1.frozen? ⟨w.heap.size + 1,o,none⟩ = false:=fun o => frozen_of_heap hB1
  have hcn : chkN false = 2:=rfl;clear hB1 hz;rw [hcn];clear hcn;go_wp2;refine bodyPost_ret (v:=.tuple #[.agg #[.pointer none,.slice none 0 0,.int .i64 0,.int .i64 0,.int .i64 0],.int .i64 2]) (by simp [results,Tryz.results62,go_sem,q0,q1,q2,q3,q4]) rfl ⟨by rw [HE.out], ?_⟩
  iterate 5 refine Below.setCell ?_ (by simp) _
  exact hb0.trans (hb1.mono hb0.size)
 ·have HR:=Lib.hid hr
  cases hin : isIn s 1 1001
  case true => exact absurd (by simp [scoreErr,hr,hin]) herr
  have HE : Hid (scoreErr bs g d s = 3):=by unfold scoreErr; rw [hr,hin]; exact rfl
  have HIN:=Lib.hid hin;clear hr herr hin
  go_enter Tryz.func62,Tryz.ntmps62
  go_wp2_with fail;rw [← HW.out];refine (check_r bs g d _ HR _ _ HS.out HI.out).mono ?_
  rintro e w1 ⟨rfl,hb1⟩;have hcn : chkN true = 0:=rfl;rw [hcn];clear hcn;go_wp2_with fail;refine (within_one' (S:=fun _ => True) 1 1001 s _ HIN _ _ (Sl.new1 _ _ trivial _ _)).mono ?_
  rintro e w2 ⟨rfl,hb2⟩;have hz:=HZ.out;have hb12 : Below w1.heap.size w1 w2:=(aB _ _).trans (hb2.mono (by simp))
  have hB1:=(hb12.block (w.heap.size + 1) (by have:=hb1.size; omega)).trans ((hb1.block (w.heap.size + 1) (by omega)).trans H4.out)
  have q0 : w2.cell? ⟨w.heap.size + 1,0,none⟩ = some (.pointer none):=by rw [cell_of_heap hB1]; rfl
  have q1 : w2.cell? ⟨w.heap.size + 1,1,none⟩ = some (.slice none 0 0):=by rw [cell_of_heap hB1]; rfl
  have q2 : w2.cell? ⟨w.heap.size + 1,2,none⟩ = some (.int .i64 0):=by rw [cell_of_heap hB1]; rfl
  have q3 : w2.cell? ⟨w.heap.size + 1,3,none⟩ = some (.int .i64 0):=by rw [cell_of_heap hB1]; rfl
  have q4 : w2.cell? ⟨w.heap.size + 1,4,none⟩ = some (.int .i64 0):=by rw [cell_of_heap hB1]; rfl
  have f0 : ∀ o,w2.frozen? ⟨w.heap.size + 1,o,none⟩ = false:=fun o => frozen_of_heap hB1
  have hsz1:=hb1.size;clear hB1 hz;go_wp2;refine bodyPost_ret (v:=.tuple #[.agg #[.pointer none,.slice none 0 0,.int .i64 0,.int .i64 0,.int .i64 0],.int .i64 3]) (by simp [results,Tryz.results62,go_sem,q0,q1,q2,q3,q4]) rfl ⟨by rw [HE.out], ?_⟩
  iterate 5 refine Below.setCell ?_ (by simp) _
  have hzz:=HZ.out;exact (hb0.trans (hb1.mono hb0.size)).trans (hb12.mono (by omega))

def phiF (B : Nat) (v : Value) (g d s : Int) (bs : List Int) (Cs : List (List Int)) (S' : Nat → Prop) : Nat → Value → World → Prop
 | 0,x,_ => x = .pointer (some ⟨B,0,none⟩)
 | 1,x,_ => x = v
 | 2,x,_ => x = .pointer (some ⟨B,1,none⟩)
 | 3,x,_ => x = .int .i64 g
 | 4,x,_ => x = .pointer (some ⟨B,2,none⟩)
 | 5,x,_ => x = .int .i64 d
 | 6,x,_ | 9,x,_ => x = .int .i64 s
 | 7,x,W => ∃ P,x = .pointer (some ⟨P,0,none⟩) ∧ Board (fun k => S' k ∧ k < W.heap.size) W P bs g Cs
 | 8,x,_ => x = .agg #[v,.int .i64 g,.int .i64 d]
 | 10,x,W => ∃ P,x = .agg #[.pointer (some ⟨P,0,none⟩),v,.int .i64 g,.int .i64 d,.int .i64 s] ∧ Board (fun k => S' k ∧ k < W.heap.size) W P bs g Cs
 | _,_,_ => True
theorem phiF_below {B : Nat} {v : Value} {g d s : Int} {bs : List Int} {Cs : List (List Int)} {S' : Nat → Prop} : ∀ (j : Nat) (x : Value) (W W' : World),Below W.heap.size W W' → phiF B v g d s bs Cs S' j x W → phiF B v g d s bs Cs S' j x W'
 | 0,_,_,_,_,h | 1,_,_,_,_,h | 2,_,_,_,_,h | 3,_,_,_,_,h | 4,_,_,_,_,h | 5,_,_,_,_,h | 6,_,_,_,_,h | 9,_,_,_,_,h | 8,_,_,_,_,h => h
 | 7,_,_,_,hb,⟨P,h1,h2⟩ => ⟨P,h1,(h2.below hb).mono fun _k hk => ⟨hk.1,Nat.lt_of_lt_of_le hk.2 hb.size⟩⟩
 | 10,_,_,_,hb,⟨P,h1,h2⟩ => ⟨P,h1,(h2.below hb).mono fun _k hk => ⟨hk.1,Nat.lt_of_lt_of_le hk.2 hb.size⟩⟩
 | _ + 11,_,_,_,_,_ => trivial

set_option maxRecDepth 100000 in
set_option maxRecDepth 100000 in
set_option maxHeartbeats 1000000 in
theorem newFinish_ok {S : Nat → Prop} (bs : List Int) (g : Int) (d s : Nat) (v : Value) (w : World) (hs : Sl S w v (ints bs)) (hi : ∀ b ∈ bs,I64 b) (hr : rulesOk bs g d = true) (h1 : 1 ≤ s) (h2 : s ≤ 1001) :
  Calls Tryz.prog 62 #[.agg #[v,.int .i64 g,.int .i64 d],.int .i64 s] w fun e w' => ∃ P,e = .returned (.tuple #[.agg #[.pointer (some ⟨P,0,none⟩),v,.int .i64 g,.int .i64 d,.int .i64 s],.int .i64 0]) ∧ Below w.heap.size w w' ∧
   Board (fun k => w.heap.size ≤ k ∧ k < w'.heap.size) w' P bs g (cnts g bs d s):=by
 obtain ⟨a,cap,rfl,_,_⟩ := hs.form;simp only [ints_length] at *;obtain ⟨w0,hw0⟩ : ∃ w0,w0 = (w.alloc (.cells #[.slice a bs.length cap,.int .i64 g,.int .i64 d] 120)).alloc (.cells #[.pointer none,.slice none 0 0,.int .i64 0,.int .i64 0,.int .i64 0] 162):=⟨_,rfl⟩;have hb0 : Below w.heap.size w w0:=by rw [hw0]; exact ((Below.refl _ _).alloc (Nat.le_refl _) _).alloc (by simp) _
 have hz0 : w0.heap.size = w.heap.size + 2:=by rw [hw0]; simp
 have h2' : w0.heap[w.heap.size]? = some (.cells #[.slice a bs.length cap,.int .i64 g,.int .i64 d] 120 (0,0)):=by
  rw [hw0]; exact (Below.heap_alloc _ _ _ (by simp)).trans (World.alloc_heap_new _ _)
 have h4 : w0.heap[w.heap.size + 1]? = some (.cells #[.pointer none,.slice none 0 0,.int .i64 0,.int .i64 0,.int .i64 0] 162 (0,0)):=by
  rw [hw0]; have:=World.alloc_heap_new (w.alloc (.cells #[.slice a bs.length cap,.int .i64 g,.int .i64 d] 120)) (.cells #[.pointer none,.slice none 0 0,.int .i64 0,.int .i64 0,.int .i64 0] 162); rw [World.size_alloc] at this; exact this
 have hrs:=rulesOk_spec hr;have hbsp:=bedsOk_spec hrs.1;have hin : isIn (s : Int) 1 1001 = true:=by simp [isIn]; omega
 have HS:=Lib.hid (hs.below hb0);have HI:=Lib.hid hi;have HW:=Lib.hid hw0;have H4:=Lib.hid h4;have H2:=Lib.hid h2';have HZ:=Lib.hid hz0;have HR:=Lib.hid hr;have HIN:=Lib.hid hin;have HBS:=Lib.hid hbsp;have hd1:=hrs.2.2.1;have hd2:=hrs.2.2.2;clear hs hi hw0 h4 hz0 hr hin hrs hbsp h2'
 go_enter Tryz.func62,Tryz.ntmps62
 go_wp2_with fail;rw [← HW.out];refine (check_r bs g d _ HR _ _ HS.out HI.out).mono ?_
 rintro e w1 ⟨rfl,hb1⟩;have hcn : chkN true = 0:=rfl;rw [hcn];clear hcn;go_wp2_with fail;refine (within_one' (S:=fun _ => True) 1 1001 s _ HIN _ _ (Sl.new1 _ _ trivial _ _)).mono ?_
 rintro e w2 ⟨rfl,hb2⟩;have hb12 : Below w1.heap.size w1 w2:=(aB _ _).trans (hb2.mono (by simp))
 have hz:=HZ.out;have hzl : w.heap.size + 2 ≤ w0.heap.size:=by omega
 have hz1:=hb1.size;have hz2:=hb12.size;have hB2:=(hb12.block w.heap.size (by omega)).trans ((hb1.block w.heap.size (by omega)).trans H2.out)
 have hB4:=(hb12.block (w.heap.size + 1) (by omega)).trans ((hb1.block (w.heap.size + 1) (by omega)).trans H4.out)
 have HS2:=Lib.hid ((HS.out.below hb1).below hb12);have hbw : Below w.heap.size w w2:=(hb0.trans (hb1.mono hb0.size)).trans (hb12.mono (by omega))
 have HB2:=Lib.hid hB2;have HB4:=Lib.hid hB4;clear hB2 hB4 hz hb12 hb1 hb2;go_wp2_with fail;refine wp_region_free 11 (phiF w.heap.size (.slice a bs.length cap) g d s bs (cnts g bs d s) (fun k => w2.heap.size ≤ k)) mix (by kernel_rfl) phiF_below ?_ ?_
 ·refine ⟨?_, ?_, ?_, ?_, ?_, ?_, ?_, ?_, ?_, ?_, ?_,trivial⟩
  all_goals
   refine vc_plain _ _ _ _ _ rfl fun A W hb hp ht => ?_
   simp [Region.binds,phiF] at hp
   have t1:=ht 1 rfl;have t2:=ht 2 rfl;simp at t1 t2;have hBW : W.heap[w.heap.size]? = _:=(hb.block w.heap.size (by simp; omega)).trans HB2.out
   have e0 : W.cell? ⟨w.heap.size,0,none⟩ = some (.slice a bs.length cap):=by rw [cell_of_heap hBW]; rfl
   have e1 : W.cell? ⟨w.heap.size,1,none⟩ = some (.int .i64 g):=by rw [cell_of_heap hBW]; rfl
   have e2 : W.cell? ⟨w.heap.size,2,none⟩ = some (.int .i64 d):=by rw [cell_of_heap hBW]; rfl
   clear hBW
  iterate 7
   (·simp [opOK,go_sem,hp,t1,t2,e0,e1,e2,phiF,Below.refl])
  ·refine opOK_call (f:=101) (args:=#[.slice a bs.length cap,.int .i64 g,.int .i64 d,.int .i64 s]) (by simp [go_sem,hp]) ?_
   refine (newBoard_any bs g d s _ W ((show Sl S w2.drew _ _ from HS2.out).below hb) HBS.out.1 HBS.out.2.2.2 (by omega) h2).mono ?_
   rintro e W' ⟨P,rfl,hbb,hBd⟩;have hsz:=hb.size;simp at hsz;exact ⟨_,rfl,hbb,P,rfl,hBd.mono fun k hk => ⟨by have:=hk.1; omega,hk.2⟩⟩
  ·simp [opOK,go_sem,t2,e0,e1,e2,phiF,Below.refl]
  ·simp [opOK,go_sem,t1,phiF,Below.refl]
  ·obtain ⟨⟨x,⟨P,rfl,hBd⟩,h24⟩,hrest⟩ := hp
   simp [opOK,go_sem,h24,hrest,phiF,Below.refl]
   exact hBd
 ·intro W hb
  simp only [List.take_succ_cons,List.take_zero,List.drop_succ_cons,List.drop_zero,EndAll,phiF];rintro _ rfl _ rfl _ rfl _ rfl _ rfl _ rfl _ rfl x7 _ _ rfl _ rfl x10 ⟨P,rfl,hBd⟩;have hBW : W.heap[w.heap.size + 1]? = _:=(hb.block (w.heap.size + 1) (by omega)).trans HB4.out
  have q0 : W.cell? ⟨w.heap.size + 1,0,none⟩ = some (.pointer none):=by rw [cell_of_heap hBW]; rfl
  have q1 : W.cell? ⟨w.heap.size + 1,1,none⟩ = some (.slice none 0 0):=by rw [cell_of_heap hBW]; rfl
  have q2 : W.cell? ⟨w.heap.size + 1,2,none⟩ = some (.int .i64 0):=by rw [cell_of_heap hBW]; rfl
  have q3 : W.cell? ⟨w.heap.size + 1,3,none⟩ = some (.int .i64 0):=by rw [cell_of_heap hBW]; rfl
  have q4 : W.cell? ⟨w.heap.size + 1,4,none⟩ = some (.int .i64 0):=by rw [cell_of_heap hBW]; rfl
  have f0 : ∀ o,W.frozen? ⟨w.heap.size + 1,o,none⟩ = false:=fun o => frozen_of_heap hBW
  have hbW : Below w.heap.size w W:=hbw.trans (hb.mono hbw.size);have HBd:=Lib.hid hBd;clear hBW hBd;simp only [Act.put,List.setIfInBounds_toArray,List.set_cons_succ,List.set_cons_zero];go_wp2;refine bodyPost_ret (v:=.tuple #[.agg #[.pointer (some ⟨P,0,none⟩),.slice a bs.length cap,.int .i64 g,.int .i64 d,.int .i64 s],.int .i64 0]) (by simp [results,Tryz.results62,go_sem,q0,q1,q2,q3,q4]) rfl ⟨P,rfl, ?_, ?_⟩
  ·iterate 5 refine Below.setCell ?_ (by simp) _
   exact hbW
  ·have hO : ∀ k,(k = w.heap.size + 1) → k < W.heap.size:=fun k hk => by have:=hb.size; omega
   refine (HBd.out.rel (O:=fun k => k = w.heap.size + 1) (O':=fun k => k = w.heap.size + 1) ?_ (fun k hk => by have:=hk.1; omega)).mono fun k hk => ⟨by have:=hk.1; omega,by have:=hk.2; simpa using this⟩
   iterate 5 refine Rel.setCell (O':=fun k => k = w.heap.size + 1) ?_ (p:=⟨w.heap.size + 1,_,none⟩) rfl _
   exact Rel.refl hO
open Go.RowKit Go.Oche Go.Oche.O2 Go.Proofs

def numOf (bs : List Int) (g d s : Int) : Int:=if scoreErr bs g d s = 0 then colSum (cnts g bs d.toNat s.toNat) s.toNat d.toNat else 0
theorem scoreErr_zero {bs : List Int} {g d s : Int} (h : scoreErr bs g d s = 0) : rulesOk bs g d = true ∧ 1 ≤ s ∧ s ≤ 1001:=by
 unfold scoreErr at h;split at h
 ·rename_i h1
  split at h
  ·rename_i h2; simp [isIn] at h2; exact ⟨h1,h2.1,h2.2⟩
  ·cases h
 ·cases h

set_option maxRecDepth 100000 in
theorem cnts_mem {g : Int} {bs : List Int} {d m : Nat} (hb : bs.length ≤ 82) (hd : d ≤ 9) : ∀ r ∈ cnts g bs d m,r.length = m + 1 ∧ ∀ c ∈ r,0 ≤ c ∧ c ≤ 167619550409708032:=by
 intro r hr
 simp only [cnts,List.mem_map,List.mem_range] at hr;obtain ⟨k,hk,rfl⟩ := hr;refine ⟨cntRow_length _ _ _ _,fun c hc => ?_⟩
 have h:=cntRow_bd g hb m k c hc;have : ∀ j : Fin 10,(82 : Int) ^ (j : Nat) ≤ 167619550409708032:=by decide
 exact ⟨h.1,Int.le_trans h.2 (this ⟨k,by omega⟩)⟩

theorem total_cnts {S : Nat → Prop} (p : Nat) (bs : List Int) (g : Int) (d m s : Nat) (w : World) (hB : Board S w p bs g (cnts g bs d m)) (hb : bs.length ≤ 82) (h1 : 1 ≤ d) (h9 : d ≤ 9) (hs : s ≤ m) :
  Calls Tryz.prog 63 #[.pointer (some ⟨p,0,none⟩),.int .i64 s] w fun e w' => e = .returned (.int .i64 (colSum (cnts g bs d m) s d)) ∧ w = w':=by
 have:=total_any p bs g (cnts g bs d m) s 167619550409708032 w hB (by simp; omega) (by simp; omega) (fun r hr => by rw [(cnts_mem hb h9 r hr).1]; omega) (by decide) (by decide) (fun r hr => (cnts_mem hb h9 r hr).2)
 simpa using this

def mostErr (bs : List Int) (g d m : Int) : Int:=if rulesOk bs g d then (if isIn m 0 1001 then 0 else 3) else 2
open Go.RowKit Go.Oche Go.Oche.O2 Go.Proofs

def bogL (bs : List Int) (g d m : Int) : List Int:=if mostErr bs g d m = 0 then bogTo (cnts g bs d.toNat m.toNat) d.toNat m.toNat else []

set_option maxRecDepth 100000 in
theorem Board.grown {S : Nat → Prop} {W W' : World} {p : Nat} {bs : List Int} {g : Int} {Cs : List (List Int)} {row : Option Nat} (h : Board S W p bs g Cs) (hg : W.grownBy W' row) (hS : ∀ k,S k → some k ≠ row) : Board S W' p bs g Cs :=
 h.cells fun b o s hs => by
  obtain ⟨x,hx⟩ := Option.isSome_iff_exists.1 hs;exact World.cell?_of_block (hg.block b (World.block_lt_of_cell? W _ hx) (hS b s))

open Go.RowKit Go.Oche Go.Oche.O2 Go.Proofs

set_option maxRecDepth 100000 in
theorem info61 : (Tryz.prog.info? 47).map (fun i => (i.zero,i.size,i.bytes)) = some (some (.int .i64 0),1,8):=by kernel_rfl
theorem addr_add (b o j : Nat) : (⟨b,o,none⟩ : Addr).add j = ⟨b,o + j,none⟩ := by unfold Addr.add; split <;> simp_all
open Go.RowKit Go.Oche Go.Oche.O2 Go.Proofs

def forcedErr (bs : List Int) (g d s : Int) : Int:=if scoreErr bs g d s = 0 then (if numOf bs g d s = 0 then 7 else 0) else scoreErr bs g d s
def forcedL (bs : List Int) (g d s : Int) : List Int:=if forcedErr bs g d s = 0 then forcedTo g bs d.toNat s.toNat bs.length else []

open Go.RowKit Go.Oche Go.Oche.O2 Go.Proofs

def legsErr (bs : List Int) (st gi go d : Int) : Int:=if (isIn st 2 1001 && gateOk gi && gateOk go && bedsOk bs) then (if isIn d 1 9 then 0 else 3) else 2
def legsNum (bs : List Int) (st gi go d : Int) : Int:=if legsErr bs st gi go d = 0 then psumIf (cntRow go bs st.toNat (d.toNat - 1)) gi (throwsL go st bs) else 0

open Go.RowKit Go.Oche Go.Oche.O2 Go.Proofs
attribute [local go_sem] Oper.semAt_some

open Go.RowKit Go.Oche Go.Oche.O2 Go.Proofs
attribute [local go_sem] Oper.semAt_some

def closedErr (bs : List Int) (g d : Int) (n : Nat) : Int:=if rulesOk bs g d then (if n ≤ 1002 then 0 else 5) else 2
def closedRes (bs : List Int) (g d : Int) (nv : List Bool) : Bool:=closedErr bs g d nv.length == 0 && closedB g bs nv

def PreOk (x : Bool) (nv : List Bool) (pre : List (Int × Int)) : Prop:=x = true → ∀ t ∈ pre,nv.getD t.2.toNat false = true
open Go.RowKit Go.Oche Go.Oche.O2 Go.Proofs

end Go.Proofs.YtnbmgkmcaoafnaaGreatDoor.O2

/- Chapter 2: Fewest. -/
namespace Go.Oche.O2
open Go Go.RowKit Go.Oche
theorem owns_keep {W W' : World} {base n : Nat} {e : TypeId} {v : Value} {xs : List Value} (h : W.ownsRow base e 1 v n xs) (hk : ∀ g,v.ownBlock = some g → W'.heap[g]? = W.heap[g]?) (_hs : W.heap.size ≤ W'.heap.size) : W'.ownsRow base e 1 v n xs:=by
 refine ⟨h.1, ?_⟩
 rcases h.2 with h | ⟨g,cap,cur,rfl,h1,h2,h3⟩
 ·exact .inl h
 ·exact .inr ⟨g,cap,cur,rfl,h1,by rw [hk g (by simp [Value.ownBlock])]; exact h2,h3⟩
end Go.Oche.O2
namespace Go.Proofs.YtnbmgkmcaoafnaaGreatDoor.O2
open Go.RowKit Go.Oche Go.Oche.O2 Go.Proofs
attribute [local go_sem] Oper.semAt_some

def bestStep (f : List Int) (b : Int) (t : Int × Int) : Int:=if f.getD t.2.toNat 0 ≠ -1 ∧ (b = -1 ∨ f.getD t.2.toNat 0 + 1 < b) then f.getD t.2.toNat 0 + 1 else b
def bestOf (f : List Int) (pre : List (Int × Int)) : Int:=pre.foldl (bestStep f) (-1)
def fewTo (g : Int) (bs : List Int) : Nat → List Int
 | 0 => [0]
 | s + 1 => fewTo g bs s ++ [bestOf (fewTo g bs s) (throwsL g ((s : Int) + 1) bs)]
def fewL (bs : List Int) (g d m : Int) : List Int:=if mostErr bs g d m = 0 then fewTo g bs m.toNat else []
structure FI (g : Int) (bs : List Int) (S : Nat → Prop) (B P N : Nat) (w : World) (k : Nat) (Ds : List Nat) (lv : Value) (W : World) : Prop where
 below : Below N w W
 size : B ≤ W.heap.size
 marks : Marks B W Ds
 box : W.heap[N + 1]? = some (.cells #[lv] 33 (0,0))
 own : W.ownsRow B 3 1 lv (k + 1) (ints (fewTo g bs k))
 board : Board S W P bs g (cnts g bs 0 0)
open Go.RowKit Go.Oche Go.Oche.O2 Go.Proofs

open Go.RowKit Go.Oche Go.Oche.O2 Go.Proofs

def PathAt (S : Nat → Prop) (W : World) (v : Value) (xs : List Int) : Prop:=(xs = [] ∧ v = .slice none 0 0) ∨ (xs ≠ [] ∧ Sl S W v (ints xs))
theorem PathAt.cells {S : Nat → Prop} {W W' : World} {v : Value} {xs : List Int} (h : PathAt S W v xs) (hc : ∀ b o,S b → (W.cell? ⟨b,o,none⟩).isSome → W'.cell? ⟨b,o,none⟩ = W.cell? ⟨b,o,none⟩) : PathAt S W' v xs:=by
 rcases h with h | ⟨h1,h2⟩
 ·exact .inl h
 ·exact .inr ⟨h1,h2.cells hc⟩
theorem PathAt.below {S : Nat → Prop} {W W' : World} {v : Value} {xs : List Int} (h : PathAt S W v xs) (hb : Below W.heap.size W W') : PathAt S W' v xs :=
 h.cells fun b o _ hs => by obtain ⟨x,hx⟩ := Option.isSome_iff_exists.1 hs; rw [hx]; exact bAt hb hx
set_option maxRecDepth 100000 in
theorem PathAt.rel {S O O' : Nat → Prop} {W W' : World} {v : Value} {xs : List Int} (h : PathAt S W v xs) (hr : Rel O W O' W') (hS : ∀ k,S k → ¬ O k) : PathAt S W' v xs :=
 h.cells fun b o s hs => by obtain ⟨x,hx⟩ := Option.isSome_iff_exists.1 hs; rw [hx]; exact rAt hr hx (hS b s)
theorem PathAt.mono {S S' : Nat → Prop} {W : World} {v : Value} {xs : List Int} (h : PathAt S W v xs) (hS : ∀ k,S k → S' k) : PathAt S' W v xs:=by
 rcases h with h | ⟨h1,h2⟩
 ·exact .inl h
 ·exact .inr ⟨h1,h2.mono hS⟩
theorem PathAt.sl {S : Nat → Prop} {W : World} {v : Value} {xs : List Int} (h : PathAt S W v xs) : Sl S W v (ints xs):=by
 rcases h with ⟨rfl,rfl⟩ | ⟨_,h⟩
 ·exact Sl.nil _ _
 ·exact h

def clipV : Value → Value
 | .slice a n _ => .slice a n n
 | v => v
theorem clip_any {S : Nat → Prop} (xs : List Int) (v : Value) (w : World) (h : PathAt S w v xs) : Calls Tryz.prog 142 #[v] w fun e w' => e = .returned (clipV v) ∧ w' = w:=by
 rcases h with ⟨rfl,rfl⟩ | ⟨hne,hs⟩
 ·go_enter Tryz.func142,Tryz.ntmps142
  go_wp2
  go_ret
  exact ⟨rfl,rfl⟩
 ·obtain ⟨a,cap,rfl,h2,h3,h4⟩ := hs
  have hlen : 0 < xs.length:=List.length_pos_iff.2 hne;obtain ⟨b,off,rfl,_,_⟩ := h4 0 _ (intsAt hlen);simp only [ints_length] at *;have k1 : (xs.length : Int) ≤ (cap : Int):=by omega
  clear h4 hne
  go_enter Tryz.func142,Tryz.ntmps142
  go_wp2
  all_goals go_goals
  go_ret
  exact ⟨rfl,rfl⟩

theorem owns_rows {base n : Nat} {e : TypeId} {w : World} {v : Value} {xs : List Value} (h : w.ownsRow base e 1 v n xs) : Sl (fun k => base ≤ k ∧ k < w.heap.size ∧ Row e w k) w v xs:=by
 obtain ⟨hl,h | ⟨g,cap,cur,rfl,hb,hg,hn,hm,hs,ht⟩⟩ := h
 ·obtain ⟨rfl,rfl⟩ := h
  have : xs = []:=List.eq_nil_of_length_eq_zero (by simpa using hl)
  subst this;exact Sl.nil _ _
 ·have hlt : g < w.heap.size:=(Array.getElem?_eq_some_iff.1 hg).1
  refine ⟨some ⟨g,0,none⟩,cap,by simp [hl],by omega,hm,fun i x hx => ⟨g,0,rfl,⟨hb,hlt,_,_,hg⟩, ?_⟩⟩
  have hi : i < xs.length:=(List.getElem?_eq_some_iff.1 hx).1
  simp only [World.cell?,hg,Nat.zero_add];rw [← ht,List.getElem?_take] at hx
  split at hx
  ·simpa using hx
  ·cases hx
def POK (N0 : Nat) (O : Nat → Prop) (W : World) (k : Nat) : Prop:=k < W.heap.size ∧ ¬ O k ∧ Row 47 W k ∧ N0 ≤ k
theorem append_clip {S : Nat → Prop} (xs : List Int) (v : Value) (w : World) (h : PathAt S w v xs) (hl : xs.length ≤ 1000) (x : Int) (b c : Nat) (hb : w.cell? ⟨b,0,none⟩ = some (.int .i64 x)) :
  ∃ v' w',(Builtin.append_ #[36,36] 36 #[clipV v,.slice (some ⟨b,0,none⟩) 1 c]).run Tryz.prog w = .ok v' w' ∧ Below w.heap.size w w' ∧ PathAt (fun k => w.heap.size ≤ k ∧ k < w'.heap.size ∧ Row 47 w' k) w' v' (xs ++ [x]):=by
 obtain ⟨i0,hi,hz0',hz1,hz2⟩ := info_parts info61;have hnews : ∀ j u,[Value.int .i64 x][j]? = some u → w.cell? ((⟨b,0,none⟩ : Addr).add j) = some u:=by
  intro j u hj
  match j,hj with
  | 0,hj => simp at hj; subst hj; simpa [Addr.add] using hb
  | j + 1,hj => simp at hj
 have fin : ∀ v' w',w'.ownsRow w.heap.size 47 1 v' (xs.length + 1) (ints xs ++ [.int .i64 x]) → w.grownBy w' none → Below w.heap.size w w' ∧ PathAt (fun k => w.heap.size ≤ k ∧ k < w'.heap.size ∧ Row 47 w' k) w' v' (xs ++ [x]):=by
  intro v' w' ho hg
  refine ⟨below_grownBy hg (Nat.le_refl _) (fun q hq => by cases hq),.inr ⟨by simp, ?_⟩⟩
  rw [ints_append];exact owns_rows ho
 rcases h with ⟨rfl,rfl⟩ | ⟨hne,hs⟩
 ·obtain ⟨v',w',hr,ho,hg, -⟩ := run_append_own (P:=Tryz.prog) w w.heap.size 36 36 47 i0 (.int .i64 0) 1 8 Tryz.underlying36 hi hz0' hz1 hz2 rfl (by decide) (.slice none 0 0) 0 [] (World.ownsRow_nil _ _ _ _) ⟨b,0,none⟩ 1 c [.int .i64 x] rfl hnews (fun u hu => by simp at hu; subst hu; rfl) (by unfold maxLen; omega) (by omega) (Nat.le_refl _)
  exact ⟨v',w',hr,fin v' w' ho hg⟩
 ·obtain ⟨a,cap,rfl,h2,h3,h4⟩ := hs
  have hlen : 0 < xs.length:=List.length_pos_iff.2 hne;obtain ⟨b1,off,rfl,_,_⟩ := h4 0 _ (intsAt hlen);simp only [ints_length] at *;have holds : ∀ j u,(ints xs)[j]? = some u → w.cell? ((⟨b1,off,none⟩ : Addr).add j) = some u:=by
   intro j u hj
   obtain ⟨b2,off2,e,_,hc⟩ := h4 j u hj;cases e;rw [addr_add]; exact hc
  obtain ⟨v',w',hr,ho,hg⟩ := run_append_arg_grows (P:=Tryz.prog) w 36 36 47 i0 (.int .i64 0) 1 8 Tryz.underlying36 hi hz0' hz1 hz2 rfl (by decide) ⟨b1,off,none⟩ xs.length xs.length (ints xs) (by simp) holds ⟨b,0,none⟩ 1 c [.int .i64 x] rfl hnews (by omega) (by unfold maxLen; omega) (by omega)
  exact ⟨v',w',hr,fin v' w' ho hg⟩

def cellN (Cs : List (List Int)) (n : Nat) (l : Int) : Int:=(Cs.getD n []).getD l.toNat 0
def waysL (g : Int) (bs : List Int) (Cs : List (List Int)) : Nat → Int → List (List Int)
 | 0,_ => [[]]
 | n + 1,s => (throwsL g s bs).flatMap fun t => if 0 < cellN Cs n t.2 then (waysL g bs Cs n t.2).map (t.1 :: ·) else []
end Go.Proofs.YtnbmgkmcaoafnaaGreatDoor.O2
