/- The texts HD, KF, HE, HF, in build order. -/
import Derived.Test.YtnbmgkmcaoafnaaGreatDoorZaj
import Derived.Laws.NewBlocks

/- Chapter 5: what a dart does. -/
namespace Go.Proofs.YtnbmgkmcaoafnaaGreatDoor
open Go.RowKit Go.Oche Go.Proofs

set_option maxRecDepth 100000 in
set_option maxHeartbeats 4000000 in
theorem dart_any {l : Lg} {F : Nat → Prop} {gb hb kb : Nat} (s : Std) (x : Ht) (hs : -1000000 ≤ s.left ∧ s.left ≤ 1000000) (hx : -1000000 ≤ x.score ∧ x.score ≤ 1000000) (w : World) (h : GameAt l F w gb hb kb) :
  Calls Tryz.prog 124 #[.pointer (some ⟨gb,0,none⟩),stV s,htV x] w fun e w' => e = .returned (.tuple #[enV (dart5 l s x).1,.bool (dart5 l s x).2]) ∧ Below w.heap.size w w':=by
 obtain ⟨sl,si⟩ := s;obtain ⟨sc,hi,ho⟩ := x;simp only at hs hx;obtain ⟨z,hz⟩ : ∃ z,(sc == 0) = z:=⟨_,rfl⟩;obtain ⟨r,hr⟩ : ∃ r,sl - sc = r:=⟨_,rfl⟩;obtain ⟨q,hq⟩ : ∃ q,(r == 0) = q:=⟨_,rfl⟩;obtain ⟨lw,hlw⟩ : ∃ b,low5 l.gout = b:=⟨_,rfl⟩;obtain ⟨lt,hlt⟩ : ∃ b,decide (r < lw) = b:=⟨_,rfl⟩;obtain ⟨en,hen⟩ : ∃ e,(dart5 l ⟨sl,si⟩ ⟨sc,hi,ho⟩).1 = e:=⟨_,rfl⟩;obtain ⟨go,hgo⟩ : ∃ e,(dart5 l ⟨sl,si⟩ ⟨sc,hi,ho⟩).2 = e:=⟨_,rfl⟩;have HD : Hid ((en,go) = if (si || hi) = false ∨ z = true then ((⟨sl,si || hi,false,false⟩ : En),true) else if q = true ∧ ho = true then (⟨0,true,false,true⟩,false) else if lt = true then (⟨0,false,true,false⟩,false) else (⟨r,true,false,false⟩,true)):=Lib.hid (by
  rw [← hen,← hgo,← hz,← hq,← hlt,← hlw,← hr];unfold dart5;simp only [beq_iff_eq,decide_eq_true_eq]
  repeat' split
  all_goals rfl)
 rw [hen,hgo];have hwr : IntKind.i64.wrap (sl - sc) = r:=by rw [IntKind.wrap_i64,← hr]; omega
 have g2:=h.cells.2.2.1;have hgl:=h.lt.1;have hgl1 : gb < w.heap.size + 1:=by omega
 have hgl2 : gb < w.heap.size + 1 + 1:=by omega
 have HLW:=Lib.hid hlw;clear hen hgo hlw h;unfold stV htV;obtain ⟨b,hb⟩ : ∃ b,(si || hi) = b:=⟨_,rfl⟩;rw [hb] at HD
 go_enter Tryz.func124,Tryz.ntmps124
 have fin : ∀ (a b : Int) (c d e f : Bool) (v : Array Value),Below w.heap.size w (((w.alloc (.cells #[.int .i64 a,.bool c] 106)).alloc (.cells #[.int .i64 b,.bool d,.bool e] 137)).alloc (.cells v 150)):=fun a b c d e f v => ((aB _ _).alloc (by simp) _).alloc (by simp; omega) _
 have FIN:=Lib.hid fin;clear fin;have key : b = false ∨ b = true:=by cases b <;> simp
 rcases key with rfl | rfl
 ·obtain ⟨rfl,rfl⟩ : si = false ∧ hi = false:=by cases si <;> cases hi <;> simp_all
  have e : (en,go) = ((⟨sl,false,false,false⟩ : En),true):=by rw [HD.out]; simp
  simp only [Prod.mk.injEq] at e;obtain ⟨rfl,rfl⟩ := e;go_wp2;go_returns;exact ⟨rfl,FIN.out _ _ _ _ _ true _⟩
 ·have hs2 : (si = false ∧ hi = true) ∨ si = true:=by cases si <;> simp_all
  clear hb;rcases hs2 with ⟨rfl,rfl⟩ | rfl
  all_goals
   cases z
   ·cases q
    ·go_wp2_with fail
     refine (lowest_any l.gout _).mono ?_
     rintro e w' ⟨rfl,rfl⟩;rw [HLW.out];cases lt
     ·have e : (en,go) = ((⟨r,true,false,false⟩ : En),true):=by rw [HD.out]; simp
      simp only [Prod.mk.injEq] at e;obtain ⟨rfl,rfl⟩ := e;go_wp2;go_returns;exact ⟨rfl,FIN.out _ _ _ _ _ true _⟩
     ·have e : (en,go) = ((⟨0,false,true,false⟩ : En),false):=by rw [HD.out]; simp
      simp only [Prod.mk.injEq] at e;obtain ⟨rfl,rfl⟩ := e;go_wp2;go_returns;exact ⟨rfl,FIN.out _ _ _ _ _ true _⟩
    ·cases ho
     ·go_wp2_with fail
      refine (lowest_any l.gout _).mono ?_
      rintro e w' ⟨rfl,rfl⟩;rw [HLW.out];cases lt
      ·have e : (en,go) = ((⟨r,true,false,false⟩ : En),true):=by rw [HD.out]; simp
       simp only [Prod.mk.injEq] at e;obtain ⟨rfl,rfl⟩ := e;go_wp2;go_returns;exact ⟨rfl,FIN.out _ _ _ _ _ true _⟩
      ·have e : (en,go) = ((⟨0,false,true,false⟩ : En),false):=by rw [HD.out]; simp
       simp only [Prod.mk.injEq] at e;obtain ⟨rfl,rfl⟩ := e;go_wp2;go_returns;exact ⟨rfl,FIN.out _ _ _ _ _ true _⟩
     ·have e : (en,go) = ((⟨0,true,false,true⟩ : En),false):=by rw [HD.out]; simp
      simp only [Prod.mk.injEq] at e;obtain ⟨rfl,rfl⟩ := e;go_wp2;go_returns;exact ⟨rfl,FIN.out _ _ _ _ _ true _⟩
   ·have e : (en,go) = ((⟨sl,true,false,false⟩ : En),true):=by rw [HD.out]; simp
    simp only [Prod.mk.injEq] at e;obtain ⟨rfl,rfl⟩ := e;go_wp2;go_returns;exact ⟨rfl,FIN.out _ _ _ _ _ true _⟩
open Go Go.RowKit Go.Oche Go.Proofs

theorem Chg.thenG {O : Nat → Prop} {W W' W'' : World} (h : Chg O W W') {o : Option Nat} (hg : W'.grownBy W'' o) (hO : ∀ x,o = some x → x < W.heap.size → O x) : Chg O W W'' :=
 ⟨hg.os.trans h.os,hg.tape.trans h.tape,hg.output.trans h.output,Nat.le_trans h.size hg.size,fun q hq ho => (hg.block q (Nat.lt_of_lt_of_le hq h.size) fun e => ho (hO q e.symm hq)).trans (h.block q hq ho)⟩
theorem Chg.thenB {O : Nat → Prop} {W W' W'' : World} (h : Chg O W W') (hb : Below W'.heap.size W' W'') : Chg O W W'':=h.trans (Chg.below hb)
structure FSt (l : Lg) (F : Nat → Prop) (w5 : World) (gb hb kb A r : Nat) (L : List (Ht × Value)) (ks : List Ht) (f : En → Option Sm) (wr : World) : Prop where
 seen : SeenD htV wr r hb L L ks
 ends : EndsAt wr A f
 game : GameAt l F wr gb hb kb
 chg : Chg (fun q => q = kb ∨ q = A ∨ q = r) w5 wr
 ne : A ≠ kb ∧ A ≠ gb ∧ A ≠ hb ∧ A ≠ r ∧ r ≠ kb ∧ r ≠ gb ∧ r ≠ hb ∧ F A ∧ F r
section
variable {l : Lg} {F F' : Nat → Prop} {w5 wr wr' : World} {gb hb kb A r : Nat} {L : List (Ht × Value)} {ks : List Ht} {f g : En → Option Sm}
theorem FSt.below (h : FSt l F w5 gb hb kb A r L ks f wr) (hbl : Below wr.heap.size wr wr') : FSt l F w5 gb hb kb A r L ks f wr' :=
 ⟨h.seen.keep (hbl.block _ h.seen.lt.2.1) (hbl.block _ h.seen.lt.1),h.ends.below hbl,h.game.below hbl,h.chg.thenB hbl,h.ne⟩
theorem FSt.learn (h : FSt l F w5 gb hb kb A r L ks f wr) (hg : wr.grownBy wr' (some kb)) (hG : GameAt l F wr' gb hb kb) : FSt l F w5 gb hb kb A r L ks f wr' :=
 ⟨h.seen.keep (hg.block _ h.seen.lt.2.1 fun e => h.game.hk (Option.some.inj e)) (hg.block _ h.seen.lt.1 fun e => h.ne.2.2.2.2.1 (Option.some.inj e)),h.ends.grown hg fun e => h.ne.1 (Option.some.inj e),hG,h.chg.thenG hg fun _ hx _ => .inl (Option.some.inj hx).symm,h.ne⟩
theorem FSt.add (h : FSt l F w5 gb hb kb A r L ks f wr) (hg : wr.grownBy wr' (some A)) (hE : EndsAt wr' A g) : FSt l F w5 gb hb kb A r L ks g wr' :=
 ⟨h.seen.keep (hg.block _ h.seen.lt.2.1 fun e => h.ne.2.2.1 (Option.some.inj e).symm) (hg.block _ h.seen.lt.1 fun e => h.ne.2.2.2.1 (Option.some.inj e).symm),hE,
  h.game.grown hg (fun x hx => by cases hx; exact ⟨h.ne.1,h.ne.2.1,h.ne.2.2.1,.inl h.ne.2.2.2.2.2.2.2.1⟩),h.chg.thenG hg fun x hx _ => .inr (.inl (Option.some.inj hx).symm),h.ne⟩
theorem FSt.next {x : Ht} (h : FSt l F w5 gb hb kb A r L ks f wr) (hg : wr.grownBy wr' (some r)) (hS : SeenD htV wr' r hb L L (ks ++ [x])) : FSt l F w5 gb hb kb A r L (ks ++ [x]) f wr' :=
 ⟨hS,h.ends.grown hg fun e => h.ne.2.2.2.1 (Option.some.inj e),h.game.grown hg (fun x hx => by cases hx; exact ⟨h.ne.2.2.2.2.1,h.ne.2.2.2.2.2.1,h.ne.2.2.2.2.2.2.1,.inl h.ne.2.2.2.2.2.2.2.2⟩),h.chg.thenG hg fun x hx _ => .inr (.inr (Option.some.inj hx).symm),h.ne⟩
theorem FSt.other {x : Nat} (h : FSt l F w5 gb hb kb A r L ks f wr) (hg : wr.grownBy wr' (some x)) (h1 : x ≠ A) (h2 : x ≠ r) (h3 : x ≠ kb) (h4 : x ≠ gb) (h5 : x ≠ hb) (h6 : F x) (h7 : w5.heap.size ≤ x) : FSt l F w5 gb hb kb A r L ks f wr' :=
 ⟨h.seen.keep (hg.block _ h.seen.lt.2.1 fun e => h5 (Option.some.inj e).symm) (hg.block _ h.seen.lt.1 fun e => h2 (Option.some.inj e).symm),h.ends.grown hg fun e => h1 (Option.some.inj e).symm,
  h.game.grown hg (fun y hy => by cases hy; exact ⟨h3,h4,h5,.inl h6⟩),h.chg.thenG hg fun y hy hlt => by cases hy; omega,h.ne⟩
theorem FSt.congr (h : FSt l F w5 gb hb kb A r L ks f wr) (e : ∀ x,f x = g x) : FSt l F w5 gb hb kb A r L ks g wr:=⟨h.seen,h.ends.congr e,h.game,h.chg,h.ne⟩
theorem FSt.more (h : FSt l F w5 gb hb kb A r L ks f wr) (h1 : ∀ q,F' q → F q ∨ wr.heap.size ≤ q) (h2 : ∀ q,F q → F' q) : FSt l F' w5 gb hb kb A r L ks f wr :=
 ⟨h.seen,h.ends,h.game.more h1 h2,h.chg,h.ne.1,h.ne.2.1,h.ne.2.2.1,h.ne.2.2.2.1,h.ne.2.2.2.2.1,h.ne.2.2.2.2.2.1,h.ne.2.2.2.2.2.2.1,h2 _ h.ne.2.2.2.2.2.2.2.1,h2 _ h.ne.2.2.2.2.2.2.2.2⟩
theorem FSt.less (h : FSt l F w5 gb hb kb A r L ks f wr) (h1 : ∀ q,F' q → F q) (h2 : F' gb) (h3 : F' hb) (h4 : F' kb) (h5 : F' A) (h6 : F' r) : FSt l F' w5 gb hb kb A r L ks f wr :=
 ⟨h.seen,h.ends,h.game.less h1 h2 h3 h4,h.chg,h.ne.1,h.ne.2.1,h.ne.2.2.1,h.ne.2.2.2.1,h.ne.2.2.2.2.1,h.ne.2.2.2.2.2.1,h.ne.2.2.2.2.2.2.1,h5,h6⟩
end
open Go.RowKit Go.Oche Go.Proofs

structure LegOk (l : Lg) : Prop where
 beds : l.beds.length ≤ 82
 hits : ∀ h ∈ hits5 l,0 ≤ h.score ∧ h.score ≤ 1000
def decH (v : Value) : Ht:=match v with
 | .agg cs => match cs.toList with
  | [.int _ a,.bool b,.bool c] => ⟨a,b,c⟩
  | _ => ⟨0,false,false⟩
 | _ => ⟨0,false,false⟩
def decE (v : Value) : En:=match v with
 | .agg cs => match cs.toList with
  | [.int _ a,.bool b,.bool c,.bool d] => ⟨a,b,c,d⟩
  | _ => ⟨0,false,false,false⟩
 | _ => ⟨0,false,false,false⟩
theorem decH_eq (h : Ht) : decH (htV h) = h:=rfl
theorem decE_eq (h : En) : decE (enV h) = h:=rfl
theorem dart_bd {l : Lg} (ok : LegOk l) {s : Std} {h : Ht} (hh : h ∈ hits5 l) (hs : 0 ≤ s.left ∧ s.left ≤ 1001) : 0 ≤ (dart5 l s h).1.std.left ∧ (dart5 l s h).1.std.left ≤ 1001:=by
 have h0:=(ok.hits h hh);have h1:=dart_left (l:=l) h0.1 hs.1;show 0 ≤ (dart5 l s h).1.left ∧ (dart5 l s h).1.left ≤ 1001;omega
def FromC (l : Lg) (D : Nat) : Prop := ∀ (F : Nat → Prop) (gb hb kb : Nat) (s : Std) (W : World),0 ≤ s.left ∧ s.left ≤ 1001 → GameAt l F W gb hb kb → (∀ q,F q → q < W.heap.size) →
  Calls Tryz.prog 91 #[.pointer (some ⟨gb,0,none⟩),atV (s,D)] W fun e W' => ∃ b,e = .returned (.map (some b)) ∧ W.grownBy W' (some kb) ∧ GameAt l F W' gb hb kb ∧ EndsAt W' b (agg (from5 l D s)) ∧ ¬ F b
set_option maxRecDepth 100000 in
set_option maxHeartbeats 4000000 in
theorem from_step {l : Lg} (ok : LegOk l) (D : Nat) (hD : D ≤ 3) (IH : ∀ D',D = D' + 1 → FromC l D') : FromC l D:=by
 intro F gb hb kb s W hs h hF
 obtain ⟨sl,si⟩ := s;simp only at hs;unfold atV;simp only;obtain ⟨w1,hw1⟩ : ∃ x,W.alloc (.cells #[.int .i64 sl,.bool si,.int .i64 (D : Int)] 188) = x:=⟨_,rfl⟩;have hb1 : Below W.heap.size W w1:=by rw [← hw1]; exact aB _ _
 have hs1 : w1.heap.size = W.heap.size + 1:=by rw [← hw1]; simp
 have k3 : w1.heap[W.heap.size]? = some (.cells #[.int .i64 sl,.bool si,.int .i64 (D : Int)] 188 (0,0)):=by rw [← hw1]; exact World.alloc_heap_new _ _
 have H1:=Lib.hid (h.below hb1);have HW1:=Lib.hid hw1;have K3:=Lib.hid k3;have HIH:=Lib.hid IH;have HH0:=Lib.hid h;have hk8:=H1.out.cells.2.2.2.2.2.2.2;have hk7:=H1.out.cells.2.2.2.2.2.2.1;have c0 : w1.cell? ⟨W.heap.size,0,none⟩ = some (.int .i64 sl):=by rw [cell_of_heap k3]; rfl
 have c1 : w1.cell? ⟨W.heap.size,1,none⟩ = some (.bool si):=by rw [cell_of_heap k3]; rfl
 have c2 : w1.cell? ⟨W.heap.size,2,none⟩ = some (.int .i64 (D : Int)):=by rw [cell_of_heap k3]; rfl
 clear hw1 k3 h IH;obtain ⟨mv,hasx,hlk,hmv⟩ := H1.out.known.look (T:=139) (by rfl) (⟨sl,si⟩,D)
 unfold atV at hlk;simp only at hlk;have HLK:=Lib.hid hlk;have HMV:=Lib.hid hmv;clear hlk hmv
 go_enter Tryz.func91,Tryz.ntmps91
 go_upto_region 1 with fail
 rw [HW1.out];refine wp_region_seq 11 [.is (.pointer (some ⟨gb,0,none⟩)),.is (.pointer (some ⟨gb,0,none⟩)),.is (.pointer (some ⟨gb,8,none⟩)),.is (.map (some kb)),.is (.agg #[.int .i64 sl,.bool si,.int .i64 (D : Int)]),.is (.tuple #[mv,.bool hasx]),.is (.tuple #[mv,.bool hasx]),.is (mv),.is (.bool hasx),.is (mv),.is (.bool hasx)] rfl mix (by kernel_rfl) (by kernel_rfl) ?seqm
 case seqm =>
  simp only [List.take_succ_cons,List.take_zero]
  iterate 11
   refine seq_on (by rfl) (fun w3 hb3 _ => ?_) ?_
   ·have k8:=bAt hb3 hk8
    have c0':=bAt hb3 c0;have c1':=bAt hb3 c1;have c2':=bAt hb3 c2;have hl:=HLK.out w3 hb3;simp [opOK,go_sem,k8,c0',c1',c2',hl,Below.refl]
    try exact rfl
   simp only [Act.put,List.setIfInBounds_toArray,List.set_cons_succ,List.set_cons_zero]
  refine seq_end fun w3 hb3 _ => ?_
  simp only [List.drop_succ_cons,List.drop_zero];have HB3:=Lib.hid (bThen hb1 (hb3.mono (Nat.le_refl _)));have H3:=Lib.hid (H1.out.below hb3);have K33:=Lib.hid ((hb3.block _ (by omega)).trans K3.out)
  have hs3 : W.heap.size + 1 ≤ w3.heap.size:=by have:=hb3.size; omega
  have HMV3 : Hid (hasx = true → ∃ b,mv = .map (some b) ∧ ¬ F b ∧ EndsAt w3 b (agg (from5 l D ⟨sl,si⟩))):=Lib.hid fun h => by
   obtain ⟨b,h1,h2,h3⟩ := HMV.out h; exact ⟨b,h1,h2,h3.below hb3⟩
  have HLT3:=Lib.hid H3.out.lt;have HF:=Lib.hid hF;clear hb3 hk8 hk7 c0 c1 c2 HLK HMV hb1 K3 hF;cases hasx
  ·obtain ⟨A,hA⟩ : ∃ A,w3.heap.size = A:=⟨_,rfl⟩
   obtain ⟨w4,hw4⟩ : ∃ x,w3.alloc (.map #[] 0) = x:=⟨_,rfl⟩;have hb4 : Below w3.heap.size w3 w4:=by rw [← hw4]; exact aB _ _
   have hs4 : w4.heap.size = A + 1:=by rw [← hw4,← hA]; simp
   have HEN4 : Hid (EndsAt w4 A fun _ => none):=Lib.hid (by rw [← hw4,← hA]; exact EndsAt.made w3)
   have K4:=Lib.hid ((hb4.block _ (by omega)).trans K33.out)
   have c0 : w4.cell? ⟨W.heap.size,0,none⟩ = some (.int .i64 sl):=by rw [cell_of_heap K4.out]; rfl
   have c1 : w4.cell? ⟨W.heap.size,1,none⟩ = some (.bool si):=by rw [cell_of_heap K4.out]; rfl
   have c2 : w4.cell? ⟨W.heap.size,2,none⟩ = some (.int .i64 (D : Int)):=by rw [cell_of_heap K4.out]; rfl
   have H4:=Lib.hid (H3.out.below hb4);have HB4:=Lib.hid (bThen HB3.out hb4);have HW4:=Lib.hid hw4;have HA:=Lib.hid hA;have hFg:=HF.out _ H4.out.fg;have hFh:=HF.out _ H4.out.fh;have hFk:=HF.out _ H4.out.fk;have hnF : ¬ F A:=fun h => by have:=HF.out _ h; omega
   have HNF:=Lib.hid hnF;clear hw4 hb4 HMV3 hnF;have hmm := @run_makeMap Tryz.prog;go_upto_region 5 with fail;rw [HW4.out];clear hmm;obtain ⟨L,hL,hLn,hLk⟩ := H4.out.hits;have HLN:=Lib.hid hLn;have HLK:=Lib.hid hLk;have hk7:=H4.out.cells.2.2.2.2.2.2.1;have hLb : Hid (L.length ≤ 83):=Lib.hid (by
    have h1 : (L.map (·.1)).length ≤ (hits5 l).length:=List.Nodup.length_le_of_subset hLn fun x hx => by
     have:=key_isSome.1 hx;rw [hLk] at this;simp only at this;split at this
     ·assumption
     ·cases this
    rw [List.length_map,hits_len] at h1;have:=ok.beds; omega)
   by_cases hD0 : D = 0
   ·have e0 : ((D : Int) == 0) = true:=by rw [hD0]; rfl
    have HD0:=Lib.hid hD0;clear hD0;obtain ⟨wE,hrE,hE,hgE⟩ := HEN4.out.update (T:=147) (by rfl) (Std.en ⟨sl,si⟩) ⟨1,0,0⟩
    replace hrE : (Instr.mapUpdate 147 (.map (some A)) (.agg #[.int .i64 sl,.bool si,.bool false,.bool false]) (.agg #[.int .i64 1,.int .i64 0,.int .i64 0])).run Tryz.prog w4 = .ok () wE:=hrE
    have HEE : Hid (EndsAt wE A (agg (from5 l D ⟨sl,si⟩))):=Lib.hid (hE.congr fun y => by
     rw [HD0.out];unfold from5 agg agg;by_cases e : y = Std.en ⟨sl,si⟩
     ·simp [e,Sm.one]
     ·have e' : ¬ Std.en ⟨sl,si⟩ = y:=fun q => e q.symm
      simp [e,e'])
    have HBE:=Lib.hid (HB4.out.trans (below_grownBy hgE HB4.out.size (fun x hx => by cases hx; omega)))
    have HGE:=Lib.hid (HH0.out.below HBE.out);have KE:=Lib.hid ((hgE.block _ (by omega) (fun e => by cases e; omega)).trans K4.out)
    have hkE:=HGE.out.cells.2.2.2.2.2.2.1;obtain ⟨L2,hL2,hLn2,hLk2⟩ := HGE.out.hits;have hsE : A + 1 ≤ wE.heap.size:=by have:=hgE.size; omega
    clear hE hgE hL hLn hLk hLb HLN HLK;go_upto_region 7 with fail;clear hrE c0 c1 c2;obtain ⟨r,hr⟩ : ∃ r,wE.heap.size = r:=⟨_,rfl⟩;obtain ⟨w5,hrg,hS5,hb5,hz5⟩ := MapAt.range (P:=Tryz.prog) (T:=138) (by rfl) hL2
    rw [hr] at hrg hS5;have hw5 : w5.heap.size = r + 1:=by omega
    have HFS : Hid (FSt l (fun q => F q ∨ W.heap.size ≤ q ∧ q < r + 1) w5 gb hb kb A r L2 [] (agg (from5 l D ⟨sl,si⟩)) w5):=Lib.hid
     ⟨SeenD.of hS5,HEE.out.below hb5,(HH0.out.more (fun q h => h.elim .inl fun h => .inr h.1) (fun q h => .inl h)).below (bThen HBE.out hb5),Chg.refl,by omega,by omega,by omega,by omega,by omega,by omega,by omega,.inr ⟨by omega,by omega⟩,.inr ⟨by omega,by omega⟩⟩
    have K5:=Lib.hid ((hb5.block _ (by omega)).trans KE.out)
    have HB5:=Lib.hid (bThen HBE.out hb5);have HLN:=Lib.hid hLn2;clear hb5 hS5 hL2 hLn2 hLk2;go_wp2;clear hrg hk7 hkE;go_loopw [9] (fun _ wr => ∃ ks : List Ht,Hid (FSt l (fun q => F q ∨ W.heap.size ≤ q ∧ q < r + 1) w5 gb hb kb A r L2 ks (agg (from5 l D ⟨sl,si⟩)) wr)) (fun _ wr => 0)
    case atStart => exact ⟨[],HFS⟩
    case round =>
     obtain ⟨ks,HFn⟩ := hrel;obtain ⟨wo,rfl⟩ : ∃ wo : World,wo = wr:=⟨_,rfl⟩;have hcb : wo.heap[W.heap.size]? = _:=(HFn.out.chg.block _ (by omega) (by omega)).trans K5.out
     rcases HFn.out.seen.next (P:=Tryz.prog) (dec:=decH) decH_eq HLN.out 0 with ⟨hnx,hperm⟩ | ⟨x,vx,w6,hmem,hkn,hlen,hnx,hS6,hg6,hz6,hen6⟩
     ·clear hperm
      go_upto_region 19 with fail
      clear hnx;have HG:=Lib.hid (HFn.out.game.less (F':=F) (fun q h => .inl h) HH0.out.fg HH0.out.fh HH0.out.fk)
      have HE:=Lib.hid HFn.out.ends;have HC:=Lib.hid HFn.out.chg;have hk8:=HG.out.cells.2.2.2.2.2.2.2;have c0 : wo.cell? ⟨W.heap.size,0,none⟩ = some (.int .i64 sl):=by rw [cell_of_heap hcb]; rfl
      have c1 : wo.cell? ⟨W.heap.size,1,none⟩ = some (.bool si):=by rw [cell_of_heap hcb]; rfl
      have c2 : wo.cell? ⟨W.heap.size,2,none⟩ = some (.int .i64 (D : Int)):=by rw [cell_of_heap hcb]; rfl
      clear HFn hcb;refine wp_region_seq 6 [.is (.pointer (some ⟨gb,0,none⟩)),.is (.pointer (some ⟨gb,0,none⟩)),.is (.pointer (some ⟨gb,8,none⟩)),.is (.map (some kb)),.is (.agg #[.int .i64 sl,.bool si,.int .i64 (D : Int)]),.is (.map (some A))] rfl mix (by kernel_rfl) (by kernel_rfl) ?seqm
      case seqm =>
       simp only [List.take_succ_cons,List.take_zero]
       iterate 6
        refine seq_on (by rfl) (fun w8 hb8 _ => ?_) ?_
        ·have k8:=bAt hb8 hk8
         have c0':=bAt hb8 c0;have c1':=bAt hb8 c1;have c2':=bAt hb8 c2;simp [opOK,go_sem,k8,c0',c1',c2',Below.refl]
         try exact rfl
        simp only [Act.put,List.setIfInBounds_toArray,List.set_cons_succ,List.set_cons_zero]
       refine seq_end fun w8 hb8 _ => ?_
       simp only [List.drop_succ_cons,List.drop_zero];obtain ⟨W9,hr9,hK9,hg9⟩ := (HG.out.below hb8).known.put (T:=139) (by rfl) HH0.out.fk (a:=(⟨sl,si⟩,D)) (HE.out.below hb8) HNF.out
       unfold atV at hr9;simp only at hr9;have hfin : W.grownBy W9 (some kb):=(((Chg.below (O:=fun q => q = kb ∨ W.heap.size ≤ q) HB5.out).trans (HC.out.mono fun q _ h => by omega)).thenB hb8 |>.thenG hg9 fun x hx _ => .inl (Option.some.inj hx).symm).toGrown fun q hq h => by omega
       have HFIN:=Lib.hid hfin;have HG9:=Lib.hid ((HG.out.below hb8).learn hg9 hK9);have HE9:=Lib.hid ((HE.out.below hb8).grown hg9 fun e => by cases e; omega)
       clear hfin hK9 hg9 hb8 hk8 c0 c1 c2;go_wp2;go_returns;exact ⟨A,rfl,HFIN.out,HG9.out,HE9.out,HNF.out⟩
     ·obtain ⟨xs,xi,xo⟩ := x
      unfold htV at hnx hen6;have HF6:=Lib.hid (HFn.out.next hg6 hS6);have hc6 : w6.heap[W.heap.size]? = _:=(HF6.out.chg.block _ (by omega) (by omega)).trans K5.out
      have c2 : w6.cell? ⟨W.heap.size,2,none⟩ = some (.int .i64 (D : Int)):=by rw [cell_of_heap hc6]; rfl
      clear hcb hmem hkn hlen hS6 hg6 hz6 HFn;go_upto_region 10 with fail;clear hnx hen6 hc6 c2;obtain ⟨w7,hw7⟩ : ∃ x,w6.alloc (.cells #[.int .i64 xs,.bool xi,.bool xo] 137) = x:=⟨_,rfl⟩;have HF7 : Hid (FSt l (fun q => F q ∨ W.heap.size ≤ q ∧ q < r + 1) w5 gb hb kb A r L2 (ks ++ [⟨xs,xi,xo⟩]) (agg (from5 l D ⟨sl,si⟩)) w7):=Lib.hid (by rw [← hw7]; exact HF6.out.below (aB _ _))
      have HW7:=Lib.hid hw7;clear hw7;rw [HW7.out];clear HF6 HW7;obtain ⟨wo,rfl⟩ : ∃ wo : World,wo = w7:=⟨_,rfl⟩;have HFn:=HF7;have hcb : wo.heap[W.heap.size]? = _:=(HFn.out.chg.block _ (by omega) (by omega)).trans K5.out
      have c2 : wo.cell? ⟨W.heap.size,2,none⟩ = some (.int .i64 (D : Int)):=by rw [cell_of_heap hcb]; rfl
      clear HF7;go_upto_region 19 with fail;clear c2;have HG:=Lib.hid (HFn.out.game.less (F':=F) (fun q h => .inl h) HH0.out.fg HH0.out.fh HH0.out.fk)
      have HE:=Lib.hid HFn.out.ends;have HC:=Lib.hid HFn.out.chg;have hk8:=HG.out.cells.2.2.2.2.2.2.2;have c0 : wo.cell? ⟨W.heap.size,0,none⟩ = some (.int .i64 sl):=by rw [cell_of_heap hcb]; rfl
      have c1 : wo.cell? ⟨W.heap.size,1,none⟩ = some (.bool si):=by rw [cell_of_heap hcb]; rfl
      have c2 : wo.cell? ⟨W.heap.size,2,none⟩ = some (.int .i64 (D : Int)):=by rw [cell_of_heap hcb]; rfl
      clear HFn hcb;refine wp_region_seq 6 [.is (.pointer (some ⟨gb,0,none⟩)),.is (.pointer (some ⟨gb,0,none⟩)),.is (.pointer (some ⟨gb,8,none⟩)),.is (.map (some kb)),.is (.agg #[.int .i64 sl,.bool si,.int .i64 (D : Int)]),.is (.map (some A))] rfl mix (by kernel_rfl) (by kernel_rfl) ?seqm
      case seqm =>
       simp only [List.take_succ_cons,List.take_zero]
       iterate 6
        refine seq_on (by rfl) (fun w8 hb8 _ => ?_) ?_
        ·have k8:=bAt hb8 hk8
         have c0':=bAt hb8 c0;have c1':=bAt hb8 c1;have c2':=bAt hb8 c2;simp [opOK,go_sem,k8,c0',c1',c2',Below.refl]
         try exact rfl
        simp only [Act.put,List.setIfInBounds_toArray,List.set_cons_succ,List.set_cons_zero]
       refine seq_end fun w8 hb8 _ => ?_
       simp only [List.drop_succ_cons,List.drop_zero];obtain ⟨W9,hr9,hK9,hg9⟩ := (HG.out.below hb8).known.put (T:=139) (by rfl) HH0.out.fk (a:=(⟨sl,si⟩,D)) (HE.out.below hb8) HNF.out
       unfold atV at hr9;simp only at hr9;have hfin : W.grownBy W9 (some kb):=(((Chg.below (O:=fun q => q = kb ∨ W.heap.size ≤ q) HB5.out).trans (HC.out.mono fun q _ h => by omega)).thenB hb8 |>.thenG hg9 fun x hx _ => .inl (Option.some.inj hx).symm).toGrown fun q hq h => by omega
       have HFIN:=Lib.hid hfin;have HG9:=Lib.hid ((HG.out.below hb8).learn hg9 hK9);have HE9:=Lib.hid ((HE.out.below hb8).grown hg9 fun e => by cases e; omega)
       clear hfin hK9 hg9 hb8 hk8 c0 c1 c2;go_wp2;go_returns;exact ⟨A,rfl,HFIN.out,HG9.out,HE9.out,HNF.out⟩
   ·have e0 : ((D : Int) == 0) = false:=by simp [hD0]
    obtain ⟨D',hD'⟩ : ∃ D',D = D' + 1:=⟨D - 1,by omega⟩
    have HD':=Lib.hid hD';clear hD0 hD';obtain ⟨w5,hrg,hS5,hb5,hz5⟩ := MapAt.range (P:=Tryz.prog) (T:=138) (by rfl) hL
    rw [hs4] at hrg hS5;have hw5 : w5.heap.size = A + 2:=by omega
    have HFS : Hid (FSt l (fun q => F q ∨ W.heap.size ≤ q ∧ q < A + 2) w5 gb hb kb A (A + 1) L [] (aggH l D' ⟨sl,si⟩ []) w5):=Lib.hid
     ⟨SeenD.of hS5,HEN4.out.below hb5,(HH0.out.more (fun q h => h.elim .inl fun h => .inr h.1) (fun q h => .inl h)).below (bThen HB4.out hb5),Chg.refl,by omega,by omega,by omega,by omega,by omega,by omega,by omega,.inr ⟨by omega,by omega⟩,.inr ⟨by omega,by omega⟩⟩
    have K5:=Lib.hid ((hb5.block _ (by omega)).trans K4.out)
    have HB5:=Lib.hid (bThen HB4.out hb5);clear hb5 hS5 hL hLn hLk;go_wp2;clear hrg hk7 c0 c1 c2;go_loopw [9] (fun _ wr => ∃ ks : List Ht,Hid (FSt l (fun q => F q ∨ W.heap.size ≤ q ∧ q < A + 2) w5 gb hb kb A (A + 1) L ks (aggH l D' ⟨sl,si⟩ ks) wr)) (fun _ wr => L.length - seenN wr (A + 1))
    case atStart => exact ⟨[],HFS⟩
    case round =>
     obtain ⟨ks,HFn⟩ := hrel;obtain ⟨wo,rfl⟩ : ∃ wo : World,wo = wr:=⟨_,rfl⟩;have hcb : wo.heap[W.heap.size]? = _:=(HFn.out.chg.block _ (by omega) (by omega)).trans K5.out
     rcases HFn.out.seen.next (P:=Tryz.prog) (dec:=decH) decH_eq HLN.out 0 with ⟨hnx,hperm⟩ | ⟨x,vx,w6,hmem,hkn,hlen,hnx,hS6,hg6,hz6,hen6⟩
     ·have HFn:=Lib.hid (HFn.out.congr (g:=agg (from5 l D ⟨sl,si⟩)) fun y => by
       rw [HD'.out];refine aggH_all l D' ⟨sl,si⟩ (hperm.nodup_iff.2 HLN.out) (fun h => ?_) y
       rw [hperm.mem_iff,key_isSome,HLK.out];split <;> simp_all)
      clear hperm;go_upto_region 19 with fail;clear hnx;have HG:=Lib.hid (HFn.out.game.less (F':=F) (fun q h => .inl h) HH0.out.fg HH0.out.fh HH0.out.fk)
      have HE:=Lib.hid HFn.out.ends;have HC:=Lib.hid HFn.out.chg;have hk8:=HG.out.cells.2.2.2.2.2.2.2;have c0 : wo.cell? ⟨W.heap.size,0,none⟩ = some (.int .i64 sl):=by rw [cell_of_heap hcb]; rfl
      have c1 : wo.cell? ⟨W.heap.size,1,none⟩ = some (.bool si):=by rw [cell_of_heap hcb]; rfl
      have c2 : wo.cell? ⟨W.heap.size,2,none⟩ = some (.int .i64 (D : Int)):=by rw [cell_of_heap hcb]; rfl
      clear HFn hcb;refine wp_region_seq 6 [.is (.pointer (some ⟨gb,0,none⟩)),.is (.pointer (some ⟨gb,0,none⟩)),.is (.pointer (some ⟨gb,8,none⟩)),.is (.map (some kb)),.is (.agg #[.int .i64 sl,.bool si,.int .i64 (D : Int)]),.is (.map (some A))] rfl mix (by kernel_rfl) (by kernel_rfl) ?seqm
      case seqm =>
       simp only [List.take_succ_cons,List.take_zero]
       iterate 6
        refine seq_on (by rfl) (fun w8 hb8 _ => ?_) ?_
        ·have k8:=bAt hb8 hk8
         have c0':=bAt hb8 c0;have c1':=bAt hb8 c1;have c2':=bAt hb8 c2;simp [opOK,go_sem,k8,c0',c1',c2',Below.refl]
         try exact rfl
        simp only [Act.put,List.setIfInBounds_toArray,List.set_cons_succ,List.set_cons_zero]
       refine seq_end fun w8 hb8 _ => ?_
       simp only [List.drop_succ_cons,List.drop_zero];obtain ⟨W9,hr9,hK9,hg9⟩ := (HG.out.below hb8).known.put (T:=139) (by rfl) HH0.out.fk (a:=(⟨sl,si⟩,D)) (HE.out.below hb8) HNF.out
       unfold atV at hr9;simp only at hr9;have hfin : W.grownBy W9 (some kb):=(((Chg.below (O:=fun q => q = kb ∨ W.heap.size ≤ q) HB5.out).trans (HC.out.mono fun q _ h => by omega)).thenB hb8 |>.thenG hg9 fun x hx _ => .inl (Option.some.inj hx).symm).toGrown fun q hq h => by omega
       have HFIN:=Lib.hid hfin;have HG9:=Lib.hid ((HG.out.below hb8).learn hg9 hK9);have HE9:=Lib.hid ((HE.out.below hb8).grown hg9 fun e => by cases e; omega)
       clear hfin hK9 hg9 hb8 hk8 c0 c1 c2;go_wp2;go_returns;exact ⟨A,rfl,HFIN.out,HG9.out,HE9.out,HNF.out⟩
     ·have hx1:=HLK.out x
      rw [mem_lookM HLN.out hmem] at hx1;obtain ⟨hx5,m,hm1,hm2,rfl⟩ : x ∈ hits5 l ∧ ∃ m : Nat,(hits5 l).count x = m ∧ m ≤ 83 ∧ vx = .int .i64 (m : Int):=by
       split at hx1
       ·rename_i hx2
        refine ⟨hx2,_,rfl,Nat.le_trans List.count_le_length (by rw [hits_len]; have:=ok.beds; omega),Option.some.inj hx1⟩
       ·cases hx1
      have HX5:=Lib.hid hx5;have HM1:=Lib.hid hm1;obtain ⟨xs,xi,xo⟩ := x;unfold htV at hnx hen6;have HF6:=Lib.hid (HFn.out.next hg6 hS6);have hLo : Hid (ks.length < L.length ∧ seenN wo (A + 1) = ks.length):=Lib.hid ⟨hlen,SeenD.count HFn.out.seen⟩;have hks : ks.length ≤ 83:=by have:=hLb.out; omega
      have HKN:=Lib.hid hkn;have hc6 : w6.heap[W.heap.size]? = _:=(HF6.out.chg.block _ (by omega) (by omega)).trans K5.out
      clear hcb hmem hkn hlen hS6 hg6 hz6 HFn hx1 hx5 hm1;go_upto_region 10 with fail;clear hnx hen6 hc6;obtain ⟨w7,hw7⟩ : ∃ x,w6.alloc (.cells #[.int .i64 xs,.bool xi,.bool xo] 137) = x:=⟨_,rfl⟩;have hb7 : Below w6.heap.size w6 w7:=by rw [← hw7]; exact aB _ _
      have HF7:=Lib.hid (HF6.out.below hb7);have k8 : w7.heap[w6.heap.size]? = some (.cells #[.int .i64 xs,.bool xi,.bool xo] 137 (0,0)):=by rw [← hw7]; exact World.alloc_heap_new _ _
      have hc7 : w7.heap[W.heap.size]? = _:=(HF7.out.chg.block _ (by omega) (by omega)).trans K5.out
      have c0 : w7.cell? ⟨W.heap.size,0,none⟩ = some (.int .i64 sl):=by rw [cell_of_heap hc7]; rfl
      have c1 : w7.cell? ⟨W.heap.size,1,none⟩ = some (.bool si):=by rw [cell_of_heap hc7]; rfl
      have c2 : w7.cell? ⟨W.heap.size,2,none⟩ = some (.int .i64 (D : Int)):=by rw [cell_of_heap hc7]; rfl
      have d0 : w7.cell? ⟨w6.heap.size,0,none⟩ = some (.int .i64 xs):=by rw [cell_of_heap k8]; rfl
      have d1 : w7.cell? ⟨w6.heap.size,1,none⟩ = some (.bool xi):=by rw [cell_of_heap k8]; rfl
      have d2 : w7.cell? ⟨w6.heap.size,2,none⟩ = some (.bool xo):=by rw [cell_of_heap k8]; rfl
      have HW7:=Lib.hid hw7;clear hw7 hb7 k8 hc7 HF6;rw [HW7.out];have hxb:=ok.hits _ HX5.out;simp only at hxb;obtain ⟨⟨el,ei,eb,ew⟩,hen⟩ : ∃ e,(dart5 l ⟨sl,si⟩ ⟨xs,xi,xo⟩).1 = e:=⟨_,rfl⟩;obtain ⟨go,hgo⟩ : ∃ b,(dart5 l ⟨sl,si⟩ ⟨xs,xi,xo⟩).2 = b:=⟨_,rfl⟩;have hbd:=dart_bd (s:=⟨sl,si⟩) ok HX5.out hs;rw [hen] at hbd;have HEN:=Lib.hid hen;have HGO:=Lib.hid hgo;clear hen hgo;go_upto_region 11 with fail;go_wp2_with fail;refine (dart_any ⟨sl,si⟩ ⟨xs,xi,xo⟩ (by simp only; omega) (by simp only; omega) w7 HF7.out.game).mono ?_
      rintro e w8 ⟨rfl,hb8⟩;rw [HEN.out,HGO.out];unfold enV;have HF8:=Lib.hid (HF7.out.below hb8);have hc8 : w8.heap[W.heap.size]? = _:=(HF8.out.chg.block _ (by omega) (by omega)).trans K5.out
      clear hb8 c0 c1 c2 d0 d1 d2 HF7 HW7;go_upto_region 12 with fail;obtain ⟨w9,hw9⟩ : ∃ x,w8.alloc (.cells #[.int .i64 el,.bool ei,.bool eb,.bool ew] 150) = x:=⟨_,rfl⟩;have hb9 : Below w8.heap.size w8 w9:=by rw [← hw9]; exact aB _ _
      have HF9:=Lib.hid (HF8.out.below hb9);have k10 : w9.heap[w8.heap.size]? = some (.cells #[.int .i64 el,.bool ei,.bool eb,.bool ew] 150 (0,0)):=by rw [← hw9]; exact World.alloc_heap_new _ _
      have hc9 : w9.heap[W.heap.size]? = _:=(HF9.out.chg.block _ (by omega) (by omega)).trans K5.out
      have hlt9:=(Array.getElem?_eq_some_iff.1 k10).1
      have hsz9 : w5.heap.size ≤ w9.heap.size:=HF9.out.chg.size;have c2 : w9.cell? ⟨W.heap.size,2,none⟩ = some (.int .i64 (D : Int)):=by rw [cell_of_heap hc9]; rfl
      have e0' : w9.cell? ⟨w8.heap.size,0,none⟩ = some (.int .i64 el):=by rw [cell_of_heap k10]; rfl
      have e1' : w9.cell? ⟨w8.heap.size,1,none⟩ = some (.bool ei):=by rw [cell_of_heap k10]; rfl
      have e2' : w9.cell? ⟨w8.heap.size,2,none⟩ = some (.bool eb):=by rw [cell_of_heap k10]; rfl
      have e3' : w9.cell? ⟨w8.heap.size,3,none⟩ = some (.bool ew):=by rw [cell_of_heap k10]; rfl
      have HW9:=Lib.hid hw9;have hpow : (l.beds.length + 1) ^ (D' + 1) ≤ 571787:=by
       have h1:=ok.beds;have h2:=HD'.out;exact Nat.le_trans (Nat.pow_le_pow_left (show l.beds.length + 1 ≤ 83 by omega) _) (Nat.le_trans (Nat.pow_le_pow_right (by decide) (show D' + 1 ≤ 3 by omega)) (by decide))
      have hD3 : D' + 1 ≤ 3:=by have:=HD'.out; omega
      have HSB : Hid (∀ y,SmB (83 * 571787) 1000 (aggH l D' ⟨sl,si⟩ ks y)):=Lib.hid fun y => ((aggH_b l D' ⟨sl,si⟩ y ks).le (Nat.mul_le_mul hks hpow)).le2 (by omega)
      clear hw9 hb9 k10 hc8 hc9 HF8;rw [HW9.out];cases go
      ·clear c2
       go_wp2_with fail;refine (add_any A ⟨el,ei,eb,ew⟩ ⟨m,0,0⟩ 1 (aggH l D' ⟨sl,si⟩ ks) w9 HF9.out.ends ⟨by simp only; omega,by simp,by simp⟩ (by omega) ((HSB.out _).le (by decide))).mono ?_
       rintro e wa ⟨rfl,hga,hEa⟩;have HFa : Hid (FSt l (fun q => F q ∨ W.heap.size ≤ q ∧ q < A + 2) w5 gb hb kb A (A + 1) L (ks ++ [⟨xs,xi,xo⟩]) (aggH l D' ⟨sl,si⟩ (ks ++ [⟨xs,xi,xo⟩])) wa):=Lib.hid (HF9.out.add hga (hEa.congr fun y => by
        rw [aggH_snoc,con5_ends HGO.out,HEN.out,HM1.out];by_cases e : y = ⟨el,ei,eb,ew⟩
        ·rw [if_pos e,if_pos e.symm,e]
         simp [Sm.one,Sm.scale,Sm.shift]
        ·rw [if_neg e,if_neg (fun q => e q.symm)]; simp))
       have HLa : Hid (L.length - seenN wa (A + 1) < L.length - seenN wo (A + 1)):=Lib.hid (by
        have e1:=SeenD.count HFa.out.seen;have e2:=hLo.out;rw [e1,e2.2,List.length_append,List.length_singleton]; omega)
       clear hga hEa;go_wp2;go_roundw
       case rel => exact ⟨ks ++ [⟨xs,xi,xo⟩],HFa⟩
       case measure => exact HLa.out
      ·have hwd : IntKind.i64.wrap ((D : Int) - 1) = (D' : Int):=by rw [IntKind.wrap_i64]; have:=HD'.out; omega
       go_wp2_with fail;refine (HIH.out D' HD'.out (fun q => F q ∨ W.heap.size ≤ q ∧ q < A + 2) gb hb kb ⟨el,ei⟩ w9 hbd HF9.out.game (fun q hq => hq.elim (fun h => by have:=HF.out q h; omega) (fun h => by omega))).mono ?_
       rintro e wa ⟨b,rfl,hga,hGa,⟨L2,hL2,hLn2,hLk2⟩,hnb⟩;have HFa:=Lib.hid ((HF9.out.learn hga hGa).more (F':=fun q => (F q ∨ W.heap.size ≤ q ∧ q < A + 2) ∨ q = wa.heap.size) (fun q h => h.elim .inl fun h => .inr (by omega)) (fun q h => .inl h))
       have hsza : w5.heap.size ≤ wa.heap.size:=HFa.out.chg.size;have hbA : b ≠ A:=fun e => hnb (.inr ⟨by omega,by omega⟩)
       have hlta:=HFa.out.game.lt;obtain ⟨wb,hrg2,hSb,hbb,hzb⟩ := MapAt.range (P:=Tryz.prog) (T:=147) (by rfl) hL2
       obtain ⟨r2,hr2⟩ : ∃ r,wa.heap.size = r:=⟨_,rfl⟩;rw [hr2] at hrg2 hSb;have HS0:=Lib.hid (SeenD.of hSb);have HFb : Hid (FSt l (fun q => (F q ∨ W.heap.size ≤ q ∧ q < A + 2) ∨ q = r2) w5 gb hb kb A (A + 1) L (ks ++ [⟨xs,xi,xo⟩]) (aggH l D' ⟨sl,si⟩ ks) wb):=Lib.hid (by rw [← hr2]; exact HFa.out.below hbb)
       have HLN2:=Lib.hid hLn2;have HLK2:=Lib.hid hLk2;clear hga hGa hL2 hLn2 hLk2 hnb hSb hbb HFa HF9 c2 e0' e1' e2' e3' hwd;go_wp2;clear hrg2;go_loopw [12] (fun _ wr => ∃ ys : List En,Hid (FSt l (fun q => (F q ∨ W.heap.size ≤ q ∧ q < A + 2) ∨ q = r2) w5 gb hb kb A (A + 1) L (ks ++ [⟨xs,xi,xo⟩]) (fun y => addO (aggH l D' ⟨sl,si⟩ ks y) (aggG (from5 l D' ⟨el,ei⟩) m ys y)) wr) ∧ Hid (SeenD enV wr r2 b L2 L2 ys)) (fun _ wr => L2.length - seenN wr r2)
       case atStart => exact ⟨[],Lib.hid (HFb.out.congr fun y => by rw [aggG_nil,addO_none]),HS0⟩
       case round =>
        obtain ⟨ys,HFi,HSi⟩ := hrel;obtain ⟨wi,rfl⟩ : ∃ wi : World,wi = wr:=⟨_,rfl⟩;rcases HSi.out.next (P:=Tryz.prog) (dec:=decE) decE_eq HLN2.out 0 with ⟨hnx,hperm⟩ | ⟨y,vy,wj,hmem,hyn,hlen,hnx,hSj,hgj,hzj,henj⟩
        ·have HFa : Hid (FSt l (fun q => F q ∨ W.heap.size ≤ q ∧ q < A + 2) w5 gb hb kb A (A + 1) L (ks ++ [⟨xs,xi,xo⟩]) (aggH l D' ⟨sl,si⟩ (ks ++ [⟨xs,xi,xo⟩])) wi):=Lib.hid ((HFi.out.less (fun q h => .inl h) (.inl HH0.out.fg) (.inl HH0.out.fh) (.inl HH0.out.fk) (.inr ⟨by omega,by omega⟩) (.inr ⟨by omega,by omega⟩)).congr fun y => by
          rw [aggH_snoc,con5_goes HGO.out,HEN.out,HM1.out];simp only [En.std];rw [aggG_all fun x => by
           rw [hperm.mem_iff,key_isSome,HLK2.out];simp])
         have HLa : Hid (L.length - seenN wi (A + 1) < L.length - seenN wo (A + 1)):=Lib.hid (by
          have e1:=SeenD.count HFa.out.seen;have e2:=hLo.out;rw [e1,e2.2,List.length_append,List.length_singleton]; omega)
         clear hperm HFi HSi;go_wp2;go_roundw
         case rel => exact ⟨ks ++ [⟨xs,xi,xo⟩],HFa⟩
         case measure => exact HLa.out
        ·have hy1:=HLK2.out y
         rw [mem_lookM HLN2.out hmem] at hy1;obtain ⟨⟨n,lo,hi⟩,ht,rfl⟩ := Option.map_eq_some_iff.1 hy1.symm;have hbt:=from_b l D' ⟨el,ei⟩ y _ ht;simp only at hbt;have HT:=Lib.hid ht;have HYN:=Lib.hid hyn;obtain ⟨yl,yi,yb,yw⟩ := y;unfold enV smV at hnx henj;simp only at hnx henj;have HFj:=Lib.hid (HFi.out.other hgj (by omega) (by omega) (by omega) (by omega) (by omega) (.inr rfl) (by omega))
         have HSj:=Lib.hid hSj;have hLi : Hid (ys.length < L2.length ∧ seenN wi r2 = ys.length):=Lib.hid ⟨hlen,SeenD.count HSi.out⟩;have hwm : IntKind.i64.wrap ((n : Int) * m) = ((n * m : Nat) : Int):=by
          have h1 : n ≤ 571787:=Nat.le_trans hbt.1 (Nat.le_trans (Nat.pow_le_pow_right (by omega) (Nat.le_succ _)) hpow)
          have h2 : n * m ≤ 571787 * 83:=Nat.mul_le_mul h1 hm2;rw [IntKind.wrap_i64,Int.natCast_mul] at *; omega
         clear hyn hmem hlen hSj hgj hzj hy1 ht HFi HSi;go_upto_region 18 with fail;clear hnx henj hwm;rw [← Int.natCast_mul];obtain ⟨wk,hwk⟩ : ∃ x,(wj.alloc (.cells #[.int .i64 yl,.bool yi,.bool yb,.bool yw] 150)).alloc (.cells #[.int .i64 ((n * m : Nat) : Int),.int .i64 (lo : Int),.int .i64 (hi : Int)] 109) = x:=⟨_,rfl⟩;have hbk : Below wj.heap.size wj wk:=by rw [← hwk]; exact ((aB _ _)).alloc (by simp) _
         have k12 : wk.heap[wj.heap.size]? = some (.cells #[.int .i64 yl,.bool yi,.bool yb,.bool yw] 150 (0,0)):=by
          rw [← hwk]; exact (Below.heap_alloc _ _ _ (by simp)).trans (World.alloc_heap_new _ _)
         have k13 : wk.heap[wj.heap.size + 1]? = some (.cells #[.int .i64 ((n * m : Nat) : Int),.int .i64 (lo : Int),.int .i64 (hi : Int)] 109 (0,0)):=by
          rw [← hwk,show wj.heap.size + 1 = (wj.alloc (.cells #[.int .i64 yl,.bool yi,.bool yb,.bool yw] 150)).heap.size by simp]; exact World.alloc_heap_new _ _
         have HFk:=Lib.hid (HFj.out.below hbk);have HSk:=Lib.hid (HSj.out.keep (hbk.block _ HSj.out.lt.2.1) (hbk.block _ HSj.out.lt.1));have f0 : wk.cell? ⟨wj.heap.size,0,none⟩ = some (.int .i64 yl):=by rw [cell_of_heap k12]; rfl
         have f1 : wk.cell? ⟨wj.heap.size,1,none⟩ = some (.bool yi):=by rw [cell_of_heap k12]; rfl
         have f2 : wk.cell? ⟨wj.heap.size,2,none⟩ = some (.bool yb):=by rw [cell_of_heap k12]; rfl
         have f3 : wk.cell? ⟨wj.heap.size,3,none⟩ = some (.bool yw):=by rw [cell_of_heap k12]; rfl
         have f4 : wk.cell? ⟨wj.heap.size + 1,0,none⟩ = some (.int .i64 ((n * m : Nat) : Int)):=by rw [cell_of_heap k13]; rfl
         have f5 : wk.cell? ⟨wj.heap.size + 1,1,none⟩ = some (.int .i64 (lo : Int)):=by rw [cell_of_heap k13]; rfl
         have f6 : wk.cell? ⟨wj.heap.size + 1,2,none⟩ = some (.int .i64 (hi : Int)):=by rw [cell_of_heap k13]; rfl
         have HWK:=Lib.hid hwk;clear hwk hbk k12 k13 HFj HSj;rw [HWK.out];go_wp2_with fail;have hnm : n * m ≤ 571787 * 83:=Nat.mul_le_mul (Nat.le_trans hbt.1 (Nat.le_trans (Nat.pow_le_pow_right (by omega) (Nat.le_succ _)) hpow)) hm2
         have hfl : (from5 l D' ⟨el,ei⟩).length ≤ 571787:=Nat.le_trans (from_len l D' ⟨el,ei⟩) (Nat.le_trans (Nat.pow_le_pow_right (by omega) (Nat.le_succ _)) hpow)
         refine (add_any A ⟨yl,yi,yb,yw⟩ ⟨n * m,lo,hi⟩ 1 (fun y => addO (aggH l D' ⟨sl,si⟩ ks y) (aggG (from5 l D' ⟨el,ei⟩) m ys y)) wk HFk.out.ends ⟨by simp only; omega,by simp only; omega,by simp only; omega⟩ (by omega) (((HSB.out _).add (((aggG_b (from_darts l D' ⟨el,ei⟩) m ys _).le (Nat.mul_le_mul hfl hm2)).le2 (by omega))).le (by decide))).mono ?_
         rintro e wl ⟨rfl,hgl,hEl⟩;have HFl : Hid (FSt l (fun q => (F q ∨ W.heap.size ≤ q ∧ q < A + 2) ∨ q = r2) w5 gb hb kb A (A + 1) L (ks ++ [⟨xs,xi,xo⟩]) (fun y => addO (aggH l D' ⟨sl,si⟩ ks y) (aggG (from5 l D' ⟨el,ei⟩) m (ys ++ [⟨yl,yi,yb,yw⟩]) y)) wl):=Lib.hid (HFk.out.add hgl (hEl.congr fun y => by
          rw [aggG_snoc HYN.out HT.out];by_cases e : y = ⟨yl,yi,yb,yw⟩
          ·rw [if_pos e,if_pos e,e,addO_assoc]; rfl
          ·rw [if_neg e,if_neg e]))
         have HSl:=Lib.hid (HSk.out.keep (hgl.block _ HSk.out.lt.2.1 fun e => hbA (Option.some.inj e)) (hgl.block _ HSk.out.lt.1 fun e => by cases e; omega))
         have HLl : Hid (L2.length - seenN wl r2 < L2.length - seenN wi r2):=Lib.hid (by
          have e1:=SeenD.count HSl.out;have e2:=hLi.out;rw [e1,e2.2,List.length_append,List.length_singleton]; omega)
         clear hgl hEl HFk HSk f0 f1 f2 f3 f4 f5 f6 hnm hfl hbt;go_wp2;go_roundw
         case rel => exact ⟨ys ++ [⟨yl,yi,yb,yw⟩],HFl,HSl⟩
         case measure => exact HLl.out
  ·obtain ⟨b,rfl,h2,h3⟩ := HMV3.out rfl
   have HN:=Lib.hid h2;have HE:=Lib.hid h3;clear h2 h3 HMV3;go_wp2;go_returns;exact ⟨b,rfl,grownBy_below _ HB3.out,H3.out,HE.out,HN.out⟩
theorem from_any {l : Lg} (ok : LegOk l) : ∀ D,D ≤ 3 → FromC l D
 | 0,h => from_step ok 0 h fun D' e => by omega
 | D + 1,h => from_step ok (D + 1) h fun D' e => by
  obtain rfl : D' = D:=by omega
  exact from_any ok D' (by omega)
open Go.RowKit Go.Oche Go.Proofs

theorem visF (l : Lg) (s : Std) {ks : List En} (hn : ks.Nodup) (hm : ∀ x,x ∈ ks ↔ (agg (from5 l 3 s) x).isSome = true) (y : En) : aggF (from5 l 3 s) (noBust s) ks y = agg (vis5 l s) y :=
 aggF_all (noBust s) hn (fun p hp => (hm p.1).2 (agg_some.2 ⟨p,hp,rfl⟩)) y
set_option maxRecDepth 100000 in
set_option maxHeartbeats 4000000 in
theorem visits_any {l : Lg} (ok : LegOk l) {F : Nat → Prop} {gb hb kb : Nat} (s : Std) (W : World) (hs : 0 ≤ s.left ∧ s.left ≤ 1001) (h : GameAt l F W gb hb kb) (hF : ∀ q,F q → q < W.heap.size) :
  Calls Tryz.prog 53 #[.pointer (some ⟨gb,0,none⟩),stV s] W fun e W' => ∃ b,e = .returned (.map (some b)) ∧ W.grownBy W' (some kb) ∧ GameAt l F W' gb hb kb ∧ EndsAt W' b (agg (vis5 l s)) ∧ W.heap.size ≤ b:=by
 obtain ⟨sl,si⟩ := s;simp only at hs;unfold stV;obtain ⟨w1,hw1⟩ : ∃ x,(W.alloc (.cells #[.int .i64 sl,.bool si] 106)).alloc (.map #[] 0) = x:=⟨_,rfl⟩;have hb1 : Below W.heap.size W w1:=by rw [← hw1]; exact (aB _ _).alloc (by simp) _
 have hs1 : w1.heap.size = W.heap.size + 2:=by rw [← hw1]; simp
 have k3 : w1.heap[W.heap.size]? = some (.cells #[.int .i64 sl,.bool si] 106 (0,0)):=by rw [← hw1]; exact (Below.heap_alloc _ _ _ (by simp)).trans (World.alloc_heap_new _ _)
 obtain ⟨A,hA⟩ : ∃ A,W.heap.size + 1 = A:=⟨_,rfl⟩;have HEN : Hid (EndsAt w1 A fun _ => none):=Lib.hid (by
  rw [← hw1,← hA,show W.heap.size + 1 = (W.alloc (.cells #[.int .i64 sl,.bool si] 106)).heap.size by simp]; exact EndsAt.made _)
 have H1:=Lib.hid ((h.more (F':=fun q => F q ∨ W.heap.size ≤ q ∧ q < W.heap.size + 2) (fun q h => h.elim .inl fun h => .inr h.1) (fun q h => .inl h)).below hb1)
 have HH0:=Lib.hid h;have HW1:=Lib.hid hw1;have HB1:=Lib.hid hb1;have K3:=Lib.hid k3;have HF:=Lib.hid hF;have c0 : w1.cell? ⟨W.heap.size,0,none⟩ = some (.int .i64 sl):=by rw [cell_of_heap k3]; rfl
 have c1 : w1.cell? ⟨W.heap.size,1,none⟩ = some (.bool si):=by rw [cell_of_heap k3]; rfl
 have hmm := @run_makeMap Tryz.prog;have hlt0:=h.lt;clear hw1 k3 hb1 hF h
 go_enter Tryz.func53,Tryz.ntmps53
 go_upto_region 2 with fail
 rw [HW1.out];clear hmm;go_wp2_with fail;refine (from_any ok 3 (by omega) (fun q => F q ∨ W.heap.size ≤ q ∧ q < W.heap.size + 2) gb hb kb ⟨sl,si⟩ w1 hs H1.out (fun q hq => hq.elim (fun h => by have:=HF.out q h; omega) (fun h => by omega))).mono ?_
 rintro e wa ⟨b,rfl,hga,hGa,⟨L,hL,hLn,hLk⟩,hnb⟩;obtain ⟨w5,hrg,hS5,hb5,hz5⟩ := MapAt.range (P:=Tryz.prog) (T:=147) (by rfl) hL
 obtain ⟨r,hr⟩ : ∃ r,wa.heap.size = r:=⟨_,rfl⟩;rw [hr] at hrg hS5;have hsza : w1.heap.size ≤ wa.heap.size:=hga.size;have hbA : b ≠ A:=fun e => hnb (.inr ⟨by omega,by omega⟩)
 have hFk:=HF.out _ HH0.out.fk;have HG5 : Hid (GameAt l (fun q => (F q ∨ W.heap.size ≤ q ∧ q < W.heap.size + 2) ∨ q = r) w5 gb hb kb):=Lib.hid ((hGa.more (fun q h => h.elim .inl fun h => .inr (by omega)) (fun q h => .inl h)).below hb5)
 have HEN5 : Hid (EndsAt w5 A fun _ => none):=Lib.hid ((HEN.out.grown hga fun e => by cases e; omega).below hb5)
 have HS5:=Lib.hid (SeenD.of hS5);have HC5 : Hid (Chg (fun q => q = kb) W w5):=Lib.hid (((Chg.below HB1.out).thenG hga fun x hx _ => (Option.some.inj hx).symm).thenB hb5)
 have K5 : Hid (w5.heap[W.heap.size]? = some (.cells #[.int .i64 sl,.bool si] 106 (0,0))):=Lib.hid ((hb5.block _ (by omega)).trans ((hga.block _ (by omega) (fun e => by cases e; omega)).trans K3.out))
 have HLN:=Lib.hid hLn;have HLK:=Lib.hid hLk;have hfl : (from5 l 3 ⟨sl,si⟩).length ≤ 571787:=Nat.le_trans (from_len l 3 ⟨sl,si⟩) (Nat.le_trans (Nat.pow_le_pow_left (show l.beds.length + 1 ≤ 83 by have:=ok.beds; omega) _) (by decide))
 have hLb : Hid (L.length ≤ 571787):=Lib.hid (by
  have h1 : (L.map (·.1)).length ≤ ((from5 l 3 ⟨sl,si⟩).map (·.1)).length:=List.Nodup.length_le_of_subset hLn fun x hx => by
   have:=key_isSome.1 hx;rw [hLk,Option.isSome_map,agg_some] at this;obtain ⟨p,hp,rfl⟩ := this;exact List.mem_map_of_mem hp
  rw [List.length_map,List.length_map] at h1;omega)
 clear hga hGa hL hLn hLk hnb hS5 hb5 H1 HEN K3 c0 c1;go_wp2;clear hrg;go_loopw [6] (fun _ wr => ∃ ks : List En,Hid (SeenD enV wr r b L L ks) ∧ Hid (EndsAt wr A (aggF (from5 l 3 ⟨sl,si⟩) (noBust ⟨sl,si⟩) ks)) ∧ Hid (GameAt l (fun q => (F q ∨ W.heap.size ≤ q ∧ q < W.heap.size + 2) ∨ q = r) wr gb hb kb) ∧ Hid (Chg (fun q => q = kb) W wr) ∧ Hid (wr.heap[W.heap.size]? = some (.cells #[.int .i64 sl,.bool si] 106 (0,0)))) (fun _ wr => L.length - seenN wr r)
 case atStart => exact ⟨[],HS5,HEN5,HG5,HC5,K5⟩
 case round =>
  obtain ⟨ks,HSi,HEi,HGi,HCi,Ki⟩ := hrel;obtain ⟨wi,rfl⟩ : ∃ wi : World,wi = wr:=⟨_,rfl⟩;rcases HSi.out.next (P:=Tryz.prog) (dec:=decE) decE_eq HLN.out 0 with ⟨hnx,hperm⟩ | ⟨y,vy,wj,hmem,hyn,hlen,hnx,hSj,hgj,hzj,henj⟩
  ·have HV : Hid (EndsAt wi A (agg (vis5 l ⟨sl,si⟩))):=Lib.hid (HEi.out.congr fun y => visF l ⟨sl,si⟩ (hperm.nodup_iff.2 HLN.out) (fun x => by rw [hperm.mem_iff,key_isSome,HLK.out]; simp) y)
   have HGR:=Lib.hid (HCi.out.toGrown fun q _ h => h)
   have HGW:=Lib.hid (HGi.out.less (F':=F) (fun q h => .inl (.inl h)) HH0.out.fg HH0.out.fh HH0.out.fk)
   clear hperm;go_wp2;go_returns;exact ⟨A,rfl,HGR.out,HGW.out,HV.out,by omega⟩
  ·have hy1:=HLK.out y
   rw [mem_lookM HLN.out hmem] at hy1;obtain ⟨⟨n,lo,hi⟩,ht,rfl⟩ := Option.map_eq_some_iff.1 hy1.symm;have hbt:=agg_b (from_darts l 3 ⟨sl,si⟩) y _ ht;simp only at hbt;have HT:=Lib.hid ht;obtain ⟨yl,yi,yb,yw⟩ := y;unfold enV smV at hnx henj;simp only at hnx henj;have hli:=HSi.out.lt;have hgl:=HGi.out.lt;have hszi:=HCi.out.size;have HGj:=Lib.hid (HGi.out.grown hgj (fun x hx => by cases hx; have:=HF.out _ HH0.out.fg; have:=HF.out _ HH0.out.fh; exact ⟨by omega,by omega,by omega,.inl (.inr rfl)⟩))
   have HEj:=Lib.hid (HEi.out.grown hgj fun e => by cases e; omega)
   have HCj:=Lib.hid (HCi.out.thenG hgj fun x hx hlt => by cases hx; omega)
   have Kj:=Lib.hid ((hgj.block _ (by omega) (fun e => by cases e; omega)).trans Ki.out)
   have HSj:=Lib.hid hSj;have hLi : Hid (ks.length < L.length ∧ seenN wi r = ks.length):=Lib.hid ⟨hlen,SeenD.count HSi.out⟩;clear hyn hmem hlen hSj hgj hzj hy1 ht HSi HEi HGi HCi Ki hli hgl;go_upto_region 5 with fail;clear hnx henj;obtain ⟨wk,hwk⟩ : ∃ x,(wj.alloc (.cells #[.int .i64 yl,.bool yi,.bool yb,.bool yw] 150)).alloc (.cells #[.int .i64 (n : Int),.int .i64 (lo : Int),.int .i64 (hi : Int)] 109) = x:=⟨_,rfl⟩;have hbk : Below wj.heap.size wj wk:=by rw [← hwk]; exact ((aB _ _)).alloc (by simp) _
   have k12 : wk.heap[wj.heap.size]? = some (.cells #[.int .i64 yl,.bool yi,.bool yb,.bool yw] 150 (0,0)):=by
    rw [← hwk]; exact (Below.heap_alloc _ _ _ (by simp)).trans (World.alloc_heap_new _ _)
   have k13 : wk.heap[wj.heap.size + 1]? = some (.cells #[.int .i64 (n : Int),.int .i64 (lo : Int),.int .i64 (hi : Int)] 109 (0,0)):=by
    rw [← hwk,show wj.heap.size + 1 = (wj.alloc (.cells #[.int .i64 yl,.bool yi,.bool yb,.bool yw] 150)).heap.size by simp]; exact World.alloc_heap_new _ _
   have hltk:=(Array.getElem?_eq_some_iff.1 k13).1
   have f1 : wk.cell? ⟨wj.heap.size,1,none⟩ = some (.bool yi):=by rw [cell_of_heap k12]; rfl
   have f2 : wk.cell? ⟨wj.heap.size,2,none⟩ = some (.bool yb):=by rw [cell_of_heap k12]; rfl
   have K12:=Lib.hid k12;have K13:=Lib.hid k13;have HWK:=Lib.hid hwk;have hjr:=HSj.out.lt.1;have hjb:=HSj.out.lt.2.1;have hjA:=HEj.out.lt;have hjg:=HGj.out.lt;have hjc:=HCj.out.size;have HBK:=Lib.hid hbk;clear hwk hbk k12 k13;rw [HWK.out];obtain ⟨x,hx⟩ : ∃ x,noBust ⟨sl,si⟩ ⟨yl,yi,yb,yw⟩ = x:=⟨_,rfl⟩;have HX:=Lib.hid hx;clear hx;obtain ⟨wm,hwm⟩ : ∃ wm : World,(if yb = true then (((wk.setCell ⟨wj.heap.size,0,none⟩ (.int .i64 sl)).setCell ⟨wj.heap.size,1,none⟩ (.bool si)).setCell ⟨wj.heap.size,2,none⟩ (.bool false)).setCell ⟨wj.heap.size,3,none⟩ (.bool false) else wk) = wm:=⟨_,rfl⟩
   have oth : ∀ q,q ≠ wj.heap.size → wm.heap[q]? = wk.heap[q]? := fun q hq => by
    rw [← hwm];cases yb
    ·rfl
    ·rw [if_pos rfl,Below.heap_setCell _ _ _ _ (by simpa using hq),Below.heap_setCell _ _ _ _ (by simpa using hq),Below.heap_setCell _ _ _ _ (by simpa using hq),Below.heap_setCell _ _ _ _ (by simpa using hq)]
   have hbm : Below wj.heap.size wk wm:=by
    rw [← hwm];cases yb
    ·exact ⟨rfl,rfl,rfl,Nat.le_refl _,fun _ _ => rfl⟩
    ·rw [if_pos rfl]
     exact ((((⟨rfl,rfl,rfl,Nat.le_refl _,fun _ _ => rfl⟩ : Below wj.heap.size wk wk).setCell (by simp) _).setCell (by simp) _).setCell (by simp) _).setCell (by simp) _
   have hmx : wm.heap[wj.heap.size]? = some (.cells #[.int .i64 x.left,.bool x.inn,.bool x.bust,.bool x.won] 150 (0,0)):=by
    rw [← hwm,← HX.out];cases yb
    ·exact K12.out
    ·rw [if_pos rfl]; exact heap_setCell_at (heap_setCell_at (heap_setCell_at (heap_setCell_at K12.out _) _) _) _
   have hm13:=(oth (wj.heap.size + 1) (by omega)).trans K13.out
   have h0 : wm.cell? ⟨wj.heap.size,0,none⟩ = some (.int .i64 x.left):=by rw [cell_of_heap hmx]; rfl
   have h1 : wm.cell? ⟨wj.heap.size,1,none⟩ = some (.bool x.inn):=by rw [cell_of_heap hmx]; rfl
   have h2 : wm.cell? ⟨wj.heap.size,2,none⟩ = some (.bool x.bust):=by rw [cell_of_heap hmx]; rfl
   have h3 : wm.cell? ⟨wj.heap.size,3,none⟩ = some (.bool x.won):=by rw [cell_of_heap hmx]; rfl
   have h4 : wm.cell? ⟨wj.heap.size + 1,0,none⟩ = some (.int .i64 (n : Int)):=by rw [cell_of_heap hm13]; rfl
   have h5 : wm.cell? ⟨wj.heap.size + 1,1,none⟩ = some (.int .i64 (lo : Int)):=by rw [cell_of_heap hm13]; rfl
   have h6 : wm.cell? ⟨wj.heap.size + 1,2,none⟩ = some (.int .i64 (hi : Int)):=by rw [cell_of_heap hm13]; rfl
   have hbjm : Below wj.heap.size wj wm:=HBK.out.trans hbm;have HSm:=Lib.hid (HSj.out.keep (hbjm.block _ HSj.out.lt.2.1) (hbjm.block _ HSj.out.lt.1));have HEm:=Lib.hid (HEj.out.below hbjm);have HGm:=Lib.hid (HGj.out.below hbjm);have HCm:=Lib.hid (HCj.out.thenB hbjm);have Km:=Lib.hid ((hbjm.block _ (Array.getElem?_eq_some_iff.1 Kj.out).1).trans Kj.out)
   have HWM:=Lib.hid hwm;have t0 : wk.cell? ⟨W.heap.size,0,none⟩ = some (.int .i64 sl):=by rw [cell_of_heap ((HBK.out.block _ (Array.getElem?_eq_some_iff.1 Kj.out).1).trans Kj.out)]; rfl
   have t1 : wk.cell? ⟨W.heap.size,1,none⟩ = some (.bool si):=by rw [cell_of_heap ((HBK.out.block _ (Array.getElem?_eq_some_iff.1 Kj.out).1).trans Kj.out)]; rfl
   have z0 : wk.frozen? ⟨wj.heap.size,0,none⟩ = false:=frozen_of_heap K12.out;have z1 : wk.frozen? ⟨wj.heap.size,1,none⟩ = false:=frozen_of_heap K12.out;have z2 : wk.frozen? ⟨wj.heap.size,2,none⟩ = false:=frozen_of_heap K12.out;have z3 : wk.frozen? ⟨wj.heap.size,3,none⟩ = false:=frozen_of_heap K12.out;have f0 : wk.cell? ⟨wj.heap.size,0,none⟩ = some (.int .i64 yl):=by rw [cell_of_heap K12.out]; rfl
   have f3 : wk.cell? ⟨wj.heap.size,3,none⟩ = some (.bool yw):=by rw [cell_of_heap K12.out]; rfl
   have hmA:=HEm.out.lt;clear HSj HEj HGj HCj Kj hwm oth hbm hmx hm13 hbjm;have hks : ks.length ≤ 571787:=by have:=hLb.out; have:=hLi.out; omega
   have HSB : Hid (SmB (571787 * 571787) 1000 (aggF (from5 l 3 ⟨sl,si⟩) (noBust ⟨sl,si⟩) ks x)):=Lib.hid (((aggF_b (from_darts l 3 ⟨sl,si⟩) (noBust ⟨sl,si⟩) x ks).le (Nat.mul_le_mul hks hfl)).le2 (by omega))
   cases yb
   all_goals
    go_upto_region 7 with fail
    first
    | rw [show wk = wm from HWM.out]
    | rw [show (((wk.setCell ⟨wj.heap.size,0,none⟩ (.int .i64 sl)).setCell ⟨wj.heap.size,1,none⟩ (.bool si)).setCell ⟨wj.heap.size,2,none⟩ (.bool false)).setCell ⟨wj.heap.size,3,none⟩ (.bool false) = wm from HWM.out]
    clear f0 f1 f2 f3 t0 t1 z0 z1 z2 z3;go_wp2_with fail;refine (add_any A x ⟨n,lo,hi⟩ 0 (aggF (from5 l 3 ⟨sl,si⟩) (noBust ⟨sl,si⟩) ks) wm HEm.out ⟨by simp only; omega,by simp only; omega,by simp only; omega⟩ (by omega) (HSB.out.le (by decide))).mono ?_
    rintro e wl ⟨rfl,hgl,hEl⟩;have HEl:=Lib.hid (hEl.congr (g:=aggF (from5 l 3 ⟨sl,si⟩) (noBust ⟨sl,si⟩) (ks ++ [⟨yl,yi,_,yw⟩])) fun z => by
     rw [aggF_snoc,HX.out,HT.out];by_cases e : z = x
     ·rw [if_pos e,if_pos e.symm,e]; rfl
     ·rw [if_neg e,if_neg (fun q => e q.symm),addO_none])
    have HSl:=Lib.hid (HSm.out.keep (hgl.block _ HSm.out.lt.2.1 fun e => hbA (Option.some.inj e)) (hgl.block _ HSm.out.lt.1 fun e => by cases e; omega))
    have HGl:=Lib.hid (HGm.out.grown hgl (fun z hz => by cases hz; have:=HF.out _ HH0.out.fg; have:=HF.out _ HH0.out.fh; exact ⟨by omega,by omega,by omega,.inl (.inl (.inr ⟨by omega,by omega⟩))⟩))
    have HCl:=Lib.hid (HCm.out.thenG hgl fun z hz hlt => by cases hz; omega)
    have Kl:=Lib.hid ((hgl.block _ (Array.getElem?_eq_some_iff.1 Km.out).1 (fun e => by cases e; omega)).trans Km.out)
    have HLl : Hid (L.length - seenN wl r < L.length - seenN wi r):=Lib.hid (by
     have e1:=SeenD.count HSl.out;have e2:=hLi.out;rw [e1,e2.2,List.length_append,List.length_singleton]; omega)
    clear hgl hEl HSm HEm HGm HCm Km h0 h1 h2 h3 h4 h5 h6;go_wp2;go_roundw
    case rel => exact ⟨ks ++ [⟨yl,yi,_,yw⟩],HSl,HEl,HGl,HCl,Kl⟩
    case measure => exact HLl.out
end Go.Proofs.YtnbmgkmcaoafnaaGreatDoor
