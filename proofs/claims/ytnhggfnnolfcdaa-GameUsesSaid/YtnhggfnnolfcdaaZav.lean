/- The texts KK0, KF, OnG, KH, in build order. -/
import Derived.Test.YtnhggfnnolfcdaaZau
import Derived.Deep.DeepCutAuto
import Derived.Deep.CutRange
import Derived.Deep.CutBlock

/- Chapter 4, the reference: a game by value, the search for the next player, the best ones. -/
namespace Go.Proofs.Ytnhggfnnolfcdaa
open Go.RowKit Go.Oche Go.Proofs
structure GamV (w : World) (r : Rul) (g : Gam) (nv : Value) (pb cap : Nat) (wv : Value) : Prop where
 pls : PlsAt w pb g.pls
 win : Sl (fun _ => True) w wv (ints g.win)
 num : Sl (fun _ => True) w nv (ints r.nums)
 cap : g.pls.length ≤ cap ∧ cap ≤ 9223372036854775807
theorem GamV.below {w w' : World} {r : Rul} {g : Gam} {nv wv : Value} {pb cap : Nat} (h : GamV w r g nv pb cap wv) (hb : Below w.heap.size w w') : GamV w' r g nv pb cap wv:=⟨h.pls.below hb,h.win.below hb,h.num.below hb,h.cap⟩
theorem GamAt.toV {w : World} {t pb cap : Nat} {r : Rul} {g : Gam} {wv nv : Value} (h : GamAt w t pb r g cap wv nv) : GamV w r g nv pb cap wv:=⟨h.pls,h.win.mono fun _ _ => trivial,h.num.mono fun _ _ => trivial,h.cap⟩
theorem GamV.gamS {w : World} {pb cap : Nat} {r : Rul} {g : Gam} {wv nv : Value} (h : GamV w r g nv pb cap wv) :
  ∃ na nc wa wc,nv = .slice na r.nums.length nc ∧ wv = .slice wa g.win.length wc ∧ GamS (fun _ => True) w r g na r.nums.length nc (some ⟨pb,0,none⟩) g.pls.length cap wa g.win.length wc:=by
 have h1:=h.num
 have h2:=h.win
 obtain ⟨na,nc,e1, -, -⟩ := h1.form
 obtain ⟨wa,wc,e2, -, -⟩ := h2.form
 rw [ints_length] at e1 e2
 subst e1 e2
 exact ⟨na,nc,wa,wc,rfl,rfl,(h.pls.slN rfl h.cap).mono fun _ _ => trivial,h.pls.1,h2,h1,rfl,rfl,rfl⟩
theorem refOver_v (pb cap : Nat) (r : Rul) (g : Gam) (wv nv : Value) (w : World) (h : GamV w r g nv pb cap wv) :
  Calls Try.prog 23 #[.agg (gamA r g nv (.slice (some ⟨pb,0,none⟩) g.pls.length cap) wv)] w fun e w' => e = .returned (.bool (!g.win.isEmpty)) ∧ Below w.heap.size w w':=by
 obtain ⟨na,nc,wa,wc,rfl,rfl,hG⟩ := h.gamS
 exact refOver_any r g na _ nc _ _ cap wa _ wc rfl w
theorem refBetter_v (pb cap : Nat) (r : Rul) (g : Gam) (wv nv : Value) (w : World) (h : GamV w r g nv pb cap wv) (hok : ∀ p ∈ g.pls,PlOk r p) (a b : Nat) (ha : a < g.pls.length) (hb : b < g.pls.length) :
  Calls Try.prog 45 #[.agg (gamA r g nv (.slice (some ⟨pb,0,none⟩) g.pls.length cap) wv),.int .i64 a,.int .i64 b] w fun e w' => e = .returned (.bool (betterR r (plr g a) (plr g b))) ∧ Below w.heap.size w w':=by
 obtain ⟨na,nc,wa,wc,rfl,rfl,hG⟩ := h.gamS
 exact refBetter_any r g na _ nc _ _ cap wa _ wc w hG (fun p hp m hm => ⟨(hok p hp).mlo m hm,(hok p hp).mhi m hm⟩) a b ha hb
structure GamW (B : Nat) (w : World) (t pb : Nat) (r : Rul) (g : Gam) (cap : Nat) (wv nv : Value) : Prop where
 box : w.heap[t]? = some (.cells (gamA r g nv (.slice (some ⟨pb,0,none⟩) g.pls.length cap) wv) 41 (0,0))
 pls : PlsAt w pb g.pls
 num : Sl (fun q => ¬ TO t pb q ∧ q < B) w nv (ints r.nums)
 ne : t ≠ pb
 cap : g.pls.length ≤ cap ∧ cap ≤ 9223372036854775807
 tb : t < B ∧ pb < B
section
variable {B : Nat} {w w' : World} {t pb cap : Nat} {r : Rul} {g : Gam} {wv nv : Value}
theorem GamAt.toW (h : GamAt w t pb r g cap wv nv) : GamW w.heap.size w t pb r g cap wv nv:=⟨h.box,h.pls,h.num.lt,h.ne,h.cap,h.lt t (.inl rfl),h.lt pb (.inr rfl)⟩
theorem GamW.below (h : GamW B w t pb r g cap wv nv) (hb : Below B w w') : GamW B w' t pb r g cap wv nv :=
 ⟨(hb.block t h.tb.1).trans h.box,h.pls.keep (hb.block pb h.tb.2),h.num.keepB fun k hk _ => hb.block k hk.2,h.ne,h.cap,h.tb⟩
theorem GamW.at_ (h : GamW B w t pb r g cap wv nv) {j : Nat} {v : Value} (hj : (gamA r g nv (.slice (some ⟨pb,0,none⟩) g.pls.length cap) wv)[j]? = some v) : w.cell? ⟨t,j,none⟩ = some v:=by
 rw [cell_of_heap h.box]; exact hj
theorem GamW.free (h : GamW B w t pb r g cap wv nv) (j : Nat) : w.frozen? ⟨t,j,none⟩ = false:=frozen_of_heap h.box
theorem GamW.setWin (h : GamW B w t pb r g cap wv nv) (x : Value) : GamW B (w.setCell ⟨t,14,none⟩ x) t pb r g cap x nv :=
 ⟨by rw [heap_setCell_at h.box]; rfl,h.pls.other x h.ne,sl_set h.num x (fun q hq e => hq.1 (.inl e)),h.ne,h.cap,h.tb⟩
theorem GamW.toV (h : GamW B w t pb r g cap wv nv) {l : List Int} (hw : Sl (fun _ => True) w wv (ints l)) : GamV w r { g with win:=l } nv pb cap wv:=⟨h.pls,hw,h.num.mono fun _ _ => trivial,h.cap⟩
end
structure NxAt (r : Rul) (g : Gam) (n p0 r0 j p rd : Nat) : Prop where
 pos : rd * n + p = r0 * n + p0 + j
 rdb : rd ≤ r0 + j
 pn : p < n
 mod : p = (p0 + j) % n
 eq : nextP r g n p0 r0 = if j = 0 then nextP r g n p rd else if isOutG r g p = true then nextP r g (n - j) p rd else (p,rd)
 all : ∀ i,1 ≤ i → i < j → isOutG r g ((p0 + i) % n) = true
theorem NxAt.start {r : Rul} {g : Gam} {n p0 r0 : Nat} (h : p0 < n) : NxAt r g n p0 r0 0 p0 r0 :=
 ⟨by omega,by omega,h,by rw [Nat.add_zero,Nat.mod_eq_of_lt h],by rw [if_pos rfl],fun i h1 h2 => by omega⟩
theorem NxAt.step {r : Rul} {g : Gam} {n p0 r0 j p rd : Nat} (h : NxAt r g n p0 r0 j p rd) (hn : g.pls.length = n) (ho : j = 0 ∨ isOutG r g p = true) (hs : ∃ i,1 ≤ i ∧ i ≤ n ∧ isOutG r g ((p0 + i) % n) = false) :
  j < n ∧ NxAt r g n p0 r0 (j + 1) (stepP n p rd).1 (stepP n p rd).2:=by
 have hsp:=step_pos (rd:=rd) h.pn
 have hall : ∀ i,1 ≤ i → i < j + 1 → isOutG r g ((p0 + i) % n) = true:=fun i h1 h2 => by
  by_cases e : i = j
  ·subst e
   rcases ho with e | e
   ·omega
   ·rw [h.mod] at e; exact e
  ·exact h.all i h1 (by omega)
 have hjn : j < n:=by
  obtain ⟨i,h1,h2,h3⟩ := hs
  by_cases q : j < n
  ·exact q
  ·rw [hall i h1 (by omega)] at h3; cases h3
 have hrd : (stepP n p rd).2 ≤ rd + 1:=by unfold stepP; split <;> simp
 refine ⟨hjn,by rw [hsp.2.1,h.pos]; omega,by have:=h.rdb; omega,hsp.1,by rw [hsp.2.2,h.mod,Nat.mod_add_mod]; rfl, ?_,hall⟩
 have e1 : nextP r g n p0 r0 = nextP r g (n - j) p rd:=by
  rw [h.eq]
  rcases ho with e | e
  ·subst e; rw [if_pos rfl,Nat.sub_zero]
  ·rw [e]
   by_cases q : j = 0
   ·rw [if_pos q,q,Nat.sub_zero]
   ·rw [if_neg q,if_pos rfl]
 rw [e1,if_neg (by omega),show n - j = n - (j + 1) + 1 by omega]
 cases o : isOutG r g (stepP n p rd).1 with
 | true => rw [if_pos rfl]; exact some_step hn o
 | false => rw [if_neg (by simp)]; exact none_step hn o
theorem NxAt.done {r : Rul} {g : Gam} {n p0 r0 j p rd : Nat} (h : NxAt r g n p0 r0 j p rd) (hj : j ≠ 0) (ho : isOutG r g p = false) : nextP r g n p0 r0 = (p,rd):=by
 rw [h.eq,if_neg hj,ho]; simp
def bstTo (r : Rul) (g : Gam) (i m : Nat) : Bool:=(List.range m).all fun k => !betterR r (plr g k) (plr g i)
def bstK (r : Rul) (g : Gam) (m : Nat) : List Int:=((List.range m).filter fun i => bstTo r g i g.pls.length).map fun (k : Nat) => (k : Int)
theorem bstTo_succ (r : Rul) (g : Gam) (i m : Nat) : bstTo r g i (m + 1) = (bstTo r g i m && !betterR r (plr g m) (plr g i)):=by
 unfold bstTo; rw [List.range_succ,List.all_append,List.all_cons,List.all_nil,Bool.and_true]
theorem bstK_succ (r : Rul) (g : Gam) (m : Nat) : bstK r g (m + 1) = bstK r g m ++ if bstTo r g m g.pls.length = true then [(m : Int)] else []:=by
 unfold bstK
 rw [List.range_succ,List.filter_append,List.map_append]
 congr 1
 rw [List.filter_cons,List.filter_nil]
 split <;> rfl
theorem bstK_all (r : Rul) (g : Gam) : bstK r g g.pls.length = bestR r g.pls:=rfl
theorem bstK_len (r : Rul) (g : Gam) (m : Nat) : (bstK r g m).length ≤ m:=by
 unfold bstK; rw [List.length_map]; exact Nat.le_trans (List.length_filter_le _ _) (by simp)
theorem GamAt.setHit {w : World} {t pb cap : Nat} {r : Rul} {g : Gam} {wv nv : Value} (h : GamAt w t pb r g cap wv nv) (h5 : g.hit.length = 5) {k : Nat} (hk : k < 5) (b : Bool) : GamAt (w.setCell ⟨t,15 + k,none⟩ (.bool b)) t pb r { g with hit:=g.hit.set k b } cap wv nv:=by
 refine h.setT ?_ rfl rfl
 obtain ⟨rd,pl,da,pls,win,hit⟩ := g
 match hit,h5 with
 | [a,b,c,d,e],_ =>
  obtain rfl | rfl | rfl | rfl | rfl : k = 0 ∨ k = 1 ∨ k = 2 ∨ k = 3 ∨ k = 4:=by omega
  all_goals rfl
theorem below_rel {O O' : Nat → Prop} {B : Nat} {w a b : World} (hb : Below B w a) (hr : Rel O a O' b) (hO : ∀ q,O q → B ≤ q) (hB : B ≤ a.heap.size) : Below B w b :=
 ⟨hr.os.trans hb.os,hr.tape.trans hb.tape,hr.output.trans hb.output,Nat.le_trans hb.size hr.size,fun k hk => (hr.block k (Nat.lt_of_lt_of_le hk hB) fun e => by have:=hO k e; omega).trans (hb.block k hk)⟩
theorem rel_below {O : Nat → Prop} {B : Nat} {w a b : World} (hr : Rel O w O a) (hb : Below B a b) (hB : w.heap.size ≤ B) (hw : ∀ k,O k → k < w.heap.size) : Rel O w O b :=
 ⟨hb.os.trans hr.os,hb.tape.trans hr.tape,hb.output.trans hr.output,Nat.le_trans hr.size hb.size,fun k hk hn => (hb.block k (Nat.lt_of_lt_of_le hk hB)).trans (hr.block k hk hn),fun _ h => .inl h,fun k hk => Nat.lt_of_lt_of_le (hw k hk) (Nat.le_trans hr.size hb.size)⟩
theorem bestG_ne {r : Rul} {l : List Plr} (h : 0 < l.length) : bestG r l ≠ []:=by
 obtain ⟨k,hk,hall⟩ := min_ex r l l.length (Nat.le_refl _) h
 intro e
 have : (k : Int) ∈ bestG r l:=by
  unfold bestG
  refine List.mem_map.2 ⟨k,List.mem_filter.2 ⟨List.mem_range.2 hk, ?_⟩,rfl⟩
  rw [List.all_eq_true]
  intro j hj
  exact decide_eq_true (hall j (List.mem_range.1 hj))
 rw [e] at this; cases this
def ThrowPost (r : Rul) (g : Gam) (nv : Value) (w : World) (e : Ending) (w' : World) : Prop :=
 ∃ pb cap wv,e = .returned (.agg (gamA r g nv (.slice (some ⟨pb,0,none⟩) g.pls.length cap) wv)) ∧ GamV w' r g nv pb cap wv ∧ Below w.heap.size w w' ∧ (g.win = [] → wv = .slice none 0 0) ∧ Sl (fun q => w.heap.size ≤ q) w' wv (ints g.win)
def BIff (b : Bool) (p : Prop) : Prop:=b = true ↔ p
theorem BIff.mk {b : Bool} {p : Prop} (h : b = true ↔ p) : BIff b p:=h
theorem BIff.yes {p : Prop} (h : BIff true p) : p:=h.1 rfl
theorem BIff.no {p : Prop} (h : BIff false p) : ¬ p:=fun e => by have:=h.2 e; cases this
theorem BIff.t {p : Prop} (h : p) : BIff true p:=⟨fun _ => h,fun _ => rfl⟩
theorem BIff.f {p : Prop} (h : ¬ p) : BIff false p:=⟨fun e => (by cases e),fun e => (h e).elim⟩
theorem results_cell {P : Program} {fn : Func} {tmps : Array Value} {a : Nat} {t : TypeId} {p : Addr} {v : Value} {w : World} (h : fn.results = #[.cell a t]) (hv : tmps.getD a undef = .pointer (some p)) (hl : (loadVar t p).run P w = .ok v w) : (results fn tmps).run P w = .ok v w:=by
 unfold results
 rw [h]
 simp only [Array.mapM_eq_mapM_toList,List.mapM_cons,List.mapM_nil,hv,asAddr,Sem.run_bind,Sem.run_pure]
 simp [Result.andThen_ok,hl]
theorem results_cell3 {P : Program} {fn : Func} {tmps : Array Value} {a b c : Nat} {t : TypeId} {p : Addr} {v vb vc : Value} {w : World} (h : fn.results = #[.cell a t,.tmp b,.tmp c]) (hv : tmps.getD a undef = .pointer (some p)) (hl : (loadVar t p).run P w = .ok v w) (hb : tmps.getD b undef = vb) (hc : tmps.getD c undef = vc) : (results fn tmps).run P w = .ok (.tuple #[v,vb,vc]) w:=by
 unfold results
 rw [h]
 simp only [Array.mapM_eq_mapM_toList,List.mapM_cons,List.mapM_nil,hv,hb,hc,asAddr,Sem.run_bind,Sem.run_pure]
 simp [Result.andThen_ok,hl]
theorem gamA_one {r : Rul} {g : Gam} {nv pv wv : Value} (h1 : nv.oneCell' = true) (h2 : pv.oneCell' = true) (h3 : wv.oneCell' = true) : (gamA r g nv pv wv).all (·.oneCell') = true:=by
 unfold gamA
 simp only [List.all_toArray,List.all_cons,List.all_nil,h1,h2,h3,Bool.and_true]; rfl
structure JThr (w0 : World) (r : Rul) (g : Gam) (nv : Value) (i : Nat) (L : Nat → Bool) (vs : Nat → Value) (W : World) : Prop where
 below : Below w0.heap.size w0 W
 res : L i = true → ∃ pb cap wv,vs i = .agg (gamA r g nv (.slice (some ⟨pb,0,none⟩) g.pls.length cap) wv) ∧ GamV W r g nv pb cap wv ∧ (g.win = [] → wv = .slice none 0 0) ∧ Sl (fun q => w0.heap.size ≤ q) W wv (ints g.win)
theorem JThr.congr {w0 W : World} {r : Rul} {g : Gam} {nv : Value} {i : Nat} {L : Nat → Bool} {vs vs' : Nat → Value} (hc : ∀ j,L j = true → vs j = vs' j) (h : JThr w0 r g nv i L vs W) : JThr w0 r g nv i L vs' W :=
 ⟨h.below,fun hl => hc _ hl ▸ h.res hl⟩
theorem JThr.start {w0 : World} {r : Rul} {g : Gam} {nv : Value} {i : Nat} {vs : Nat → Value} : JThr w0 r g nv i (fun _ => false) vs w0.drew :=
 ⟨⟨rfl,rfl,rfl,Nat.le_refl _,fun _ _ => rfl⟩,fun h => by cases h⟩
theorem JThr.read {w0 W : World} {r : Rul} {g : Gam} {nv : Value} {i j : Nat} {L : Nat → Bool} {vs : Nat → Value} {v : Value} (h : JThr w0 r g nv i L vs W) (hne : i ≠ j) : JThr w0 r g nv i (setB L j) (updV vs j v) W:=by
 refine ⟨h.below, ?_⟩
 rw [setB_ne hne,updV_ne hne]
 exact h.res
theorem JThr.call {w0 W W' : World} {r : Rul} {g : Gam} {nv v : Value} {i : Nat} {L : Nat → Bool} {vs : Nat → Value} {e : Ending} (h : JThr w0 r g nv i L vs W) (hp : ThrowPost r g nv W e W') (he : e = .returned v) : (∃ pb cap wv,v = .agg (gamA r g nv (.slice (some ⟨pb,0,none⟩) g.pls.length cap) wv)) ∧ JThr w0 r g nv i (setB L i) (updV vs i v) W':=by
 obtain ⟨pb,cap,wv,h1,h2,h3,h4,h5⟩ := hp
 rw [h1] at he
 cases he
 refine ⟨⟨pb,cap,wv,rfl⟩,h.below.trans (h3.mono h.below.size),fun _ => ⟨pb,cap,wv,by rw [updV_eq],h2,h4,h5.mono fun q hq => Nat.le_trans h.below.size hq⟩⟩
def RefPlayPost (r : Rul) (nv : Value) (w : World) (x : Option Gam × Nat × Int) (e : Ending) (w' : World) : Prop :=
 ∃ gv,e = .returned (.tuple #[gv,.int .i64 x.2.1,.int .i64 x.2.2]) ∧ Below w.heap.size w w' ∧ ((x.1 = none ∧ gv = .agg #[.int .i64 0,.int .i64 0,.int .i64 0,.bool false,.bool false,.int .i64 0,.bool false,.slice none 0 0,.int .i64 0,.bool false,.int .i64 0,.int .i64 0,.int .i64 0,.slice none 0 0,.slice none 0 0,.bool false,.bool false,.bool false,.bool false,.bool false]) ∨
  ∃ g pb cap wv,x.1 = some g ∧ gv = .agg (gamA r g nv (.slice (some ⟨pb,0,none⟩) g.pls.length cap) wv) ∧ GamV w' r g nv pb cap wv ∧ (g.win = [] → wv = .slice none 0 0))
end Go.Proofs.Ytnhggfnnolfcdaa

/- Chapter 4, the reference, in plain Lean: killer's hit, number by number. -/
namespace Go.Proofs.Ytnhggfnnolfcdaa
open Go.RowKit Go.Oche Go.Proofs
end Go.Proofs.Ytnhggfnnolfcdaa

/- An operation with a guard that lets it run, by a rule for the operation alone. -/
namespace Go.Oche
open Go Go.RowKit
theorem wpList_opOK_on {P : Program} {ops : Array Oper} {Q : Exit → Act → World → Prop} {o : Oper} {rest : List Oper} {a : Act} {w : World} {R : Value → World → Prop} (hw : Region.wanted o (yielded ops a.tmps) = true) (hg : opOK P o a w R)
  (hK : ∀ v w',R v w' → wpList P ops Q rest (a.put o.dst v) w') : wpList P ops Q (o :: rest) a w:=by
 simp only [wpList,hw,if_true]
 exact .inl (wp_of_opOK hg fun v w' hr => hK v w' hr)
end Go.Oche

/- Chapter 4, the reference: a dart of killer. -/
namespace Go.Proofs.Ytnhggfnnolfcdaa
open Go.RowKit Go.Oche Go.Proofs
theorem killR_kept (r : Rul) (f n : Int) (g : Gam) : ∀ l : List Nat,Kept g (killR r f n g l)
 | [] => Kept.refl g
 | i :: l => by
  rw [killR]
  split
  ·exact killR_kept r f n g l
  ·split
   ·exact Kept.set _ _ _
   ·split
    ·exact Kept.set _ _ _
    ·exact Kept.refl g
theorem kill_next {r : Rul} {g : Gam} {f n : Int} {i np : Nat} (hi : i < np) (h : f ≠ 2 ∨ n ≠ r.nums.getD i 0 ∨ isOutG r g i = true) : killR r f n g (List.range' i (np - i)) = killR r f n g (List.range' (i + 1) (np - (i + 1))):=by
 rw [show np - i = np - (i + 1) + 1 by omega,List.range'_succ,killR,if_pos h]
theorem kill_here {r : Rul} {g : Gam} {f n : Int} {i np : Nat} (hi : i < np) (h : ¬ (f ≠ 2 ∨ n ≠ r.nums.getD i 0 ∨ isOutG r g i = true)) : killR r f n g (List.range' i (np - i)) = if i = g.player ∧ (plr g g.player).kl = false then setP g i { plr g i with kl:=true }
  else if (i ≠ g.player ∧ (plr g g.player).kl = true) ∨ (i = g.player ∧ r.own = true) then setP g i { plr g i with pts:=(plr g i).pts - 1 } else g:=by
 rw [show np - i = np - (i + 1) + 1 by omega,List.range'_succ,killR,if_neg h]
set_option maxRecDepth 100000 in
set_option maxHeartbeats 4000000 in
theorem refKiller_any (t pb cap : Nat) (r : Rul) (g : Gam) (wv nv : Value) (f n M : Int) (w : World) (h : GamAt w t pb r g cap wv nv) (hi : Run r M g) (k : r.kind = 4) (hM : M ≤ 1000000) :
  Calls Try.prog 53 #[.pointer (some ⟨t,0,none⟩),.int .i64 f,.int .i64 n,.int .i64 g.player] w (RefPost t pb r cap nv wv w (dartKiller r g f n)):=by
 have htw : t < w.heap.size:=h.lt t (.inl rfl)
 have hc:=ok4 hi.ok k
 have hlen : g.pls.length = r.nums.length:=by have:=hi.len; omega
 rw [← killer_eq hi k f n]
 obtain ⟨d,hd⟩ : ∃ d,killerR r g f n = d:=⟨_,rfl⟩
 rw [hd]
 obtain ⟨np,hnp⟩ : ∃ x,g.pls.length = x:=⟨_,rfl⟩
 have hcap:=h.cap
 rw [hnp] at hcap
 have hpl : g.player < np:=by rw [← hnp]; exact hi.pl
 have hpli : (g.player : Int) < (np : Int):=by omega
 have c13 : w.cell? ⟨t,13,none⟩ = some (.slice (some ⟨pb,0,none⟩) np cap):=by rw [← hnp]; exact h.at_ rfl
 have HT:=Lib.hid h
 have HD:=Lib.hid hd
 have HLEN:=Lib.hid hlen
 have HNP:=Lib.hid hnp
 have HC:=Lib.hid hc
 obtain ⟨na,nc,env, -, -⟩ := h.num.form
 rw [ints_length,← hlen,hnp] at env
 subst env
 have HI:=Lib.hid hi
 have HK:=Lib.hid k
 clear h hd hlen hnp hc hi k
 go_enter Try.func53,Try.ntmps53
 go_upto_block 0 with fail
 go_cut [9] from 18 to 89 (fun _ wx => ∃ g2,Hid (killR r f n g (List.range np) = g2 ∧ GamAt wx t pb r g2 cap wv (.slice na np nc) ∧ Rel (TO t pb) w (TO t pb) wx))
 case first =>
  as_aux_lemma =>
  go_wp2_with fail
  go_loopw [9] (fun iv wr => ∃ i : Nat,i ≤ np ∧ iv = .int .i64 i ∧ Hid (killR r f n g (List.range np) = killR r f n g (List.range' i (np - i)) ∧ GamAt wr t pb r g cap wv (.slice na np nc) ∧ Rel (TO t pb) w (TO t pb) wr)) (fun iv _ => np - (intOf iv).toNat)
  case atStart => exact ⟨0,by omega,by go_num,Lib.hid ⟨by rw [List.range_eq_range',Nat.sub_zero],HT.out,Rel.of_below (Below.refl _ _) HT.out.lt⟩⟩
  case round =>
   obtain ⟨i,hi,rfl,HG⟩ := hrel
   obtain ⟨wi,rfl⟩ : ∃ x : World,x = wr:=⟨_,rfl⟩
   by_cases hin : i < np
   ·have d1 : decide ((i : Int) < (np : Int)) = true:=decide_eq_true (by omega)
    have d1n : decide (i < np) = true:=decide_eq_true hin
    have hil : i < r.nums.length:=by rw [← HLEN.out,HNP.out]; exact hin
    obtain ⟨nb,no,rfl, -,hcx⟩ := HG.out.2.1.num.cell hil
    obtain ⟨x,hx⟩ : ∃ x,r.nums[i] = x:=⟨_,rfl⟩
    rw [hx] at hcx
    obtain ⟨fb,hfb⟩ : ∃ b,(f != 2) = b:=⟨_,rfl⟩
    obtain ⟨xb,hxb⟩ : ∃ b,(n != x) = b:=⟨_,rfl⟩
    obtain ⟨ob,hob⟩ : ∃ b,isOutG r g i = b:=⟨_,rfl⟩
    have HX : Hid (r.nums.getD i 0 = x):=Lib.hid (by rw [getD_of hil]; exact hx)
    have HBX:=Lib.hid (And.intro hfb (And.intro hxb hob))
    have c7 : wi.cell? ⟨t,7,none⟩ = some (.slice (some ⟨nb,no,none⟩) np nc):=HG.out.2.1.at_ rfl
    have zi : IntKind.i64.wrap ((i : Int) + 1) = (i : Int) + 1:=wrap_small _ (by omega) (by omega)
    clear hx hob
    cases fb with
    | true =>
     as_aux_lemma =>
     have HN : Hid (f ≠ 2 ∨ n ≠ r.nums.getD i 0 ∨ isOutG r g i = true):=Lib.hid (.inl (by have:=HBX.out.1; simpa using this))
     clear hxb
     go_wp2
     go_roundw
     case rel => exact ⟨i + 1,by omega,by go_num,Lib.hid ⟨by rw [HG.out.1,kill_next hin HN.out],HG.out.2⟩⟩
     case measure => simp [intOf]; omega
    | false =>
     cases xb with
     | true =>
      as_aux_lemma =>
      have HN : Hid (f ≠ 2 ∨ n ≠ r.nums.getD i 0 ∨ isOutG r g i = true):=Lib.hid (.inr (.inl (by have:=HBX.out.2.1; rw [HX.out]; simpa using this)))
      go_wp2
      go_roundw
      case rel => exact ⟨i + 1,by omega,by go_num,Lib.hid ⟨by rw [HG.out.1,kill_next hin HN.out],HG.out.2⟩⟩
      case measure => simp [intOf]; omega
     | false =>
      have hbx:=HG.out.2.1.box
      rw [HNP.out] at hbx
      have HBX9 : Hid (wi.heap[t]? = some (.cells #[.int .i64 r.kind,.int .i64 r.players,.int .i64 r.last,.bool r.bull,.bool r.jump,.int .i64 r.rounds,.bool r.cut,.slice (some ⟨nb,no,none⟩) np nc,.int .i64 r.lives,.bool r.own,.int .i64 g.round,.int .i64 g.player,.int .i64 g.darts,.slice (some ⟨pb,0,none⟩) np cap,wv,.bool (hitB g 0),.bool (hitB g 1),.bool (hitB g 2),.bool (hitB g 3),.bool (hitB g 4)] 41 (0,0))):=Lib.hid hbx
      clear hbx
      go_wp2_with (first | (refine wpList_opOK_on (o:=⟨some 41,Op.load 41 (.tmp 40),_,_,_,_⟩) (R:=fun v w' => v = .agg #[.int .i64 r.kind,.int .i64 r.players,.int .i64 r.last,.bool r.bull,.bool r.jump,.int .i64 r.rounds,.bool r.cut,.slice (some ⟨nb,no,none⟩) np nc,.int .i64 r.lives,.bool r.own,.int .i64 g.round,.int .i64 g.player,.int .i64 g.darts,.slice (some ⟨pb,0,none⟩) np cap,wv,.bool (hitB g 0),.bool (hitB g 1),.bool (hitB g 2),.bool (hitB g 3),.bool (hitB g 4)] ∧ wi = w') (by rfl) (opOK_load_row 41 (.tmp 40) rfl t #[.int .i64 r.kind,.int .i64 r.players,.int .i64 r.last,.bool r.bull,.bool r.jump,.int .i64 r.rounds,.bool r.cut,.slice (some ⟨nb,no,none⟩) np nc,.int .i64 r.lives,.bool r.own,.int .i64 g.round,.int .i64 g.player,.int .i64 g.darts,.slice (some ⟨pb,0,none⟩) np cap,wv,.bool (hitB g 0),.bool (hitB g 1),.bool (hitB g 2),.bool (hitB g 3),.bool (hitB g 4)] (by simp [Act.eval]) 41 (0,0) HBX9.out _ Try.underlying41 rfl (by kernel_rfl) ⟨rfl,rfl⟩) ?_; rintro _ _ ⟨rfl,rfl⟩) | fail)
      have hout:=refOut_g t pb cap r g wv (.slice (some ⟨nb,no,none⟩) np nc) wi HG.out.2.1 i (by rw [HNP.out]; exact hin) ob (Lib.hid HBX.out.2.2)
      rw [HNP.out] at hout
      refine hout.mono ?_
      rintro e w4 ⟨rfl,hb4⟩
      have HG4:=Lib.hid (And.intro (HG.out.2.1.below hb4) (HG.out.2.2.ext hb4))
      clear HBX9 hout hb4
      cases ob with
      | true =>
       have HN : Hid (f ≠ 2 ∨ n ≠ r.nums.getD i 0 ∨ isOutG r g i = true):=Lib.hid (.inr (.inr HBX.out.2.2))
       go_wp2
       go_roundw
       case rel => exact ⟨i + 1,by omega,by go_num,Lib.hid ⟨by rw [HG.out.1,kill_next hin HN.out],HG4.out⟩⟩
       case measure => simp [intOf]; omega
      | false =>
       have HN : Hid (killR r f n g (List.range np) = _):=Lib.hid (HG.out.1.trans (kill_here hin (by
        have h1:=HBX.out.1
        have h2:=HBX.out.2.1
        rw [HX.out,HBX.out.2.2]
        simp at h1 h2
        simp [h1,h2])))
       obtain ⟨kb,hkb⟩ : ∃ x,(plr g g.player).kl = x:=⟨_,rfl⟩
       obtain ⟨P,hP⟩ : ∃ x,(plr g i).pts = x:=⟨_,rfl⟩
       have hPb : -1000000 ≤ P ∧ P ≤ 1000000:=by
        have hm:=HI.out.each _ (plr_mem (show i < g.pls.length by rw [HNP.out]; exact hin))
        rw [hP] at hm
        have:=hm.1.nn; have:=hm.2; rw [hP] at *; omega
       have zP : IntKind.i64.wrap (P - 1) = P - 1:=wrap_small _ (by omega) (by omega)
       have k8 : w4.cell? ⟨pb,g.player * 9 + 8,none⟩ = some (.bool kb):=by
        have h9 : g.player < g.pls.length:=by rw [HNP.out]; exact hpl
        rw [← hkb,← plr_at h9]; exact HG4.out.1.pls.kl h9
       have kp : w4.cell? ⟨pb,i * 9,none⟩ = some (.int .i64 P):=by
        have h9 : i < g.pls.length:=by rw [HNP.out]; exact hin
        rw [← hP,← plr_at h9]; exact HG4.out.1.pls.pts h9
       have HKB:=Lib.hid hkb
       have HPi:=Lib.hid hP
       clear hP
       by_cases hie : i = g.player
       ·as_aux_lemma =>
        have z1 : ((i : Int) == (g.player : Int)) = true:=by rw [hie]; simp
        have z1n : ((i : Int) != (g.player : Int)) = false:=by rw [hie]; simp
        have HIE:=Lib.hid hie
        clear hie
        cases kb with
        | false =>
         have HN2 : Hid (killR r f n g (List.range np) = setP g i { plr g i with kl:=true }):=Lib.hid (HN.out.trans (by rw [if_pos ⟨HIE.out,HKB.out⟩]))
         have fz:=HG4.out.1.pls.free (g.player * 9 + 8)
         go_wp2
         go_meet
         case rel =>
          refine ⟨_,Lib.hid ⟨HN2.out, ?_,HG4.out.2.setCell (.inr rfl) _⟩⟩
          have:=HG4.out.1.setKl (i:=i) (by rw [HNP.out]; exact hin) true
          rw [HIE.out] at this ⊢
          exact this
        | true =>
         obtain ⟨ow,how⟩ : ∃ x,r.own = x:=⟨_,rfl⟩
         have k9 : w4.cell? ⟨t,9,none⟩ = some (.bool ow):=by rw [← how]; exact HG4.out.1.at_ rfl
         have HOW:=Lib.hid how
         clear how
         cases ow with
         | true =>
          have HN2 : Hid (killR r f n g (List.range np) = setP g i { plr g i with pts:=P - 1 }):=Lib.hid (HN.out.trans (by rw [if_neg (by rw [HKB.out]; simp),if_pos (.inr ⟨HIE.out,HOW.out⟩),HPi.out]))
          have fz:=HG4.out.1.pls.free (i * 9)
          go_wp2
          go_meet
          case rel => exact ⟨_,Lib.hid ⟨HN2.out,HG4.out.1.setPts (i:=i) (by rw [HNP.out]; exact hin) (P - 1),HG4.out.2.setCell (.inr rfl) _⟩⟩
         | false =>
          have HN2 : Hid (killR r f n g (List.range np) = g):=Lib.hid (HN.out.trans (by rw [if_neg (by rw [HKB.out]; simp),if_neg (by rw [HKB.out,HOW.out,HIE.out]; simp)]))
          go_wp2
          go_meet
          case rel => exact ⟨g,Lib.hid ⟨HN2.out,HG4.out⟩⟩
       ·as_aux_lemma =>
        have z1 : ((i : Int) == (g.player : Int)) = false:=by simp; omega
        have z1n : ((i : Int) != (g.player : Int)) = true:=by simp; omega
        have HIE:=Lib.hid hie
        clear hie
        cases kb with
        | true =>
         have HN2 : Hid (killR r f n g (List.range np) = setP g i { plr g i with pts:=P - 1 }):=Lib.hid (HN.out.trans (by rw [if_neg (fun h => HIE.out h.1),if_pos (.inl ⟨HIE.out,HKB.out⟩),HPi.out]))
         have fz:=HG4.out.1.pls.free (i * 9)
         go_wp2
         go_meet
         case rel => exact ⟨_,Lib.hid ⟨HN2.out,HG4.out.1.setPts (i:=i) (by rw [HNP.out]; exact hin) (P - 1),HG4.out.2.setCell (.inr rfl) _⟩⟩
        | false =>
         have HN2 : Hid (killR r f n g (List.range np) = g):=Lib.hid (HN.out.trans (by rw [if_neg (fun h => HIE.out h.1),if_neg (by rw [HKB.out]; have:=HIE.out; simp [this])]))
         go_wp2
         go_meet
         case rel => exact ⟨g,Lib.hid ⟨HN2.out,HG4.out⟩⟩
   ·obtain rfl : i = np:=by omega
    obtain ⟨np,rfl⟩ : ∃ x : Nat,x = i:=⟨_,rfl⟩
    have d1 : decide ((np : Int) < (np : Int)) = false:=decide_eq_false (by omega)
    have HG3 : Hid (killR r f n g (List.range np) = g ∧ GamAt wi t pb r g cap wv (.slice na np nc) ∧ Rel (TO t pb) w (TO t pb) wi):=Lib.hid ⟨by rw [HG.out.1,Nat.sub_self]; rfl,HG.out.2⟩
    go_wp2
    go_meet
    case rel => exact ⟨g,HG3⟩
 case rest =>
  as_aux_lemma =>
  obtain ⟨g2,HG2⟩ := hcut
  obtain ⟨wi,rfl⟩ : ∃ x : World,x = wc:=⟨_,rfl⟩
  have hkp:=killR_kept r f n g (List.range np)
  rw [HG2.out.1] at hkp
  have HN2 : Hid (g2.pls.length = np):=Lib.hid (by rw [hkp.len]; exact HNP.out)
  have HW2 : Hid (g2.win = []):=Lib.hid (by rw [hkp.win]; exact HI.out.win)
  have HD2 : Hid (d = (g2,if (leftG r g2).length = 1 then [(leftG r g2).getD 0 0] else [])):=Lib.hid (by
   rw [← HD.out]; unfold killerR; dsimp only; rw [HNP.out,HG2.out.1])
  have HG3:=Lib.hid HG2.out.2
  clear hkp HD HG2 c13
  go_wp2_with fail
  go_loopw [10,11,12] (fun lv av iv wr => ∃ (k s : Nat) (z : Int),k ≤ np ∧ s ≤ k ∧ lv = .int .i64 s ∧ av = .int .i64 z ∧ iv = .int .i64 k ∧ Hid (s = (leftK r g2 k).length ∧ z = (leftK r g2 k).getLastD 0 ∧ GamAt wr t pb r g2 cap wv (.slice na np nc) ∧ Rel (TO t pb) w (TO t pb) wr)) (fun _ _ iv _ => np - (intOf iv).toNat)
  case atStart => exact ⟨0,0,0,by omega,by omega,rfl,rfl,rfl,Lib.hid ⟨rfl,rfl,HG3.out⟩⟩
  case round =>
   obtain ⟨k,s,z,hk,hs,rfl,rfl,rfl,HR⟩ := hrel
   obtain ⟨wi,rfl⟩ : ∃ x : World,x = wr:=⟨_,rfl⟩
   by_cases hlt : k < np
   ·have d1 : decide ((k : Int) < (np : Int)) = true:=decide_eq_true (by omega)
    have zk : IntKind.i64.wrap ((k : Int) + 1) = (k : Int) + 1:=wrap_small _ (by omega) (by omega)
    have zs : IntKind.i64.wrap ((s : Int) + 1) = (s : Int) + 1:=wrap_small _ (by omega) (by omega)
    have hbx:=HR.out.2.2.1.box
    rw [HN2.out] at hbx
    have HBX9 : Hid (wi.heap[t]? = some (.cells #[.int .i64 r.kind,.int .i64 r.players,.int .i64 r.last,.bool r.bull,.bool r.jump,.int .i64 r.rounds,.bool r.cut,.slice na np nc,.int .i64 r.lives,.bool r.own,.int .i64 g2.round,.int .i64 g2.player,.int .i64 g2.darts,.slice (some ⟨pb,0,none⟩) np cap,wv,.bool (hitB g2 0),.bool (hitB g2 1),.bool (hitB g2 2),.bool (hitB g2 3),.bool (hitB g2 4)] 41 (0,0))):=Lib.hid hbx
    clear hbx
    obtain ⟨ob,hob⟩ : ∃ b,isOutG r g2 k = b:=⟨_,rfl⟩
    have HOB:=Lib.hid hob
    clear hob
    go_wp2_with (first | (refine wpList_opOK (o:=⟨some 98,Op.load 41 (.tmp 97),_,_,_,_⟩) (R:=fun v w' => v = .agg #[.int .i64 r.kind,.int .i64 r.players,.int .i64 r.last,.bool r.bull,.bool r.jump,.int .i64 r.rounds,.bool r.cut,.slice na np nc,.int .i64 r.lives,.bool r.own,.int .i64 g2.round,.int .i64 g2.player,.int .i64 g2.darts,.slice (some ⟨pb,0,none⟩) np cap,wv,.bool (hitB g2 0),.bool (hitB g2 1),.bool (hitB g2 2),.bool (hitB g2 3),.bool (hitB g2 4)] ∧ wi = w') (by rfl) (opOK_load_row 41 (.tmp 97) rfl t #[.int .i64 r.kind,.int .i64 r.players,.int .i64 r.last,.bool r.bull,.bool r.jump,.int .i64 r.rounds,.bool r.cut,.slice na np nc,.int .i64 r.lives,.bool r.own,.int .i64 g2.round,.int .i64 g2.player,.int .i64 g2.darts,.slice (some ⟨pb,0,none⟩) np cap,wv,.bool (hitB g2 0),.bool (hitB g2 1),.bool (hitB g2 2),.bool (hitB g2 3),.bool (hitB g2 4)] (by simp [Act.eval]) 41 (0,0) HBX9.out _ Try.underlying41 rfl (by kernel_rfl) ⟨rfl,rfl⟩) ?_; rintro _ _ ⟨rfl,rfl⟩) | fail)
    have hout:=refOut_g t pb cap r g2 wv (.slice na np nc) wi HR.out.2.2.1 k (by rw [HN2.out]; exact hlt) ob HOB
    rw [HN2.out] at hout
    refine hout.mono ?_
    rintro e w4 ⟨rfl,hb4⟩
    have HR4:=Lib.hid (And.intro (HR.out.2.2.1.below hb4) (HR.out.2.2.2.ext hb4))
    clear HBX9 hout hb4
    have HLK:=Lib.hid (leftK_succ r g2 k)
    cases ob with
    | true =>
     have HZ : Hid (leftK r g2 (k + 1) = leftK r g2 k):=Lib.hid (by rw [HLK.out,HOB.out]; simp)
     go_wp2
     go_roundw
     case rel => exact ⟨k + 1,s,z,by omega,by omega,rfl,rfl,by go_num,Lib.hid ⟨by rw [HZ.out]; exact HR.out.1,by rw [HZ.out]; exact HR.out.2.1,HR4.out⟩⟩
     case measure => simp [intOf]; omega
    | false =>
     have HZ : Hid (leftK r g2 (k + 1) = leftK r g2 k ++ [(k : Int)]):=Lib.hid (by rw [HLK.out,HOB.out]; simp)
     go_wp2
     go_roundw
     case rel => exact ⟨k + 1,s + 1,k,by omega,by omega,by go_num,rfl,by go_num,Lib.hid ⟨by rw [HZ.out,List.length_append,← HR.out.1]; rfl,by rw [HZ.out]; simp,HR4.out⟩⟩
     case measure => simp [intOf]; omega
   ·obtain rfl : k = np:=by omega
    obtain ⟨np,rfl⟩ : ∃ x : Nat,x = k:=⟨_,rfl⟩
    have d1 : decide ((np : Int) < (np : Int)) = false:=decide_eq_false (by omega)
    have HLA : Hid (leftK r g2 np = leftG r g2):=Lib.hid (by rw [← HN2.out]; rfl)
    by_cases h1 : s = 1
    ·have z1 : ((s : Int) == 1) = true:=by rw [h1]; rfl
     have z1n : (s == 1) = true:=by rw [h1]; rfl
     have HD3 : Hid (d = (g2,[z])):=Lib.hid (by
      have e1:=HR.out.1
      have e2:=HR.out.2.1
      rw [HLA.out] at e1 e2
      rw [HD2.out,if_pos (by omega),e2]
      match hl : leftG r g2,(show (leftG r g2).length = 1 by omega) with
      | [x],_ => rfl)
     clear h1
     go_upto_region 16 with fail
     have fz : (wi.alloc (.cells #[.int .i64 z] 3)).frozen? ⟨t,14,none⟩ = false:=(HR.out.2.2.1.below (aB _ _)).free 14
     have c14 : (wi.alloc (.cells #[.int .i64 z] 3)).cell? ⟨t,14,none⟩ = some wv:=(HR.out.2.2.1.below (aB _ _)).at_ rfl
     go_wp2
     go_end0
     refine ⟨⟨_,rfl⟩,⟨.slice (some ⟨wi.heap.size,0,none⟩) 1 1,(.inr ⟨by rw [HD3.out]; simp,by rw [HD3.out]; exact sl_set (Sl.new1 (fun q => w.heap.size ≤ q) _ HR.out.2.2.2.size 3 _) _ (fun q hq e => by (dsimp only at e; omega))⟩), ?_⟩, ?_⟩
     ·rw [HD3.out]
      exact (HR.out.2.2.1.below (aB wi (.cells #[.int .i64 z] 3))).setWin (Sl.new1 _ _ ⟨HR.out.2.2.1.lt t (.inl rfl),by have:=HR.out.2.2.1.lt pb (.inr rfl); omega⟩ 3 _)
     ·exact (HR.out.2.2.2.ext (aB wi (.cells #[.int .i64 z] 3))).setCell (.inl rfl) _
    ·have z1 : ((s : Int) == 1) = false:=by simp; omega
     have z1n : (s == 1) = false:=by simp; omega
     have HD3 : Hid (d = (g2,[])):=Lib.hid (by
      have e1:=HR.out.1
      rw [HLA.out] at e1
      rw [HD2.out,if_neg (by omega)])
     clear h1
     go_wp2
     go_end0
     refine ⟨⟨_,rfl⟩,⟨wv,(.inl ⟨by rw [HD3.out],rfl⟩), ?_⟩,HR.out.2.2.2⟩
     rw [HD3.out]
     exact noWin HW2.out ▸ HR.out.2.2.1
end Go.Proofs.Ytnhggfnnolfcdaa
