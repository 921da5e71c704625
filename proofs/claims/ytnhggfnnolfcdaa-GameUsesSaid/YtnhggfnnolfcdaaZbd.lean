/- The texts MD, KP1, JRows, JRows2, Cpy4, in build order. -/
import Derived.Test.YtnhggfnnolfcdaaZbc

/- Chapter 4, in plain Lean: who wins; groups of the ranking. -/
namespace Go.Proofs.Ytnhggfnnolfcdaa
open Go.RowKit Go.Oche Go.Proofs

structure RankOk (n : Nat) (gs : List (List Int)) : Prop where
 ne : ∀ x ∈ gs,x ≠ []
 asc : ∀ x ∈ gs,x.Pairwise (· < ·)
 mem : ∀ x ∈ gs.flatten,0 ≤ x ∧ x.toNat < n
 nd : gs.flatten.Nodup
 all : ∀ i : Nat,i < n → (i : Int) ∈ gs.flatten
/-! Who wins. -/
def TopP (r : Rul) (g : Gam) (x : Int) : Prop := ∀ i,i < g.pls.length → ¬ ((plr g x.toNat).pts < (plr g i).pts ∧ r.cut = false) ∧ ¬ ((plr g i).pts < (plr g x.toNat).pts ∧ r.cut = true)
structure Won (r : Rul) (g : Gam) : Prop where
 asc : g.win.Pairwise (· < ·)
 mem : ∀ x ∈ g.win,0 ≤ x ∧ x.toNat < g.pls.length
 one : (r.kind = 1 ∨ r.kind = 4) → g.win ≠ [] → g.win.length = 1
 top : (r.kind ≠ 3 ∨ ¬ (g.hit.getD 1 false = true ∧ g.hit.getD 2 false = true ∧ g.hit.getD 3 false = true)) → ∀ x ∈ g.win,TopP r g x
theorem Won.none {r : Rul} {g : Gam} (h : g.win = []) : Won r g:=by
 refine ⟨by rw [h]; exact List.Pairwise.nil, ?_,fun _ e => (e h).elim,fun _ => ?_⟩
 ·rw [h]; simp
 ·rw [h]; simp
structure DWon (r : Rul) (d : Gam × List Int) : Prop where
 asc : d.2.Pairwise (· < ·)
 mem : ∀ x ∈ d.2,0 ≤ x ∧ x.toNat < d.1.pls.length
 one : d.2 ≠ [] → d.2.length = 1
 top : d.2 ≠ [] → (r.kind ≠ 3 ∨ ¬ (d.1.hit.getD 1 false = true ∧ d.1.hit.getD 2 false = true ∧ d.1.hit.getD 3 false = true)) → ∀ x ∈ d.2,TopP r d.1 x
theorem DWon.none {r : Rul} {g : Gam} : DWon r (g,[]):=⟨List.Pairwise.nil,by simp,fun e => (e rfl).elim,by simp⟩
theorem DWon.me {r : Rul} {g : Gam} {p : Nat} (hp : p < g.pls.length) (ht : (r.kind ≠ 3 ∨ ¬ (g.hit.getD 1 false = true ∧ g.hit.getD 2 false = true ∧ g.hit.getD 3 false = true)) → TopP r g p) : DWon r (g,[(p : Int)]) :=
 ⟨by simp,fun x hx => by rw [List.mem_singleton] at hx; subst hx; exact ⟨by omega,by simpa using hp⟩,fun _ => rfl,fun _ h x hx => by rw [List.mem_singleton] at hx; subst hx; exact ht h⟩
theorem dround_won {r : Rul} {M : Int} {g : Gam} (h : Run r M g) (k : r.kind = 1) {f n : Int} (hf : 0 ≤ f ∧ f ≤ 4) : DWon r (dartRound r g f n):=by
 have hI:=(round_ok h k (n:=n) hf).1
 have hcut:=(ok1 h.ok k).2.2.2.1
 unfold dartRound at hI ⊢
 dsimp only at hI ⊢
 by_cases hn : n = if decide (r.last < (plr g g.player).pts + 1) = true then 25 else (plr g g.player).pts + 1
 ·rw [if_pos hn] at hI ⊢
  dsimp only at hI
  generalize min (if decide (r.last < (plr g g.player).pts + 1) = true then targetsR r else r.last) ((plr g g.player).pts + if r.jump = true then f else 1) = q at hI ⊢
  by_cases hq : q = targetsR r
  ·rw [if_pos hq]
   refine DWon.me (by rw [setP_len]; exact h.pl) fun _ i hi => ?_
   have:=(hI.each _ (plr_mem hi)).1.top k
   rw [Int.toNat_natCast,plr_setP h.pl (k:=g.player),if_pos rfl]
   dsimp only
   rw [hcut]
   exact ⟨fun e => by omega,fun e => by simp at e⟩
  ·rw [if_neg hq]; exact DWon.none
 ·rw [if_neg hn]; exact DWon.none
theorem dcric_won {r : Rul} {g : Gam} (hp : g.player < g.pls.length) {f n : Int} : DWon r (dartCricket r g f n):=by
 unfold dartCricket
 have hr:=cric_rest (r:=r) (g:=g) (f:=f) (n:=n)
 generalize cric r g f n = c at hr ⊢
 split
 ·exact DWon.none
 split
 ·exact DWon.none
 ·rename_i hb
  refine DWon.me (by rw [hr.1,hr.2.2.2.2.2]; exact hp) fun _ i hi => ?_
  rw [Int.toNat_natCast]
  have hnb : ∀ k ∈ List.range c.pls.length,(k != c.player && (if r.cut = true then decide ((plr c k).pts < (plr c c.player).pts) else decide ((plr c c.player).pts < (plr c k).pts))) = false:=by
   intro k hk
   unfold beatenG at hb
   rw [List.any_eq_true] at hb
   cases e : (k != c.player && (if r.cut = true then decide ((plr c k).pts < (plr c c.player).pts) else decide ((plr c c.player).pts < (plr c k).pts)))
   ·rfl
   ·exact (hb ⟨k,hk,e⟩).elim
  have:=hnb i (List.mem_range.2 hi)
  by_cases e : i = c.player
  ·subst e; exact ⟨fun e => by omega,fun e => by omega⟩
  ·have e2 : (i != c.player) = true:=by simpa using e
   rw [e2,Bool.true_and] at this
   cases hc : r.cut
   ·rw [hc] at this; simp only [Bool.false_eq_true,if_false] at this
    exact ⟨fun e => by have:=of_decide_eq_false this; omega,fun e => by simp at e⟩
   ·rw [hc] at this; simp only [if_true] at this
    exact ⟨fun e => by simp at e,fun e => by have:=of_decide_eq_false this; omega⟩
theorem dshan_won {r : Rul} {g : Gam} (k3 : r.kind = 3) (hp : g.player < g.pls.length) {f n : Int} : DWon r (dartShanghai g f n):=by
 unfold dartShanghai
 split
 ·dsimp only
  split
  ·rename_i hh
   refine DWon.me (g:={ setP g g.player { plr g g.player with pts:=(plr g g.player).pts + f * n } with hit:=g.hit.set f.toNat true }) (by show g.player < (setP g g.player _).pls.length; rw [setP_len]; exact hp) fun e => ?_
   exfalso
   simp only [Bool.and_eq_true] at hh
   rcases e with e | e
   ·exact e k3
   ·exact e ⟨hh.1.1,hh.1.2,hh.2⟩
  ·exact DWon.none
 ·exact DWon.none
theorem leftG_asc (r : Rul) (g : Gam) : (leftG r g).Pairwise (· < ·):=by
 unfold leftG
 rw [List.pairwise_map]
 exact ((List.pairwise_lt_range).filter _).imp fun h => by omega
theorem leftG_mem {r : Rul} {g : Gam} {x : Int} (h : x ∈ leftG r g) : 0 ≤ x ∧ x.toNat < g.pls.length:=by
 unfold leftG at h
 obtain ⟨i,hi,rfl⟩ := List.mem_map.1 h
 have:=List.mem_range.1 (List.mem_filter.1 hi).1
 exact ⟨by omega,by simpa using this⟩
theorem dkill_won {r : Rul} {M : Int} {g : Gam} (h : Run r M g) (k4 : r.kind = 4) {f n : Int} : DWon r (dartKiller r g f n):=by
 have hI:=killer_ok h k4 (f:=f) (n:=n)
 have hcut:=(ok4 h.ok k4).2.2.2.2.2.2.2.2.2.1
 generalize dartKiller r g f n = d at hI ⊢
 obtain ⟨c,wn⟩ := d
 dsimp only at hI
 by_cases hw : wn = []
 ·subst hw; exact DWon.none
 ·obtain ⟨hl,hal⟩ := hI.2.2.2 hw
  subst hl
  refine ⟨leftG_asc r c,fun x hx => leftG_mem hx,fun _ => hal,fun _ _ x hx => fun i hi => ?_⟩
  dsimp only at hx ⊢
  have hx2:=leftG_mem hx
  rw [hcut]
  refine ⟨fun ⟨e,_⟩ => ?_,fun e => by simp at e⟩
  have hxn:=(hI.1.each _ (plr_mem hx2.2)).1.nn
  have hio : isOutG r c i = false:=by
   unfold isOutG
   rw [k4]; simp; omega
  have hil : (i : Int) ∈ leftG r c:=by
   unfold leftG
   exact List.mem_map.2 ⟨i,List.mem_filter.2 ⟨List.mem_range.2 hi,by simp [hio]⟩,rfl⟩
  have hal' : (leftG r c).length = 1:=hal
  obtain ⟨y,hy⟩ := List.length_eq_one_iff.1 hal'
  rw [hy,List.mem_singleton] at hx hil
  subst hx
  rw [← hil] at e
  simp at e
theorem dart_won {r : Rul} {M : Int} {g : Gam} (h : Run r M g) {f n : Int} (hb : okHit f n) : DWon r (dartG r g f n):=by
 unfold dartG
 rcases kind_of h.ok with q | q | q | q
 ·rw [if_pos q]; exact dround_won h q hb.f
 ·rw [if_neg (by omega),if_pos q]; exact dcric_won h.pl
 ·rw [if_neg (by omega),if_neg (by omega),if_pos q]; exact dshan_won q h.pl
 ·rw [if_neg (by omega),if_neg (by omega),if_neg (by omega)]; exact dkill_won h q
theorem bestG_asc (r : Rul) (l : List Plr) : (bestG r l).Pairwise (· < ·):=by
 unfold bestG
 rw [List.pairwise_map]
 exact ((List.pairwise_lt_range).filter _).imp fun h => by omega
theorem throw_hit {r : Rul} {M : Int} {g : Gam} (h : Live r M g) {f n : Int} (hb : okHit f n) (hw : (throwG r g f n).win ≠ []) : (throwG r g f n).hit = (dartG r { g with darts:=g.darts + 1 } f n).1.hit:=by
 have ht:=throw_thrown h hb
 unfold throwG at hw ⊢
 dsimp only at hw ⊢
 split
 ·rename_i e
  rw [if_pos e] at hw
  unfold nextG at hw ⊢
  dsimp only at hw ⊢
  split
  ·rfl
  ·rename_i e2
   rw [if_neg e2] at hw
   exact (hw e.1).elim
 ·rfl
theorem throw_won {r : Rul} {M : Int} {g : Gam} (h : Live r M g) {f n : Int} (hb : okHit f n) : Won r (throwG r g f n):=by
 have ht:=throw_thrown h hb
 have hd:=dart_won (h.toRun.dart (g.darts + 1)) hb
 have hp:=ht.pls
 have hpl : ∀ i,plr (throwG r g f n) i = plr (dartG r { g with darts:=g.darts + 1 } f n).1 i:=fun i => by unfold plr; rw [hp]
 have hh:=throw_hit h hb
 by_cases hw : (throwG r g f n).win = []
 ·exact Won.none hw
 have hh:=hh hw
 by_cases hd2 : (dartG r { g with darts:=g.darts + 1 } f n).2 = []
 ·obtain ⟨k23,hbst⟩ := ht.best hw hd2
  refine ⟨by rw [hbst]; exact bestG_asc r _,fun x hx => ?_,fun e _ => by omega,fun _ x hx i hi => ?_⟩
  ·rw [hbst] at hx
   obtain ⟨k,hk,rfl,_⟩ := best_mem hx
   rw [hp]; exact ⟨by omega,by simpa using hk⟩
  ·rw [hbst] at hx
   obtain ⟨k,hk,rfl,hmin⟩ := best_mem hx
   rw [hp] at hi
   have hc:=hmin i hi
   have hc2 : ¬ cmpP r ((dartG r { g with darts:=g.darts + 1 } f n).1.pls.getD i default) ((dartG r { g with darts:=g.darts + 1 } f n).1.pls.getD k default) < 0:=by omega
   rw [cmpP_lt] at hc2
   rw [hpl,hpl,Int.toNat_natCast]
   unfold plr
   have hnc : ¬ (if r.kind = 2 ∧ r.cut = true then ((dartG r { g with darts:=g.darts + 1 } f n).1.pls.getD i default).pts < ((dartG r { g with darts:=g.darts + 1 } f n).1.pls.getD k default).pts else ((dartG r { g with darts:=g.darts + 1 } f n).1.pls.getD k default).pts < ((dartG r { g with darts:=g.darts + 1 } f n).1.pls.getD i default).pts):=fun e => hc2 (.inl e)
   cases hcut : r.cut
   ·rw [if_neg (by rw [hcut]; simp)] at hnc
    exact ⟨fun e => hnc e.1,fun e => by simp at e⟩
   ·have k2 : r.kind = 2:=by
     rcases k23 with k | k
     ·exact k
     ·have:=(ok3 h.ok k).2.2.2.2.2.1; rw [hcut] at this; cases this
    rw [if_pos ⟨k2,hcut⟩] at hnc
    exact ⟨fun e => by simp at e,fun e => hnc e.1⟩
 ·have hwn:=ht.won hd2
  refine ⟨by rw [hwn]; exact hd.asc,fun x hx => ?_,fun _ _ => by rw [hwn]; exact hd.one hd2,fun e x hx i hi => ?_⟩
  ·rw [hwn] at hx; rw [hp]; exact hd.mem x hx
  ·rw [hwn] at hx
   rw [hp] at hi
   rw [hh] at e
   have:=hd.top hd2 e x hx i hi
   rw [hpl,hpl]; exact this
def HitOk (ds : List Int) (g : Gam) : Prop := ∀ f : Nat,g.hit.getD f false = true → ∃ j,j < g.darts ∧ j < ds.length ∧ (ds.getD (ds.length - 1 - j) 0).tmod 100 = g.round + 1 ∧ (ds.getD (ds.length - 1 - j) 0).tdiv 100 = f
theorem HitOk.init {r : Rul} : HitOk [] (initG r):=fun f h => by
 unfold initG at h
 simp only [List.getD_eq_getElem?_getD,List.getElem?_replicate] at h
 split at h <;> simp at h
theorem dart_hit {r : Rul} {g : Gam} {f n : Int} (hb : okHit f n) {i : Nat} (hi : (dartG r g f n).1.hit.getD i false = true) : g.hit.getD i false = true ∨ (n = g.round + 1 ∧ f = i):=by
 unfold dartG at hi
 split at hi
 ·left
  unfold dartRound at hi
  by_cases ht : n = if decide (r.last < (plr g g.player).pts + 1) = true then 25 else (plr g g.player).pts + 1
  ·dsimp only at hi; rw [if_pos ht] at hi; exact hi
  ·dsimp only at hi; rw [if_neg ht] at hi; exact hi
 split at hi
 ·left
  unfold dartCricket at hi
  rw [(cric_rest (r:=r) (g:=g) (f:=f) (n:=n)).2.2.2.1] at hi; exact hi
 split at hi
 ·unfold dartShanghai at hi
  split at hi
  ·dsimp only at hi
   by_cases e : i = f.toNat
   ·right
    have:=hb.f
    exact ⟨by assumption,by omega⟩
   ·left
    simp only [List.getD_eq_getElem?_getD,List.getElem?_set] at hi ⊢
    rw [if_neg (by omega)] at hi; exact hi
  ·exact .inl hi
 ·left
  unfold dartKiller at hi
  cases hf : r.nums.findIdx? (· == n) with
  | none => rw [hf] at hi; exact hi
  | some k =>
   rw [hf] at hi
   dsimp only at hi
   split at hi
   ·exact hi
   ·dsimp only at hi
    split at hi
    ·exact hi
    split at hi <;> exact hi
theorem HitOk.throw {r : Rul} {M : Int} {g : Gam} {ds : List Int} (h : Live r M g) (hh : HitOk ds g) {b : Int} (hb : okBed b = true) : HitOk (ds ++ [b]) (throwG r g (b.tdiv 100) (b.tmod 100)):=by
 have hit:=okBed_hit hb
 have ht:=throw_thrown h hit
 have hd:=dart_ok (h.toRun.dart (g.darts + 1)) hit
 have key : ∀ f : Nat,(dartG r { g with darts:=g.darts + 1 } (b.tdiv 100) (b.tmod 100)).1.hit.getD f false = true → ∃ j,j < g.darts + 1 ∧ j < (ds ++ [b]).length ∧ ((ds ++ [b]).getD ((ds ++ [b]).length - 1 - j) 0).tmod 100 = g.round + 1 ∧ ((ds ++ [b]).getD ((ds ++ [b]).length - 1 - j) 0).tdiv 100 = f:=fun f hf => by
  rcases dart_hit (g:={ g with darts:=g.darts + 1 }) hit hf with e | ⟨e1,e2⟩
  ·obtain ⟨j,a1,a2,a3,a4⟩ := hh f e
   refine ⟨j + 1,by omega,by simp; omega, ?_⟩
   have he : (ds ++ [b]).getD ((ds ++ [b]).length - 1 - (j + 1)) 0 = ds.getD (ds.length - 1 - j) 0:=by
    simp only [List.getD_eq_getElem?_getD,List.length_append,List.length_singleton]
    rw [List.getElem?_append_left (by omega)]
    congr 2; omega
   rw [he]; exact ⟨a3,a4⟩
  ·refine ⟨0,by omega,by simp, ?_⟩
   have he : (ds ++ [b]).getD ((ds ++ [b]).length - 1 - 0) 0 = b:=by
    simp only [List.getD_eq_getElem?_getD,List.length_append,List.length_singleton]
    rw [List.getElem?_append_right (by omega)]
    simp
   rw [he]; exact ⟨e1,e2⟩
 have hz : ∀ f : Nat,(List.replicate 5 false).getD f false = true → False:=fun f h => by
  simp only [List.getD_eq_getElem?_getD,List.getElem?_replicate] at h
  split at h <;> simp at h
 by_cases hw : (throwG r g (b.tdiv 100) (b.tmod 100)).win = []
 ·by_cases hc : g.darts < 2 ∧ isOutG r (dartG r { g with darts:=g.darts + 1 } (b.tdiv 100) (b.tmod 100)).1 g.player = false
  ·rw [ht.stay hw hc.1 hc.2]
   intro f hf
   dsimp only at hf ⊢
   rw [hd.kept.darts,hd.kept.round]
   exact key f hf
  ·have hc' : g.darts = 2 ∨ isOutG r (dartG r { g with darts:=g.darts + 1 } (b.tdiv 100) (b.tmod 100)).1 g.player = true:=by
    by_cases e : g.darts < 2
    ·right
     cases e2 : isOutG r (dartG r { g with darts:=g.darts + 1 } (b.tdiv 100) (b.tmod 100)).1 g.player
     ·exact (hc ⟨e,e2⟩).elim
     ·rfl
    ·left; have:=h.darts; omega
   rw [ht.next hw hc']
   intro f hf
   exact (hz f hf).elim
 ·intro f hf
  rw [throw_hit h hit hw] at hf
  have ho:=ht.over hw
  rw [ho.2.2.2,ho.2.2.1]
  exact key f hf
end Go.Proofs.Ytnhggfnnolfcdaa

/- Chapter 4, the reference, in plain Lean: the winners, and who is left at first. -/
namespace Go.Proofs.Ytnhggfnnolfcdaa
open Go.RowKit Go.Oche Go.Proofs
theorem playF_won {r : Rul} : ∀ (l : List Int) (k : Nat) (g : Gam),Good r k g → Won r g → ∀ g' at_ e,playF r g k l = (some g',at_,e) → Won r g'
 | [],k,g,_,hw,g',at_,e,he => by rw [playF] at he; cases he; exact hw
 | b :: l,k,g,h,hw,g',at_,e,he => by
  cases hb : okBed b
  ·rw [playF_bad hb] at he; cases he
  by_cases hn : g.win = []
  ·rw [playF_on hb hn] at he
   exact playF_won l (k + 1) _ (h.throw hn (okBed_hit hb)) (throw_won (h.live hn) (okBed_hit hb)) g' at_ e he
  ·rw [playF_over hb hn] at he; cases he
theorem playG_won {r : Rul} {l : List Int} {g : Gam} {a : Nat} {e : Int} (h : playG r l = (some g,a,e)) : Won r g ∧ Good r l.length g:=by
 unfold playG at h
 split at h
 ·cases h
 split at h
 ·cases h
 rename_i hc _
 have hc' : checkR r = 0:=by omega
 refine ⟨playF_won l 0 _ (Good.init hc') (Won.none rfl) g a e h, ?_⟩
 have:=(playF_good l 0 _ (Good.init hc') g a e h).1
 rwa [Nat.zero_add] at this
theorem dn_zero (i : Nat) : dnB (List.replicate 8 false) i = false:=by
 unfold dnB
 simp only [List.getD_eq_getElem?_getD,List.getElem?_replicate]
 split <;> rfl
theorem left_rest {g : Gam} (hm : ∀ x ∈ g.win,0 ≤ x ∧ x.toNat < g.pls.length) (h8 : g.pls.length ≤ 8) : leftL g.pls.length (dnK (List.replicate 8 false) g.win) = restG g:=by
 unfold leftL restG
 congr 1
 apply List.filter_congr
 intro i _
 rw [dnK_at _ _ _ (fun x hx => by have:=hm x hx; rw [List.length_replicate]; omega),dn_zero,Bool.false_or]
theorem rest_len {g : Gam} (ha : g.win.Pairwise (· < ·)) (hm : ∀ x ∈ g.win,0 ≤ x ∧ x.toNat < g.pls.length) : (restG g).length + g.win.length = g.pls.length:=by
 have h1:=filter_split (List.range g.pls.length) fun (i : Nat) => !g.win.contains (i : Int)
 rw [List.length_range] at h1
 have h2 : g.win = ((List.range g.pls.length).filter fun (i : Nat) => !!g.win.contains (i : Int)).map fun (i : Nat) => (i : Int):=by
  refine asc_eq ha ?_ fun x => ?_
  ·rw [List.pairwise_map]
   exact (List.Pairwise.filter _ List.pairwise_lt_range).imp fun h => by omega
  ·rw [List.mem_map]
   constructor
   ·intro hx
    have:=hm x hx
    refine ⟨x.toNat,List.mem_filter.2 ⟨List.mem_range.2 this.2, ?_⟩,by omega⟩
    rw [Bool.not_not,List.contains_iff_mem,show ((x.toNat : Nat) : Int) = x by omega]; exact hx
   ·rintro ⟨i,hi,rfl⟩
    have:=(List.mem_filter.1 hi).2
    rw [Bool.not_not,List.contains_iff_mem] at this; exact this
 have h3:=congrArg List.length h2
 rw [List.length_map] at h3
 unfold restG
 rw [List.length_map]
 omega
end Go.Proofs.Ytnhggfnnolfcdaa

/- A slice of rows of one's own of which one grows: the rows; one append within a region that draws its order, loads before it. -/
namespace Go.Oche
open Go Go.RowKit
structure JOne (w0 : World) (g il ia : Nat) (base : Nat) (e : TypeId) (n : Nat) (xs : List Value) (u : Value) (L : Nat → Bool) (vs : Nat → Value) (W : World) : Prop where
 os : W.os = w0.os
 tape : W.tape = w0.tape
 output : W.output = w0.output
 size : w0.heap.size ≤ W.heap.size
 block : ∀ k,k < w0.heap.size → (L ia = false ∨ k ≠ g) → W.heap[k]? = w0.heap[k]?
 lit : L il = true → L ia = false → ∃ q,vs il = .slice (some ⟨q,0,none⟩) 1 1 ∧ W.cell? ⟨q,0,none⟩ = some u
 row : L ia = true → ∃ g' c',vs ia = .slice (some ⟨g',0,none⟩) (n + 1) c' ∧ W.ownsRow base e 1 (.slice (some ⟨g',0,none⟩) (n + 1) c') (n + 1) (xs ++ [u]) ∧ (g' = g ∨ w0.heap.size ≤ g')
section
variable {w0 W W' : World} {g il ia base n : Nat} {e : TypeId} {xs : List Value} {u : Value} {L : Nat → Bool} {vs vs' : Nat → Value}
theorem JOne.congr (hc : ∀ j,L j = true → vs j = vs' j) (h : JOne w0 g il ia base e n xs u L vs W) : JOne w0 g il ia base e n xs u L vs' W :=
 ⟨h.os,h.tape,h.output,h.size,h.block,fun hl ha => hc _ hl ▸ h.lit hl ha,fun hl => hc _ hl ▸ h.row hl⟩
theorem JOne.start : JOne w0 g il ia base e n xs u (fun _ => false) vs w0.drew :=
 ⟨rfl,rfl,rfl,Nat.le_refl _,fun _ _ _ => rfl,fun h => (by cases h),fun h => (by cases h)⟩
theorem JOne.grow (h : JOne w0 g il ia base e n xs u L vs W) (hb : Below W.heap.size W W') {i : Nat} {v : Value} (h1 : il ≠ i) (h2 : ia ≠ i) : JOne w0 g il ia base e n xs u (setB L i) (updV vs i v) W':=by
 refine ⟨hb.os.trans h.os,hb.tape.trans h.tape,hb.output.trans h.output,Nat.le_trans h.size hb.size, ?_, ?_, ?_⟩
 ·rw [setB_ne h2]; exact fun k hk ho => (hb.block k (Nat.lt_of_lt_of_le hk h.size)).trans (h.block k hk ho)
 ·rw [setB_ne h1,setB_ne h2,updV_ne h1]; exact fun hl ha => let ⟨q,a,b⟩ := h.lit hl ha; ⟨q,a,bAt hb b⟩
 ·rw [setB_ne h2,updV_ne h2]; exact fun hl => let ⟨g',c',a,b,c⟩ := h.row hl; ⟨g',c',a,ownsN_below b hb,c⟩
theorem JOne.read (h : JOne w0 g il ia base e n xs u L vs W) {i : Nat} {v : Value} (h1 : il ≠ i) (h2 : ia ≠ i) : JOne w0 g il ia base e n xs u (setB L i) (updV vs i v) W:=h.grow (Below.refl _ _) h1 h2
theorem JOne.app (h : JOne w0 g il ia base e n xs u L vs W) (hg : W.grownBy W' (some g)) {g' c' : Nat} (ho : W'.ownsRow base e 1 (.slice (some ⟨g',0,none⟩) (n + 1) c') (n + 1) (xs ++ [u])) (hat : g' = g ∨ g' = W.heap.size) (_h1 : il ≠ ia) (hL : L ia = false) :
  JOne w0 g il ia base e n xs u (setB L ia) (updV vs ia (.slice (some ⟨g',0,none⟩) (n + 1) c')) W':=by
 refine ⟨hg.os.trans h.os,hg.tape.trans h.tape,hg.output.trans h.output,Nat.le_trans h.size hg.size, ?_, ?_, ?_⟩
 ·rw [setB_eq]
  intro k hk ho
  have hk2 : k ≠ g:=ho.resolve_left (by simp)
  exact (hg.block k (Nat.lt_of_lt_of_le hk h.size) (by simpa using hk2)).trans (h.block k hk (.inl hL))
 ·rw [setB_eq]; exact fun _ h => by cases h
 ·rw [updV_eq]; exact fun _ => ⟨g',c',rfl,ho,hat.imp id fun e => by rw [e]; exact h.size⟩
theorem JOne.cell (h : JOne w0 g il ia base e n xs u L vs W) {b o : Nat} {v : Value} (hc : w0.cell? ⟨b,o,none⟩ = some v) (hb : b ≠ g) : W.cell? ⟨b,o,none⟩ = some v :=
 (World.cell?_of_block (w:=w0) (h.block b (World.block_lt_of_cell? w0 _ hc) (.inr hb))).trans hc
theorem JOne.own (h : JOne w0 g il ia base e n xs u L vs W) {base' k m : Nat} {e' : TypeId} {v : Value} {ys : List Value} (ho : w0.ownsRow base' e' k v m ys) (hne : L ia = false ∨ v.ownBlock ≠ some g) : W.ownsRow base' e' k v m ys :=
 ownsN_kept ho fun q hq => h.block q (ho.lt q hq).2 (hne.imp id fun hn e => hn (by rw [← e]; exact hq))
end
abbrev RowR:=Nat × Nat × List Int
def rowV (r : RowR) : Value:=.slice (some ⟨r.1,0,none⟩) r.2.2.length r.2.1
structure Rws (B : Nat) (e : TypeId) (W : World) (gs : Nat) (R : List RowR) : Prop where
 rows : ∀ r ∈ R,W.ownsRow B e 1 (rowV r) r.2.2.length (ints r.2.2)
 nd : (gs :: R.map (·.1)).Nodup
section
variable {B : Nat} {e e' : TypeId} {W W' : World} {gs gs' : Nat} {R : List RowR}
theorem Rws.lt (h : Rws B e W gs R) {r : RowR} (hr : r ∈ R) : B ≤ r.1 ∧ r.1 < W.heap.size:=(h.rows r hr).lt r.1 rfl
theorem Rws.ne (h : Rws B e W gs R) {r : RowR} (hr : r ∈ R) : r.1 ≠ gs:=fun e => (List.nodup_cons.1 h.nd).1 (by rw [← e]; exact List.mem_map_of_mem hr)
theorem Rws.kept (h : Rws B e W gs R) (hk : ∀ r ∈ R,W'.heap[r.1]? = W.heap[r.1]?) : Rws B e W' gs R :=
 ⟨fun r hr => ownsN_kept (h.rows r hr) fun g hg => by simp only [rowV,Value.ownBlock,Option.some.injEq] at hg; rw [← hg]; exact hk r hr,h.nd⟩
theorem Rws.below (h : Rws B e W gs R) (hb : Below W.heap.size W W') : Rws B e W' gs R:=h.kept fun _ hr => hb.block _ (h.lt hr).2
theorem Rws.other (h : Rws B e W gs R) (hg : W.grownBy W' (some gs)) (hat : gs' = gs ∨ gs' = W.heap.size) : Rws B e W' gs' R:=by
 have h1:=h.kept (W':=W') fun r hr => hg.block _ (h.lt hr).2 (by simpa using h.ne hr)
 refine ⟨h1.rows, ?_⟩
 rcases hat with rfl | rfl
 ·exact h1.nd
 ·refine List.nodup_cons.2 ⟨fun hm => ?_,(List.nodup_cons.1 h.nd).2⟩
  obtain ⟨r,hr,e⟩ := List.mem_map.1 hm
  have:=(h.lt hr).2
  omega
theorem Rws.snoc (h : Rws B e W gs R) (hs : gs < W.heap.size) (hB : B ≤ W.heap.size) : Rws B e (W.alloc (.cells #[] e)) gs (R ++ [(W.heap.size,0,[])]):=by
 have h1:=h.below (W':=W.alloc (.cells #[] e)) ((Below.refl _ _).alloc (Nat.le_refl _) _)
 refine ⟨fun r hr => ?_, ?_⟩
 ·rcases List.mem_append.1 hr with hr | hr
  ·exact h1.rows r hr
  ·rw [List.mem_singleton] at hr
   subst hr
   exact World.ownsRow_made W #[] 0 hB (Nat.zero_le _) rfl
 ·rw [List.map_append,← List.cons_append,List.nodup_append]
  refine ⟨h.nd,by simp,fun a ha b hb => ?_⟩
  simp only [List.map_cons,List.map_nil,List.mem_singleton] at hb
  subst hb
  rcases List.mem_cons.1 ha with rfl | ha
  ·omega
  ·obtain ⟨r,hr,rfl⟩ := List.mem_map.1 ha
   have:=(h.lt hr).2
   omega
theorem Rws.apart (h : Rws B e W gs R) {base n g c : Nat} {xs : List Value} (ho : W.ownsRow base e' 1 (.slice (some ⟨g,0,none⟩) n c) n xs) (he : e ≠ e') {r : RowR} (hr : r ∈ R) : r.1 ≠ g:=by
 rcases ownsN_ne (h.rows r hr) ho he with h1 | h1
 ·simp [rowV,Value.ownBlock] at h1
 ·simpa [rowV,Value.ownBlock] using h1
theorem Rws.slsl (h : Rws B e W gs R) {base g c n : Nat} (ho : W.ownsRow base e' 1 (.slice (some ⟨g,0,none⟩) n c) n (R.map rowV)) (hb : B ≤ base) : SlSl (fun k => B ≤ k) W (.slice (some ⟨g,0,none⟩) n c) (R.map (·.2.2)):=by
 refine ⟨R.map rowV,(Sl.of_owns ho).mono fun k hk => Nat.le_trans hb hk,by simp,fun i hi => ?_⟩
 have hi' : i < R.length:=by simpa using hi
 refine ⟨rowV R[i],by simp [hi'], ?_⟩
 simp only [List.getElem_map]
 exact Sl.of_owns (h.rows R[i] (List.getElem_mem hi'))
theorem Rws.last {r : RowR} {g' c' gp cp base n j : Nat} {x : Int} {W0 W1 : World} (h : Rws B e W0 gs (R ++ [r])) (hp : W0.ownsRow base e' 1 (.slice (some ⟨gp,0,none⟩) n cp) n ((R ++ [r]).map rowV)) (he : e ≠ e')
  (hblk : ∀ k,k < W0.heap.size → k ≠ r.1 → W1.heap[k]? = W0.heap[k]?) (ho : W1.ownsRow B e 1 (.slice (some ⟨g',0,none⟩) (r.2.2.length + 1) c') (r.2.2.length + 1) (ints r.2.2 ++ [.int .i64 x])) (hat : g' = r.1 ∨ W0.heap.size ≤ g') (hgs : gs < W0.heap.size) (hj : j = R.length) :
  (W1.setCell ⟨gp,j,none⟩ (.slice (some ⟨g',0,none⟩) (r.2.2.length + 1) c')).ownsRow base e' 1 (.slice (some ⟨gp,0,none⟩) n cp) n ((R ++ [(g',c',r.2.2 ++ [x])]).map rowV) ∧
  Rws B e (W1.setCell ⟨gp,j,none⟩ (.slice (some ⟨g',0,none⟩) (r.2.2.length + 1) c')) gs (R ++ [(g',c',r.2.2 ++ [x])]):=by
 subst hj
 have hrl:=h.lt (r:=r) (by simp)
 have hpl:=hp.lt gp rfl
 have hrp : r.1 ≠ gp:=h.apart hp he (by simp)
 have hgp : g' ≠ gp:=by
  rcases hat with e | e
  ·rw [e]; exact hrp
  ·omega
 have hp1 : W1.ownsRow base e' 1 (.slice (some ⟨gp,0,none⟩) n cp) n ((R ++ [r]).map rowV):=ownsN_kept hp fun q hq => by
  simp only [Value.ownBlock,Option.some.injEq] at hq
  rw [← hq]; exact hblk gp hpl.2 (Ne.symm hrp)
 refine ⟨?_, ?_, ?_⟩
 ·have:=(hp1.stored R.length (.slice (some ⟨g',0,none⟩) (r.2.2.length + 1) c')).1
  rw [List.map_append,List.set_append_right _ _ (by simp)] at this
  simpa [rowV] using this
 ·intro q hq
  have nd:=h.nd
  rw [List.map_append,← List.cons_append,List.nodup_append] at nd
  rcases List.mem_append.1 hq with hq | hq
  ·have hq1:=h.lt (r:=q) (by simp [hq])
   have hq2 : q.1 ≠ r.1:=nd.2.2 q.1 (List.mem_cons_of_mem _ (List.mem_map_of_mem hq)) r.1 (by simp)
   have hq3 : q.1 ≠ gp:=h.apart hp he (by simp [hq])
   refine ownsN_kept (h.rows q (by simp [hq])) fun k hk => ?_
   simp only [rowV,Value.ownBlock,Option.some.injEq] at hk
   rw [← hk,Below.heap_setCell _ _ _ _ hq3]
   exact hblk _ hq1.2 hq2
  ·rw [List.mem_singleton] at hq
   subst hq
   have : W1.ownsRow B e 1 (rowV (g',c',r.2.2 ++ [x])) (r.2.2 ++ [x]).length (ints (r.2.2 ++ [x])):=by simpa [rowV,ints] using ho
   exact ownsN_kept this fun k hk => by
    simp only [rowV,Value.ownBlock,Option.some.injEq] at hk
    rw [← hk]; exact Below.heap_setCell _ _ _ _ hgp
 ·have nd:=h.nd
  rw [List.map_append,← List.cons_append,List.nodup_append] at nd ⊢
  refine ⟨nd.1,by simp,fun a ha b hb => ?_⟩
  simp only [List.map_cons,List.map_nil,List.mem_singleton] at hb
  subst hb
  rcases hat with e2 | e2
  ·rw [e2]; exact nd.2.2 a ha r.1 (by simp)
  ·rcases List.mem_cons.1 ha with rfl | ha
   ·omega
   ·obtain ⟨q,hq,rfl⟩ := List.mem_map.1 ha
    have:=(h.lt (r:=q) (by simp [hq])).2
    omega
end
end Go.Oche

/- Rows of which the last grows, its slice held elsewhere; two new blocks of known cells in a drawn region. -/
namespace Go.Oche
open Go Go.RowKit
section
variable {B : Nat} {e e' : TypeId} {W W' : World} {gs : Nat} {R : List RowR}
theorem Rws.lastV {r : RowR} {g' c' : Nat} {x : Int} {W0 W1 : World} (h : Rws B e W0 gs (R ++ [r]))
  (hblk : ∀ k,k < W0.heap.size → k ≠ r.1 → W1.heap[k]? = W0.heap[k]?) (ho : W1.ownsRow B e 1 (.slice (some ⟨g',0,none⟩) (r.2.2.length + 1) c') (r.2.2.length + 1) (ints r.2.2 ++ [.int .i64 x])) (hat : g' = r.1 ∨ W0.heap.size ≤ g') (hgs : gs < W0.heap.size) :
  Rws B e W1 gs (R ++ [(g',c',r.2.2 ++ [x])]):=by
 have hrl:=h.lt (r:=r) (by simp)
 refine ⟨?_, ?_⟩
 ·intro q hq
  have nd:=h.nd
  rw [List.map_append,← List.cons_append,List.nodup_append] at nd
  rcases List.mem_append.1 hq with hq | hq
  ·have hq1:=h.lt (r:=q) (by simp [hq])
   have hq2 : q.1 ≠ r.1:=nd.2.2 q.1 (List.mem_cons_of_mem _ (List.mem_map_of_mem hq)) r.1 (by simp)
   refine ownsN_kept (h.rows q (by simp [hq])) fun k hk => ?_
   simp only [rowV,Value.ownBlock,Option.some.injEq] at hk
   rw [← hk]
   exact hblk _ hq1.2 hq2
  ·rw [List.mem_singleton] at hq
   subst hq
   simpa [rowV,ints] using ho
 ·have nd:=h.nd
  rw [List.map_append,← List.cons_append,List.nodup_append] at nd ⊢
  refine ⟨nd.1,by simp,fun a ha b hb => ?_⟩
  simp only [List.map_cons,List.map_nil,List.mem_singleton] at hb
  subst hb
  rcases hat with e2 | e2
  ·rw [e2]; exact nd.2.2 a ha r.1 (by simp)
  ·rcases List.mem_cons.1 ha with rfl | ha
   ·omega
   ·obtain ⟨q,hq,rfl⟩ := List.mem_map.1 ha
    have:=(h.lt (r:=q) (by simp [hq])).2
    omega
theorem owns_of_block {base p : Nat} {k : Nat} (hp : W.heap[p]? = some (.cells #[] e (0,0))) (hb : base ≤ p) : W.ownsRow base e k (.slice (some ⟨p,0,none⟩) 0 0) 0 []:=by
 refine ⟨by simp,.inr ⟨p,0, #[],rfl,hb,hp,Nat.le_refl _,Nat.zero_le _,by simp,by simp⟩⟩
end
structure JSP (w0 : World) (ia ib : Nat) (t1 t2 : TypeId) (Z : Array Value) (L : Nat → Bool) (vs : Nat → Value) (W : World) : Prop where
 below : Below w0.heap.size w0 W
 a : L ia = true → ∃ p,vs ia = .slice (some ⟨p,0,none⟩) 0 0 ∧ w0.heap.size ≤ p ∧ W.heap[p]? = some (.cells #[] t1 (0,0))
 b : L ib = true → ∃ q,vs ib = .pointer (some ⟨q,0,none⟩) ∧ w0.heap.size ≤ q ∧ W.heap[q]? = some (.cells Z t2 (0,0))
section
variable {w0 W W' : World} {ia ib : Nat} {t1 t2 : TypeId} {Z : Array Value} {L : Nat → Bool} {vs vs' : Nat → Value}
theorem JSP.congr (hc : ∀ j,L j = true → vs j = vs' j) (h : JSP w0 ia ib t1 t2 Z L vs W) : JSP w0 ia ib t1 t2 Z L vs' W:=⟨h.below,fun hl => hc _ hl ▸ h.a hl,fun hl => hc _ hl ▸ h.b hl⟩
theorem JSP.start : JSP w0 ia ib t1 t2 Z (fun _ => false) vs w0.drew:=⟨⟨rfl,rfl,rfl,Nat.le_refl _,fun _ _ => rfl⟩,fun h => (by cases h),fun h => (by cases h)⟩
theorem JSP.read (h : JSP w0 ia ib t1 t2 Z L vs W) {i : Nat} {v : Value} (h1 : ia ≠ i) (h2 : ib ≠ i) : JSP w0 ia ib t1 t2 Z (setB L i) (updV vs i v) W:=by
 refine ⟨h.below, ?_, ?_⟩ <;> simp only [setB_ne h1,setB_ne h2,updV_ne h1,updV_ne h2]
 ·exact h.a
 ·exact h.b
theorem JSP.mkA (h : JSP w0 ia ib t1 t2 Z L vs W) (h2 : ib ≠ ia) : JSP w0 ia ib t1 t2 Z (setB L ia) (updV vs ia (.slice (some ⟨W.heap.size,0,none⟩) 0 0)) (W.alloc (.cells #[] t1)):=by
 have hb : Below W.heap.size W (W.alloc (.cells #[] t1)):=(Below.refl _ _).alloc (Nat.le_refl _) _
 refine ⟨h.below.trans (hb.mono h.below.size),fun _ => ⟨_,updV_eq,h.below.size,World.alloc_heap_new _ _⟩, ?_⟩
 rw [setB_ne h2,updV_ne h2]
 intro hl
 obtain ⟨p,e1,e2,e3⟩ := h.b hl
 exact ⟨p,e1,e2,(hb.block p (Array.getElem?_eq_some_iff.1 e3).1).trans e3⟩
theorem JSP.mkB (h : JSP w0 ia ib t1 t2 Z L vs W) (h2 : ia ≠ ib) : JSP w0 ia ib t1 t2 Z (setB L ib) (updV vs ib (.pointer (some ⟨W.heap.size,0,none⟩))) (W.alloc (.cells Z t2)):=by
 have hb : Below W.heap.size W (W.alloc (.cells Z t2)):=(Below.refl _ _).alloc (Nat.le_refl _) _
 refine ⟨h.below.trans (hb.mono h.below.size), ?_,fun _ => ⟨_,updV_eq,h.below.size,World.alloc_heap_new _ _⟩⟩
 rw [setB_ne h2,updV_ne h2]
 intro hl
 obtain ⟨p,e1,e2,e3⟩ := h.a hl
 exact ⟨p,e1,e2,(hb.block p (Array.getElem?_eq_some_iff.1 e3).1).trans e3⟩
end
structure JRk (w0 : World) (ia ib ic : Nat) (t1 t2 : TypeId) (Z : Array Value) (L : Nat → Bool) (vs : Nat → Value) (W : World) : Prop where
 sp : JSP w0 ia ib t1 t2 Z L vs W
 c : L ic = true → L ia = true ∧ vs ic = vs ia
section
variable {w0 W W' : World} {ia ib ic : Nat} {t1 t2 : TypeId} {Z : Array Value} {L : Nat → Bool} {vs vs' : Nat → Value}
theorem JRk.congr (hc : ∀ j,L j = true → vs j = vs' j) (h : JRk w0 ia ib ic t1 t2 Z L vs W) : JRk w0 ia ib ic t1 t2 Z L vs' W :=
 ⟨h.sp.congr hc,fun hl => ⟨(h.c hl).1,by rw [← hc _ hl,← hc _ (h.c hl).1]; exact (h.c hl).2⟩⟩
theorem JRk.start : JRk w0 ia ib ic t1 t2 Z (fun _ => false) vs w0.drew:=⟨.start,fun h => (by cases h)⟩
theorem JRk.read (h : JRk w0 ia ib ic t1 t2 Z L vs W) {i : Nat} {v : Value} (h1 : ia ≠ i) (h2 : ib ≠ i) (h3 : ic ≠ i) : JRk w0 ia ib ic t1 t2 Z (setB L i) (updV vs i v) W:=by
 refine ⟨h.sp.read h1 h2, ?_⟩
 simp only [setB_ne h1,setB_ne h3,updV_ne h1,updV_ne h3]
 exact h.c
theorem JRk.mkA (h : JRk w0 ia ib ic t1 t2 Z L vs W) (hL : L ia = false) (h2 : ib ≠ ia) (h3 : ic ≠ ia) : JRk w0 ia ib ic t1 t2 Z (setB L ia) (updV vs ia (.slice (some ⟨W.heap.size,0,none⟩) 0 0)) (W.alloc (.cells #[] t1)):=by
 refine ⟨h.sp.mkA h2, ?_⟩
 rw [setB_ne h3]
 intro hl
 have:=(h.c hl).1
 rw [hL] at this; cases this
theorem JRk.mkB (h : JRk w0 ia ib ic t1 t2 Z L vs W) (h2 : ia ≠ ib) (h3 : ic ≠ ib) : JRk w0 ia ib ic t1 t2 Z (setB L ib) (updV vs ib (.pointer (some ⟨W.heap.size,0,none⟩))) (W.alloc (.cells Z t2)):=by
 refine ⟨h.sp.mkB h2, ?_⟩
 rw [setB_ne h3,setB_ne h2,updV_ne h3,updV_ne h2]
 exact h.c
theorem JRk.asg (h : JRk w0 ia ib ic t1 t2 Z L vs W) (hL : L ia = true) {v : Value} (hv : vs ia = v) (h1 : ia ≠ ic) (h2 : ib ≠ ic) : JRk w0 ia ib ic t1 t2 Z (setB L ic) (updV vs ic v) W:=by
 refine ⟨h.sp.read h1 h2,fun _ => ?_⟩
 rw [setB_ne h1,updV_eq,updV_ne h1]
 exact ⟨hL,hv.symm⟩
end
end Go.Oche

/- append([]T{}, l...) once more: the copy is a row of one's own, also where l is empty. -/
namespace Go.Oche
open Go Go.RowKit
section
variable {P : Program} {w : World}
theorem wpList_copyE {ops : Array Oper} {rest : List Oper} {Q : Exit → Act → World → Prop} {o : Oper} {a : Act} (hg : o.guard = none) (s x : Operand) (t : TypeId) (ho : o.op = .call { callee:=.builtin .append,args:=#[s,x],argTypes:=#[t,t] })
  (e : TypeId) (z : Value) (bytes : Nat) (ht : P.underlying t = some (.slice e)) (hi : (P.info? e).map (fun i => (i.zero,i.size,i.bytes)) = some (some z,1,bytes)) (hzs : z.cells.size = 1)
  (hs : a.eval s = .slice (some ⟨w.heap.size,0,none⟩) 0 0) {S : Nat → Prop} (v : Value) (xs : List Value) (hx : a.eval x = v) (hsl : Sl S w v xs) (h1 : ∀ u ∈ xs,u.oneCell' = true)
  (h63 : xs.length ≤ 100000) (hbytes : bytes ≤ 1000)
  (hK : ∀ g c w',Below w.heap.size w w' → w'.ownsRow w.heap.size e 1 (.slice (some ⟨g,0,none⟩) xs.length c) xs.length xs → wpList P ops Q rest (a.put o.dst (.slice (some ⟨g,0,none⟩) xs.length c)) w') : wpList P ops Q (o :: rest) a (w.alloc (.cells #[] e)):=by
 by_cases h0 : 0 < xs.length
 ·refine wpList_copyO hg s x t ho e z bytes ht hi hzs hs v xs hx hsl h1 h0 h63 hbytes fun v' w' hb ho => ?_
  obtain ⟨g,c,rfl⟩ : ∃ g c,v' = .slice (some ⟨g,0,none⟩) xs.length c:=by
   rcases ho.2 with ⟨_,h⟩ | ⟨g,c,cur,h,_⟩
   ·omega
   ·exact ⟨g,c,h⟩
  exact hK g c w' hb ho
 ·have hn : xs = []:=List.eq_nil_of_length_eq_zero (by omega)
  subst hn
  obtain ⟨al,cap,rfl,hc1,hc2,hcell⟩ := hsl
  obtain ⟨i,hi',hz0,hz1,hz2⟩ := info_parts hi
  refine wpList_opOK hg (R:=fun v' w' => v' = .slice (some ⟨w.heap.size,0,none⟩) 0 0 ∧ w' = w.alloc (.cells #[] e)) ?_ ?_
  ·unfold opOK execOp
   simp only [ho,resolve,invoke,builtin,Sem.run_bind,Sem.run_pure,Result.andThen_ok,List.map_toArray,List.map_cons,List.map_nil,hs,hx,List.length_nil,run_append_empty t o.type e i z ht hi' hz0]
   first | exact ⟨rfl,rfl⟩ | simp
  ·rintro _ _ ⟨rfl,rfl⟩
   exact hK w.heap.size 0 _ (aB _ _) (World.ownsRow_made w #[] 0 (Nat.le_refl _) (Nat.zero_le _) (by simp))
end
end Go.Oche
