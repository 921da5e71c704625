/- The texts HQ, HR0, HR, HS, HT, HU, in build order. -/
import Derived.Test.YtnbmgkmcaoafnaaGreatDoorZaq
import Derived.RangeFuncBound
import Derived.RangeFuncLeaves
import Derived.Shelf.Abstract
import Derived.Shelf.RegionOpen
import Derived.OwnWalkIn
import Derived.TacticsInMore
import Derived.LoopNIn
import Derived.LoopIn
import Derived.Lib.MinMax

/- Chapter 5: slices.Backward over a player's steps. -/
namespace Go.Proofs.YtnbmgkmcaoafnaaGreatDoor
open Go Go.RowKit Go.Oche Go.Proofs
attribute [local go_sem] Oper.semAt_some

theorem SlN.rel {k : Nat} {S O O' : Nat → Prop} {w w' : World} {v : Value} {rows : List (List Value)} (h : SlN k S w v rows) (hr : Rel O w O' w') (hS : ∀ q,S q → ¬ O q) : SlN k S w' v rows :=
 h.cells fun b o s hs => by
  obtain ⟨x,hx⟩ := Option.isSome_iff_exists.1 hs;rw [hx]; exact hr.cell hx (hS b s)
def encM : Nat × Value → Array Value → (Nat → Prop) → World → Prop:=fun c args _ _ => args = #[.int .i64 c.1,c.2]
def backM (cs : List Value) : List (Nat × Value):=(List.range cs.length).reverse.map fun i => (i,cs.getD i undef)
@[simp] theorem backM_length (cs : List Value) : (backM cs).length = cs.length:=by simp [backM]
theorem backM_at {cs : List Value} {m : Nat} (h : m < cs.length) (h2 : cs.length - (m + 1) < (backM cs).length) : (backM cs)[cs.length - (m + 1)] = (m,cs[m]):=by
 have e : cs.length - 1 - (cs.length - (m + 1)) = m:=by omega
 simp [backM,e,List.getD_eq_getElem?_getD,h]
set_option maxRecDepth 100000 in
set_option maxHeartbeats 1000000 in
theorem back5_in {S : Nat → Prop} (cs : List Value) (pb : Nat) (v : Value) (w : World) (Rs : Nat → Prop)
  (cb : w.cell? ⟨pb,0,none⟩ = some v) (hsl : SlN 1 S w v (cs.map fun m => [m])) (hcl : cs.length ≤ 1000) (r1 : Rs pb) (r2 : ∀ k,S k → k < w.heap.size → Rs k) :
  IterIn 3 Tryz.prog 93 #[] #[.pointer (some ⟨pb,0,none⟩)] encM (backM cs) Rs w:=by
 intro l J Jx O W hBW hO hRs hJ hJx hY h0
 have hsl':=((hsl.lt (by decide)).mono (S':=Rs) fun k hk => r2 k hk.1 hk.2).below hBW
 obtain ⟨a,cap,rfl,h2,h3⟩ := hsl'.form;simp only [List.length_map] at *;unfold maxLen at h3;have cb':=bAt hBW cb;clear cb hsl;have HS:=Lib.hid hsl';have HY:=Lib.hid hY;have HRS : Hid (∀ k,Rs k → ¬ O k):=Lib.hid (fun k hk => (hRs k hk).2)
 have n1:=(hRs pb r1).2;have hw0 : IntKind.i64.wrap ((cs.length : Int) - 1) = (cs.length : Int) - 1:=wrap_small _ (by omega) (by omega)
 clear hsl' hY hRs;refine callsIn_of_wp Tryz.func93 rfl trivial ?_ rfl
 simp only [Tryz.ntmps93,List.size_toArray,List.length_cons,List.length_nil,Nat.reduceAdd,Nat.reduceSub,Array.replicate_succ,Array.replicate_zero,List.push_toArray,List.append_toArray,List.nil_append,List.cons_append]
 gi_wp2
 have CB:=Lib.hid cb';clear hw0 cb'
 gi_loopw [3] (fun i wr => ∃ (k : Nat) (I : Int) (O₁ : Nat → Prop),k ≤ cs.length ∧ i = .int .i64 I ∧ Hid (I = (k : Int) - 1) ∧ Rel O W O₁ wr ∧ J ((backM cs).take (cs.length - k)) O₁ wr) (fun i _ => ((intOf i) + 1).toNat)
 case atStart => exact ⟨cs.length,_,O,Nat.le_refl _,rfl,Lib.hid rfl,Rel.refl hO,by simpa using h0⟩
 case round =>
  obtain ⟨k,I,O₁,hk,rfl,HI,hr,hj⟩ := hrel;have HJ:=Lib.hid hj;clear hj;cases k with
  | succ m =>
   obtain rfl : I = (m : Int):=by rw [HI.out]; omega
   have hlt : m < cs.length:=by omega
   have cbr:=rAt hr CB.out n1;obtain ⟨b,off,hal,_,_,hc⟩ := (SlN.rel HS.out hr HRS.out).cell (show m < (cs.map fun m => [m]).length by simpa using hlt)
   cases hal;obtain ⟨x,hx⟩ : ∃ x,cs[m] = x:=⟨_,rfl⟩;have z0:=hc 0 x (by simp [hx])
   simp only [Nat.add_zero,Nat.mul_one] at z0;have hbl : cs.length - (m + 1) < (backM cs).length:=by simp; omega
   have hat:=backM_at hlt hbl;rw [hx] at hat;have hsplit : backM cs = (backM cs).take (cs.length - (m + 1)) ++ (m,x) :: (backM cs).drop (cs.length - (m + 1) + 1):=by rw [← hat,← List.drop_eq_getElem_cons hbl,List.take_append_drop]
   have htk : (backM cs).take (cs.length - (m + 1)) ++ [(m,x)] = (backM cs).take (cs.length - m):=by
    rw [show cs.length - m = cs.length - (m + 1) + 1 by omega,List.take_succ_eq_append_getElem hbl,hat]
   have HTK:=Lib.hid htk;have hwm : IntKind.i64.wrap ((m : Int) - 1) = (m : Int) - 1:=wrap_small _ (by omega) (by omega)
   obtain ⟨fn,tmps,assign,body,hy,hR⟩ := HY.out ((backM cs).take (cs.length - (m + 1))) (m,x) ((backM cs).drop (cs.length - (m + 1) + 1)) #[.int .i64 m,x] O₁ wr hsplit hr HJ.out rfl;have HRo:=Lib.hid hR;clear hR hsplit hc hx htk hat hbl HJ
   gi_wp2_with fail
   refine ⟨rfl,RoundIn.mono HRo.out ?_⟩
   rintro e W3 ⟨O',hr3,(⟨rfl,hj3⟩ | ⟨rfl,hj3⟩)⟩
   ·have HJ3:=Lib.hid (show J ((backM cs).take (cs.length - m)) O' W3 by rw [← HTK.out]; exact hj3)
    have hr4:=hr.trans hr3;clear hj3 z0 cbr hr hr3
    gi_wp2
    go_roundw
    case rel => exact ⟨m,_,O',by omega,rfl,Lib.hid rfl,hr4,HJ3.out⟩
    case measure => simp [intOf]
   ·have HJ3:=Lib.hid (show Jx ((backM cs).take (cs.length - m)) O' W3 by rw [← HTK.out]; exact hj3)
    have hr4:=hr.trans hr3;clear hj3 z0 cbr hr hr3
    gi_wp2
    refine bodyPost_ret (results_none rfl _ _ _) rfl ?_
    exact ⟨⟨_,rfl⟩,O',hr4,.inr ⟨_,List.take_prefix _ _,HJ3.out⟩⟩
  | zero =>
   obtain rfl : I = -1:=by rw [HI.out]; rfl
   have HJ2 : Hid (J (backM cs) O₁ wr):=Lib.hid (by have:=HJ.out; rwa [Nat.sub_zero,show cs.length = (backM cs).length by simp,List.take_length] at this)
   clear HJ
   gi_wp2
   go_end0
   exact ⟨⟨_,rfl⟩,O₁,hr,.inl HJ2.out⟩
theorem backward5_any {S : Nat → Prop} (cs : List Value) (v : Value) (w : World) (hs : SlN 1 S w v (cs.map fun m => [m])) :
  Calls Tryz.prog 55 #[v] w fun e w' => e = .returned (.func (.func 93) #[] #[.pointer (some ⟨w.heap.size,0,none⟩)]) ∧ w' = w.alloc (.cells #[v] 94):=by
 obtain ⟨a,cap,rfl,h2,h3⟩ := hs.form;simp only [List.length_map] at *;clear hs
 go_enter Tryz.func55,Tryz.ntmps55
 go_wp2
 go_ret
 exact ⟨rfl,rfl⟩
open Go Go.RowKit Go.Oche Go.Proofs

def decP (v : Value) : Std × Std:=match v with
 | .agg cs => match cs.toList with
  | [.int _ a,.bool b,.int _ c,.bool d] => (⟨a,b⟩,⟨c,d⟩)
  | _ => (⟨0,false⟩,⟨0,false⟩)
 | _ => (⟨0,false⟩,⟨0,false⟩)
theorem decP_eq (s : Std × Std) : decP (spV s) = s:=rfl
def prD (sts : List (List Sp)) (now : List Std) (j : Nat) : List (List Sp) × List Std:=pruneL (sts.drop j) now
theorem prD_end (sts : List (List Sp)) (now : List Std) : prD sts now sts.length = ([],now):=by unfold prD; rw [List.drop_length]; rfl
theorem prD_step {sts : List (List Sp)} {now : List Std} {j : Nat} (h : j < sts.length) : prD sts now j = ((sts[j].filter fun s => decide (s.aft ∈ (prD sts now (j + 1)).2)) :: (prD sts now (j + 1)).1,firsts ((sts[j].filter fun s => decide (s.aft ∈ (prD sts now (j + 1)).2)).map Sp.bef)):=by
 unfold prD;rw [List.drop_eq_getElem_cons h,pruneL]
theorem prD_len (sts : List (List Sp)) (now : List Std) (j : Nat) : (prD sts now j).1.length = sts.length - j:=by unfold prD; rw [pruneL_len,List.length_drop]
def prS (sts : List (List Sp)) (now : List Std) (j : Nat) : List (List Sp):=sts.take j ++ (prD sts now j).1
theorem prS_len {sts : List (List Sp)} {now : List Std} {j : Nat} (h : j ≤ sts.length) : (prS sts now j).length = sts.length:=by unfold prS; rw [List.length_append,List.length_take,prD_len]; omega
theorem prS_end (sts : List (List Sp)) (now : List Std) : prS sts now sts.length = sts:=by unfold prS; rw [prD_end,List.take_length]; simp
theorem prS_zero (sts : List (List Sp)) (now : List Std) : prS sts now 0 = (pruneL sts now).1:=by unfold prS prD; simp
theorem prS_step {sts : List (List Sp)} {now : List Std} {j : Nat} (h : j < sts.length) : (prS sts now (j + 1))[j]? = some sts[j] ∧ (prS sts now j)[j]? = some (sts[j].filter fun s => decide (s.aft ∈ (prD sts now (j + 1)).2)) ∧ ∀ i,i ≠ j → (prS sts now j)[i]? = (prS sts now (j + 1))[i]? := by
 have e : prS sts now j = sts.take j ++ (sts[j].filter fun s => decide (s.aft ∈ (prD sts now (j + 1)).2)) :: (prD sts now (j + 1)).1:=by unfold prS; rw [prD_step h]
 have e1 : prS sts now (j + 1) = sts.take j ++ sts[j] :: (prD sts now (j + 1)).1:=by unfold prS; rw [List.take_succ_eq_append_getElem h,List.append_assoc]; rfl
 have hl : (sts.take j).length = j:=by simp; omega
 rw [e,e1];refine ⟨by rw [List.getElem?_append_right (by omega),hl,Nat.sub_self]; rfl,by rw [List.getElem?_append_right (by omega),hl,Nat.sub_self]; rfl,fun i hi => ?_⟩
 by_cases c : i < j
 ·rw [List.getElem?_append_left (by omega),List.getElem?_append_left (by omega)]
 ·rw [List.getElem?_append_right (by omega),List.getElem?_append_right (by omega),hl]
  obtain ⟨q,hq⟩ : ∃ q,i - j = q + 1:=⟨i - j - 1,by omega⟩
  rw [hq]; rfl
section
variable {base : Nat} {F : Nat → Prop} {W W' : World} {ms : List Value} {sts sts' : List (List Sp)}
theorem StepsAt.keepM (h : StepsAt base F W ms sts) (hk : ∀ q,Value.map (some q) ∈ ms → W'.heap[q]? = W.heap[q]?) : StepsAt base F W' ms sts :=
 ⟨h.len,h.nodup,fun i st hi => by
  obtain ⟨b,h1,h2,h3,h4⟩ := h.maps i st hi;exact ⟨b,h1,h2,h3,h4.keep (hk b (List.mem_of_getElem? h1))⟩⟩
theorem StepsAt.turn {j b : Nat} {st' : List Sp} (h : StepsAt base F W ms sts) (hb : ms[j]? = some (Value.map (some b))) (hk : ∀ q,Value.map (some q) ∈ ms → q ≠ b → W'.heap[q]? = W.heap[q]?) (hm : HoldsM spV W' b fun k => (aggP st' k).map smV)
  (hl : sts'.length = sts.length) (hj : sts'[j]? = some st') (hi : ∀ i,i ≠ j → sts'[i]? = sts[i]?) : StepsAt base F W' ms sts':=by
 refine ⟨by rw [hl]; exact h.len,h.nodup,fun i st hs => ?_⟩
 by_cases e : i = j
 ·subst e
  rw [hj] at hs;cases hs;have hlt : i < sts.length:=by rw [← h.len]; exact (List.getElem?_eq_some_iff.1 hb).1
  obtain ⟨b',h1,h2,h3,_⟩ := h.maps i sts[i] (by simp [hlt])
  rw [hb] at h1;cases h1;exact ⟨b,hb,h2,h3,hm⟩
 ·rw [hi i e] at hs
  obtain ⟨b',h1,h2,h3,h4⟩ := h.maps i st hs;refine ⟨b',h1,h2,h3,h4.keep (hk b' (List.mem_of_getElem? h1) fun q => e ?_)⟩
  subst q;exact (List.getElem?_inj (List.getElem?_eq_some_iff.1 h1).1 h.nodup).1 (h1.trans hb.symm)
end
def keptE (now : List Std) (ks : List (Std × Std)) (p : (Std × Std) × Value) : Bool := !(decide (p.1 ∈ ks) && !decide (p.1.2 ∈ now))
open Classical in
noncomputable def befF (now : List Std) (ks : List (Std × Std)) (y : Std) : Option Value:=if ∃ k ∈ ks,k.2 ∈ now ∧ k.1 = y then some (.bool true) else none
section
variable {now : List Std} {ks : List (Std × Std)} {k : Std × Std} {L0 : List ((Std × Std) × Value)}
theorem keptE_nil : L0.filter (keptE now []) = L0:=by rw [List.filter_eq_self]; intro p _; simp [keptE]
theorem keptE_keep (h : k.2 ∈ now) : L0.filter (keptE now (ks ++ [k])) = L0.filter (keptE now ks):=by
 refine List.filter_congr fun p _ => ?_
 unfold keptE;by_cases e : p.1 = k
 ·rw [e]; simp [h]
 ·simp [e]
theorem keptE_drop (h : ¬ k.2 ∈ now) : L0.filter (keptE now (ks ++ [k])) = (L0.filter (keptE now ks)).filter fun p => decide (p.1 ≠ k):=by
 rw [List.filter_filter];refine List.filter_congr fun p _ => ?_
 unfold keptE;by_cases e : p.1 = k
 ·rw [e]; simp [h]
 ·simp [e]
theorem keptE_all (h : ∀ p ∈ L0,p.1 ∈ ks) : L0.filter (keptE now ks) = L0.filter fun p => decide (p.1.2 ∈ now):=by
 refine List.filter_congr fun p hp => ?_
 unfold keptE;simp [h p hp]
theorem lookM_kept : ∀ {L : List ((Std × Std) × Value)} (k : Std × Std),lookM (L.filter fun p => decide (p.1.2 ∈ now)) k = if k.2 ∈ now then lookM L k else none
 | [],k => by simp [lookM]
 | p :: L,k => by
  have ih:=lookM_kept (L:=L) k;by_cases c : p.1.2 ∈ now
  ·rw [List.filter_cons_of_pos (by simpa using c)]
   by_cases e : p.1 = k
   ·subst e; simp [lookM,c]
   ·unfold lookM at ih ⊢
    rw [List.find?_cons_of_neg (by simpa using e),List.find?_cons_of_neg (by simpa using e)]
    exact ih
  ·rw [List.filter_cons_of_neg (by simpa using c),ih]
   by_cases e : p.1 = k
   ·subst e; simp [c]
   ·unfold lookM
    rw [List.find?_cons_of_neg (by simpa using e)]
theorem befF_nil (y : Std) : befF now [] y = none:=by unfold befF; simp
theorem befF_keep (h : k.2 ∈ now) (y : Std) : befF now (ks ++ [k]) y = if y = k.1 then some (.bool true) else befF now ks y:=by
 unfold befF;by_cases e : y = k.1
 ·rw [if_pos e,if_pos ⟨k,by simp,h,e.symm⟩]
 ·rw [if_neg e]
  by_cases c : ∃ k' ∈ ks,k'.2 ∈ now ∧ k'.1 = y
  ·obtain ⟨k',h1,h2⟩ := c
   rw [if_pos ⟨k',by simp [h1],h2⟩,if_pos ⟨k',h1,h2⟩]
  ·rw [if_neg c,if_neg]
   rintro ⟨k',h1,h2,h3⟩;rcases List.mem_append.1 h1 with h1 | h1
   ·exact c ⟨k',h1,h2,h3⟩
   ·rw [List.mem_singleton] at h1; subst h1; exact e h3.symm
theorem befF_drop (h : ¬ k.2 ∈ now) (y : Std) : befF now (ks ++ [k]) y = befF now ks y:=by
 unfold befF;by_cases c : ∃ k' ∈ ks,k'.2 ∈ now ∧ k'.1 = y
 ·obtain ⟨k',h1,h2⟩ := c
  rw [if_pos ⟨k',by simp [h1],h2⟩,if_pos ⟨k',h1,h2⟩]
 ·rw [if_neg c,if_neg]
  rintro ⟨k',h1,h2,h3⟩;rcases List.mem_append.1 h1 with h1 | h1
  ·exact c ⟨k',h1,h2,h3⟩
  ·rw [List.mem_singleton] at h1; subst h1; exact h h2
theorem befF_all {st : List Sp} (h : ∀ k,k ∈ ks ↔ (aggP st k).isSome = true) (y : Std) : befF now ks y = if y ∈ firsts ((st.filter fun s => decide (s.aft ∈ now)).map Sp.bef) then some (.bool true) else none:=by
 unfold befF;have : (∃ k ∈ ks,k.2 ∈ now ∧ k.1 = y) ↔ y ∈ firsts ((st.filter fun s => decide (s.aft ∈ now)).map Sp.bef):=by
  rw [mem_firsts,List.mem_map];constructor
  ·rintro ⟨k,h1,h2,rfl⟩
   obtain ⟨s,hs,e1,e2⟩ := aggP_some.1 ((h k).1 h1);exact ⟨s,List.mem_filter.2 ⟨hs,by rw [e2]; exact decide_eq_true h2⟩,e1⟩
  ·rintro ⟨s,hs,rfl⟩
   obtain ⟨h1,h2⟩ := List.mem_filter.1 hs;exact ⟨(s.bef,s.aft),(h _).2 (aggP_some.2 ⟨s,h1,rfl,rfl⟩),of_decide_eq_true h2,rfl⟩
 by_cases e : y ∈ firsts ((st.filter fun s => decide (s.aft ∈ now)).map Sp.bef)
 ·rw [if_pos e,if_pos (this.2 e)]
 ·rw [if_neg e,if_neg fun q => e (this.1 q)]
end
structure PrI (base : Nat) (F : Nat → Prop) (ms : List Value) (sts : List (List Sp)) (now : List Std) (N n nb : Nat) (O : Nat → Prop) (W : World) : Prop where
 o : ∀ k,O k ↔ k = N ∨ Value.map (some k) ∈ ms ∨ k = nb
 cell : W.heap[N]? = some (.cells #[.map (some nb)] 98 (0,0))
 nowm : HoldsM stV W nb fun y => if y ∈ (prD sts now (ms.length - n)).2 then some (.bool true) else none
 apart : Value.map (some nb) ∉ ms
 steps : StepsAt base F W ms (prS sts now (ms.length - n))
theorem PrI.stab {base : Nat} {F : Nat → Prop} {ms : List Value} {sts : List (List Sp)} {now : List Std} {N n nb : Nat} {O : Nat → Prop} {W W' : World} (h : PrI base F ms sts now N n nb O W) (hk : ∀ k,k < W.heap.size → O k → W'.heap[k]? = W.heap[k]?) : PrI base F ms sts now N n nb O W' :=
 ⟨h.o,(hk N (Array.getElem?_eq_some_iff.1 h.cell).1 ((h.o N).2 (.inl rfl))).trans h.cell,h.nowm.keep (hk nb h.nowm.lt ((h.o nb).2 (.inr (.inr rfl)))),h.apart,h.steps.keepM fun q hq => by
  obtain ⟨i,hi⟩ := List.mem_iff_getElem?.1 hq;have hl:=h.steps.len;have hil : i < (prS sts now (ms.length - n)).length:=by rw [← hl]; exact (List.getElem?_eq_some_iff.1 hi).1
  obtain ⟨b,h1,_,_,h4⟩ := h.steps.maps i (prS sts now (ms.length - n))[i] (by simp [hil])
  rw [hi] at h1;cases h1;exact hk q h4.lt ((h.o q).2 (.inr (.inl hq)))⟩
open Go Go.RowKit Go.Oche Go.Proofs
attribute [local go_sem] Oper.semAt_some

set_option maxRecDepth 100000 in
set_option maxHeartbeats 4000000 in
theorem prune_any {base : Nat} {F S : Nat → Prop} (tv sv : Value) (nb : Nat) (ms : List Value) (sts : List (List Sp)) (now : List Std) (w : World) (h : StepsAt base F w ms sts) (hsl : SlN 1 S w sv (ms.map fun m => [m])) (hS : ∀ q,S q → Value.map (some q) ∉ ms ∧ q ≠ nb)
  (hn : HoldsM stV w nb fun y => if y ∈ now then some (.bool true) else none) (hap : Value.map (some nb) ∉ ms) (hlen : ms.length ≤ 1000) :
  Calls Tryz.prog 27 #[.agg #[tv,sv],.map (some nb)] w fun e w' => (∃ v,e = .returned v) ∧ StepsAt base F w' ms (pruneL sts now).1 ∧ Chg (fun q => q = nb ∨ Value.map (some q) ∈ ms) w w':=by
 obtain ⟨N,hN⟩ : ∃ N,w.heap.size = N:=⟨_,rfl⟩;obtain ⟨w1,hw1⟩ : ∃ y,(w.alloc (.cells #[tv,sv] 96)).alloc (.cells #[.map (some nb)] 98) = y:=⟨_,rfl⟩;have hb1 : Below w.heap.size w w1:=by rw [← hw1]; exact (aB _ _).alloc (by simp) _
 have k1 : w1.heap[N]? = some (.cells #[tv,sv] 96 (0,0)):=by rw [← hw1,← hN]; exact (Below.heap_alloc _ _ _ (by simp)).trans (World.alloc_heap_new _ _)
 have k2 : w1.heap[N + 1]? = some (.cells #[.map (some nb)] 98 (0,0)):=by
  rw [← hw1,← hN,show w.heap.size + 1 = (w.alloc (.cells #[tv,sv] 96)).heap.size by simp]; exact World.alloc_heap_new _ _
 have hs1 : w1.heap.size = N + 2:=by rw [← hw1]; simp; omega
 have c1 : w1.cell? ⟨N,1,none⟩ = some sv:=by rw [cell_of_heap k1]; rfl
 have hmN : ∀ q,Value.map (some q) ∈ ms → q < N:=fun q hq => by
  obtain ⟨i,hi⟩ := List.mem_iff_getElem?.1 hq;have hil : i < sts.length:=by rw [← h.len]; exact (List.getElem?_eq_some_iff.1 hi).1
  obtain ⟨b,e1,_,_,e4⟩ := h.maps i sts[i] (by simp [hil])
  rw [hi] at e1;cases e1;rw [← hN]; exact e4.lt
 have hnN : nb < N:=by rw [← hN]; exact hn.lt
 have hml:=h.len;have HI1 : Hid (PrI base F ms sts now (N + 1) 0 nb (fun k => k = N + 1 ∨ Value.map (some k) ∈ ms ∨ k = nb) w1):=Lib.hid
  ⟨fun _ => Iff.rfl,k2,(hn.below hb1).congr fun y => by rw [Nat.sub_zero,hml,prD_end],hap,by
   rw [Nat.sub_zero,hml,prS_end];exact h.keep fun q es c _ hq => hb1.block q (Array.getElem?_eq_some_iff.1 hq).1⟩
 have HSL : Hid (SlN 1 (fun q => S q ∧ q < N) w1 sv (ms.map fun m => [m])):=Lib.hid (((hsl.lt (by decide)).mono fun q hq => by rw [hN] at hq; exact hq).below hb1)
 have HSS:=Lib.hid hS;have HMN:=Lib.hid hmN;have HB1:=Lib.hid hb1;have HW:=Lib.hid hw1;have HNN:=Lib.hid hN;clear hb1 hw1 k1 k2 hS hmN hsl h hn;refine (callsIn_wide (n:=0)).1 (callsIn_of_wp_marks Tryz.func27 rfl trivial ?_ rfl)
 simp only [Tryz.ntmps27,List.size_toArray,List.length_cons,List.length_nil,Nat.reduceAdd,Nat.reduceSub,Array.replicate_succ,Array.replicate_zero,List.push_toArray,List.append_toArray,List.nil_append,List.cons_append]
 gi_wp2_with fail
 rw [HW.out];refine ⟨trivial,rfl,(callsIn_wide.2 (backward5_any ms sv w1 HSL.out)).mono ?_⟩
 rintro e w2 ⟨rfl,hw2⟩;rw [hs1];have hb2 : Below w1.heap.size w1 w2:=by rw [hw2]; exact aB _ _
 have cb2 : w2.cell? ⟨N + 2,0,none⟩ = some sv:=by rw [hw2,← hs1]; simp
 have hs2 : w2.heap.size = N + 3:=by rw [hw2]; simp; omega
 have HB2:=Lib.hid (bThen HB1.out hb2);have HSL2:=Lib.hid (HSL.out.below hb2);have HCB2:=Lib.hid cb2;have HI2:=Lib.hid (HI1.out.stab (W':=w2) fun k hk _ => hb2.block k hk)
 have HS2:=Lib.hid hs2;clear hw2 hb2 cb2 HSL HI1 c1
 gi_wp2_with fail
 refine wpIn_range (t:=3) (gf:=93) (fa:=#[]) (lb:=#[.pointer (some ⟨N + 2,0,none⟩)]) rfl (enters_of Tryz.func93 (by kernel_rfl) rfl)
  (back5_in ms (N + 2) sv w2 (fun j => j = N + 2 ∨ S j ∧ j < N) HCB2.out HSL2.out hlen (.inl rfl) (fun k hk _ => .inr hk))
  (fun pre O W => ∃ nb',PrI base F ms sts now (N + 1) pre.length nb' O W) (fun _ _ _ _ => False) (fun pre O X Y ⟨nb',h⟩ _ _ _ _ hk => ⟨nb',h.stab fun q h1 h2 => hk q h1 (.inl h2)⟩) (fun _ _ _ _ _ h => h.elim)
  (fun k => k = N + 1 ∨ Value.map (some k) ∈ ms ∨ k = nb) (fun j hj => by rcases hj with rfl | hj | rfl; omega; have:=HMN.out j hj; omega; omega)
  (fun j hj => by
   rcases hj with rfl | ⟨h1,h2⟩
   ·refine ⟨by omega,fun e => ?_⟩
    rcases e with e | e | e
    ·omega
    ·have:=HMN.out _ e; omega
    ·omega
   ·refine ⟨by omega,fun e => ?_⟩
    rcases e with e | e | e
    ·omega
    ·exact (HSS.out j h1).1 e
    ·exact (HSS.out j h1).2 e) ⟨nb,HI2.out⟩
  (fun b args O W' h => by subst h; rfl) ?round ?done ?stop
 case round =>
  rintro l pre ⟨i,v⟩ post args O₁ W₁ hL hl1 hl2 hnl hnl' hrel hI henc;subst henc;clear hI;have hlenL:=congrArg List.length hL;rw [backM_length,List.length_append,List.length_cons] at hlenL;obtain ⟨n,hn⟩ : ∃ n,pre.length = n:=⟨_,rfl⟩;have hv : v = ms.getD (ms.length - 1 - n) undef:=by
   have hat : (backM ms)[n]? = some (i,v):=by rw [hL,List.getElem?_append_right (by omega),hn,Nat.sub_self]; rfl
   have hat2 : (backM ms)[n]? = some (ms.length - 1 - n,ms.getD (ms.length - 1 - n) undef):=by
    unfold backM;rw [List.getElem?_map,List.getElem?_reverse (by simp; omega)]
    simp [show ms.length - 1 - n < ms.length by omega]
   rw [hat] at hat2;exact congrArg Prod.snd (Option.some.inj hat2)
  rw [hn] at hlenL;have HV:=Lib.hid hv;have HNp:=Lib.hid hn;have HREL:=Lib.hid hrel;clear hL hn hv hrel
  gi_wp2_with fail
  refine ⟨Below.refl _ _, ?_⟩
  rintro W₃ hon ⟨nb',hPI⟩;rw [HNp.out] at hPI;obtain ⟨j,hj⟩ : ∃ j,ms.length - 1 - n = j:=⟨_,rfl⟩;have hj1 : ms.length - n = j + 1:=by omega
  have hjs : j < sts.length:=by omega
  obtain ⟨p1,p2,p3⟩ := prS_step (now:=now) hjs;have hst:=hPI.steps;have hnw:=hPI.nowm;rw [hj1] at hst hnw;obtain ⟨b,e1,hbb,hbF,hbM⟩ := hst.maps j _ p1;have hvb : v = .map (some b):=by
   rw [HV.out,hj,List.getD_eq_getElem?_getD,e1]; rfl
  subst hvb;obtain ⟨now',hnow'⟩ : ∃ x,(prD sts now (j + 1)).2 = x:=⟨_,rfl⟩;rw [hnow'] at hnw;have hbn : b ≠ nb':=fun e => hPI.apart (by rw [← e]; exact List.mem_of_getElem? e1)
  have HE1:=Lib.hid e1;obtain ⟨L0,hL0,hLn,hLk0⟩ := hbM;have hLk : ∀ k,lookM L0 k = (aggP sts[j] k).map smV:=hLk0;obtain ⟨M,hM⟩ : ∃ M,W₃.heap.size = M:=⟨_,rfl⟩;have hmm := @run_makeMap Tryz.prog;obtain ⟨w4,hw4⟩ : ∃ x,W₃.alloc (.map #[] 0) = x:=⟨_,rfl⟩;have hb4 : Below W₃.heap.size W₃ w4:=by rw [← hw4]; exact aB _ _
  have hM4 : HoldsM stV w4 M fun _ => none:=by rw [← hw4,← hM]; exact HoldsM.made _
  have hs4 : w4.heap.size = M + 1:=by rw [← hw4,← hM]; simp
  obtain ⟨w5,hrg,hS5,hb5,hz5⟩ := MapAt.range (P:=Tryz.prog) (T:=104) (by rfl) (hL0.below hb4)
  rw [hs4] at hrg hS5 hz5;have hbM' : b < M:=by rw [← hM]; exact hL0.lt
  have hnbM : nb' < M:=by rw [← hM]; exact hnw.lt
  have hNM : N + 1 < M:=by rw [← hM]; exact (Array.getElem?_eq_some_iff.1 hPI.cell).1
  have hNb : b ≠ N + 1:=fun e => by
   obtain ⟨es,c,h1,_⟩ := hL0;have:=hPI.cell;rw [← e,h1] at this; cases this
  have HS5 : Hid (SeenD spV w5 (M + 1) b L0 (L0.filter (keptE now' [])) []):=Lib.hid (by rw [keptE_nil]; exact SeenD.of hS5)
  have HM5 : Hid (HoldsM stV w5 M (befF now' [])):=Lib.hid ((hM4.below hb5).congr fun y => by rw [befF_nil])
  have HC5 : Hid (Chg (fun q => q = b) W₃ w5):=Lib.hid (Chg.below (bThen hb4 hb5))
  have HW4:=Lib.hid hw4;have HPI:=Lib.hid hPI;have HNW:=Lib.hid hnw;have HST:=Lib.hid hst;have HLN:=Lib.hid hLn;have HLK:=Lib.hid hLk;have HP2:=Lib.hid p2;have HP3:=Lib.hid p3;have HNOW:=Lib.hid hnow';have HM:=Lib.hid hM;have HON:=Lib.hid hon;clear e1 hLk0 hLk hLn hL0 hPI hst hnw hb4 hM4 hb5 hS5 p1 p2 p3 hnow' hw4 hz5 hon
  gi_upto_region 4 with fail
  rw [HW4.out];clear hmm
  gi_wp2
  clear hrg
  gi_loopw [7] (fun _ wr => ∃ ks : List (Std × Std),Hid (SeenD spV wr (M + 1) b L0 (L0.filter (keptE now' ks)) ks) ∧ Hid (HoldsM stV wr M (befF now' ks)) ∧ Hid (Chg (fun q => q = b) W₃ wr)) (fun _ wr => L0.length - seenN wr (M + 1))
  case atStart => exact ⟨[],HS5,HM5,HC5⟩
  case round =>
   clear HS5 HM5 HC5;obtain ⟨ks,HSr,HMr,HCr⟩ := hrel;obtain ⟨wo,rfl⟩ : ∃ wo : World,wo = wr:=⟨_,rfl⟩;rcases HSr.out.next (P:=Tryz.prog) (dec:=decP) decP_eq HLN.out 0 with ⟨hnx,hperm⟩ | ⟨x,vx,w6,hmem,hkn,hlenk,hnx,hS6,hg6,hz6,hen6⟩
   ·have hz0 : wo.heap[N + 1]? = some (.cells #[.map (some nb')] 98 (0,0)):=(HCr.out.block (N + 1) (by omega) (fun e => hNb e.symm)).trans HPI.out.cell
    have c0 : wo.cell? ⟨N + 1,0,none⟩ = some (.map (some nb')):=by rw [cell_of_heap hz0]; rfl
    have f0 : wo.frozen? ⟨N + 1,0,none⟩ = false:=frozen_of_heap hz0;obtain ⟨wz,hwz⟩ : ∃ x,wo.setCell ⟨N + 1,0,none⟩ (.map (some M)) = x:=⟨_,rfl⟩;have hcz : wz.heap[N + 1]? = some (.cells #[.map (some M)] 98 (0,0)):=by rw [← hwz]; exact heap_setCell_at hz0 _
    have hkz : ∀ q,q ≠ N + 1 → wz.heap[q]? = wo.heap[q]? := fun q hq => by rw [← hwz]; exact Below.heap_setCell _ _ _ _ hq
    have hszz : wz.heap.size = wo.heap.size:=by rw [← hwz]; simp
    have hko : ∀ q,q < M → q ≠ b → q ≠ N + 1 → wz.heap[q]? = W₃.heap[q]? := fun q h1 h2 h3 => (hkz q h3).trans (HCr.out.block q (by omega) h2)
    have hmb : HoldsM spV wo b fun k => (aggP (sts[j].filter fun s => decide (s.aft ∈ now')) k).map smV:=by
     refine ⟨L0.filter (keptE now' ks),HSr.out.map,(HLN.out.sublist (List.filter_sublist.map _)),fun k => ?_⟩
     rw [keptE_all fun p hp => hperm.mem_iff.2 (List.mem_map_of_mem hp),lookM_kept,HLK.out]
     have:=aggP_filter sts[j] (fun s => decide (s ∈ now')) k
     show _ = Option.map smV (aggP (List.filter (fun s => decide (s.aft ∈ now')) sts[j]) k)
     rw [this];by_cases c : k.2 ∈ now' <;> simp [c]
    have hmm : HoldsM stV wo M fun y => if y ∈ (prD sts now j).2 then some (.bool true) else none:=by
     rw [prD_step hjs,HNOW.out];exact HMr.out.congr fun y => befF_all (fun k => by rw [hperm.mem_iff,key_isSome,HLK.out,Option.isSome_map]) y
    have hMsz:=hmm.lt;have hMms : Value.map (some M) ∉ ms:=fun hq => by have:=HMN.out M hq; omega
    have HPZ : Hid (PrI base F ms sts now (N + 1) (n + 1) M (fun k => k = N + 1 ∨ Value.map (some k) ∈ ms ∨ k = M) wz):=Lib.hid
     ⟨fun _ => Iff.rfl,hcz,by rw [show ms.length - (n + 1) = j by omega]; exact hmm.keep (hkz M (by omega)),hMms,by
      rw [show ms.length - (n + 1) = j by omega]
      refine HST.out.turn HE1.out (fun q hq hqb => hko q (by have:=HMN.out q hq; omega) hqb (by have:=HMN.out q hq; omega)) (hmb.keep (hkz b hNb)) ?_ (by rw [← HNOW.out]; exact HP2.out) HP3.out
      rw [prS_len (by omega),prS_len (by omega)]⟩
    have HRZ : Hid (Rel O₁ W₃ (fun k => k = N + 1 ∨ Value.map (some k) ∈ ms ∨ k = M) wz):=Lib.hid
     ⟨by rw [← hwz]; exact HCr.out.os,by rw [← hwz]; exact HCr.out.tape,by rw [← hwz]; exact HCr.out.output,by rw [hszz]; exact HCr.out.size,fun k hk hn => hko k (by omega) (fun e => hn ((HPI.out.o k).2 (.inr (.inl (by rw [e]; exact List.mem_of_getElem? HE1.out))))) (fun e => hn ((HPI.out.o k).2 (.inl e))),
      fun k hk => by
       rcases hk with hk | hk | hk
       ·exact .inl ((HPI.out.o k).2 (.inl hk))
       ·exact .inl ((HPI.out.o k).2 (.inr (.inl hk)))
       ·right; omega,
      fun k hk => by
       have:=HCr.out.size;rcases hk with hk | hk | hk
       ·omega
       ·have:=HMN.out k hk; omega
       ·omega⟩
    have HWZ:=Lib.hid hwz;clear hperm HSr HMr HCr hz0 hwz hcz hkz hszz hko hmb hmm hMsz hMms
    gi_upto_region 10 with fail
    clear hnx
    gi_wp2_with fail
    rw [HWZ.out];exact ⟨_,HRZ.out,M,by rw [List.length_append,HNp.out]; exact HPZ.out⟩
   ·have hsz6:=HCr.out.size
    have hM6:=HMr.out.grown hg6 fun e => by cases e
    have hC6 : Chg (fun q => q = b) W₃ w6:=HCr.out.thenG hg6 fun x hx hlt => by cases hx; omega
    have hLo : Hid (ks.length < L0.length ∧ seenN wo (M + 1) = ks.length):=Lib.hid ⟨hlenk,SeenD.count HSr.out⟩;obtain ⟨⟨sl,si⟩,⟨yl,yi⟩⟩ := x;obtain ⟨w7,hw7⟩ : ∃ x,w6.alloc (.cells #[.int .i64 sl,.bool si,.int .i64 yl,.bool yi] 107) = x:=⟨_,rfl⟩;have hb7 : Below w6.heap.size w6 w7:=by rw [← hw7]; exact aB _ _
    obtain ⟨D,hD⟩ : ∃ D,w6.heap.size = D:=⟨_,rfl⟩;have k7 : w7.heap[D]? = some (.cells #[.int .i64 sl,.bool si,.int .i64 yl,.bool yi] 107 (0,0)):=by rw [← hw7,← hD]; exact World.alloc_heap_new _ _
    have HS7:=Lib.hid (hS6.keep (W':=w7) (hb7.block _ hS6.lt.2.1) (hb7.block _ hS6.lt.1));have HM7:=Lib.hid (hM6.below hb7);have HC7:=Lib.hid (hC6.thenB hb7);have g0 : w7.cell? ⟨D,0,none⟩ = some (.int .i64 sl):=by rw [cell_of_heap k7]; rfl
    have g1 : w7.cell? ⟨D,1,none⟩ = some (.bool si):=by rw [cell_of_heap k7]; rfl
    have g2 : w7.cell? ⟨D,2,none⟩ = some (.int .i64 yl):=by rw [cell_of_heap k7]; rfl
    have g3 : w7.cell? ⟨D,3,none⟩ = some (.bool yi):=by rw [cell_of_heap k7]; rfl
    have hcell : w7.heap[N + 1]? = some (.cells #[.map (some nb')] 98 (0,0)):=(HC7.out.block (N + 1) (by omega) (fun e => hNb e.symm)).trans HPI.out.cell
    have c0 : w7.cell? ⟨N + 1,0,none⟩ = some (.map (some nb')):=by rw [cell_of_heap hcell]; rfl
    have hnw7 : HoldsM stV w7 nb' fun y => if y ∈ now' then some (.bool true) else none:=HNW.out.keep (HC7.out.block nb' (by omega) (fun e => hbn e.symm))
    obtain ⟨fd,hfd⟩ : ∃ z,decide ((⟨yl,yi⟩ : Std) ∈ now') = z:=⟨_,rfl⟩;have hlk:=HoldsM.lookup st_key (T:=98) (E:=4) (by rfl) (zero_b w7) hnw7 (⟨yl,yi⟩ : Std) false
    have hfv : (if (⟨yl,yi⟩ : Std) ∈ now' then some (Value.bool true) else none).getD (.bool false) = .bool fd:=by
     rw [← hfd]; by_cases c : (⟨yl,yi⟩ : Std) ∈ now' <;> simp [c]
    rw [hfv] at hlk;unfold stV at hlk;simp only [Bool.false_eq_true,if_false] at hlk;have HFD:=Lib.hid hfd;have HW7:=Lib.hid hw7;have HKN:=Lib.hid hkn;unfold spV at hnx hen6;simp only at hnx hen6;clear hmem hkn hlenk hS6 hg6 hz6 hM6 hC6 hw7 hb7 k7 hcell hnw7 hfd hfv HSr HMr HCr hsz6
    gi_upto_region 7 with fail
    rw [HW7.out];clear hnx hen6;cases fd
    ·have hnm : ¬ (⟨yl,yi⟩ : Std) ∈ now':=of_decide_eq_false HFD.out
     obtain ⟨w8,hdl,hS8,hg8⟩ := SeenD.delete sp_key decP_eq (T:=104) (E:=109) (by rfl) HS7.out (HLN.out.sublist (List.filter_sublist.map _)) (k:=((⟨sl,si⟩ : Std),(⟨yl,yi⟩ : Std))) (by simp) HLN.out 0
     unfold spV at hdl;simp only at hdl;rw [← keptE_drop (k:=((⟨sl,si⟩ : Std),(⟨yl,yi⟩ : Std))) hnm] at hS8;have HS8:=Lib.hid hS8;have HM8 : Hid (HoldsM stV w8 M (befF now' (ks ++ [((⟨sl,si⟩ : Std),(⟨yl,yi⟩ : Std))]))):=Lib.hid ((HM7.out.grown hg8 fun e => by cases e; omega).congr fun y => (befF_drop (k:=((⟨sl,si⟩ : Std),(⟨yl,yi⟩ : Std))) hnm y).symm)
     have HC8:=Lib.hid (HC7.out.thenG hg8 fun x hx _ => (Option.some.inj hx).symm)
     have HL8 : Hid (L0.length - seenN w8 (M + 1) < L0.length - seenN wo (M + 1)):=Lib.hid (by
      have e1:=SeenD.count hS8;have e2:=hLo.out;rw [e1,e2.2,List.length_append,List.length_singleton]; omega)
     clear hS8 hg8 hnm HS7 HM7 HC7
     gi_wp2
     go_roundw
     case rel => exact ⟨_,HS8,HM8,HC8⟩
     case measure => exact HL8.out
    ·have hnm : (⟨yl,yi⟩ : Std) ∈ now':=of_decide_eq_true HFD.out
     obtain ⟨w8,hup,hm8,hg8⟩ := HoldsM.update st_key (T:=98) (E:=4) (by rfl) HM7.out (⟨sl,si⟩ : Std) (.bool true)
     unfold stV at hup;simp only at hup;have hS8:=HS7.out.keep (W':=w8) (hg8.block _ HS7.out.lt.2.1 fun e => by cases e; omega) (hg8.block _ HS7.out.lt.1 fun e => by cases e)
     rw [← keptE_keep (k:=((⟨sl,si⟩ : Std),(⟨yl,yi⟩ : Std))) hnm] at hS8;have HS8:=Lib.hid hS8;have HM8 : Hid (HoldsM stV w8 M (befF now' (ks ++ [((⟨sl,si⟩ : Std),(⟨yl,yi⟩ : Std))]))):=Lib.hid (hm8.congr fun y => (befF_keep (k:=((⟨sl,si⟩ : Std),(⟨yl,yi⟩ : Std))) hnm y).symm)
     have HC8:=Lib.hid (HC7.out.thenG hg8 fun x hx hlt => by cases hx; omega)
     have HL8 : Hid (L0.length - seenN w8 (M + 1) < L0.length - seenN wo (M + 1)):=Lib.hid (by
      have e1:=SeenD.count hS8;have e2:=hLo.out;rw [e1,e2.2,List.length_append,List.length_singleton]; omega)
     clear hS8 hg8 hm8 hnm HS7 HM7 HC7
     gi_wp2
     go_roundw
     case rel => exact ⟨_,HS8,HM8,HC8⟩
     case measure => exact HL8.out
 case done =>
  intro D O₁ W' hD hnD hrel hI hDD
  obtain ⟨nb',hPI⟩ := hI;have hst:=hPI.steps;rw [backM_length,Nat.sub_self,prS_zero] at hst;have HDD:=Lib.hid hDD;have HST:=Lib.hid hst;have HREL:=Lib.hid hrel;have HO : Hid (∀ k,Value.map (some k) ∈ ms → O₁ k):=Lib.hid fun k hk => (hPI.o k).2 (.inr (.inl hk))
  have HND:=Lib.hid hnD;clear hPI hst hrel hDD hnD
  gi_wp2_with fail
  have hmk : Marks 0 W' [D]:=(Marks.nil _ _).cons HDD.out (Nat.zero_le _) (by simp)
  refine leave_marks [D] _ hmk fun W'' hp => ?_
  have hbz : Below N W' W'':=hp.below fun E hE => by simp at hE; omega
  refine ⟨_,results_none rfl _ _ _,⟨_,rfl⟩,HST.out.keepM fun q hq => hp.block q fun h => by simp at h; subst h; exact HND.out (HO.out q hq), ?_⟩
  refine ⟨hbz.os.trans (HREL.out.os.trans HB2.out.os),hbz.tape.trans (HREL.out.tape.trans HB2.out.tape),hbz.output.trans (HREL.out.output.trans HB2.out.output),Nat.le_trans HB2.out.size (Nat.le_trans HREL.out.size hbz.size),fun q hq hn => ?_⟩
  rw [hN] at hq;refine (hbz.block q hq).trans ((HREL.out.block q (by omega) fun e => ?_).trans (HB2.out.block q (by rw [hN]; exact hq)))
  rcases e with e | e | e
  ·omega
  ·exact hn (.inr e)
  ·exact hn (.inl e)
 case stop => intro D c pre O₁ W' _ _ _ _ h; exact h.elim
open Go Go.RowKit Go.Oche Go.Proofs

theorem truth1_which (n : Nat) : WhichFn 26 #[] n fun _ => true:=by
 refine ⟨enters_of Tryz.func26 (by kernel_rfl) rfl,fun i w _ => ?_⟩
 show Calls Tryz.prog 26 #[.int .i64 (i : Int)] w _
 go_enter Tryz.func26,Tryz.ntmps26
 go_wp2;go_returns;exact ⟨rfl,rfl⟩
theorem has_all : ∀ (s : Fin 1024) (i : Fin 10),(bits BinOp.and IntKind.u64 (((s.val : Nat) : Int) / 2 ^ i.val) 1 == 1) = s.val.testBit i.val:=by decide +kernel
theorem has_which (s n : Nat) (hs : s < 1024) (hn : n ≤ 10) : WhichFn 61 #[.int .u64 (s : Int)] n fun i => s.testBit i:=by
 refine ⟨enters_of Tryz.func61 (by kernel_rfl) rfl,fun i w hi => ?_⟩
 show Calls Tryz.prog 61 #[.int .u64 (s : Int),.int .i64 (i : Int)] w _
 go_enter Tryz.func61,Tryz.ntmps61
 go_wp2;go_returns;exact ⟨by rw [show Ending.returned (Value.bool (s.testBit i)) = _ from congrArg (fun b => Ending.returned (Value.bool b)) (has_all ⟨s,hs⟩ ⟨i,by omega⟩).symm]; rfl,rfl⟩
theorem holds_len {κ : Type} [DecidableEq κ] {enc : κ → Value} {W : World} {b : Nat} {f : κ → Option Value} (h : HoldsM enc W b f) {P : Program} {T K E : TypeId} (ht : P.underlying T = some (.map K E)) : ∃ n : Nat,(∀ ty,(Builtin.len_ #[T] ty #[.map (some b)]).run P W = .ok (.int .i64 (n : Int)) W) ∧ (n = 0 ↔ ∀ k,f k = none):=by
 obtain ⟨L,⟨es,c,h1,h2,h3,h4⟩,hn,hk⟩ := h;refine ⟨es.size,fun ty => by simp [Builtin.len_,run_underlying ht,MapKept.run_getObj_map h1,goInt,Result.andThen], ?_⟩
 have hl : es.size = L.length:=by have:=congrArg List.length h2; simpa using this
 rw [hl,List.length_eq_zero_iff];constructor
 ·rintro rfl k; rw [← hk]; rfl
 ·intro h
  cases L with
  | nil => rfl
  | cons p L =>
   have:=hk p.1;rw [h] at this;simp [lookM] at this
set_option maxRecDepth 100000 in
set_option maxHeartbeats 4000000 in
theorem can_any {S F0 : Nat → Prop} {gb hb kb : Nat} (l : Lg) (hv : Valid l) (list : List Rp) (lv : Value) (s : Nat) (hs : s < 1024) (hlen : list.length ≤ 10) (w : World) (hl : SlN 3 S w lv (list.map rpRow)) (hS : ¬ S kb) (h0 : GameAt l F0 w gb hb kb) (hF0 : ∀ q,F0 q → q < w.heap.size) :
  Calls Tryz.prog 31 #[.agg #[.pointer (some ⟨gb,0,none⟩),lv],.int .u64 (s : Int)] w fun e w' => e = .returned (.bool (canL l list fun i => s.testBit i)) ∧ GameAt l F0 w' gb hb kb ∧ Chg (fun q => q = kb) w w':=by
 obtain ⟨a,cap,rfl,h2,h3⟩ := hl.form;simp only [List.length_map] at *;unfold maxLen at h3;obtain ⟨n,hn⟩ : ∃ n,list.length = n:=⟨_,rfl⟩;obtain ⟨N,hN⟩ : ∃ N,w.heap.size = N:=⟨_,rfl⟩;rw [hn] at h2 hl ⊢;obtain ⟨w1,hw1⟩ : ∃ y,w.alloc (.cells #[.pointer (some ⟨gb,0,none⟩),.slice a n cap] 93) = y:=⟨_,rfl⟩;have hb1 : Below w.heap.size w w1:=by rw [← hw1]; exact aB _ _
 have k1 : w1.heap[N]? = some (.cells #[.pointer (some ⟨gb,0,none⟩),.slice a n cap] 93 (0,0)):=by rw [← hw1,← hN]; exact World.alloc_heap_new _ _
 have hs1 : w1.heap.size = N + 1:=by rw [← hw1]; simp; omega
 have c0 : w1.cell? ⟨N,0,none⟩ = some (.pointer (some ⟨gb,0,none⟩)):=by rw [cell_of_heap k1]; rfl
 obtain ⟨x1,x2,x3,x4, -⟩ := (h0.below hb1).cells;have hpl:=hv.players;have HG1:=Lib.hid (h0.below hb1);have HC1 : Hid (Chg (fun q => q = kb) w w1):=Lib.hid (Chg.below hb1)
 have HK1:=Lib.hid k1;have HL:=Lib.hid hl;have HS:=Lib.hid hS;have HF0:=Lib.hid hF0;have HV:=Lib.hid hv;have HW:=Lib.hid hw1;have HN:=Lib.hid hn;have hkN : kb < N:=by rw [← hN]; exact h0.lt.2.2
 clear hb1 hw1 k1 hF0 hS hn hv hl x1 x2 x3;obtain ⟨P,hP⟩ : ∃ P : Nat,l.players = P:=⟨l.players.toNat,by omega⟩
 have HP:=Lib.hid hP;rw [hP] at x4 hpl;obtain ⟨res,hres⟩ : ∃ r,canL l list (fun i => s.testBit i) = r:=⟨_,rfl⟩
 rw [hres];have HRES:=Lib.hid hres;clear hres hP
 go_enter Tryz.func31,Tryz.ntmps31
 go_upto_region 1 with fail
 rw [HW.out];go_wp2;clear c0 x4;go_loopw [14] (fun pv wr => ∃ p : Nat,p ≤ P ∧ pv = .int .i64 p ∧ Hid (GameAt l F0 wr gb hb kb) ∧ Hid (Chg (fun q => q = kb) w wr) ∧ Hid (∀ p' < p,(playerL l (saidL list fun i => s.testBit i) (p' : Int)).isSome = true) ∧ Hid (wr.heap[N]? = some (.cells #[.pointer (some ⟨gb,0,none⟩),.slice a n cap] 93 (0,0)))) (fun pv _ => P - (intOf pv).toNat)
 case atStart => exact ⟨0,by omega,by go_num,HG1,HC1,Lib.hid (fun p' h => by omega),HK1⟩
 case round =>
  clear HG1 HC1 HK1 hs1;obtain ⟨p,hp,rfl,HG,HC,HA,HK⟩ := hrel;obtain ⟨wo,rfl⟩ : ∃ wo : World,wo = wr:=⟨_,rfl⟩;have b0 : wo.cell? ⟨N,0,none⟩ = some (.pointer (some ⟨gb,0,none⟩)):=by rw [cell_of_heap HK.out]; rfl
  have b1 : wo.cell? ⟨N,1,none⟩ = some (.slice a n cap):=by rw [cell_of_heap HK.out]; rfl
  by_cases hlt : p < P
  ·go_wp2_with fail
   refine (follow_any (S:=S) (F0:=F0) (fn:=61) (pre:=#[.int .u64 (s : Int)]) l HV.out list (.slice a n cap) (p : Int) ⟨by omega,by rw [HP.out]; omega⟩ (has_which s list.length hs hlen) (by omega) wo (HL.out.chg HC.out fun q hq e => HS.out (by rw [← e]; exact hq)) HS.out HG.out (fun q hq => Nat.lt_of_lt_of_le (HF0.out q hq) HC.out.size)).mono ?_
   rintro e w2 ⟨t,tv,sv,nb,ts,ms,sts,now,F,rfl,hO,hge⟩;obtain ⟨ta,tc,rfl⟩ := owns_form hO.row1;obtain ⟨sa,sc,rfl⟩ := owns_form hO.row2;obtain ⟨-,hfl⟩ := hO.along.done hge;have hG2:=hO.game.less (F':=F0) hO.sub HG.out.fg HG.out.fh HG.out.fk;have hC2:=HC.out.trans hO.chg;have hK2:=(hO.chg.block N (Array.getElem?_eq_some_iff.1 HK.out).1 (by omega)).trans HK.out
   obtain ⟨w3,hw3⟩ : ∃ x,w2.alloc (.cells #[.slice ta ts.length tc,.slice sa ms.length sc] 96) = x:=⟨_,rfl⟩;have hb3 : Below w2.heap.size w2 w3:=by rw [← hw3]; exact aB _ _
   obtain ⟨m,hm,hm0⟩ := holds_len (hO.nowm.below hb3) (P:=Tryz.prog) (T:=98) (K:=106) (E:=4) (by rfl)
   have hnow : m = 0 ↔ now = []:=by
    rw [hm0];constructor
    ·intro h
     cases now with
     | nil => rfl
     | cons y now => have:=h y; simp at this
    ·rintro rfl k; simp
   have hpl2 : (playerL l (saidL list fun i => s.testBit i) (p : Int)).isSome = true ↔ ¬ m = 0:=by
    unfold playerL;rw [hfl,hnow];by_cases c : now = [] <;> simp [c]
   have HG3:=Lib.hid (hG2.below hb3);have HC3:=Lib.hid (hC2.thenB hb3);have HK3:=Lib.hid ((hb3.block N (Array.getElem?_eq_some_iff.1 hK2).1).trans hK2)
   have HPL:=Lib.hid hpl2;have HW3:=Lib.hid hw3;have hlm:=hm 3;obtain ⟨z,hz⟩ : ∃ z,decide (m = 0) = z:=⟨_,rfl⟩;have hz1 : ((m : Int) == 0) = z:=by rw [← hz]; by_cases c : m = 0 <;> simp [c]
   have hz2 : decide ((m : Int) = 0) = z:=by rw [← hz]; by_cases c : m = 0 <;> simp [c]
   have HZ:=Lib.hid hz;clear hO hge hfl hG2 hC2 hK2 hb3 hm hm0 hnow hpl2 hw3 hz b0 b1 HG HC HK;go_upto_region 5 with fail;rw [HW3.out];cases z
   ·have HA2 : Hid (∀ p' < p + 1,(playerL l (saidL list fun i => s.testBit i) (p' : Int)).isSome = true):=Lib.hid fun p' h => by
     by_cases c : p' < p
     ·exact HA.out p' c
     ·rw [show p' = p by omega]; exact HPL.out.2 (of_decide_eq_false HZ.out)
    have hwp : IntKind.i64.wrap ((p : Int) + 1) = (p : Int) + 1:=wrap_small _ (by omega) (by omega)
    go_wp2;go_roundw
    case rel => exact ⟨p + 1,by omega,by go_num,HG3,HC3,HA2,HK3⟩
    case measure => simp [intOf]; omega
   ·have hr : res = false:=by
     rw [← HRES.out];unfold canL;rw [List.all_eq_false];refine ⟨p,by rw [List.mem_range,HP.out]; omega, ?_⟩
     rw [HPL.out]
     simpa using HZ.out
    subst hr;go_wp2;go_returns;exact ⟨rfl,HG3.out,HC3.out⟩
  ·have hr : res = true:=by
    rw [← HRES.out];unfold canL;rw [List.all_eq_true];intro p' hp';rw [List.mem_range,HP.out] at hp';exact HA.out p' (by omega)
   subst hr;go_wp2;go_returns;exact ⟨rfl,HG.out,HC.out⟩
open Go Go.RowKit Go.Oche Go.Proofs

def badR (T : Int) (r : Rp) : Bool := !isIn r.turn 0 (T - 1) || (!isIn r.score (-1) 240 || !isIn r.left (-1) 1001)
set_option maxRecDepth 100000 in
set_option maxHeartbeats 4000000 in
theorem bad1_any (T : Int) (r : Rp) (pl : Nat) (m : Bool) (hm : Hid (badR T r = m)) (hT : 0 ≤ T ∧ T ≤ 60) (w : World) (t0 : w.cell? ⟨pl,5,none⟩ = some (.int .i64 T)) :
  Calls Tryz.prog 47 #[rpV r,.pointer (some ⟨pl,0,none⟩)] w fun e w' => e = .returned (.bool m) ∧ Below w.heap.size w w':=by
 obtain ⟨rt,rs,rl⟩ := r;unfold rpV;simp only;obtain ⟨w1,hw1⟩ : ∃ y,w.alloc (.cells #[.int .i64 rt,.int .i64 rs,.int .i64 rl] 58) = y:=⟨_,rfl⟩;have hb1 : Below w.heap.size w w1:=by rw [← hw1]; exact aB _ _
 have k : w1.heap[w.heap.size]? = some (.cells #[.int .i64 rt,.int .i64 rs,.int .i64 rl] 58 (0,0)):=by rw [← hw1]; exact World.alloc_heap_new _ _
 have c0 : w1.cell? ⟨w.heap.size,0,none⟩ = some (.int .i64 rt):=by rw [cell_of_heap k]; rfl
 have c1 : w1.cell? ⟨w.heap.size,1,none⟩ = some (.int .i64 rs):=by rw [cell_of_heap k]; rfl
 have c2 : w1.cell? ⟨w.heap.size,2,none⟩ = some (.int .i64 rl):=by rw [cell_of_heap k]; rfl
 have t0':=bAt hb1 t0;have HW:=Lib.hid hw1;have HB:=Lib.hid hb1;have hws : IntKind.i64.wrap (T - 1) = T - 1:=wrap_small _ (by omega) (by omega)
 obtain ⟨b1,hb1'⟩ : ∃ b,isIn rt 0 (T - 1) = b:=⟨_,rfl⟩;obtain ⟨b2,hb2'⟩ : ∃ b,isIn rs (-1) 240 = b:=⟨_,rfl⟩;obtain ⟨b3,hb3'⟩ : ∃ b,isIn rl (-1) 1001 = b:=⟨_,rfl⟩;have HM : Hid (m = (!b1 || (!b2 || !b3))):=Lib.hid (by rw [← hm.out,← hb1',← hb2',← hb3']; rfl)
 have H1:=Lib.hid hb1';have H2:=Lib.hid hb2';have H3:=Lib.hid hb3';clear hw1 hb1 k t0 hm hb1' hb2' hb3'
 go_enter Tryz.func47,Tryz.ntmps47
 go_upto_region 1 with fail
 rw [HW.out];go_wp2_with fail;refine (within_r 0 (T - 1) rt b1 H1 _ _ (Sl.new1 (fun _ => True) w1 trivial 3 (.int .i64 rt))).mono ?_
 rintro e w2 ⟨rfl,hb2⟩;have hb2':=bThen (aB w1 _) hb2;have c1:=bAt hb2' c1;have c2:=bAt hb2' c2;have HB2:=Lib.hid (bThen HB.out hb2');clear hb2 hb2' c0 t0' hws;cases b1
 ·have hm : m = true:=by rw [HM.out]; rfl
  clear HM;subst hm;go_wp2;go_returns;exact ⟨rfl,HB2.out⟩
 ·go_wp2_with fail
  refine (within_r (-1) 240 rs b2 H2 _ _ (Sl.new1 (fun _ => True) w2 trivial 3 (.int .i64 rs))).mono ?_
  rintro e w3 ⟨rfl,hb3⟩;have hb3':=bThen (aB w2 _) hb3;have c2:=bAt hb3' c2;have HB3:=Lib.hid (bThen HB2.out hb3');clear hb3 hb3' c1;cases b2
  ·have hm : m = true:=by rw [HM.out]; rfl
   clear HM;subst hm;go_wp2;go_returns;exact ⟨rfl,HB3.out⟩
  ·go_wp2_with fail
   refine (within_r (-1) 1001 rl b3 H3 _ _ (Sl.new1 (fun _ => True) w3 trivial 3 (.int .i64 rl))).mono ?_
   rintro e w4 ⟨rfl,hb4⟩;have HB4:=Lib.hid (bThen HB3.out (bThen (aB w3 _) hb4));have hm : m = !b3:=by rw [HM.out]; rfl
   clear HM hb4 c2;subst hm;go_wp2;go_returns;exact ⟨rfl,HB4.out⟩
def idxBadR (T : Int) (l : List Rp) : Int:=if l.any (badR T) then (l.findIdx (badR T) : Nat) else -1
theorem idxBadR_hit {T : Int} {xs : List Rp} {k : Nat} (hk : k < xs.length) (hp : ∀ j,j < k → ∀ h : j < xs.length,badR T xs[j] = false) (h : badR T xs[k] = true) : idxBadR T xs = k:=by
 have h1 : xs.any (badR T) = true:=List.any_eq_true.2 ⟨xs[k],List.getElem_mem hk,h⟩;have h2 : xs.findIdx (badR T) = k:=by
  refine (List.findIdx_eq hk).2 ⟨h,fun j hj => ?_⟩
  simpa using hp j hj (by omega)
 simp [idxBadR,h1,h2]
theorem idxBadR_miss {T : Int} {xs : List Rp} (hp : ∀ j,j < xs.length → ∀ h : j < xs.length,badR T xs[j] = false) : idxBadR T xs = -1:=by
 have h1 : xs.any (badR T) = false:=by
  rw [List.any_eq_false];intro y hy;obtain ⟨j,hj,rfl⟩ := List.mem_iff_getElem.1 hy;simp [hp j hj hj]
 simp [idxBadR,h1]
set_option maxRecDepth 100000 in
set_option maxHeartbeats 4000000 in
theorem indexBadR_any {S : Nat → Prop} (T : Int) (l : List Rp) (v : Value) (pl : Nat) (hT : 0 ≤ T ∧ T ≤ 60) (w : World) (hl : SlN 3 S w v (l.map rpRow)) (t0 : w.cell? ⟨pl,5,none⟩ = some (.int .i64 T)) :
  Calls Tryz.prog 89 #[v,.func (.func 47) #[] #[.pointer (some ⟨pl,0,none⟩)]] w fun e w' => e = .returned (.int .i64 (idxBadR T l)) ∧ Below w.heap.size w w':=by
 obtain ⟨a,cap,rfl,h2,h3⟩ := hl.form;simp only [List.length_map] at *;unfold maxLen at h3;have HS:=Lib.hid hl;clear hl
 go_enter Tryz.func89,Tryz.ntmps89
 go_wp2;go_loopw [8] (fun i wr => ∃ k : Nat,k ≤ l.length ∧ i = .int .i64 k ∧ Hid (∀ j,j < k → ∀ h : j < l.length,badR T l[j] = false) ∧ Hid (Below w.heap.size w wr)) (fun i _ => l.length - (intOf i).toNat)
 case atStart => exact ⟨0,Nat.zero_le _,rfl,Lib.hid (fun j hj => by omega),Lib.hid (Below.refl _ _)⟩
 case round =>
  obtain ⟨k,hk,rfl,HP,HB⟩ := hrel;by_cases hlt : k < l.length
  ·obtain ⟨b,off,hal,_,_,hc⟩ := HS.out.cell (show k < (l.map rpRow).length by simpa using hlt)
   cases hal;obtain ⟨⟨rt,rs,rl⟩,hx'⟩ : ∃ y,l[k] = y:=⟨_,rfl⟩;have z0:=bAt HB.out (hc 0 (.int .i64 rt) (by simp [rpRow,hx']))
   have z1:=bAt HB.out (hc 1 (.int .i64 rs) (by simp [rpRow,hx']))
   have z2:=bAt HB.out (hc 2 (.int .i64 rl) (by simp [rpRow,hx']))
   simp only [Nat.add_zero] at z0;have t0':=bAt HB.out t0;obtain ⟨o,ho⟩ : ∃ o,badR T ⟨rt,rs,rl⟩ = o:=⟨_,rfl⟩;have HO:=Lib.hid ho;have HX:=Lib.hid hx';obtain ⟨w2,hw2⟩ : ∃ y,wr.alloc (.cells #[.int .i64 rt,.int .i64 rs,.int .i64 rl] 58) = y:=⟨_,rfl⟩;clear ho hx' hc hw2;go_wp2_with fail
   first
   | refine (bad1_any T ⟨rt,rs,rl⟩ pl o HO hT _ (bAt (aB _ _) t0')).mono ?_
   | refine (bad1_any T ⟨rt,rs,rl⟩ pl o HO hT _ t0').mono ?_
   rintro e w3 ⟨rfl,hb3⟩;have HB3 : Hid (Below w.heap.size w w3):=Lib.hid (by first | exact bThen HB.out (bThen (aB _ _) hb3) | exact bThen HB.out hb3)
   clear hb3 z0 z1 z2 t0';cases o
   ·go_wp2
    go_roundw
    case rel => exact ⟨k + 1,by omega,by go_num,Lib.hid (fun j hj h => by
     by_cases hjk : j = k
     ·subst hjk; rw [HX.out]; exact HO.out
     ·exact HP.out j (by omega) h),HB3⟩
    case measure => simp [intOf]; omega
   ·go_wp2
    go_ret
    exact ⟨ret_int (idxBadR_hit hlt HP.out (by rw [HX.out]; exact HO.out)).symm,HB3.out⟩
  ·obtain rfl : k = l.length:=by omega
   go_wp2
   go_ret
   exact ⟨ret_int (idxBadR_miss fun j hj h => HP.out j hj h).symm,HB.out⟩
theorem containsBadR_any {S : Nat → Prop} (T : Int) (l : List Rp) (v : Value) (pl : Nat) (hT : 0 ≤ T ∧ T ≤ 60) (w : World) (hl : SlN 3 S w v (l.map rpRow)) (t0 : w.cell? ⟨pl,5,none⟩ = some (.int .i64 T)) :
  Calls Tryz.prog 46 #[v,.func (.func 47) #[] #[.pointer (some ⟨pl,0,none⟩)]] w fun e w' => e = .returned (.bool (l.any (badR T))) ∧ Below w.heap.size w w':=by
 go_enter Tryz.func46,Tryz.ntmps46
 go_wp2_with fail;refine (indexBadR_any T l v pl hT w hl t0).mono ?_
 rintro e w2 ⟨rfl,hb2⟩;go_wp2
 go_ret
 refine ⟨ret_bool ?_,hb2⟩
 unfold idxBadR;cases l.any (badR T) <;> simp <;> omega
open Go Go.RowKit Go.Oche Go.Proofs

def checkR (l : Lg) (list : List Rp) (most : Int) : Int:=if checkL l ≠ 0 then checkL l else if decide (most < (list.length : Int)) = true then 5 else if list.any (badR l.turns) = true then 2 else 0
set_option maxRecDepth 100000 in
set_option maxHeartbeats 4000000 in
theorem checkR_any {S S' : Nat → Prop} (l : Lg) (bv lv : Value) (list : List Rp) (most : Int) (w : World) (hs : Sl S w bv (ints l.beds)) (hbd : BedsIn l) (hl : SlN 3 S' w lv (list.map rpRow)) :
  Calls Tryz.prog 23 #[legV l bv,lv,.int .i64 most] w fun e w' => e = .returned (.int .i64 (checkR l list most)) ∧ Below w.heap.size w w':=by
 obtain ⟨a,cap,rfl,h2,h3⟩ := hs.form;obtain ⟨a',cap',rfl,h2',h3'⟩ := hl.form;simp only [ints_length,List.length_map] at *;unfold maxLen at h3 h3';obtain ⟨n,hn⟩ : ∃ n,list.length = n:=⟨_,rfl⟩;rw [hn] at h2' hl ⊢;obtain ⟨w1,hw1⟩ : ∃ x,w.alloc (.cells #[.int .i64 l.start,.int .i64 l.gin,.int .i64 l.gout,.slice a l.beds.length cap,.int .i64 l.players,.int .i64 l.turns,.bool l.won] 53) = x:=⟨_,rfl⟩;have hb1 : Below w.heap.size w w1:=by rw [← hw1]; exact aB _ _
 have k : w1.heap[w.heap.size]? = some (.cells #[.int .i64 l.start,.int .i64 l.gin,.int .i64 l.gout,.slice a l.beds.length cap,.int .i64 l.players,.int .i64 l.turns,.bool l.won] 53 (0,0)):=by rw [← hw1]; exact World.alloc_heap_new _ _
 have c0 : w1.cell? ⟨w.heap.size,0,none⟩ = some (.int .i64 l.start):=by rw [cell_of_heap k]; rfl
 have c1 : w1.cell? ⟨w.heap.size,1,none⟩ = some (.int .i64 l.gin):=by rw [cell_of_heap k]; rfl
 have c2 : w1.cell? ⟨w.heap.size,2,none⟩ = some (.int .i64 l.gout):=by rw [cell_of_heap k]; rfl
 have c3 : w1.cell? ⟨w.heap.size,3,none⟩ = some (.slice a l.beds.length cap):=by rw [cell_of_heap k]; rfl
 have c4 : w1.cell? ⟨w.heap.size,4,none⟩ = some (.int .i64 l.players):=by rw [cell_of_heap k]; rfl
 have c5 : w1.cell? ⟨w.heap.size,5,none⟩ = some (.int .i64 l.turns):=by rw [cell_of_heap k]; rfl
 have c6 : w1.cell? ⟨w.heap.size,6,none⟩ = some (.bool l.won):=by rw [cell_of_heap k]; rfl
 obtain ⟨ec,hec⟩ : ∃ e,checkL l = e:=⟨_,rfl⟩;obtain ⟨bl,hbl⟩ : ∃ b,decide (most < (n : Int)) = b:=⟨_,rfl⟩;obtain ⟨ba,hba⟩ : ∃ b,list.any (badR l.turns) = b:=⟨_,rfl⟩;obtain ⟨r,hr⟩ : ∃ r,checkR l list most = r:=⟨_,rfl⟩;have HR : Hid (r = if ec ≠ 0 then ec else if bl = true then 5 else if ba = true then 2 else 0):=Lib.hid (by rw [← hr,← hec,← hbl,← hba,← hn]; rfl)
 rw [hr];have HEC:=Lib.hid hec;have HBA:=Lib.hid hba;have HW:=Lib.hid hw1;have HB:=Lib.hid hb1;have HS:=Lib.hid (hs.below hb1);have HL:=Lib.hid (hl.below hb1);have HBD:=Lib.hid hbd;have HK:=Lib.hid k;clear hw1 hb1 k hs hl hbd hec hba hr;unfold legV legA
 go_enter Tryz.func23,Tryz.ntmps23
 go_upto_region 1 with fail
 rw [HW.out];go_wp2_with fail;have hca:=check_any l _ w1 HS.out HBD.out;unfold legV legA at hca;rw [HEC.out] at hca;refine hca.mono ?_
 rintro e w2 ⟨rfl,hb2⟩;have HB2:=Lib.hid (bThen HB.out hb2);have HL2:=Lib.hid (HL.out.below hb2);have t0:=bAt hb2 c5;have T0:=Lib.hid t0;clear hb2 c0 c1 c2 c3 c4 c5 c6 hca t0;obtain ⟨z,hz⟩ : ∃ z,(ec != 0) = z:=⟨_,rfl⟩;have HZ:=Lib.hid hz;cases z
 ·have he : ec = 0:=by simpa using HZ.out
  have hv:=valid_of (HEC.out.trans he);have htu:=hv.turns;have hr : r = if bl = true then 5 else if ba = true then 2 else 0:=by rw [HR.out,if_neg (by simp [he])]
  have HR2:=Lib.hid hr;clear HR hr he hv;cases bl
  ·have hr : r = if ba = true then 2 else 0:=by rw [HR2.out]; rfl
   have HR3:=Lib.hid hr;clear HR2 hr;go_wp2_with fail;have hcb:=containsBadR_any l.turns list _ w.heap.size htu w2 HL2.out T0.out;rw [HBA.out] at hcb;refine hcb.mono ?_
   rintro e w3 ⟨rfl,hb3⟩;have HB3:=Lib.hid (bThen HB2.out hb3);clear hb3 hcb;cases ba
   ·have hr : r = 0:=by rw [HR3.out]; rfl
    clear HR3;subst hr;go_wp2;go_returns;exact ⟨rfl,HB3.out⟩
   ·have hr : r = 2:=by rw [HR3.out]; rfl
    clear HR3;subst hr;go_wp2;go_returns;exact ⟨rfl,HB3.out⟩
  ·have hr : r = 5:=by rw [HR2.out]; rfl
   clear HR2;subst hr;go_wp2;go_returns;exact ⟨rfl,HB2.out⟩
 ·have he : ec ≠ 0:=by simpa using HZ.out
  have hr : r = ec:=by rw [HR.out,if_pos he]
  clear HR he;subst hr;go_wp2;go_returns;exact ⟨rfl,HB2.out⟩
end Go.Proofs.YtnbmgkmcaoafnaaGreatDoor
