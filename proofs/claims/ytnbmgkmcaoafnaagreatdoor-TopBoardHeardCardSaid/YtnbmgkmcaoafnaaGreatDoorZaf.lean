/- The texts O2Z, O2PW, O2AA, App1, O2AB, O2AC, Two, SlN, Own, in build order. -/
import Derived.Test.YtnbmgkmcaoafnaaGreatDoorZae
import Derived.Maps.AppendAt
import Derived.Laws.OwnMore

/- Chapter 2: all ways out. -/
namespace Go.Proofs.YtnbmgkmcaoafnaaGreatDoor.O2
open Go.RowKit Go.Oche Go.Oche.O2 Go.Proofs
attribute [local go_sem] Oper.semAt_some

theorem ways_at (N0 : Nat) (g : Int) (bs : List Int) (Cs : List (List Int)) (P : Nat) (hbs : ∀ b ∈ bs,bedOk b = true) : ∀ n,n ≤ Cs.length → n ≤ 11 → WaysAt N0 g bs Cs P n
 | 0,_,_ => ways_zero N0 g bs Cs P
 | n + 1,h,h2 => ways_succ N0 g bs Cs P n hbs (by omega) (by omega) (ways_at N0 g bs Cs P hbs n (by omega) (by omega))

def allTo (g : Int) (bs : List Int) (Cs : List (List Int)) (s : Int) (d : Nat) : List (List Int) :=
 (List.range d).flatMap fun k => if 0 < cellN Cs (k + 1) s then waysL g bs Cs (k + 1) s else []
theorem allTo_succ (g : Int) (bs : List Int) (Cs : List (List Int)) (s : Int) (d : Nat) : allTo g bs Cs s (d + 1) = allTo g bs Cs s d ++ if 0 < cellN Cs (d + 1) s then waysL g bs Cs (d + 1) s else []:=by
 simp [allTo,List.range_succ]
theorem allTo_le (g : Int) (bs : List Int) (Cs : List (List Int)) (s : Int) {k d : Nat} (h : k ≤ d) : ∃ r,allTo g bs Cs s d = allTo g bs Cs s k ++ r:=by
 induction d with
 | zero =>
  obtain rfl : k = 0:=by omega
  exact ⟨[],by simp⟩
 | succ d ih =>
  by_cases e : k = d + 1
  ·subst e; exact ⟨[],by simp⟩
  ·obtain ⟨r,hr⟩ := ih (by omega)
   exact ⟨r ++ _,by rw [allTo_succ,hr,List.append_assoc]⟩

set_option maxRecDepth 100000 in
set_option maxHeartbeats 1000000 in
theorem all_in {S : Nat → Prop} (g : Int) (bs : List Int) (Cs : List (List Int)) (P d s : Nat) (v : Value) (w : World) (hbs : ∀ b ∈ bs,bedOk b = true) (hd : d ≤ 9) (hC : Cs.length = d + 1) (hs : ∀ j (h : j < Cs.length),s < (Cs[j]).length) (hs1 : s ≤ 1001)
  (hv : ∃ a n c,v = .slice a n c) (hBd : Board S w P bs g Cs) (hS : ∀ k,S k → k < w.heap.size) :
  IterIn 47 Tryz.prog 64 #[.agg #[.pointer (some ⟨P,0,none⟩),v,.int .i64 g,.int .i64 d,.int .i64 s]] #[] (encB w.heap.size) (allTo g bs Cs s d) S w:=by
 intro l J Jx O W hBW hO hRs hJ hJx hY h0
 obtain ⟨va,vn,vcp,rfl⟩ := hv;have hBd1:=hBd.below hBW;obtain ⟨W0,hW0⟩ : ∃ W0,W.alloc (.cells #[.pointer (some ⟨P,0,none⟩),.slice va vn vcp,.int .i64 g,.int .i64 d,.int .i64 s] 162) = W0:=⟨_,rfl⟩;have hB0 : Below W.heap.size W W0:=by rw [← hW0]; exact aB _ _
 have hZ0 : W0.heap.size = W.heap.size + 1:=by rw [← hW0]; simp
 have hN : W0.heap[W.heap.size]? = some (.cells #[.pointer (some ⟨P,0,none⟩),.slice va vn vcp,.int .i64 g,.int .i64 d,.int .i64 s] 162 (0,0)):=by rw [← hW0]; exact World.alloc_heap_new _ _
 have c0 : W0.cell? ⟨W.heap.size,0,none⟩ = some (.pointer (some ⟨P,0,none⟩)):=by rw [cell_of_heap hN]; rfl
 have c3 : W0.cell? ⟨W.heap.size,3,none⟩ = some (.int .i64 d):=by rw [cell_of_heap hN]; rfl
 have c4 : W0.cell? ⟨W.heap.size,4,none⟩ = some (.int .i64 s):=by rw [cell_of_heap hN]; rfl
 have hr0 : Rel O W O W0:=Rel.of_below hB0 hO;have hO0 : ∀ k,O k → k < W0.heap.size:=fun k hk => by have:=hO k hk; omega
 have hj0:=Stab.ext hJ h0 hB0;have HBD:=Lib.hid (hBd1.below hB0);have HW0:=Lib.hid hW0;have HY:=Lib.hid hY;have HC:=Lib.hid hC;have HS:=Lib.hid hs;have HRS:=Lib.hid hRs;have HSS:=Lib.hid hS;have HBS:=Lib.hid hbs;have HJ0:=Lib.hid hj0;have hWB:=hBW.size;have c3':=c3;rw [← hW0] at c3';clear hN hW0 hBd hBd1 hY hC hs hRs hbs hj0 h0 hS;refine callsIn_of_wp Tryz.func64 rfl trivial ?_ rfl
 simp only [Tryz.ntmps64,List.size_toArray,List.length_cons,List.length_nil,Nat.reduceAdd,Nat.reduceSub,Array.replicate_succ,Array.replicate_zero,List.push_toArray,List.append_toArray,List.nil_append,List.cons_append]
 gi_wp2
 rw [HW0.out];clear c3'
 gi_loopw [8] (fun i wr => ∃ (k : Nat) (O₁ : Nat → Prop),k ≤ d ∧ i = .int .i64 k ∧ Rel O W0 O₁ wr ∧ J (allTo g bs Cs s k) O₁ wr) (fun i _ => d - (intOf i).toNat)
 case atStart => exact ⟨0,O,Nat.zero_le _,rfl,Rel.refl hO0,by simpa [allTo] using HJ0.out⟩
 case round =>
  obtain ⟨k,O₁,hk,rfl,hr,hj⟩ := hrel;have nN : ¬ O₁ W.heap.size:=fun h => by
   rcases hr.own _ h with h | h
   ·have:=hO _ h; omega
   ·omega
  have b0:=rAt hr c0 (fun h => by have:=hO _ h; omega)
  have b4:=rAt hr c4 (fun h => by have:=hO _ h; omega)
  have HJ1:=Lib.hid hj;clear hj;by_cases hlt : k < d
  ·have hOS : ∀ q,S q → ¬ O q:=fun q hq => (HRS.out q hq).2
   have HB1:=Lib.hid (HBD.out.rel hr hOS);obtain ⟨hPS,vb,vc,vs,d0,d1,d2,hslb,hslc,hvl,hrows⟩ := HB1.out;have hk1 : k + 1 < Cs.length:=by have:=HC.out; omega
   obtain ⟨vr,hvr,hslr⟩ := hrows (k + 1) hk1;obtain ⟨av,capv,rfl, -, -,h4v⟩ := hslc;obtain ⟨bv,offv,rfl,hSbv,xV⟩ := h4v (k + 1) vr hvr;obtain ⟨ar,capr,rfl, -, -,h4r⟩ := hslr;have hrow : s < (Cs[k + 1]).length:=HS.out _ hk1;obtain ⟨br,offr,rfl,hSbr,xr⟩ := h4r s _ (intsAt hrow);simp only [ints_length] at *;obtain ⟨c,hc⟩ : ∃ c,(Cs[k + 1])[s] = c:=⟨_,rfl⟩;rw [hc] at xr;have hcN : cellN Cs (k + 1) (s : Int) = c:=by
    unfold cellN;rw [List.getD_eq_getElem?_getD,List.getD_eq_getElem?_getD]; simp [hk1,hrow,hc]
   have HCN:=Lib.hid hcN;have HVL:=Lib.hid hvl;have hO3 : ∀ j,O₁ j → j < wr.heap.size:=hr.lt;have hw1 : IntKind.i64.wrap ((k : Int) + 1) = (k : Int) + 1:=wrap_small _ (by omega) (by omega)
   have h1n : ((k : Int) + 1).toNat = k + 1:=by omega
   have h0n : (0 : Int) ≤ (k : Int) + 1:=by omega
   have h2n : (k : Int) + 1 < (vs.length : Int):=by rw [HVL.out]; omega
   have h2q : (s : Int) < ((Cs[k + 1]).length : Int):=by omega
   clear hc hcN hslb hrows hvr hvl h4v h4r;by_cases hpos : 0 < c
   ·have hd : decide (0 < c) = true:=by simp [hpos]
    gi_wp2_with fail
    refine wpIn_region_seq 22 [.is ?_,.is ?_,.is ?_,.is ?_,.is ?_,.is ?_,.is ?_,.is ?_,.is ?_,.is ?_,.is ?_,.is ?_,.is ?_,.is ?_,.is ?_,.is ?_,.is ?_,.is ?_,.is ?_,.is ?_,.is ?_,.is ?_] rfl mix open_wide (by kernel_rfl) (by kernel_rfl) (by kernel_rfl) ?seqm
    case seqm =>
     simp only [List.take_succ_cons,List.take_zero]
     iterate 15
      refine seq_is rfl (fun w1 hb _ => ?_) ?_
      ·have z0:=bAt hb b0
       have z4:=bAt hb b4;have zP:=bAt hb d2;have zV:=bAt hb xV;have zr:=bAt hb xr;simp [opOK,go_sem,z0,z4,zP,zV,zr,hw1,h1n,h0n,h2n,h2q,hd,Below.refl]
       try exact rfl
      simp only [Act.put,List.setIfInBounds_toArray,List.set_cons_succ,List.set_cons_zero]
     iterate 7
      refine seq_on (by rfl) (fun w1 hb _ => ?_) ?_
      ·have z0:=bAt hb b0
       have z4:=bAt hb b4;simp [opOK,go_sem,z0,z4,hw1,Below.refl]
       try exact rfl
      simp only [Act.put,List.setIfInBounds_toArray,List.set_cons_succ,List.set_cons_zero]
     refine seq_end fun w5 hb hH => ?_
     clear hH;simp only [List.drop_succ_cons,List.drop_zero]
     gi_wp2_with fail
     have h35:=hb.size;have hr5 : Rel O W0 O₁ w5:=hr.ext hb;have hrW : Rel O W O₁ w5:=hr0.trans hr5;have hW5 : W.heap.size ≤ w5.heap.size:=hrW.size;have hO5 : ∀ k,O₁ k → k < w5.heap.size:=fun k hk => Nat.lt_of_lt_of_le (hr.lt k hk) h35
     have hSW : ∀ k,S k → k < W.heap.size:=fun k hk => Nat.lt_of_lt_of_le (HSS.out k hk) hWB
     have hOS1 : ∀ k,S k → ¬ O₁ k:=fun k hk hx => by
      rcases hr.own k hx with h | h
      ·exact hOS k hk h
      ·have:=hSW k hk; omega
     have hsplit : ∃ r,allTo g bs Cs s d = allTo g bs Cs s k ++ waysL g bs Cs (k + 1) s ++ r:=by
      obtain ⟨r,hr⟩ := allTo_le g bs Cs s (show k + 1 ≤ d by omega)
      exact ⟨r,by rw [hr,allTo_succ,if_pos (by rw [HCN.out]; exact hpos)]⟩
     obtain ⟨rest,hsplit⟩ := hsplit;have HSP:=Lib.hid hsplit;clear hsplit;have hCC:=HC.out;refine ⟨trivial,rfl,(ways_at w.heap.size g bs Cs P HBS.out (k + 1) (by omega) (by omega) S s [] _ l (fun p O W => J (allTo g bs Cs s k ++ p) O W) (fun p O W => Jx (allTo g bs Cs s k ++ p) O W) O₁ w5
      (HB1.out.below hb) (fun q hq => ⟨by have:=hSW q hq; omega,hOS1 q hq⟩) (fun j hj => HS.out j hj) hs1 (by simp; omega) (by omega) (.inl ⟨rfl,rfl⟩) hO5 (Stab.base hJ hW5 _) (Stab.base hJx hW5 _) ?_ (by simpa using Stab.ext hJ HJ1.out hb)).mono ?_⟩
     ·intro p b r args Oa Wa heq hra hja henc
      have:=HY.out (allTo g bs Cs s k ++ p) b (r ++ rest) args Oa Wa (by rw [HSP.out]; simp only [List.nil_append,List.map_id'] at heq; rw [heq]; simp) (hrW.trans hra) hja henc
      simpa [List.append_assoc] using this
     rintro e W6 ⟨Oi,hr6,(⟨rfl,hj6⟩ | ⟨rfl,p,hp,hj6⟩)⟩
     ·have HJ6:=Lib.hid hj6
      clear hj6
      gi_wp2
      go_roundw
      case rel => exact ⟨k + 1,Oi,by omega,by go_num,hr5.trans hr6,by rw [allTo_succ,if_pos (by rw [HCN.out]; exact hpos)]; simpa using HJ6.out⟩
      case measure => simp [intOf]; omega
     ·have HJ6:=Lib.hid hj6
      have HP:=Lib.hid hp;clear hj6 hp
      gi_wp2
      refine bodyPost_ret (results_none rfl _ _ _) rfl ?_
      refine ⟨⟨_,rfl⟩,Oi,hrW.trans hr6,.inr ⟨_, ?_,HJ6.out⟩⟩
      rw [HSP.out,List.append_assoc];exact (List.prefix_append_right_inj _).2 ((by simpa using HP.out : p <+: waysL g bs Cs (k + 1) s).trans (List.prefix_append _ _))
   ·have hd : decide (0 < c) = false:=by simp [hpos]
    gi_wp2_with fail
    refine wpIn_region_seq 25 [.is ?_,.is ?_,.is ?_,.is ?_,.is ?_,.is ?_,.is ?_,.is ?_,.is ?_,.is ?_,.is ?_,.is ?_,.is ?_,.is ?_,.is ?_,.is undef,.is undef,.is undef,.is undef,.is undef,.is undef,.is undef,.is undef,.is undef,.is ?_] rfl mix open_wide (by kernel_rfl) (by kernel_rfl) (by kernel_rfl) ?seqm
    case seqm =>
     simp only [List.take_succ_cons,List.take_zero]
     iterate 15
      refine seq_is rfl (fun w1 hb _ => ?_) ?_
      ·have z0:=bAt hb b0
       have z4:=bAt hb b4;have zP:=bAt hb d2;have zV:=bAt hb xV;have zr:=bAt hb xr;simp [opOK,go_sem,z0,z4,zP,zV,zr,hw1,h1n,h0n,h2n,h2q,hd,Below.refl]
       try exact rfl
      simp only [Act.put,List.setIfInBounds_toArray,List.set_cons_succ,List.set_cons_zero]
     iterate 9
      refine seq_off (by rfl) ?_
      simp only [Act.put,List.setIfInBounds_toArray,List.set_cons_succ,List.set_cons_zero]
     refine seq_is rfl (fun w1 hb _ => ?_) ?_
     ·simp [opOK,go_sem,Below.refl]
      try exact rfl
     simp only [Act.put,List.setIfInBounds_toArray,List.set_cons_succ,List.set_cons_zero];refine seq_end fun w5 hb hH => ?_
     clear hH;simp only [List.drop_succ_cons,List.drop_zero]
     gi_wp2
     go_roundw
     case rel => exact ⟨k + 1,O₁,by omega,by go_num,hr.ext hb,by rw [allTo_succ,if_neg (by rw [HCN.out]; omega)]; simpa using Stab.ext hJ HJ1.out hb⟩
     case measure => simp [intOf]; omega
  ·obtain rfl : k = d:=by omega
   gi_wp2
   go_end0
   exact ⟨⟨_,rfl⟩,O₁,hr0.trans hr,.inl (by simpa using HJ1.out)⟩
open Go.RowKit Go.Oche Go.Oche.O2 Go.Proofs

def outL (g : Int) (bs : List Int) : Nat → Int → List (List Int)
 | 0,s => if s = 0 then [[]] else []
 | n + 1,s => (throwsL g s bs).flatMap fun t => (outL g bs n t.2).map (t.1 :: ·)
def outAll (g : Int) (bs : List Int) (s : Int) (d : Nat) : List (List Int):=(List.range d).flatMap fun k => outL g bs (k + 1) s

theorem cellN_cnts {g : Int} {bs : List Int} {d m n : Nat} (h : n ≤ d) (l : Int) : cellN (cnts g bs d m) n l = (cntRow g bs m n).getD l.toNat 0:=by
 unfold cellN cnts;rw [List.getD_eq_getElem?_getD (l:=List.map _ _)]
 simp [show n < d + 1 by omega]
theorem psum_eq (C : List Int) (f : Int × Int → Nat) : ∀ l : List (Int × Int),(∀ t ∈ l,(f t : Int) = C.getD t.2.toNat 0) → ((l.map f).sum : Int) = psum C l
 | [],_ => by simp [psum]
 | t :: l,h => by
  have h1:=h t (by simp)
  have h2:=psum_eq C f l (fun t ht => h t (by simp [ht]))
  have e : psum C (t :: l) = C.getD t.2.toNat 0 + psum C l:=by simp [psum]
  rw [e,List.map_cons,List.sum_cons,← h1,← h2]; push_cast; rfl

theorem outL_length {g : Int} {bs : List Int} (hbs : ∀ b ∈ bs,bedOk b = true) {m : Nat} : ∀ (n : Nat) (s : Nat),s ≤ m → ((outL g bs n s).length : Int) = (cntRow g bs m n).getD s 0
 | 0,s,_ => by
  rw [cntRow_zero,outL];by_cases h : s = 0
  ·subst h; simp
  ·rw [if_neg (by omega),if_neg h]; rfl
 | n + 1,s,hs => by
  rw [cntRow_succ _ _ _ _ _ (by omega),rowSum,outL,List.length_flatMap]
  refine psum_eq _ _ _ fun t ht => ?_
  obtain ⟨x,y⟩ := t;obtain ⟨h1,h2,h3,h4⟩ := throwsL_mem ht;have h5:=aftOk_bd h2;have h6:=worth_bd (hbs x h1);obtain ⟨q,rfl⟩ : ∃ q : Nat,y = q:=⟨y.toNat,by omega⟩
  rw [List.length_map]
  simpa using outL_length hbs n q (by omega)

theorem waysL_out {g : Int} {bs : List Int} (hbs : ∀ b ∈ bs,bedOk b = true) {m d : Nat} : ∀ (n : Nat) (s : Nat),n ≤ d → s ≤ m → (if 0 < cellN (cnts g bs d m) n s then waysL g bs (cnts g bs d m) n s else []) = outL g bs n s:=by
 intro n
 induction n with
 | zero =>
  intro s hn hs
  rw [cellN_cnts hn,Int.toNat_natCast,cntRow_zero,outL,waysL];by_cases h : s = 0
  ·subst h; simp
  ·simp [h]
 | succ n ih =>
  intro s hn hs
  have e : waysL g bs (cnts g bs d m) (n + 1) s = outL g bs (n + 1) s:=by
   have h0 : ∀ t ∈ throwsL g s bs,(if 0 < cellN (cnts g bs d m) n t.2 then (waysL g bs (cnts g bs d m) n t.2).map (t.1 :: ·) else []) = (outL g bs n t.2).map (t.1 :: ·):=by
    rintro ⟨x,y⟩ ht;obtain ⟨h1,h2,h3,h4⟩ := throwsL_mem ht;have h5:=aftOk_bd h2;have h6:=worth_bd (hbs x h1);obtain ⟨q,rfl⟩ : ∃ q : Nat,y = q:=⟨y.toNat,by omega⟩
    rw [← ih q (by omega) (by omega)]
    split <;> simp
   rw [waysL,outL,List.flatMap_def,List.flatMap_def,List.map_congr_left h0]
  rw [e];split
  ·rfl
  ·rename_i h
   have h1:=outL_length hbs (n + 1) s hs (g:=g);rw [cellN_cnts hn,Int.toNat_natCast] at h;have : (outL g bs (n + 1) s).length = 0:=by omega
   exact (List.eq_nil_of_length_eq_zero this).symm

theorem allTo_out {g : Int} {bs : List Int} (hbs : ∀ b ∈ bs,bedOk b = true) {m d : Nat} (s : Nat) (hs : s ≤ m) : allTo g bs (cnts g bs d m) s d = outAll g bs s d:=by
 rw [allTo,outAll,List.flatMap_def,List.flatMap_def,List.map_congr_left];intro k hk;have:=List.mem_range.1 hk;exact waysL_out hbs (k + 1) s (by omega) hs
theorem outAll_succ (g : Int) (bs : List Int) (s : Int) (d : Nat) : outAll g bs s (d + 1) = outAll g bs s d ++ outL g bs (d + 1) s:=by
 simp [outAll,List.range_succ]
theorem outAll_length {g : Int} {bs : List Int} (hbs : ∀ b ∈ bs,bedOk b = true) {m D : Nat} (s : Nat) (hs : s ≤ m) : ∀ d,d ≤ D → ((outAll g bs s d).length : Int) = colSum (cnts g bs D m) s d
 | 0,_ => by simp [outAll,colSum]
 | d + 1,h => by
  rw [colSum_succ (by simp; omega),← outAll_length hbs s hs d (by omega),outAll_succ,List.length_append]
  push_cast
  rw [outL_length hbs (d + 1) s hs (m:=m)];simp [cnts]
open Go.RowKit Go.Oche Go.Oche.O2 Go.Proofs
attribute [local go_sem] Oper.semAt_some

theorem info22 : (Tryz.prog.info? 36).map (fun i => (i.zero,i.size,i.bytes)) = some (some (.slice none 0 0),1,24):=by kernel_rfl
def Rows2 (S : Nat → Prop) (W : World) (v : Value) (xss : List (List Int)) : Prop := ∃ vs,Sl S W v vs ∧ vs.length = xss.length ∧ ∀ i (h : i < xss.length), ∃ u,vs[i]? = some u ∧ Sl S W u (ints xss[i])
theorem Rows2.cells {S : Nat → Prop} {W W' : World} {v : Value} {xss : List (List Int)} (h : Rows2 S W v xss) (hc : ∀ b o,S b → (W.cell? ⟨b,o,none⟩).isSome → W'.cell? ⟨b,o,none⟩ = W.cell? ⟨b,o,none⟩) : Rows2 S W' v xss:=by
 obtain ⟨vs,h1,h2,h3⟩ := h;exact ⟨vs,h1.cells hc,h2,fun i hi => let ⟨u,hu,hs⟩ := h3 i hi; ⟨u,hu,hs.cells hc⟩⟩
theorem Rows2.below {S : Nat → Prop} {W W' : World} {v : Value} {xss : List (List Int)} (h : Rows2 S W v xss) (hb : Below W.heap.size W W') : Rows2 S W' v xss :=
 h.cells fun b o _ hs => by obtain ⟨x,hx⟩ := Option.isSome_iff_exists.1 hs; rw [hx]; exact bAt hb hx
theorem Rows2.mono {S S' : Nat → Prop} {W : World} {v : Value} {xss : List (List Int)} (h : Rows2 S W v xss) (hS : ∀ k,S k → S' k) : Rows2 S' W v xss:=by
 obtain ⟨vs,h1,h2,h3⟩ := h;exact ⟨vs,h1.mono hS,h2,fun i hi => let ⟨u,hu,hs⟩ := h3 i hi; ⟨u,hu,hs.mono hS⟩⟩
theorem Rows2.nil (S : Nat → Prop) (W : World) : Rows2 S W (.slice none 0 0) []:=⟨[],Sl.nil _ _,rfl,fun i h => by simp at h⟩

def waysErr (bs : List Int) (g d s : Int) : Int:=if scoreErr bs g d s = 0 then (if numOf bs g d s = 0 then 7 else if 3000 < numOf bs g d s then 5 else 0) else scoreErr bs g d s
def waysRes (bs : List Int) (g d s : Int) : List (List Int):=if waysErr bs g d s = 0 then outAll g bs s d.toNat else []

def WI (N0 B X : Nat) (pre : List (List Int)) (O : Nat → Prop) (W : World) : Prop :=
 ∃ lv vs,(∀ k,O k ↔ k = X ∨ lv.ownBlock = some k) ∧ W.heap[X]? = some (.cells #[lv] 116 (0,0)) ∧ W.ownsRow B 36 1 lv pre.length vs ∧ vs.length = pre.length ∧
  ∀ i (h : i < pre.length), ∃ u,vs[i]? = some u ∧ PathAt (fun k => N0 ≤ k ∧ Row 47 W k) W u pre[i]

theorem WI.stab (N0 B X N : Nat) : Stab 47 N (WI N0 B X):=by
 rintro pre O W W' ⟨lv,vs,h1,h2,h3,h4,h5⟩ e1 e2 e3 e4 hk;have hlt:=h3.lt;have hX : X < W.heap.size:=(Array.getElem?_eq_some_iff.1 h2).1
 refine ⟨lv,vs,h1,(hk X hX (.inl ((h1 X).2 (.inl rfl)))).trans h2,owns_keep h3 (fun q hq => hk q (hlt q hq).2 (.inl ((h1 q).2 (.inr hq)))) e4,h4,fun i hi => ?_⟩
 obtain ⟨u,hu,hp⟩ := h5 i hi;refine ⟨u,hu,(hp.cells fun b o hb hs => ?_).mono fun k hk2 => ⟨hk2.1,hk2.2.keep (hk k ?_ (.inr (.inr hk2.2)))⟩⟩
 ·obtain ⟨x,hx⟩ := Option.isSome_iff_exists.1 hs
  exact World.cell?_of_block (hk b (World.block_lt_of_cell? W ⟨b,o,none⟩ hx) (.inr (.inr hb.2)))
 ·obtain ⟨c,fz,h⟩ := hk2.2
  exact (Array.getElem?_eq_some_iff.1 h).1

theorem WI.more {N0 B X : Nat} {pre : List (List Int)} {O : Nat → Prop} {W : World} {b : List Int} {pv lv' : Value} {W1 : World} {lv : Value} {vs : List Value}
  (h1 : ∀ k,O k ↔ k = X ∨ lv.ownBlock = some k) (h2 : W.heap[X]? = some (.cells #[lv] 116 (0,0))) (h3 : W.ownsRow B 36 1 lv pre.length vs) (h4 : vs.length = pre.length)
  (h5 : ∀ i (h : i < pre.length), ∃ u,vs[i]? = some u ∧ PathAt (fun k => N0 ≤ k ∧ Row 47 W k) W u pre[i]) (hp : PathAt (fun k => N0 ≤ k ∧ Row 47 W k) W pv b)
  (hb : Below W.heap.size W W1) {W2 : World} (ho : W2.ownsRow B 36 1 lv' (pre.length + 1) (vs ++ [pv])) (hg : W1.grownBy W2 lv.ownBlock) (hbnd : ∀ q,lv'.ownBlock = some q → lv.ownBlock = some q ∨ W.heap.size ≤ q) (_hO : ∀ k,O k → k < W.heap.size) (hXB : X < B) :
  ∃ O',Rel O W O' (W2.setCell ⟨X,0,none⟩ lv') ∧ WI N0 B X (pre ++ [b]) O' (W2.setCell ⟨X,0,none⟩ lv'):=by
 have hX : X < W.heap.size:=(Array.getElem?_eq_some_iff.1 h2).1
 have hlt:=h3.lt;have hlt2:=ho.lt;have hz:=hb.size;have hz2:=hg.size;have hX2 : W2.heap[X]? = some (.cells #[lv] 116 (0,0)):=(hg.block X (by omega) (fun e => by have:=(hlt X e.symm).1; omega)).trans ((hb.block X hX).trans h2)
 have hrows : ∀ k,Row 47 W k → (W2.setCell ⟨X,0,none⟩ lv').heap[k]? = W.heap[k]? := fun k hk => by
  have hkl : k < W.heap.size:=by obtain ⟨c,fz,h⟩ := hk; exact (Array.getElem?_eq_some_iff.1 h).1
  rw [Below.heap_setCell _ _ _ _ (by
   intro e; simp only at e; subst e
   obtain ⟨c,fz,h⟩ := hk; rw [h2] at h; simp at h)]
  refine (hg.block k (by omega) (fun e => ?_)).trans (hb.block k hkl)
  rcases h3.2 with ⟨h,_⟩ | ⟨g,cap,cur,rfl,_,hgc,_⟩
  ·rw [h] at e; simp [Value.ownBlock] at e
  ·simp only [Value.ownBlock,Option.some.injEq] at e
   subst e;obtain ⟨c,fz,h⟩ := hk; rw [hgc] at h; simp at h
 have hpath : ∀ u xs,PathAt (fun k => N0 ≤ k ∧ Row 47 W k) W u xs → PathAt (fun k => N0 ≤ k ∧ Row 47 (W2.setCell ⟨X,0,none⟩ lv') k) (W2.setCell ⟨X,0,none⟩ lv') u xs:=fun u xs h =>
  (h.cells fun b o hb hs => by
   obtain ⟨x,hx⟩ := Option.isSome_iff_exists.1 hs;exact World.cell?_of_block (hrows b hb.2)).mono fun k hk => ⟨hk.1,hk.2.keep (hrows k hk.2)⟩
 refine ⟨fun k => k = X ∨ lv'.ownBlock = some k,⟨(hg.os.trans hb.os),hg.tape.trans hb.tape,hg.output.trans hb.output,by simp; omega,fun k hk hn => ?_,fun k hk => ?_,fun k hk => ?_⟩,lv',vs ++ [pv],fun _ => Iff.rfl,by rw [heap_setCell_at hX2]; rfl, ?_,by simp [h4],fun i hi => ?_⟩
 ·have hkX : ¬ k = X:=fun e => hn ((h1 k).2 (.inl e))
  rw [Below.heap_setCell _ _ _ _ hkX];exact (hg.block k (by omega) (fun e => hn ((h1 k).2 (.inr e.symm)))).trans (hb.block k hk)
 ·rcases hk with rfl | hk
  ·exact .inl ((h1 _).2 (.inl rfl))
  ·rcases hbnd k hk with h | h
   ·exact .inl ((h1 k).2 (.inr h))
   ·exact .inr h
 ·rcases hk with rfl | hk
  ·simp; omega
  ·simpa using (hlt2 k hk).2
 ·rw [List.length_append,List.length_singleton]
  exact owns_keep ho (fun q hq => Below.heap_setCell _ _ _ _ (by have:=(hlt2 q hq).1; simp; omega)) (by simp)
 ·by_cases hip : i < pre.length
  ·obtain ⟨u,hu,hp'⟩ := h5 i hip
   refine ⟨u,by rw [List.getElem?_append_left (by omega)]; exact hu, ?_⟩
   rw [List.getElem_append_left hip]; exact hpath u _ hp'
  ·have : i = pre.length:=by simp at hi; omega
   subst this;refine ⟨pv,by rw [← h4]; simp, ?_⟩
   simpa using hpath pv b hp
end Go.Proofs.YtnbmgkmcaoafnaaGreatDoor.O2

/- Appending one element to a slice of one's own, in a list of operations. -/
namespace Go.Oche
open Go Go.RowKit
section
variable {P : Program} {ops : Array Oper} {Q : Exit → Act → World → Prop} {o : Oper} {rest : List Oper} {a : Act} {w : World}
theorem opOK_append1_at (s x : Operand) (t : TypeId) (ho : o.op = .call { callee:=.builtin .append,args:=#[s,x],argTypes:=#[t,t] })
  (base : Nat) (e : TypeId) (z : Value) (bytes : Nat) (ht : P.underlying t = some (.slice e)) (hi : (P.info? e).map (fun i => (i.zero,i.size,i.bytes)) = some (some z,1,bytes)) (hzs : z.cells.size = 1)
  (v : Value) (n : Nat) (xs : List Value) (hs : a.eval s = v) (hown : w.ownsRow base e 1 v n xs) (b off c : Nat) (u : Value) (hx : a.eval x = .slice (some ⟨b,off,none⟩) 1 c) (hc : w.cell? ⟨b,off,none⟩ = some u) (h1 : u.oneCell' = true)
  (h63 : n + 1 ≤ 100000) (hbytes : bytes ≤ 1000) (hbase : base ≤ w.heap.size) :
  opOK P o a w (fun v' w' => ∃ g cap,v' = .slice (some ⟨g,0,none⟩) (n + 1) cap ∧ w'.ownsRow base e 1 v' (n + 1) (xs ++ [u]) ∧ w.grownBy w' v.ownBlock ∧ (v.ownBlock = some g ∨ g = w.heap.size)):=by
 obtain ⟨i,hi,hz0,hz1,hz2⟩ := info_parts hi;have hmul : (n + 1) * bytes ≤ 100000 * 1000:=Nat.mul_le_mul h63 hbytes;obtain ⟨v',w',hr,h2,h3,h4,h5⟩ := run_append_own_at (P:=P) w base t o.type e i z 1 bytes ht hi hz0 hz1 hz2 hzs (by decide) v n xs hown ⟨b,off,none⟩ 1 c [u] rfl
  (fun j y hj => by
   match j,hj with
   | 0,hj => simp at hj; subst hj; simpa [Addr.add] using hc
   | j + 1,hj => simp at hj)
  (fun y hy => by simp at hy; subst hy; exact h1) (by unfold maxLen; omega) (by omega) hbase
 unfold opOK execOp;simp only [ho,resolve,invoke,builtin,Sem.run_bind,Sem.run_pure,Result.andThen_ok,List.map_toArray,List.map_cons,List.map_nil,hs,hx,hr];obtain ⟨g,cap,rfl⟩ := ownsRow_succ h2;refine ⟨g,cap,rfl,h2,h3, ?_⟩
 simp only [Value.ownBlock] at h5;rcases h5 with h5 | h5
 ·exact .inl h5.symm
 ·exact .inr (Option.some.inj h5)
theorem wpList_append1 (hg : o.guard = none) (s x : Operand) (t : TypeId) (ho : o.op = .call { callee:=.builtin .append,args:=#[s,x],argTypes:=#[t,t] })
  (base : Nat) (e : TypeId) (z : Value) (bytes : Nat) (ht : P.underlying t = some (.slice e)) (hi : (P.info? e).map (fun i => (i.zero,i.size,i.bytes)) = some (some z,1,bytes)) (hzs : z.cells.size = 1)
  (v : Value) (n : Nat) (xs : List Value) (hs : a.eval s = v) (hown : w.ownsRow base e 1 v n xs) (b off c : Nat) (u : Value) (hx : a.eval x = .slice (some ⟨b,off,none⟩) 1 c) (hc : w.cell? ⟨b,off,none⟩ = some u) (h1 : u.oneCell' = true)
  (h63 : n + 1 ≤ 100000) (hbytes : bytes ≤ 1000) (hbase : base ≤ w.heap.size)
  (hK : ∀ g cap w',w'.ownsRow base e 1 (.slice (some ⟨g,0,none⟩) (n + 1) cap) (n + 1) (xs ++ [u]) → w.grownBy w' v.ownBlock → (v.ownBlock = some g ∨ g = w.heap.size) → wpList P ops Q rest (a.put o.dst (.slice (some ⟨g,0,none⟩) (n + 1) cap)) w') :
  wpList P ops Q (o :: rest) a w :=
 wpList_opOK hg (opOK_append1_at s x t ho base e z bytes ht hi hzs v n xs hs hown b off c u hx hc h1 h63 hbytes hbase) fun _ _ ⟨g,cap,e,h1,h2,h3⟩ => by subst e; exact hK g cap _ h1 h2 h3
theorem wpListIn_append1 {F : Fence} (hF : Open F) (hg : o.guard = none) (s x : Operand) (t : TypeId) (ho : o.op = .call { callee:=.builtin .append,args:=#[s,x],argTypes:=#[t,t] })
  (base : Nat) (e : TypeId) (z : Value) (bytes : Nat) (ht : P.underlying t = some (.slice e)) (hi : (P.info? e).map (fun i => (i.zero,i.size,i.bytes)) = some (some z,1,bytes)) (hzs : z.cells.size = 1)
  (v : Value) (n : Nat) (xs : List Value) (hs : a.eval s = v) (hown : w.ownsRow base e 1 v n xs) (b off c : Nat) (u : Value) (hx : a.eval x = .slice (some ⟨b,off,none⟩) 1 c) (hc : w.cell? ⟨b,off,none⟩ = some u) (h1 : u.oneCell' = true)
  (h63 : n + 1 ≤ 100000) (hbytes : bytes ≤ 1000) (hbase : base ≤ w.heap.size)
  (hK : ∀ g cap w',w'.ownsRow base e 1 (.slice (some ⟨g,0,none⟩) (n + 1) cap) (n + 1) (xs ++ [u]) → w.grownBy w' v.ownBlock → (v.ownBlock = some g ∨ g = w.heap.size) → wpListIn F 0 P ops Q rest (a.put o.dst (.slice (some ⟨g,0,none⟩) (n + 1) cap)) w') :
  wpListIn F 0 P ops Q (o :: rest) a w :=
 wpListIn_opOK hF hg (fun c hc => by rw [ho] at hc; cases hc) (opOK_append1_at s x t ho base e z bytes ht hi hzs v n xs hs hown b off c u hx hc h1 h63 hbytes hbase) fun _ _ ⟨g,cap,e,h1,h2,h3⟩ => by subst e; exact hK g cap _ h1 h2 h3
end
end Go.Oche

/- Chapter 2: Ways, the valid case. -/
namespace Go.Proofs.YtnbmgkmcaoafnaaGreatDoor.O2
open Go.RowKit Go.Oche Go.Oche.O2 Go.Proofs
attribute [local go_sem] Oper.semAt_some

set_option maxRecDepth 100000 in
set_option maxRecDepth 100000 in
set_option maxHeartbeats 1000000 in
theorem waysF_ok {S : Nat → Prop} (bs : List Int) (g : Int) (d s : Nat) (v : Value) (w : World) (hs : Sl S w v (ints bs)) (hi : ∀ b ∈ bs,I64 b) (hr : rulesOk bs g d = true) (h1 : 1 ≤ s) (h2 : s ≤ 1001)
  (hn0 : colSum (cnts g bs d s) s d ≠ 0) (hn1 : colSum (cnts g bs d s) s d ≤ 3000) :
  Calls Tryz.prog 32 #[.agg #[v,.int .i64 g,.int .i64 d],.int .i64 s] w fun e w' => ∃ lv,e = .returned (.tuple #[lv,.int .i64 0]) ∧ Below w.heap.size w w' ∧ Rows2 (fun k => w.heap.size ≤ k) w' lv (outAll g bs s d):=by
 obtain ⟨a,cap,rfl,_,_⟩ := hs.form;simp only [ints_length] at *;have hrs:=rulesOk_spec hr;have hbsp:=bedsOk_spec hrs.1;have HBS:=Lib.hid hbsp.1;have hbl:=hbsp.2.2.2;have hd1:=hrs.2.2.1;have hd9:=hrs.2.2.2;have hlen:=outAll_length hbsp.1 s (Nat.le_refl s) d (Nat.le_refl d) (g:=g) (D:=d);obtain ⟨w0,hw0⟩ : ∃ w0,w0 = ((w.alloc (.cells #[.slice a bs.length cap,.int .i64 g,.int .i64 d] 120)).alloc (.cells #[.slice none 0 0] 116)):=⟨_,rfl⟩;have hb0 : Below w.heap.size w w0:=by rw [hw0]; exact ((Below.refl _ _).alloc (Nat.le_refl _) _).alloc (by simp) _
 have hz0 : w.heap.size + 2 ≤ w0.heap.size:=by rw [hw0]; simp
 have h4 : w0.heap[w.heap.size + 1]? = some (.cells #[.slice none 0 0] 116 (0,0)):=by
  rw [hw0]; have:=World.alloc_heap_new (w.alloc (.cells #[.slice a bs.length cap,.int .i64 g,.int .i64 d] 120)) (.cells #[.slice none 0 0] 116); rw [World.size_alloc] at this; exact this
 have HS:=Lib.hid (hs.below hb0);have HI:=Lib.hid hi;have HW:=Lib.hid hw0;have HR:=Lib.hid hr;have H4:=Lib.hid h4;have HLEN:=Lib.hid hlen;have HN0:=Lib.hid hn0;obtain ⟨n,hn⟩ : ∃ n,colSum (cnts g bs d s) s d = n:=⟨_,rfl⟩;rw [hn] at hn0 hn1;have HN:=Lib.hid hn;have f0 : (n == 0) = false:=by simp [hn0]
 clear hi hs hw0 hr hrs hbsp h4 hlen hn hn0;refine (callsIn_wide (n:=0)).1 (callsIn_of_wp_marks Tryz.func32 rfl trivial ?_ rfl)
 simp only [Tryz.ntmps32,List.size_toArray,List.length_cons,List.length_nil,Nat.reduceAdd,Nat.reduceSub,Array.replicate_succ,Array.replicate_zero,List.push_toArray,List.append_toArray,List.nil_append,List.cons_append]
 gi_wp2_with fail
 rw [← HW.out];refine ⟨trivial,rfl,(callsIn_wide.2 (newFinish_ok bs g d s _ _ HS.out HI.out HR.out h1 h2)).mono ?_⟩
 rintro e w1 ⟨P,rfl,hb1,hBd⟩;have hz1:=hb1.size;have HBd:=Lib.hid hBd;have H4':=Lib.hid ((hb1.block (w.heap.size + 1) (by omega)).trans H4.out)
 have hbw1 : Below w.heap.size w w1:=hb0.trans (hb1.mono (by omega))
 clear hBd H4 hb1;obtain ⟨w2,hw2⟩ : ∃ w2,(w1.alloc (.cells #[.pointer (some ⟨P,0,none⟩),.slice a bs.length cap,.int .i64 g,.int .i64 d,.int .i64 s] 162)) = w2:=⟨_,rfl⟩;have hb2 : Below w1.heap.size w1 w2:=by rw [← hw2]; exact aB _ _
 have hz2 : w2.heap.size = w1.heap.size + 1:=by rw [← hw2]; simp
 have hX2 : w2.heap[w1.heap.size]? = some (.cells #[.pointer (some ⟨P,0,none⟩),.slice a bs.length cap,.int .i64 g,.int .i64 d,.int .i64 s] 162 (0,0)):=by rw [← hw2]; exact World.alloc_heap_new _ _
 have HW2:=Lib.hid hw2;have HBd2:=Lib.hid (HBd.out.below hb2);have H42:=Lib.hid ((hb2.block (w.heap.size + 1) (by omega)).trans H4'.out)
 have k0 : w2.cell? ⟨w1.heap.size,0,none⟩ = some (.pointer (some ⟨P,0,none⟩)):=by rw [cell_of_heap hX2]; rfl
 have k1 : w2.cell? ⟨w1.heap.size,1,none⟩ = some (.slice a bs.length cap):=by rw [cell_of_heap hX2]; rfl
 have k2 : w2.cell? ⟨w1.heap.size,2,none⟩ = some (.int .i64 g):=by rw [cell_of_heap hX2]; rfl
 have k3 : w2.cell? ⟨w1.heap.size,3,none⟩ = some (.int .i64 d):=by rw [cell_of_heap hX2]; rfl
 have k4 : w2.cell? ⟨w1.heap.size,4,none⟩ = some (.int .i64 s):=by rw [cell_of_heap hX2]; rfl
 clear hw2 hX2 H4' HBd
 gi_wp2_with fail
 rw [HW2.out];refine ⟨trivial,rfl,(callsIn_wide.2 (total_cnts P bs g d s s _ HBd2.out hbl (by omega) (by omega) (Nat.le_refl _))).mono ?_⟩
 rintro e w' ⟨rfl,rfl⟩;rw [HN.out]
 gi_wp2_with fail
 obtain ⟨N,hNN⟩ : ∃ N,w.heap.size = N:=⟨_,rfl⟩;have hbw2 : Below N w w2:=by rw [← hNN]; exact hbw1.trans (hb2.mono (by omega))
 have hX4 : w2.heap[N + 1]? = some (.cells #[.slice none 0 0] 116 (0,0)):=by rw [← hNN]; exact H42.out
 have HX4:=Lib.hid hX4;have hsz : N + 2 < w2.heap.size:=by omega
 have hS1 : ∀ k,w0.heap.size ≤ k ∧ k < w1.heap.size → k < w2.heap.size ∧ ¬ k = N + 1:=fun k hk => by omega
 have HNN:=Lib.hid hNN;rw [hNN];clear k0 k1 k2 k3 k4 H42 hNN hX4;refine wpIn_range (gf:=64) (fa:=#[.agg #[.pointer (some ⟨P,0,none⟩),.slice a bs.length cap,.int .i64 g,.int .i64 d,.int .i64 s]]) (lb:=#[]) rfl (enters_of Tryz.func64 (by kernel_rfl) rfl)
  (all_in g bs (cnts g bs d s) P d s (.slice a bs.length cap) w2 HBS.out (by omega) (by simp) (fun j hj => by have:=(cnts_mem (g:=g) hbl (show d ≤ 9 by omega) _ (List.getElem_mem hj)).1; omega) h2 ⟨_,_,_,rfl⟩ HBd2.out (fun k hk => (hS1 k hk).1))
  (WI w2.heap.size (N + 2) (N + 1)) (fun _ _ _ _ => False) (WI.stab _ _ _ _) (fun _ _ _ _ _ h => h.elim)
  (fun j => j = N + 1) (fun j hj => by omega) (fun j hj => hS1 j hj) ⟨.slice none 0 0,[],fun k => by simp [Value.ownBlock],HX4.out,World.ownsRow_nil _ _ _ _,rfl,fun i h => by simp at h⟩
  (fun b args O W' h => by obtain ⟨pv,rfl,_⟩ := h; rfl) ?round ?done ?stop
 case round =>
  rintro l pre b post args O₁ W₁ hL hl1 hl2 hnl hnl' hrel hI ⟨pv,rfl,hp⟩;clear hI;obtain ⟨pa,pn,pc,rfl⟩ := hp.form;have hpre : pre.length ≤ 3000:=by
   have h1:=HLEN.out;rw [HN.out,← allTo_out HBS.out s (Nat.le_refl s) (d:=d),hL] at h1;simp at h1; omega
  have HP:=Lib.hid hp;clear hL hp
  gi_wp2_with fail
  refine ⟨Below.refl _ _, ?_⟩
  rintro W₃ hon ⟨lv,vs,i1,i2,i3,i4,i5⟩;have hp3 : PathAt (fun k => w2.heap.size ≤ k ∧ Row 47 W₃ k) W₃ (.slice pa pn pc) b:=(HP.out.cells fun b o _ _ => hon.cell _).mono fun k hk => ⟨hk.2.2.2,hk.2.2.1.keep (hon.block k fun e => hk.2.1 (.inr (.inl e)))⟩
  have hO3 : ∀ k,O₁ k → k < W₃.heap.size:=fun k hk => by rw [hon.size]; exact hrel.lt k hk
  obtain ⟨la,ln,lc,rfl⟩ : ∃ a n c,lv = .slice a n c:=by
   rcases i3.2 with ⟨rfl,_⟩ | ⟨q,c,cur,rfl,_⟩
   ·exact ⟨_,_,_,rfl⟩
   ·exact ⟨_,_,_,rfl⟩
  have x4 : W₃.cell? ⟨N + 1,0,none⟩ = some (.slice la ln lc):=by rw [cell_of_heap i2]; rfl
  have hNW : w2.heap.size ≤ W₃.heap.size:=by rw [hon.size]; exact hrel.size
  have I1:=Lib.hid i1;have I2:=Lib.hid i2;have I3:=Lib.hid i3;have I4:=Lib.hid i4;have I5:=Lib.hid i5;have HP3:=Lib.hid hp3;have HO3:=Lib.hid hO3;clear i1 i2 i3 i4 i5 hp3 hO3 hon HP
  gi_wp2_with (refine wpListIn_append1 (open_round l) rfl (.tmp 31) (.tmp 33) 116 rfl (N + 2) 36 (.slice none 0 0) 24 Tryz.underlying116 info22 rfl _ pre.length vs rfl (I3.out.alloc _) W₃.heap.size 0 1 (.slice pa pn pc) rfl (cell_new _ _ _) rfl (by omega) (by omega) (by simp; omega) ?_)
  intro q c W4 ho hg hat
  have hX4 : W4.heap[N + 1]? = some (.cells #[.slice la ln lc] 116 (0,0)):=(hg.block (N + 1) (by simp; omega) (fun e => by have:=(I3.out.lt (N + 1) e.symm).1; omega)).trans (((aB W₃ _).block (N + 1) (by omega)).trans I2.out)
  have y4 : W4.cell? ⟨N + 1,0,none⟩ = some (.slice la ln lc):=by rw [cell_of_heap hX4]; rfl
  have f4 : W4.frozen? ⟨N + 1,0,none⟩ = false:=frozen_of_heap hX4;clear x4;obtain ⟨O',m1,m2⟩ := WI.more (N0:=w2.heap.size) I1.out I2.out I3.out I4.out I5.out HP3.out (aB W₃ _) ho hg (fun k hk => by
   simp only [Value.ownBlock,Option.some.injEq] at hk;subst hk;rcases hat with h | h
   ·exact .inl h
   ·exact .inr (by rw [h]; simp)) HO3.out (by omega)
  clear hX4 ho hg hat
  gi_wp2_with fail
  exact ⟨O',m1,m2⟩
 case done =>
  intro D O₁ W' hD hnD hrel hI hDD
  obtain ⟨lv,vs,i1,i2,i3,i4,i5⟩ := hI;obtain ⟨la,ln,lc,rfl⟩ : ∃ a n c,lv = .slice a n c:=by
   rcases i3.2 with ⟨rfl,_⟩ | ⟨q,c,cur,rfl,_⟩
   ·exact ⟨_,_,_,rfl⟩
   ·exact ⟨_,_,_,rfl⟩
  have x4 : W'.cell? ⟨N + 1,0,none⟩ = some (.slice la ln lc):=by rw [cell_of_heap i2]; rfl
  have f4 : W'.frozen? ⟨N + 1,0,none⟩ = false:=frozen_of_heap i2;have hB' : Below N w W':=hbw2.trans (hrel.below (by omega) (fun j hj e => by omega))
  have I2:=Lib.hid i2;have I3:=Lib.hid i3;have I4:=Lib.hid i4;have I5:=Lib.hid i5;have HDD:=Lib.hid hDD;clear i1 i2 i3 i4 i5 hDD
  gi_wp2_with fail
  have hmk : Marks 0 (W'.setCell ⟨N + 1,0,none⟩ (.slice la ln lc)) [D]:=(Marks.nil _ _).cons (by rw [Below.heap_setCell _ _ _ _ (by simp; omega)]; exact HDD.out) (Nat.zero_le _) (by simp)
  refine leave_marks [D] _ hmk fun W'' hp => ?_
  have hz : W''.cell? ⟨N + 1,0,none⟩ = some (.slice la ln lc):=(hp.cell _).trans (by rw [cell_of_heap (heap_setCell_at I2.out _)]; rfl)
  have hcell : ∀ b o,b ≠ N + 1 → W''.cell? ⟨b,o,none⟩ = W'.cell? ⟨b,o,none⟩ := fun b o hb => (hp.cell _).trans (World.cell?_setCell_other _ _ _ _ (fun e => by simp at e <;> omega))
  refine ⟨.tuple #[.slice la ln lc,.int .i64 0],by simp [results,Tryz.results32,go_sem,hz],_,rfl, ?_,vs, ?_, ?_,fun i hi => ?_⟩
  ·rw [HNN.out]
   exact (hB'.setCell (p:=⟨N + 1,0,none⟩) (by simp) _).trans (hp.below fun E hE => by simp at hE; omega)
  ·exact ((Sl.of_owns I3.out).cells fun b o hb _ => hcell b o (by omega)).mono fun q hq => by rw [HNN.out]; omega
  ·rw [I4.out,allTo_out HBS.out s (Nat.le_refl s)]
  ·have e:=allTo_out HBS.out s (Nat.le_refl s) (g:=g) (d:=d)
   have hi' : i < (allTo g bs (cnts g bs d s) s d).length:=by rw [e]; exact hi
   obtain ⟨u,hu,hpu⟩ := I5.out i hi';refine ⟨u,hu, ?_⟩
   have h1:=(hpu.sl.cells fun b o hb _ => hcell b o (by omega)).mono (S':=fun k => w.heap.size ≤ k) fun k hk => by rw [HNN.out]; omega
   simpa only [e] using h1
 case stop => intro D c pre O₁ W' _ _ _ _ h; exact h.elim
open Go.RowKit Go.Oche Go.Oche.O2 Go.Proofs

set_option maxRecDepth 100000 in
set_option maxRecDepth 100000 in
set_option maxHeartbeats 1000000 in
theorem waysF_any {S : Nat → Prop} (bs : List Int) (g d s : Int) (v : Value) (w : World) (hs : Sl S w v (ints bs)) (hi : ∀ b ∈ bs,I64 b) :
  Calls Tryz.prog 32 #[.agg #[v,.int .i64 g,.int .i64 d],.int .i64 s] w fun e w' => ∃ lv,e = .returned (.tuple #[lv,.int .i64 (waysErr bs g d s)]) ∧ Below w.heap.size w w' ∧ Rows2 (fun k => w.heap.size ≤ k) w' lv (waysRes bs g d s):=by
 obtain ⟨a,cap,rfl,_,_⟩ := hs.form;simp only [ints_length] at *;obtain ⟨w0,hw0⟩ : ∃ w0,w0 = ((w.alloc (.cells #[.slice a bs.length cap,.int .i64 g,.int .i64 d] 120)).alloc (.cells #[.slice none 0 0] 116)):=⟨_,rfl⟩;have hb0 : Below w.heap.size w w0:=by rw [hw0]; exact ((Below.refl _ _).alloc (Nat.le_refl _) _).alloc (by simp) _
 have hz0 : w.heap.size + 2 ≤ w0.heap.size:=by rw [hw0]; simp
 have h4 : w0.heap[w.heap.size + 1]? = some (.cells #[.slice none 0 0] 116 (0,0)):=by
  rw [hw0]; have:=World.alloc_heap_new (w.alloc (.cells #[.slice a bs.length cap,.int .i64 g,.int .i64 d] 120)) (.cells #[.slice none 0 0] 116); rw [World.size_alloc] at this; exact this
 by_cases herr : scoreErr bs g d s = 0
 ·obtain ⟨hr,h1,h2⟩ := scoreErr_zero herr
  have hrs:=rulesOk_spec hr;obtain ⟨s,rfl⟩ : ∃ s' : Nat,s = s':=⟨s.toNat,by omega⟩
  obtain ⟨d,rfl⟩ : ∃ d' : Nat,d = d':=⟨d.toNat,by omega⟩
  have hnum : numOf bs g d s = colSum (cnts g bs d s) s d:=by rw [numOf,if_pos herr]; simp
  by_cases hbad : colSum (cnts g bs d s) s d = 0 ∨ 3000 < colSum (cnts g bs d s) s d
  ·have hE : waysErr bs g d s = if colSum (cnts g bs d s) s d = 0 then 7 else 5:=by
    rw [waysErr,if_pos herr,hnum];split
    ·rfl
    ·rw [if_pos (by omega)]
   have hres : waysRes bs g d s = []:=by
    rw [waysRes,if_neg]; rw [hE]; split <;> decide
   have hbl:=(bedsOk_spec hrs.1).2.2.2;have hd1:=hrs.2.2.1;have hd9:=hrs.2.2.2;have HS:=Lib.hid (hs.below hb0);have HI:=Lib.hid hi;have HW:=Lib.hid hw0;have HR:=Lib.hid hr;have H4:=Lib.hid h4;have HE:=Lib.hid hE;have HRES:=Lib.hid hres;obtain ⟨n,hn⟩ : ∃ n,colSum (cnts g bs d s) s d = n:=⟨_,rfl⟩;rw [hn] at hbad;have HN:=Lib.hid hn;clear hi hs hw0 hr hrs h4 herr hnum hE hres hn;by_cases hn0 : n = 0
   all_goals
    try subst hn0
    try have f0 : (n == 0) = false:=by simp [hn0]
    try have f1 : 3000 < n:=by omega
    go_enter Tryz.func32,Tryz.ntmps32
    go_wp2_with fail;rw [← HW.out];refine (newFinish_ok bs g d s _ _ HS.out HI.out HR.out (by omega) (by omega)).mono ?_
    rintro e w1 ⟨P,rfl,hb1,hBd⟩;have hz1:=hb1.size;have HBd:=Lib.hid hBd;have h4':=(hb1.block (w.heap.size + 1) (by omega)).trans H4.out
    have HB4:=Lib.hid (((aB w1 (.cells #[.pointer (some ⟨P,0,none⟩),.slice a bs.length cap,.int .i64 g,.int .i64 d,.int .i64 s] 162)).block _ (by omega)).trans h4')
    have q4 : (w1.alloc (.cells #[.pointer (some ⟨P,0,none⟩),.slice a bs.length cap,.int .i64 g,.int .i64 d,.int .i64 s] 162)).cell? ⟨w.heap.size + 1,0,none⟩ = some (.slice none 0 0):=by rw [cell_of_heap HB4.out]; rfl
    have s4 : (w1.alloc (.cells #[.pointer (some ⟨P,0,none⟩),.slice a bs.length cap,.int .i64 g,.int .i64 d,.int .i64 s] 162)).frozen? ⟨w.heap.size + 1,0,none⟩ = false:=frozen_of_heap HB4.out;clear hBd h4';go_wp2_with fail;refine (total_cnts P bs g d s s _ (HBd.out.below (aB _ _)) hbl (by omega) (by omega) (Nat.le_refl _)).mono ?_
    rintro e w' ⟨rfl,rfl⟩;rw [HN.out];go_wp2_with fail;have hz:=heap_setCell_at HB4.out (o:=0) (.slice none 0 0);have hz':=cell_of_heap (o:=0) hz;simp only [List.setIfInBounds_toArray,List.set_cons_zero] at hz';refine bodyPost_ret (by simp [results,Tryz.results32,go_sem,hz']; rfl) rfl ⟨_,by rw [HE.out,HN.out]; first | rw [if_pos rfl] | rw [if_neg hn0], ?_, ?_⟩
    ·exact ((hb0.trans (hb1.mono hb0.size)).alloc (by omega) _).setCell (p:=⟨w.heap.size + 1,0,none⟩) (by simp) _
    ·rw [HRES.out]; exact Rows2.nil _ _
  ·have hbad' : colSum (cnts g bs d s) s d ≠ 0 ∧ colSum (cnts g bs d s) s d ≤ 3000:=by omega
   have:=waysF_ok bs g d s _ w hs hi hr (by omega) (by omega) hbad'.1 hbad'.2
   have hE : waysErr bs g d s = 0:=by rw [waysErr,if_pos herr,hnum,if_neg hbad'.1,if_neg (by omega)]
   rw [waysRes,if_pos hE,hE]
   simpa using this
 ·have HE:=Lib.hid herr
  have f0 : (scoreErr bs g d s != 0) = true:=by simp [herr]
  have hE : waysErr bs g d s = scoreErr bs g d s:=by rw [waysErr,if_neg herr]
  have hres : waysRes bs g d s = []:=by rw [waysRes,if_neg (by rw [hE]; exact herr)]
  have HEE:=Lib.hid hE;have HRES:=Lib.hid hres;obtain ⟨r,hr⟩ : ∃ r,scoreErr bs g d s = r:=⟨_,rfl⟩;rw [hr] at f0;have HR:=Lib.hid hr;have HS:=Lib.hid (hs.below hb0);have HI:=Lib.hid hi;have HW:=Lib.hid hw0;have H4:=Lib.hid h4;clear herr hr hs hi hw0 h4 hE hres
  go_enter Tryz.func32,Tryz.ntmps32
  go_wp2_with fail;rw [← HW.out];refine (newFinish_bad bs g d s _ _ HS.out HI.out HE.out).mono ?_
  rw [HR.out];rintro e w1 ⟨rfl,hb1⟩;have hz1:=hb1.size;have h4':=(hb1.block (w.heap.size + 1) (by omega)).trans H4.out
  have HB4:=Lib.hid (((aB w1 (.cells #[.pointer none,.slice none 0 0,.int .i64 0,.int .i64 0,.int .i64 0] 162)).block _ (by omega)).trans h4')
  have q4 : (w1.alloc (.cells #[.pointer none,.slice none 0 0,.int .i64 0,.int .i64 0,.int .i64 0] 162)).cell? ⟨w.heap.size + 1,0,none⟩ = some (.slice none 0 0):=by rw [cell_of_heap HB4.out]; rfl
  have s4 : (w1.alloc (.cells #[.pointer none,.slice none 0 0,.int .i64 0,.int .i64 0,.int .i64 0] 162)).frozen? ⟨w.heap.size + 1,0,none⟩ = false:=frozen_of_heap HB4.out;clear h4';go_wp2_with fail;have hz:=heap_setCell_at HB4.out (o:=0) (.slice none 0 0);have hz':=cell_of_heap (o:=0) hz;simp only [List.setIfInBounds_toArray,List.set_cons_zero] at hz';refine bodyPost_ret (by simp [results,Tryz.results32,go_sem,hz']; rfl) rfl ⟨_,by rw [HEE.out,HR.out], ?_, ?_⟩
  ·exact ((hb0.trans (hb1.mono hb0.size)).alloc (by omega) _).setCell (p:=⟨w.heap.size + 1,0,none⟩) (by simp) _
  ·rw [HRES.out]; exact Rows2.nil _ _
end Go.Proofs.YtnbmgkmcaoafnaaGreatDoor.O2

/- Two slices of one's own that grow side by side; a store into one. -/
namespace Go.Oche
open Go Go.RowKit
theorem owns_kept {W W' : World} {base n : Nat} {e : TypeId} {v : Value} {xs : List Value} (h : W.ownsRow base e 1 v n xs) (hk : ∀ g,v.ownBlock = some g → W'.heap[g]? = W.heap[g]?) : W'.ownsRow base e 1 v n xs:=by
 refine ⟨h.1, ?_⟩
 rcases h.2 with h | ⟨g,cap,cur,rfl,h1,h2,h3⟩
 ·exact .inl h
 ·exact .inr ⟨g,cap,cur,rfl,h1,by rw [hk g (by simp [Value.ownBlock])]; exact h2,h3⟩
theorem owns_blk {W : World} {base n g c : Nat} {e : TypeId} {xs : List Value} (h : W.ownsRow base e 1 (.slice (some ⟨g,0,none⟩) n c) n xs) : base ≤ g ∧ g < W.heap.size:=by
 rcases h.2 with ⟨h',_⟩ | ⟨g',cap',cur,h',hb,hg,_⟩
 ·simp at h'
 ·simp only [Value.slice.injEq,Option.some.injEq,Addr.mk.injEq,and_true,true_and] at h'
  obtain ⟨rfl,rfl⟩ := h';exact ⟨hb,(Array.getElem?_eq_some_iff.1 hg).1⟩
structure Two (B : Nat) (e e' : TypeId) (W : World) (g c g' c' n m : Nat) (xs ys : List Value) : Prop where
 o : W.ownsRow B e 1 (.slice (some ⟨g,0,none⟩) n c) n xs
 o' : W.ownsRow B e' 1 (.slice (some ⟨g',0,none⟩) m c') m ys
 ne : g ≠ g'
section
variable {B : Nat} {e e' : TypeId} {W W' : World} {g c g' c' n m h d : Nat} {xs ys zs : List Value}
theorem Two.swap (t : Two B e e' W g c g' c' n m xs ys) : Two B e' e W g' c' g c m n ys xs:=⟨t.o',t.o,fun h => t.ne h.symm⟩
theorem Two.below (t : Two B e e' W g c g' c' n m xs ys) (hb : Below W.heap.size W W') : Two B e e' W' g c g' c' n m xs ys :=
 ⟨owns_kept t.o (fun q hq => by cases hq; exact hb.block g (owns_blk t.o).2),owns_kept t.o' (fun q hq => by cases hq; exact hb.block g' (owns_blk t.o').2),t.ne⟩
theorem Two.grown {ob : Obj} (t : Two B e e' W g c g' c' n m xs ys) (ho : W'.ownsRow B e 1 (.slice (some ⟨h,0,none⟩) (n + 1) d) (n + 1) zs) (hg : (W.alloc ob).grownBy W' (some g)) (hat : some g = some h ∨ h = W.heap.size + 1) :
  Two B e e' W' h d g' c' (n + 1) m zs ys ∧ W.heap.size ≤ W'.heap.size ∧ ∀ b,b ≤ W.heap.size → Below b W W' ∨ g < b:=by
 have l1:=owns_blk t.o;have l2:=owns_blk t.o';have hs:=hg.size;rw [World.size_alloc] at hs;have hkeep : ∀ k,k < W.heap.size → k ≠ g → W'.heap[k]? = W.heap[k]? := fun k hk hne => by
  rw [hg.block k (by simp; omega) (fun e => hne (by cases e; rfl)),Below.heap_alloc _ _ _ hk]
 refine ⟨⟨ho,owns_kept t.o' (fun q hq => by cases hq; exact hkeep g' l2.2 fun e => t.ne e.symm), ?_⟩,by omega,fun b hb => ?_⟩
 ·rcases hat with hat | hat
  ·cases hat; exact t.ne
  ·omega
 ·by_cases hgb : g < b
  ·exact .inr hgb
  ·exact .inl ⟨hg.os.trans rfl,hg.tape.trans rfl,hg.output.trans rfl,by omega,fun k hk => hkeep k (by omega) (by omega)⟩
end
open Go Go.RowKit

def SlN (k : Nat) (S : Nat → Prop) (w : World) (v : Value) (rows : List (List Value)) : Prop :=
 ∃ (a : Option Addr) (cap : Nat),v = .slice a rows.length cap ∧ rows.length ≤ cap ∧ cap ≤ maxLen ∧
  ∀ i r,rows[i]? = some r → r.length = k ∧ ∃ b off,a = some ⟨b,off,none⟩ ∧ S b ∧ ∀ j x,r[j]? = some x → w.cell? ⟨b,off + i * k + j,none⟩ = some x
section
variable {k : Nat} {S S' : Nat → Prop} {w w' : World} {v : Value} {rows : List (List Value)}
theorem SlN.mono (h : SlN k S w v rows) (hS : ∀ q,S q → S' q) : SlN k S' w v rows:=by
 obtain ⟨a,cap,h1,h2,h3,h4⟩ := h;exact ⟨a,cap,h1,h2,h3,fun i r hr => let ⟨hl,b,off,e,s,c⟩ := h4 i r hr; ⟨hl,b,off,e,hS b s,c⟩⟩
theorem SlN.cells (h : SlN k S w v rows) (hc : ∀ b o,S b → (w.cell? ⟨b,o,none⟩).isSome → w'.cell? ⟨b,o,none⟩ = w.cell? ⟨b,o,none⟩) : SlN k S w' v rows:=by
 obtain ⟨a,cap,h1,h2,h3,h4⟩ := h;exact ⟨a,cap,h1,h2,h3,fun i r hr => let ⟨hl,b,off,e,s,c⟩ := h4 i r hr; ⟨hl,b,off,e,s,fun j x hx => (hc b _ s (by rw [c j x hx]; rfl)).trans (c j x hx)⟩⟩
theorem SlN.below (h : SlN k S w v rows) (hb : Below w.heap.size w w') : SlN k S w' v rows:=by
 obtain ⟨a,cap,h1,h2,h3,h4⟩ := h;exact ⟨a,cap,h1,h2,h3,fun i r hr => let ⟨hl,b,off,e,s,c⟩ := h4 i r hr; ⟨hl,b,off,e,s,fun j x hx => bAt hb (c j x hx)⟩⟩
theorem SlN.lt (h : SlN k S w v rows) (hk : 0 < k) : SlN k (fun q => S q ∧ q < w.heap.size) w v rows:=by
 obtain ⟨a,cap,h1,h2,h3,h4⟩ := h;refine ⟨a,cap,h1,h2,h3,fun i r hr => ?_⟩
 obtain ⟨hl,b,off,e,s,c⟩ := h4 i r hr;exact ⟨hl,b,off,e,⟨s,World.block_lt_of_cell? w _ (c 0 r[0] (List.getElem?_eq_getElem (by omega)))⟩,c⟩
theorem SlN.nil (k : Nat) (S : Nat → Prop) (w : World) : SlN k S w (.slice none 0 0) []:=⟨none,0,rfl,Nat.le_refl _,Nat.zero_le _,fun i x hx => by simp at hx⟩
theorem SlN.form (h : SlN k S w v rows) : ∃ a cap,v = .slice a rows.length cap ∧ rows.length ≤ cap ∧ cap ≤ maxLen:=by
 obtain ⟨a,cap,h1,h2,h3,_⟩ := h;exact ⟨a,cap,h1,h2,h3⟩
theorem SlN.cell {a : Option Addr} {n cap : Nat} (h : SlN k S w (.slice a n cap) rows) {i : Nat} (hi : i < rows.length) : ∃ b off,a = some ⟨b,off,none⟩ ∧ S b ∧ rows[i].length = k ∧ ∀ j x,(rows[i])[j]? = some x → w.cell? ⟨b,off + i * k + j,none⟩ = some x:=by
 obtain ⟨a',cap',e,_,_,h4⟩ := h;cases e;obtain ⟨hl,b,off,e,s,c⟩ := h4 i _ (List.getElem?_eq_getElem hi)
 exact ⟨b,off,e,s,hl,c⟩
theorem SlN.of_owns {base n g c : Nat} {e : TypeId} (h : w.ownsRow base e k (.slice (some ⟨g,0,none⟩) n c) n rows.flatten) (hr : ∀ r ∈ rows,r.length = k) (hl : rows.length = n) (hc : n ≤ c) (hm : c ≤ maxLen) : SlN k (fun q => q = g) w (.slice (some ⟨g,0,none⟩) n c) rows:=by
 subst hl;refine ⟨_,c,rfl,hc,hm,fun i r hi => ⟨hr r (List.mem_of_getElem? hi),g,0,rfl,rfl,fun j x hx => ?_⟩⟩
 have hil : i < rows.length:=(List.getElem?_eq_some_iff.1 hi).1
 have hjk : j < k:=by have:=(List.getElem?_eq_some_iff.1 hx).1; rw [hr r (List.mem_of_getElem? hi)] at this; exact this
 have hlt : i * k + j < rows.length * k:=by
  have : (i + 1) * k ≤ rows.length * k:=Nat.mul_le_mul_right k hil;rw [Nat.add_mul] at this; omega
 rw [Nat.zero_add,h.cellAt _ hlt];exact flat_at hr hi hx
where
 flat_at {k : Nat} : ∀ {rows : List (List Value)} {i j : Nat} {r : List Value} {x : Value},(∀ r ∈ rows,r.length = k) → rows[i]? = some r → r[j]? = some x → rows.flatten[i * k + j]? = some x
  | [],i,j,r,x,_,hi,_ => by simp at hi
  | r0 :: rows,0,j,r,x,hr,hi,hx => by
   simp only [List.getElem?_cons_zero,Option.some.injEq] at hi
   subst hi;have hj:=(List.getElem?_eq_some_iff.1 hx).1
   rw [List.flatten_cons,Nat.zero_mul,Nat.zero_add,List.getElem?_append_left hj]; exact hx
  | r0 :: rows,i + 1,j,r,x,hr,hi,hx => by
   have h0:=hr r0 (by simp)
   rw [List.flatten_cons,List.getElem?_append_right (by rw [h0,Nat.add_mul]; omega),h0]
   have : (i + 1) * k + j - k = i * k + j:=by rw [Nat.add_mul]; omega
   rw [this];exact flat_at (fun r h => hr r (by simp [h])) (by simpa using hi) hx
end
open Go Go.RowKit
theorem addr_at (b o j : Nat) : (⟨b,o,none⟩ : Addr).add j = ⟨b,o + j,none⟩ := by unfold Addr.add; split <;> simp_all
section
variable {W W' : World} {base base' n n' k k' : Nat} {e e' : TypeId} {v v' : Value} {xs xs' : List Value}
theorem ownsN_kept (h : W.ownsRow base e k v n xs) (hk : ∀ g,v.ownBlock = some g → W'.heap[g]? = W.heap[g]?) : W'.ownsRow base e k v n xs:=by
 refine ⟨h.1, ?_⟩
 rcases h.2 with h | ⟨g,cap,cur,rfl,h1,h2,h3⟩
 ·exact .inl h
 ·exact .inr ⟨g,cap,cur,rfl,h1,by rw [hk g (by simp [Value.ownBlock])]; exact h2,h3⟩
theorem ownsN_below (h : W.ownsRow base e k v n xs) (hb : Below W.heap.size W W') : W'.ownsRow base e k v n xs :=
 ownsN_kept h fun g hg => hb.block g (h.lt g hg).2
theorem ownsN_ne (h : W.ownsRow base e k v n xs) (h' : W.ownsRow base' e' k' v' n' xs') (he : e ≠ e') : v.ownBlock = none ∨ v.ownBlock ≠ v'.ownBlock:=by
 rcases h.2 with ⟨rfl,_⟩ | ⟨g,cap,cur,rfl,_,hg,_⟩
 ·exact .inl rfl
 ·right
  rcases h'.2 with ⟨rfl,_⟩ | ⟨g',cap',cur',rfl,_,hg',_⟩
  ·simp [Value.ownBlock]
  ·simp only [Value.ownBlock,ne_eq,Option.some.injEq]
   intro e2
   subst e2;rw [hg] at hg';simp at hg';exact he hg'.2
theorem SlN.of_ownsN {rows : List (List Value)} (h : W.ownsRow base e k v rows.length rows.flatten) (hr : ∀ r ∈ rows,r.length = k) : SlN k (fun q => base ≤ q) W v rows:=by
 rcases h.2 with ⟨rfl,h0⟩ | ⟨g,cap,cur,rfl,h1,h2,h3,h4,h5⟩
 ·have : rows = []:=List.eq_nil_of_length_eq_zero h0
  subst this;exact SlN.nil _ _ _
 ·exact (SlN.of_owns h hr rfl h3 h4).mono fun q hq => by subst hq; exact h1
theorem owns_form (h : W.ownsRow base e k v n xs) : ∃ a c,v = .slice a n c:=by
 rcases h.2 with ⟨rfl,rfl⟩ | ⟨g,cap,cur,rfl,_⟩
 ·exact ⟨_,_,rfl⟩
 ·exact ⟨_,_,rfl⟩
theorem ownsN_base (h : W.ownsRow base e k v n xs) (hb : base' ≤ base) : W.ownsRow base' e k v n xs:=by
 refine ⟨h.1, ?_⟩
 rcases h.2 with h | ⟨g,cap,cur,rfl,h1,h2⟩
 ·exact .inl h
 ·exact .inr ⟨g,cap,cur,rfl,by omega,h2⟩
end
end Go.Oche
