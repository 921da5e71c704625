/- The texts TR, VH, in build order. -/
import Derived.Test.YtnbmgkmcaoafnaaGreatDoorZas

/- Chapter 5: Truth. -/
namespace Go.Proofs.YtnbmgkmcaoafnaaGreatDoor
open Go Go.RowKit Go.Oche Go.Proofs

theorem holds_apart {W : World} {b : Nat} {f : Std → Option Value} {g : Std × Std → Option Value} (h : HoldsM stV W b f) (h' : HoldsM spV W b g) {y : Std} (hy : (f y).isSome = true) : False:=by
 obtain ⟨L,⟨es,c,h1,h2,_⟩,_,hk⟩ := h;obtain ⟨L',⟨es',c',h1',h2',_⟩,_,_⟩ := h';rw [h1] at h1';cases h1';rw [h2] at h2';cases L with
 | nil => rw [← hk] at hy; simp [lookM] at hy
 | cons p L =>
  cases L' with
  | nil => simp at h2'
  | cons q L' =>
   simp only [List.map_cons,List.cons.injEq] at h2';have:=h2'.1;unfold stV spV at this;simp at this
theorem steps_apart {base : Nat} {F : Nat → Prop} {W : World} {ms : List Value} {sts : List (List Sp)} {nb : Nat} {f : Std → Option Value} (h : StepsAt base F W ms sts) (hn : HoldsM stV W nb f) {y : Std} (hy : (f y).isSome = true) : Value.map (some nb) ∉ ms:=fun hm => by
 obtain ⟨i,hi⟩ := List.mem_iff_getElem?.1 hm;have hil : i < sts.length:=by rw [← h.len]; exact (List.getElem?_eq_some_iff.1 hi).1
 obtain ⟨b,e1,_,_,e4⟩ := h.maps i sts[i] (by simp [hil])
 rw [hi] at e1;cases e1;exact holds_apart hn e4 hy
theorem steps_obj {base : Nat} {F : Nat → Prop} {W : World} {ms : List Value} {sts : List (List Sp)} {q : Nat} (h : StepsAt base F W ms sts) (hm : Value.map (some q) ∈ ms) : ∃ es c,W.heap[q]? = some (.map es c):=by
 obtain ⟨i,hi⟩ := List.mem_iff_getElem?.1 hm;have hil : i < sts.length:=by rw [← h.len]; exact (List.getElem?_eq_some_iff.1 hi).1
 obtain ⟨b,e1,_,_,e4⟩ := h.maps i sts[i] (by simp [hil])
 rw [hi] at e1;cases e1;exact holdsM_obj e4
theorem flat_one (ms : List Value) : (ms.map fun m => [m]).flatten = ms:=by
 induction ms with
 | nil => rfl
 | cons m ms ih => rw [List.map_cons,List.flatten_cons,ih]; rfl
def truthE (l : Lg) (list : List Rp) : Int:=if checkR l list 100 ≠ 0 then checkR l list 100 else if (List.range l.players.toNat).all (fun (p : Nat) => (playerL l (allS list) p).isSome) = true then 0 else 9
set_option maxRecDepth 100000 in
set_option maxHeartbeats 3000000 in
theorem truth_any {S S' : Nat → Prop} (l : Lg) (bv lv : Value) (list : List Rp) (w : World) (hs : Sl S w bv (ints l.beds)) (hbd : BedsIn l) (hl : SlN 3 S' w lv (list.map rpRow)) :
  Calls Tryz.prog 10 #[legV l bv,lv] w fun e w' => ∃ v1 v2 v3,e = .returned (.tuple #[v1,v2,v3,.int .i64 (truthE l list)]) ∧ Below w.heap.size w w' ∧
   (truthE l list ≠ 0 → v1 = .slice none 0 0 ∧ v2 = .slice none 0 0 ∧ v3 = .slice none 0 0) ∧
   (truthE l list = 0 → ∃ g1 g2 g3,v1 = .slice (some ⟨g1,0,none⟩) l.turns.toNat l.turns.toNat ∧ v2 = .slice (some ⟨g2,0,none⟩) l.turns.toNat l.turns.toNat ∧ v3 = .slice (some ⟨g3,0,none⟩) l.turns.toNat l.turns.toNat ∧ w.heap.size ≤ g1 ∧ w.heap.size ≤ g2 ∧ w.heap.size ≤ g3 ∧
    w'.heap[g1]? = some (.cells (spFlat ((List.range l.turns.toNat).map fun t => (trL (keptL l (allS list) t)).score)).toArray 65 (0,0)) ∧
    w'.heap[g2]? = some (.cells (spFlat ((List.range l.turns.toNat).map fun t => (trL (keptL l (allS list) t)).left)).toArray 65 (0,0)) ∧
    w'.heap[g3]? = some (.cells (spFlat ((List.range l.turns.toNat).map fun t => (trL (keptL l (allS list) t)).darts)).toArray 65 (0,0))):=by
 obtain ⟨a,cap,rfl,h2,h3⟩ := hs.form;obtain ⟨a',cap',rfl,h2',h3'⟩ := hl.form;simp only [ints_length,List.length_map] at *;unfold maxLen at h3 h3';obtain ⟨n,hn⟩ : ∃ n,list.length = n:=⟨_,rfl⟩;rw [hn] at h2' hl ⊢;obtain ⟨w1,hw1⟩ : ∃ x,w.alloc (.cells #[.int .i64 l.start,.int .i64 l.gin,.int .i64 l.gout,.slice a l.beds.length cap,.int .i64 l.players,.int .i64 l.turns,.bool l.won] 53) = x:=⟨_,rfl⟩;have hb1 : Below w.heap.size w w1:=by rw [← hw1]; exact aB _ _
 have k : w1.heap[w.heap.size]? = some (.cells #[.int .i64 l.start,.int .i64 l.gin,.int .i64 l.gout,.slice a l.beds.length cap,.int .i64 l.players,.int .i64 l.turns,.bool l.won] 53 (0,0)):=by rw [← hw1]; exact World.alloc_heap_new _ _
 have c0 : w1.cell? ⟨w.heap.size,0,none⟩ = some (.int .i64 l.start):=by rw [cell_of_heap k]; rfl
 have c1 : w1.cell? ⟨w.heap.size,1,none⟩ = some (.int .i64 l.gin):=by rw [cell_of_heap k]; rfl
 have c2 : w1.cell? ⟨w.heap.size,2,none⟩ = some (.int .i64 l.gout):=by rw [cell_of_heap k]; rfl
 have c3 : w1.cell? ⟨w.heap.size,3,none⟩ = some (.slice a l.beds.length cap):=by rw [cell_of_heap k]; rfl
 have c4 : w1.cell? ⟨w.heap.size,4,none⟩ = some (.int .i64 l.players):=by rw [cell_of_heap k]; rfl
 have c5 : w1.cell? ⟨w.heap.size,5,none⟩ = some (.int .i64 l.turns):=by rw [cell_of_heap k]; rfl
 have c6 : w1.cell? ⟨w.heap.size,6,none⟩ = some (.bool l.won):=by rw [cell_of_heap k]; rfl
 obtain ⟨ec,hec⟩ : ∃ e,checkR l list 100 = e:=⟨_,rfl⟩;have HEC:=Lib.hid hec;obtain ⟨te,hte⟩ : ∃ e,truthE l list = e:=⟨_,rfl⟩;rw [hte];have HTE : Hid (te = if ec ≠ 0 then ec else if (List.range l.players.toNat).all (fun (p : Nat) => (playerL l (allS list) p).isSome) = true then 0 else 9):=Lib.hid (by rw [← hte,← hec]; rfl)
 clear hte;have HN:=Lib.hid hn;have HW:=Lib.hid hw1;have HB:=Lib.hid hb1;have HS:=Lib.hid (hs.below hb1);have HL:=Lib.hid ((hl.lt (by decide)).below hb1)
 have HBD:=Lib.hid hbd;have HK:=Lib.hid k;clear hw1 hb1 k hs hl hbd hec hn;unfold legV legA
 go_enter Tryz.func10,Tryz.ntmps10
 go_upto_region 1 with fail
 rw [HW.out];go_wp2_with fail;have hca:=checkR_any l (.slice a l.beds.length cap) (.slice a' n cap') list 100 w1 HS.out HBD.out HL.out;unfold legV legA at hca;rw [HEC.out] at hca;refine hca.mono ?_
 rintro e w2 ⟨rfl,hb2⟩;have HB2:=Lib.hid (bThen HB.out hb2);have HS2:=Lib.hid (HS.out.below hb2);have HL2:=Lib.hid (HL.out.below hb2);have HK2:=Lib.hid ((hb2.block _ (Array.getElem?_eq_some_iff.1 HK.out).1).trans HK.out)
 have c0:=bAt hb2 c0;have c1:=bAt hb2 c1;have c2:=bAt hb2 c2;have c3:=bAt hb2 c3;have c4:=bAt hb2 c4;have c5:=bAt hb2 c5;have c6:=bAt hb2 c6;clear hb2 hca;obtain ⟨z,hz⟩ : ∃ z,(ec != 0) = z:=⟨_,rfl⟩;have HZ:=Lib.hid hz;cases z
 ·have he : ec = 0:=by simpa using HZ.out
  have hck : checkL l = 0:=by
   have:=HEC.out;unfold checkR at this;by_cases c : checkL l = 0
   ·exact c
   ·rw [if_pos c,he] at this; exact (c this).elim
  have hl100 : list.length ≤ 100:=by
   have:=HEC.out;unfold checkR at this;rw [if_neg (by simp [hck]),he] at this
   by_cases c : (100 : Int) < (list.length : Int)
   ·rw [if_pos (decide_eq_true c)] at this; cases this
   ·omega
  have hv:=valid_of hck;have HV:=Lib.hid hv;have HE:=Lib.hid he;clear he hv hck;go_wp2_with fail;have hng:=newGame_any l (.slice a l.beds.length cap) w2 HV.out HS2.out HBD.out;unfold legV legA at hng;refine hng.mono ?_
  rintro e w3 ⟨gb,hb,kb,rfl,hb3,hG3,hg1,hg2,hg3⟩;have HB3:=Lib.hid (bThen HB2.out hb3);have HL3:=Lib.hid (HL2.out.below hb3);have HG3:=Lib.hid hG3;have c4:=bAt hb3 c4;have c5:=bAt hb3 c5;have hsz3:=hb3.size;have hsz2:=HB2.out.size;clear hng hb3 hG3 c0 c1 c2 c3 c6 HS2 HK2;obtain ⟨w4,hw4⟩ : ∃ x,w3.alloc (.cells #[.pointer (some ⟨gb,0,none⟩),.slice a' n cap'] 93) = x:=⟨_,rfl⟩;have hb4 : Below w3.heap.size w3 w4:=by rw [← hw4]; exact aB _ _
  obtain ⟨R,hR⟩ : ∃ R,w3.heap.size = R:=⟨_,rfl⟩;have k4 : w4.heap[R]? = some (.cells #[.pointer (some ⟨gb,0,none⟩),.slice a' n cap'] 93 (0,0)):=by rw [← hw4,← hR]; exact World.alloc_heap_new _ _
  have hs4 : w4.heap.size = R + 1:=by rw [← hw4,← hR]; simp
  have c4:=bAt hb4 c4;have c5:=bAt hb4 c5;have HB4:=Lib.hid (bThen HB3.out hb4);have HL4:=Lib.hid (HL3.out.below hb4);have HG4:=Lib.hid (HG3.out.below hb4);have HK4:=Lib.hid k4;have HW4:=Lib.hid hw4;have hGR : gb < R ∧ hb < R ∧ kb < R:=by rw [← hR]; exact HG3.out.lt
  clear hw4 hb4 k4 HG3 HL3;obtain ⟨T,hT⟩ : ∃ T : Nat,l.turns = T:=⟨l.turns.toNat,by have:=HV.out.turns; omega⟩
  have hT60 : T ≤ 60:=by have:=HV.out.turns; omega
  have HT:=Lib.hid hT;rw [hT] at c5;clear hT;go_upto_region 5 with fail;rw [HW4.out];have hmk:=make_spans T (by omega)
  refine wp_region_seqV 12 ((fun v => v = .pointer (some ⟨w.heap.size,5,none⟩)) :: (fun v => v = .int .i64 (T : Int)) :: (fun v => ∃ b,v = .slice (some ⟨b,0,none⟩) T T) :: (fun v => v = .pointer (some ⟨w.heap.size,5,none⟩)) :: (fun v => v = .int .i64 (T : Int)) :: (fun v => ∃ b,v = .slice (some ⟨b,0,none⟩) T T) :: (fun v => v = .pointer (some ⟨w.heap.size,5,none⟩)) :: (fun v => v = .int .i64 (T : Int)) :: (fun v => ∃ b,v = .slice (some ⟨b,0,none⟩) T T) :: (fun v => ∃ b,v = .slice (some ⟨b,0,none⟩) T T) :: (fun v => ∃ b,v = .slice (some ⟨b,0,none⟩) T T) :: (fun v => ∃ b,v = .slice (some ⟨b,0,none⟩) T T) :: []) (JG w4 T) rfl mix (by kernel_rfl) (by kernel_rfl) (fun _ _ _ _ hc h => h.congr hc) (fun vs => JG.start vs) ?_
  simp only [List.take_succ_cons,List.take_zero]
  iterate 2
   refine sv_rd rfl (fun _ _ _ h => h.read (by simp)) (fun W L vs hvs hL hj => ?_) ?_
   ·have c5':=bAt hj.below c5
    simp [opOK,go_sem,c5']
    try exact rfl
   simp only [Act.put,List.setIfInBounds_toArray,List.set_cons_succ,List.set_cons_zero]
  refine sv_new ⟨_,0,rfl⟩ rfl (fun W L vs hvs hL hj hd => ?_) ?_
  ·simp only [List.length_append,List.length_cons,List.length_nil,Nat.zero_add,Nat.reduceAdd] at hL ⊢
   exact opOK_val (v:=.slice (some ⟨W.heap.size,0,none⟩) T T) (w':=W.alloc (.cells (spFlat (List.replicate T (0,0))).toArray 65)) (by simp [go_sem,execOp,hmk W]) ⟨⟨_,rfl⟩,hj.make (by simp) hL⟩
  rintro _ ⟨b1,rfl⟩;simp only [Act.put,List.setIfInBounds_toArray,List.set_cons_succ,List.set_cons_zero]
  iterate 2
   refine sv_rd rfl (fun _ _ _ h => h.read (by simp)) (fun W L vs hvs hL hj => ?_) ?_
   ·have c5':=bAt hj.below c5
    simp [opOK,go_sem,c5']
    try exact rfl
   simp only [Act.put,List.setIfInBounds_toArray,List.set_cons_succ,List.set_cons_zero]
  refine sv_new ⟨_,0,rfl⟩ rfl (fun W L vs hvs hL hj hd => ?_) ?_
  ·simp only [List.length_append,List.length_cons,List.length_nil,Nat.zero_add,Nat.reduceAdd] at hL ⊢
   exact opOK_val (v:=.slice (some ⟨W.heap.size,0,none⟩) T T) (w':=W.alloc (.cells (spFlat (List.replicate T (0,0))).toArray 65)) (by simp [go_sem,execOp,hmk W]) ⟨⟨_,rfl⟩,hj.make (by simp) hL⟩
  rintro _ ⟨b2,rfl⟩;simp only [Act.put,List.setIfInBounds_toArray,List.set_cons_succ,List.set_cons_zero]
  iterate 2
   refine sv_rd rfl (fun _ _ _ h => h.read (by simp)) (fun W L vs hvs hL hj => ?_) ?_
   ·have c5':=bAt hj.below c5
    simp [opOK,go_sem,c5']
    try exact rfl
   simp only [Act.put,List.setIfInBounds_toArray,List.set_cons_succ,List.set_cons_zero]
  refine sv_new ⟨_,0,rfl⟩ rfl (fun W L vs hvs hL hj hd => ?_) ?_
  ·simp only [List.length_append,List.length_cons,List.length_nil,Nat.zero_add,Nat.reduceAdd] at hL ⊢
   exact opOK_val (v:=.slice (some ⟨W.heap.size,0,none⟩) T T) (w':=W.alloc (.cells (spFlat (List.replicate T (0,0))).toArray 65)) (by simp [go_sem,execOp,hmk W]) ⟨⟨_,rfl⟩,hj.make (by simp) hL⟩
  rintro _ ⟨b3,rfl⟩;simp only [Act.put,List.setIfInBounds_toArray,List.set_cons_succ,List.set_cons_zero];refine sv_new ⟨_,0,rfl⟩ rfl (fun W L vs hvs hL hj hd => ?_) ?_
  ·simp only [List.length_append,List.length_cons,List.length_nil,Nat.zero_add,Nat.reduceAdd] at hL ⊢
   have hag:=hj.assign (i:=9) (j:=2) (by simp) (hd ⟨2,.data⟩ (by simp) rfl)
   rw [hvs 2 (.slice (some ⟨b1,0,none⟩) T T) (by simp)] at hag
   exact opOK_val (v:=.slice (some ⟨b1,0,none⟩) T T) (w':=W) (by simp [go_sem,execOp]) ⟨⟨_,rfl⟩,hag⟩
  rintro _ ⟨b1',rfl⟩;simp only [Act.put,List.setIfInBounds_toArray,List.set_cons_succ,List.set_cons_zero];refine sv_new ⟨_,0,rfl⟩ rfl (fun W L vs hvs hL hj hd => ?_) ?_
  ·simp only [List.length_append,List.length_cons,List.length_nil,Nat.zero_add,Nat.reduceAdd] at hL ⊢
   have hag:=hj.assign (i:=10) (j:=5) (by simp) (hd ⟨5,.data⟩ (by simp) rfl)
   rw [hvs 5 (.slice (some ⟨b2,0,none⟩) T T) (by simp)] at hag
   exact opOK_val (v:=.slice (some ⟨b2,0,none⟩) T T) (w':=W) (by simp [go_sem,execOp]) ⟨⟨_,rfl⟩,hag⟩
  rintro _ ⟨b2',rfl⟩;simp only [Act.put,List.setIfInBounds_toArray,List.set_cons_succ,List.set_cons_zero];refine sv_new ⟨_,0,rfl⟩ rfl (fun W L vs hvs hL hj hd => ?_) ?_
  ·simp only [List.length_append,List.length_cons,List.length_nil,Nat.zero_add,Nat.reduceAdd] at hL ⊢
   have hag:=hj.assign (i:=11) (j:=8) (by simp) (hd ⟨8,.data⟩ (by simp) rfl)
   rw [hvs 8 (.slice (some ⟨b3,0,none⟩) T T) (by simp)] at hag
   exact opOK_val (v:=.slice (some ⟨b3,0,none⟩) T T) (w':=W) (by simp [go_sem,execOp]) ⟨⟨_,rfl⟩,hag⟩
  rintro _ ⟨b3',rfl⟩;simp only [Act.put,List.setIfInBounds_toArray,List.set_cons_succ,List.set_cons_zero];refine sv_end fun vs w5 hvs hj => ?_
  simp only [List.drop_succ_cons,List.drop_zero];have s2:=hvs 2 (.slice (some ⟨b1,0,none⟩) T T) (by simp)
  have s5:=hvs 5 (.slice (some ⟨b2,0,none⟩) T T) (by simp)
  have s8:=hvs 8 (.slice (some ⟨b3,0,none⟩) T T) (by simp)
  have a9:=(hj.asg 9 2 (by simp) (by decide)).2
  have a10:=(hj.asg 10 5 (by simp) (by decide)).2
  have a11:=(hj.asg 11 8 (by simp) (by decide)).2
  rw [hvs 9 (.slice (some ⟨b1',0,none⟩) T T) (by simp),s2] at a9
  rw [hvs 10 (.slice (some ⟨b2',0,none⟩) T T) (by simp),s5] at a10
  rw [hvs 11 (.slice (some ⟨b3',0,none⟩) T T) (by simp),s8] at a11
  cases a9;cases a10;cases a11;obtain ⟨q1,e1,m1,k1⟩ := hj.made 2 (by simp) (by decide)
  obtain ⟨q2,e2,m2,k2⟩ := hj.made 5 (by simp) (by decide)
  obtain ⟨q3,e3,m3,k3⟩ := hj.made 8 (by simp) (by decide)
  have n12:=hj.ne 2 5 (by simp) (by simp) (by decide) (by decide) (by decide)
  have n13:=hj.ne 2 8 (by simp) (by simp) (by decide) (by decide) (by decide)
  have n23:=hj.ne 5 8 (by simp) (by simp) (by decide) (by decide) (by decide)
  rw [s2] at e1 n12 n13;rw [s5] at e2 n12 n23;rw [s8] at e3 n13 n23;cases e1;cases e2;cases e3;have d12 : b1 ≠ b2:=fun e => n12 (by rw [e])
  have d13 : b1 ≠ b3:=fun e => n13 (by rw [e])
  have d23 : b2 ≠ b3:=fun e => n23 (by rw [e])
  have HB5:=Lib.hid (bThen HB4.out hj.below);have HG5:=Lib.hid ((HG4.out.more (F':=fun q => (q = gb ∨ q = hb ∨ q = kb) ∨ q = b1 ∨ q = b2 ∨ q = b3) (fun q h => h.elim .inl fun h => .inr (by omega)) (fun q h => .inl h)).below hj.below)
  have HK5:=Lib.hid ((hj.below.block R (by omega)).trans HK4.out)
  have HL5:=Lib.hid (HL4.out.below hj.below);have c4:=bAt hj.below c4;have hsz5:=hj.below.size;have K1:=Lib.hid k1;have K2:=Lib.hid k2;have K3:=Lib.hid k3;have hkb:=HG5.out.lt;have k1l:=(Array.getElem?_eq_some_iff.1 k1).1
  have k2l:=(Array.getElem?_eq_some_iff.1 k2).1
  have k3l:=(Array.getElem?_eq_some_iff.1 k3).1
  clear hj hvs s2 s5 s8 n12 n13 n23 k1 k2 k3 hmk HB4 HG4 HK4 HL4 c5;obtain ⟨P,hP⟩ : ∃ P : Nat,l.players = P:=⟨l.players.toNat,by have:=HV.out.players; omega⟩
  have hP4 : 1 ≤ P ∧ P ≤ 4:=by have:=HV.out.players; omega
  have HP:=Lib.hid hP;rw [hP] at c4;clear hP;have HTR : Hid (TrSt l w5 gb hb kb b1 b2 b3 (fun q => (q = gb ∨ q = hb ∨ q = kb) ∨ q = b1 ∨ q = b2 ∨ q = b3) (spT l list Tr.score P 0 0) (spT l list Tr.left P 0 0) (spT l list Tr.darts P 0 0) w5):=Lib.hid
   ⟨HG5.out,Chg.refl,by rw [spT_start,HT.out]; exact K1.out,by rw [spT_start,HT.out]; exact K2.out,by rw [spT_start,HT.out]; exact K3.out,⟨.inr (.inl rfl),.inr (.inr (.inl rfl)),.inr (.inr (.inr rfl))⟩,by have:=HB3.out.size; have hltg : gb < R ∧ hb < R ∧ kb < R:=hGR; omega⟩
  clear K1 K2 K3 HG5;go_wp2;go_loopw [4,5,6,41] (fun v4 v5 v6 pv wr => ∃ p : Nat,v4 = .slice (some ⟨b1,0,none⟩) T T ∧ v5 = .slice (some ⟨b2,0,none⟩) T T ∧ v6 = .slice (some ⟨b3,0,none⟩) T T ∧ p ≤ P ∧ pv = .int .i64 p ∧ Hid (TrSt l w5 gb hb kb b1 b2 b3 (fun q => (q = gb ∨ q = hb ∨ q = kb) ∨ q = b1 ∨ q = b2 ∨ q = b3) (spT l list Tr.score P p 0) (spT l list Tr.left P p 0) (spT l list Tr.darts P p 0) wr) ∧ Hid (∀ p' < p,(playerL l (allS list) (p' : Int)).isSome = true)) (fun _ _ _ pv _ => P - (intOf pv).toNat)
  case atStart => exact ⟨0,rfl,rfl,rfl,by omega,by go_num,HTR,Lib.hid (fun p' h => by omega)⟩
  case round =>
   clear HTR;obtain ⟨p,rfl,rfl,rfl,hp,rfl,HR,HA⟩ := hrel;obtain ⟨wo,rfl⟩ : ∃ wo : World,wo = wr:=⟨_,rfl⟩;have hKo:=(HR.out.chg.block R (by omega) (by omega)).trans HK5.out
   have r0 : wo.cell? ⟨R,0,none⟩ = some (.pointer (some ⟨gb,0,none⟩)):=by rw [cell_of_heap hKo]; rfl
   have r1 : wo.cell? ⟨R,1,none⟩ = some (.slice a' n cap'):=by rw [cell_of_heap hKo]; rfl
   have hkbR : R < kb → False:=fun _ => by omega
   by_cases hlt : p < P
   ·go_wp2_with fail
    refine (follow_any (S:=fun q => S' q ∧ q < w.heap.size) (F0:=fun q => (q = gb ∨ q = hb ∨ q = kb) ∨ q = b1 ∨ q = b2 ∨ q = b3) (fn:=26) (pre:=#[]) l HV.out list (.slice a' n cap') (p : Int) ⟨by omega,by rw [HP.out]; omega⟩ (truth1_which list.length) ?len wo ?sl (fun h => by omega) HR.out.game (fun q hq => by have h1:=HR.out.lt; have h2:=HR.out.game.lt; omega)).mono ?_
    case len => omega
    case sl => exact HL5.out.chg HR.out.chg fun q hq e => by omega
    rintro e w6 ⟨t,tv,sv,nb,ts,ms,sts,now,F,rfl,hO,hge⟩;obtain ⟨ta,tc,rfl⟩ := owns_form hO.row1;obtain ⟨sa,sc,rfl⟩ := owns_form hO.row2;obtain ⟨hts,hfl⟩ := hO.along.done hge;obtain ⟨w7,hw7⟩ : ∃ x,w6.alloc (.cells #[.slice ta ts.length tc,.slice sa ms.length sc] 96) = x:=⟨_,rfl⟩;have hb7 : Below w6.heap.size w6 w7:=by rw [← hw7]; exact aB _ _
    obtain ⟨m,hm,hm0⟩ := holds_len (hO.nowm.below hb7) (P:=Tryz.prog) (T:=98) (K:=106) (E:=4) (by rfl)
    have hnow : m = 0 ↔ now = []:=by
     rw [hm0];constructor
     ·intro h
      cases now with
      | nil => rfl
      | cons y now => have:=h y; simp at this
     ·rintro rfl k; simp
    have hpl : playerL l (allS list) (p : Int) = if m = 0 then none else some (pruneL sts now).1:=by
     unfold playerL allS;rw [hfl];by_cases c : now = []
     ·rw [if_pos c,if_pos (hnow.2 c)]
     ·rw [if_neg c,if_neg fun e => c (hnow.1 e)]
    have HR7 : Hid (TrSt l w5 gb hb kb b1 b2 b3 F (spT l list Tr.score P p 0) (spT l list Tr.left P p 0) (spT l list Tr.darts P p 0) w7):=Lib.hid ((HR.out.learn hO.chg hO.game hO.sub).below hb7);obtain ⟨X,hX⟩ : ∃ X,w6.heap.size = X:=⟨_,rfl⟩;have k7 : w7.heap[X]? = some (.cells #[.slice ta ts.length tc,.slice sa ms.length sc] 96 (0,0)):=by rw [← hw7,← hX]; exact World.alloc_heap_new _ _
    have HK7:=Lib.hid k7;have HXX:=Lib.hid hX;have HPL:=Lib.hid hpl;have HTS:=Lib.hid hts;have HFL:=Lib.hid hfl;have HNO:=Lib.hid hnow;have HW7:=Lib.hid hw7;have HOO:=Lib.hid hO;have HB7:=Lib.hid hb7;have hlm:=hm 3;obtain ⟨zz,hzz⟩ : ∃ z,decide (m = 0) = z:=⟨_,rfl⟩;have hz1 : ((m : Int) == 0) = zz:=by rw [← hzz]; by_cases c : m = 0 <;> simp [c]
    have hz2 : decide ((m : Int) = 0) = zz:=by rw [← hzz]; by_cases c : m = 0 <;> simp [c]
    have HZZ:=Lib.hid hzz;clear hO hfl hm hm0 hpl hw7 hb7 hzz hts hnow k7;go_upto_region 10 with fail;rw [HW7.out];cases zz
    ·have x0 : w7.cell? ⟨X,0,none⟩ = some (.slice ta ts.length tc):=by rw [cell_of_heap HK7.out]; rfl
     have x1 : w7.cell? ⟨X,1,none⟩ = some (.slice sa ms.length sc):=by rw [cell_of_heap HK7.out]; rfl
     go_wp2_with fail;have hm0 : ¬ m = 0:=of_decide_eq_false HZZ.out;have hnn : now ≠ []:=fun e => hm0 (HNO.out.2 e)
     have hst7 : StepsAt wo.heap.size F w7 ms sts:=HOO.out.steps.keep fun q es c _ hq => HB7.out.block q (Array.getElem?_eq_some_iff.1 hq).1
     have hnw7:=HOO.out.nowm.below HB7.out;obtain ⟨y0,hy0⟩ := List.exists_mem_of_ne_nil now hnn;have hap:=steps_apart hst7 hnw7 (y:=y0) (by rw [if_pos hy0]; rfl)
     have hrow : w7.ownsRow (wo.heap.size + 2) 104 1 (.slice sa ms.length sc) (ms.map fun m => [m]).length (ms.map fun m => [m]).flatten:=by
      rw [List.length_map,flat_one]; exact ownsN_below HOO.out.row2 HB7.out
     have hsl:=SlN.own_maps hrow (fun r hr => by obtain ⟨z,_,rfl⟩ := List.mem_map.1 hr; rfl)
     have hal:=HOO.out.along.len;have hml:=HOO.out.steps.len;have htn : l.turns.toNat ≤ 60:=by have:=HV.out.turns; omega
     refine (prune_any _ _ nb ms sts now w7 hst7 hsl (fun q hq => ⟨fun hm => by obtain ⟨es,c,ho⟩ := steps_obj hst7 hm; exact hq.2.2 es c ho,fun e => by obtain ⟨es,c,ho⟩ := holdsM_obj hnw7; exact hq.2.2 es c (by rw [e]; exact ho)⟩) hnw7 hap (by omega)).mono ?_
     rintro e w8 ⟨⟨v8,rfl⟩,hst8,hc8⟩;have hmb : ∀ q,(q = nb ∨ Value.map (some q) ∈ ms) → wo.heap.size ≤ q ∧ F q ∧ ∃ es c,w7.heap[q]? = some (.map es c):=fun q hq => by
      rcases hq with rfl | hq
      ·exact ⟨HOO.out.nbN,HOO.out.fnb,holdsM_obj hnw7⟩
      ·obtain ⟨i,hi⟩ := List.mem_iff_getElem?.1 hq
       have hil : i < sts.length:=by rw [← hst7.len]; exact (List.getElem?_eq_some_iff.1 hi).1
       obtain ⟨b,z1,z2,z3,z4⟩ := hst7.maps i sts[i] (by simp [hil])
       rw [hi] at z1;cases z1;exact ⟨z2,z3,holdsM_obj z4⟩
     have hwo5 : w5.heap.size ≤ wo.heap.size:=HR.out.chg.size;have HR8 : Hid (TrSt l w5 gb hb kb b1 b2 b3 F (spT l list Tr.score P p 0) (spT l list Tr.left P p 0) (spT l list Tr.darts P p 0) w8):=Lib.hid (HR7.out.other hc8 fun x hx => by have:=hmb x hx; exact ⟨by omega,this.2.1,by omega,by omega,by omega,by omega,by omega,by omega⟩)
     have hkeep : ∀ q,(∀ es c,w7.heap[q]? ≠ some (.map es c)) → q < w7.heap.size → w8.heap[q]? = w7.heap[q]? := fun q h1 h2 => hc8.block q h2 fun hn => by obtain ⟨es,c,ho⟩ := (hmb q hn).2.2; exact h1 es c ho
     have HK8:=Lib.hid ((hkeep X (fun es c e => by rw [HK7.out] at e; cases e) (Array.getElem?_eq_some_iff.1 HK7.out).1).trans HK7.out)
     have hr1 : w8.ownsRow (wo.heap.size + 2) 3 1 (.slice ta ts.length tc) ts.length (ints ts):=ownsN_kept (ownsN_below HOO.out.row1 HB7.out) fun g hg => hkeep g (fun es c e => by
      rcases (ownsN_below HOO.out.row1 HB7.out).2 with ⟨z,_⟩ | ⟨g',cp,cur,z,_,hgg,_⟩
      ·rw [z] at hg; cases hg
      ·rw [z] at hg; cases hg; rw [hgg] at e; cases e) (by have:=(ownsN_below HOO.out.row1 HB7.out).lt g hg; exact this.2)
     have hr2 : w8.ownsRow (wo.heap.size + 2) 104 1 (.slice sa ms.length sc) ms.length ms:=ownsN_kept (ownsN_below HOO.out.row2 HB7.out) fun g hg => hkeep g (fun es c e => by
      rcases (ownsN_below HOO.out.row2 HB7.out).2 with ⟨z,_⟩ | ⟨g',cp,cur,z,_,hgg,_⟩
      ·rw [z] at hg; cases hg
      ·rw [z] at hg; cases hg; rw [hgg] at e; cases e) (by have:=(ownsN_below HOO.out.row2 HB7.out).lt g hg; exact this.2)
     have HR1:=Lib.hid hr1;have HR2:=Lib.hid hr2;have HST8:=Lib.hid hst8;have HM0:=Lib.hid hm0;have HMB:=Lib.hid hmb;obtain ⟨nt,hnt⟩ : ∃ n,ts.length = n:=⟨_,rfl⟩;have HNT:=Lib.hid hnt;clear hst7 hnw7 hap hrow hsl hst8 hc8 hmb hkeep hr1 hr2 hm0 hnn hy0 HK7 HR7 x0 x1 hnt hlm hz1 hz2;have x0 : w8.cell? ⟨X,0,none⟩ = some (.slice ta ts.length tc):=by rw [cell_of_heap HK8.out]; rfl
     have x1 : w8.cell? ⟨X,1,none⟩ = some (.slice sa ms.length sc):=by rw [cell_of_heap HK8.out]; rfl
     have hlb:=HR.out.lt;have HC8 : Hid (Chg (fun q => q = b1 ∨ q = b2 ∨ q = b3) w8 w8):=Lib.hid Chg.refl
     go_wp2;go_loopw [59] (fun iv wr => ∃ i : Nat,i ≤ ts.length ∧ iv = .int .i64 i ∧ Hid (TrSt l w5 gb hb kb b1 b2 b3 F (spT l list Tr.score P p i) (spT l list Tr.left P p i) (spT l list Tr.darts P p i) wr) ∧ Hid (Chg (fun q => q = b1 ∨ q = b2 ∨ q = b3) w8 wr)) (fun iv _ => ts.length - (intOf iv).toNat)
     case atStart => exact ⟨0,Nat.zero_le _,by go_num,HR8,HC8⟩
     case round =>
      clear HR8 HC8 x0 x1;obtain ⟨i,hi,rfl,HRi,HCi⟩ := hrel;obtain ⟨wp,rfl⟩ : ∃ wp : World,wp = wr:=⟨_,rfl⟩;by_cases hlt2 : i < ts.length
      ·have hTT : l.turns.toNat = T:=by rw [HT.out]; exact Int.toNat_natCast T
       have hPP : l.players.toNat = P:=by rw [HP.out]; exact Int.toNat_natCast P
       obtain ⟨tt,htt⟩ : ∃ t : Nat,p + i * P = t:=⟨_,rfl⟩;have hti : ts[i] = (tt : Int) ∧ tt < T:=by
        have h0 : (turnsF l.players l.turns l.turns.toNat (p : Int))[i]? = some ts[i]:=by
         have h1:=HTS.out;unfold turnsL at h1;rw [← h1]; exact List.getElem?_eq_getElem hlt2
        obtain ⟨e1,e2⟩ := turnsF_get _ _ _ h0;rw [HP.out] at e1;rw [HT.out] at e2;have e3 : ts[i] = (tt : Int):=by rw [e1,← htt]; push_cast; rfl
        exact ⟨e3,by rw [e3] at e2; omega⟩
       have hstl : (pruneL sts now).1.length = ts.length:=by
        have h1:=followL_len (l:=l) (said:=saidL list fun _ => true) (turnsL l (p : Int)) [start5 l]
        rw [HFL.out,← HTS.out] at h1;rw [pruneL_len]; exact h1
       have hal:=HOO.out.along.len;have hml : ms.length = ts.length:=by
        have h1:=followL_len (l:=l) (said:=saidL list fun _ => true) (turnsL l (p : Int)) [start5 l]
        rw [HFL.out,← HTS.out] at h1;rw [HOO.out.steps.len]; exact h1
       obtain ⟨st,hst⟩ : ∃ st,(pruneL sts now).1[i]? = some st:=⟨_,List.getElem?_eq_getElem (by omega)⟩
       have hplK : playerL l (allS list) (p : Int) = some (pruneL sts now).1:=by rw [HPL.out,if_neg HM0.out]
       have hkept : keptL l (allS list) tt = st:=by
        unfold keptL;rw [hPP,← htt,Nat.add_mul_mod_self_right,Nat.mod_eq_of_lt hlt,Nat.add_mul_div_right _ _ (by omega),Nat.div_eq_of_lt hlt,Nat.zero_add,hplK,Option.getD_some,List.getD_eq_getElem?_getD,hst]
        rfl
       obtain ⟨b,hmi,hbN,hbF,hbM⟩ := HST8.out.maps i st hst;obtain ⟨L,hL,hLn,hLk0⟩ := hbM.keep (W':=wp) (HCi.out.block b hbM.lt (by omega))
       have hLk : ∀ k,lookM L k = (aggP st k).map smV:=hLk0;obtain ⟨w9,hrg,hS9,hb9,hz9⟩ := MapAt.range (P:=Tryz.prog) (T:=104) (by rfl) hL
       obtain ⟨r,hr⟩ : ∃ r,wp.heap.size = r:=⟨_,rfl⟩;rw [hr] at hrg hS9;have hX6 : wo.heap.size ≤ X:=by rw [← HXX.out]; exact HOO.out.chg.size
       have hKp:=(HCi.out.block X (Array.getElem?_eq_some_iff.1 HK8.out).1 (by omega)).trans HK8.out
       have hsl1:=Sl.of_owns (ownsN_kept HR1.out fun g hg => HCi.out.block g (HR1.out.lt g hg).2 (by have:=(HR1.out.lt g hg).1; omega))
       obtain ⟨g1,o1,rfl, -,hc1⟩ := Sl.at_ hsl1 (intsAt hlt2);rw [hti.1] at hc1;have hsl2:=Sl.of_owns (ownsN_kept HR2.out fun g hg => HCi.out.block g (HR2.out.lt g hg).2 (by have:=(HR2.out.lt g hg).1; omega))
       obtain ⟨g2,o2,rfl, -,hc2⟩ := Sl.at_ hsl2 hmi;have x0 : wp.cell? ⟨X,0,none⟩ = some (.slice (some ⟨g1,o1,none⟩) ts.length tc):=by rw [cell_of_heap hKp]; rfl
       have x1 : wp.cell? ⟨X,1,none⟩ = some (.slice (some ⟨g2,o2,none⟩) ms.length sc):=by rw [cell_of_heap hKp]; rfl
       have htT : tt < T:=hti.2;have e0 : ∀ f : Tr → Int × Int,(spT l list f P p i).set tt (0,0) = spT l list f P p i:=fun f => by
        have h:=spT_at (l:=l) (list:=list) (f:=f) (i:=i) hlt (by rw [spT_len,hTT,htt]; exact htT)
        rw [← htt,← h]; exact List.set_getElem_self _
       have hlr:=HRi.out.lt;rw [hr] at hlr;have hgr:=HRi.out.game.lt;rw [hr] at hgr;have hbr : w8.heap.size ≤ r:=by rw [← hr]; exact HCi.out.size
       have h5r : w5.heap.size ≤ r:=by rw [← hr]; exact HRi.out.chg.size
       have HR9 : Hid (TrSt l w5 gb hb kb b1 b2 b3 (fun q => F q ∨ r ≤ q) ((spT l list Tr.score P p i).set tt (spanL (([] : List (Std × Std)).map fun k => k.1.left - k.2.left))) ((spT l list Tr.left P p i).set tt (spanL (([] : List (Std × Std)).map fun k => k.2.left))) ((spT l list Tr.darts P p i).set tt (dSpan (([] : List (Std × Std)).map (loHi st)))) w9):=Lib.hid (by
        have h0:=(HRi.out.more (F':=fun q => F q ∨ r ≤ q) (fun q h => h.elim .inl fun h => .inr (by omega)) (fun q h => .inl h)).below hb9
        rw [← e0 Tr.score,← e0 Tr.left,← e0 Tr.darts] at h0;exact h0)
       have HC9 : Hid (Chg (fun q => q = b1 ∨ q = b2 ∨ q = b3) w8 w9):=Lib.hid (HCi.out.thenB hb9)
       have HS9:=Lib.hid (SeenD.of hS9);have HLN:=Lib.hid hLn;have HLK:=Lib.hid hLk;have HFB : Hid (F gb ∧ F hb ∧ F kb ∧ F b1 ∧ F b2 ∧ F b3):=Lib.hid ⟨HRi.out.game.fg,HRi.out.game.fh,HRi.out.game.fk,HRi.out.own⟩;have HKEPT:=Lib.hid hkept;have HPLK:=Lib.hid hplK;have HSTI:=Lib.hid hst;have HTT:=Lib.hid htt;have him : i < ms.length:=by omega
       have hts60 : ts.length ≤ 60:=by omega
       have HLT : Hid (tt < l.turns.toNat):=Lib.hid (by omega)
       clear hsl1 hsl2 hKp e0 hkept hplK hst hLn hLk0 hLk hL hS9 hb9 hz9 hbM hmi hti hstl hal htt HRi HCi;go_wp2;clear hrg;go_loopw [15] (fun fv wr => ∃ ks : List (Std × Std),fv = .bool (decide (ks = [])) ∧ Hid (SeenD spV wr r b L L ks) ∧ Hid (TrSt l w5 gb hb kb b1 b2 b3 (fun q => F q ∨ r ≤ q) ((spT l list Tr.score P p i).set tt (spanL (ks.map fun k => k.1.left - k.2.left))) ((spT l list Tr.left P p i).set tt (spanL (ks.map fun k => k.2.left))) ((spT l list Tr.darts P p i).set tt (dSpan (ks.map (loHi st)))) wr) ∧ Hid (Chg (fun q => q = b1 ∨ q = b2 ∨ q = b3) w8 wr)) (fun _ wr => L.length - seenN wr r)
       case atStart => exact ⟨[],by simp,HS9,HR9,HC9⟩
       case round =>
        clear HS9 HR9 HC9 x0 x1 hc1 hc2;obtain ⟨ks,rfl,HSk,HRk,HCk⟩ := hrel;obtain ⟨fs,hfs⟩ : ∃ f,decide (ks = []) = f:=⟨_,rfl⟩;rw [hfs];have HFS:=Lib.hid hfs;clear hfs;obtain ⟨wk,rfl⟩ : ∃ wk : World,wk = wr:=⟨_,rfl⟩;rcases HSk.out.next (P:=Tryz.prog) (dec:=decP) decP_eq HLN.out 0 with ⟨hnx,hperm⟩ | ⟨x,vx,wj,hmem,hkn,hlenk,hnx,hSj,hgj,hzj,henj⟩
        ·have hkk : ∀ k,k ∈ ks ↔ (aggP st k).isSome = true:=fun k => by rw [hperm.mem_iff,key_isSome,HLK.out,Option.isSome_map]
         obtain ⟨t1,t2,t3⟩ := trL_rows hkk;have HRn : Hid (TrSt l w5 gb hb kb b1 b2 b3 F (spT l list Tr.score P p (i + 1)) (spT l list Tr.left P p (i + 1)) (spT l list Tr.darts P p (i + 1)) wk):=Lib.hid (by
          have h0:=HRk.out.less (F':=F) (fun q h => .inl h) HFB.out
          rw [← t1,← t2,← t3,← HKEPT.out,← HTT.out,spT_set hlt,spT_set hlt,spT_set hlt] at h0;exact h0)
         have hwi : IntKind.i64.wrap ((i : Int) + 1) = (i : Int) + 1:=wrap_small _ (by omega) (by omega)
         clear hperm hkk t1 t2 t3 HSk HRk;go_upto_region 25 with fail;clear hnx;go_wp2;go_roundw
         case rel => exact ⟨i + 1,by omega,by go_num,HRn,HCk⟩
         case measure => simp [intOf]; omega
        ·obtain ⟨⟨sl,si⟩,⟨yl,yi⟩⟩ := x
         have hlx:=mem_lookM HLN.out hmem;rw [HLK.out] at hlx;obtain ⟨⟨n,lo,hi⟩,hagg,hvx⟩ := Option.map_eq_some_iff.1 hlx;subst hvx;have hbd:=kept_bd HV.out HPLK.out HSTI.out (k:=((⟨sl,si⟩ : Std),(⟨yl,yi⟩ : Std))) (by rw [hagg]; rfl)
         simp only at hbd;unfold smV spV at hnx henj;simp only at hnx henj;have hgk:=HRk.out.lt;have hkb2:=HRk.out.game.lt;have hCj : Chg (fun q => q = r) wk wj:=Chg.grown hgj fun x hx _ => (Option.some.inj hx).symm
         have HRj:=Lib.hid (HRk.out.other hCj fun x hx => by subst hx; exact ⟨h5r,.inr (Nat.le_refl _),by omega,by omega,by omega,by omega,by omega,by omega⟩)
         have HCj:=Lib.hid (HCk.out.thenG hgj fun x hx hlt => by cases hx; omega)
         have HLi : Hid (ks.length < L.length ∧ seenN wk r = ks.length):=Lib.hid ⟨hlenk,SeenD.count HSk.out⟩;have HSj:=Lib.hid hSj;have HAG:=Lib.hid hagg;clear hmem hkn hlenk hSj hgj hzj hlx hagg hCj HSk HRk HCk;go_upto_region 20 with fail;clear hnx henj;obtain ⟨wm,hwm⟩ : ∃ x,(wj.alloc (.cells #[.int .i64 sl,.bool si,.int .i64 yl,.bool yi] 107)).alloc (.cells #[.int .i64 (n : Int),.int .i64 (lo : Int),.int .i64 (hi : Int)] 109) = x:=⟨_,rfl⟩;have hbk : Below wj.heap.size wj wm:=by rw [← hwm]; exact (aB _ _).alloc (by simp) _
         obtain ⟨D,hD⟩ : ∃ D,wj.heap.size = D:=⟨_,rfl⟩;have k12 : wm.heap[D]? = some (.cells #[.int .i64 sl,.bool si,.int .i64 yl,.bool yi] 107 (0,0)):=by
          rw [← hwm,← hD]; exact (Below.heap_alloc _ _ _ (by simp)).trans (World.alloc_heap_new _ _)
         have k13 : wm.heap[D + 1]? = some (.cells #[.int .i64 (n : Int),.int .i64 (lo : Int),.int .i64 (hi : Int)] 109 (0,0)):=by
          rw [← hwm,← hD,show wj.heap.size + 1 = (wj.alloc (.cells #[.int .i64 sl,.bool si,.int .i64 yl,.bool yi] 107)).heap.size by simp]; exact World.alloc_heap_new _ _
         rw [hD];have hlj:=HRj.out.lt;rw [hD] at hlj;have a0 : wm.cell? ⟨D,0,none⟩ = some (.int .i64 sl):=by rw [cell_of_heap k12]; rfl
         have a2 : wm.cell? ⟨D,2,none⟩ = some (.int .i64 yl):=by rw [cell_of_heap k12]; rfl
         have HRm:=Lib.hid (HRj.out.below hbk);have HCm:=Lib.hid (HCj.out.thenB hbk);have HSm:=Lib.hid (HSj.out.keep (hbk.block _ HSj.out.lt.2.1) (hbk.block _ HSj.out.lt.1));have HK13:=Lib.hid k13;have hrD : r < D:=by rw [← hD]; exact HSj.out.lt.1
         have hbD : b < D:=by rw [← hD]; exact HSj.out.lt.2.1
         have HWM:=Lib.hid hwm;have hwr : IntKind.i64.wrap (sl - yl) = sl - yl:=wrap_small _ (by omega) (by omega)
         clear hbk hwm k12 k13 HRj HCj HSj;rw [HWM.out];refine wp_region_seq 12 [.is (.pointer (some ⟨D,0,none⟩)),.is (.pointer (some ⟨D,0,none⟩)),.is (.int .i64 sl),.is (.pointer (some ⟨D,2,none⟩)),.is (.pointer (some ⟨D,2,none⟩)),.is (.int .i64 yl),.is (.int .i64 (sl - yl)),.is (.pointer (some ⟨D,2,none⟩)),.is (.pointer (some ⟨D,2,none⟩)),.is (.int .i64 yl),.is (.int .i64 (sl - yl)),.is (.int .i64 yl)] rfl mix (by kernel_rfl) (by kernel_rfl) ?seqm
         case seqm =>
          simp only [List.take_succ_cons,List.take_zero]
          iterate 12
           refine seq_on (by rfl) (fun w3 hb3 _ => ?_) ?_
           ·have a0':=bAt hb3 a0
            have a2':=bAt hb3 a2;simp [opOK,go_sem,a0',a2',hwr,Below.refl]
            try exact rfl
           simp only [Act.put,List.setIfInBounds_toArray,List.set_cons_succ,List.set_cons_zero]
          refine seq_end fun wn hbn _ => ?_
          simp only [List.drop_succ_cons,List.drop_zero];have HRn:=Lib.hid (HRm.out.below hbn);have HCn:=Lib.hid (HCm.out.thenB hbn);have HSn:=Lib.hid (HSm.out.keep (hbn.block _ HSm.out.lt.2.1) (hbn.block _ HSm.out.lt.1));have HKn:=Lib.hid ((hbn.block _ (Array.getElem?_eq_some_iff.1 HK13.out).1).trans HK13.out)
          clear hbn a0 a2 HRm HCm HSm HK13 hwr;have hTl : ∀ f : Tr → Int × Int,tt < (spT l list f P p i).length:=fun f => by rw [spT_len]; exact HLT.out
          have hf1 : fs = decide ((ks.map fun k => k.1.left - k.2.left) = []):=by rw [← HFS.out]; simp
          have hf2 : fs = decide ((ks.map fun k => k.2.left) = []):=by rw [← HFS.out]; simp
          have hf3 : fs = decide (ks.map (loHi st) = []):=by rw [← HFS.out]; simp
          have HTL:=Lib.hid hTl;have HF1:=Lib.hid hf1;have HF2:=Lib.hid hf2;have HF3:=Lib.hid hf3;clear hTl hf1 hf2 hf3;go_wp2_with fail;have hcall:=span_row (HTL.out Tr.score) (ks.map fun k => k.1.left - k.2.left) (sl - yl) fs HF1.out b1 wn HRn.out.r1
          refine hcall.mono ?_
          rintro e wq ⟨⟨v,rfl⟩,hgq,hcq⟩;have HRq:=Lib.hid (HRn.out.set1 hgq hcq);have HCq:=Lib.hid (HCn.out.thenG hgq fun x hx _ => .inl (Option.some.inj hx).symm)
          have HSq:=Lib.hid (HSn.out.keep (W':=wq) (hgq.block _ HSn.out.lt.2.1 fun e => by cases e; omega) (hgq.block _ HSn.out.lt.1 fun e => by cases e; omega))
          have HKq:=Lib.hid ((hgq.block _ (Array.getElem?_eq_some_iff.1 HKn.out).1 (fun e => by cases e; omega)).trans HKn.out)
          clear hcall hgq hcq HRn HCn HSn HKn;go_wp2_with fail;have hcall:=span_row (HTL.out Tr.left) (ks.map fun k => k.2.left) yl fs HF2.out b2 wq HRq.out.r2
          refine hcall.mono ?_
          rintro e wz ⟨⟨v',rfl⟩,hgq,hcq⟩;have HRz:=Lib.hid (HRq.out.set2 hgq hcq);have HCz:=Lib.hid (HCq.out.thenG hgq fun x hx _ => .inr (.inl (Option.some.inj hx).symm))
          have HSz:=Lib.hid (HSq.out.keep (W':=wz) (hgq.block _ HSq.out.lt.2.1 fun e => by cases e; omega) (hgq.block _ HSq.out.lt.1 fun e => by cases e; omega))
          have hkz:=(hgq.block _ (Array.getElem?_eq_some_iff.1 HKq.out).1 (fun e => by cases e; omega)).trans HKq.out
          have z0 : wz.cell? ⟨D + 1,1,none⟩ = some (.int .i64 (lo : Int)):=by rw [cell_of_heap hkz]; rfl
          have z1 : wz.cell? ⟨D + 1,2,none⟩ = some (.int .i64 (hi : Int)):=by rw [cell_of_heap hkz]; rfl
          clear hcall hgq hcq hkz HRq HCq HSq HKq;go_upto_region 23 with fail;refine wp_region_seqV 7 ((fun v => v = .slice (some ⟨b3,0,none⟩) T T) :: (fun v => v = .int .i64 (tt : Int)) :: (fun v => v = .pointer (some ⟨b3,tt * 2,none⟩)) :: (fun v => v = .bool fs) :: (fun v => v = .pointer (some ⟨D + 1,1,none⟩)) :: (fun v => v = .agg #[.int .i64 (lo : Int),.int .i64 (hi : Int)]) :: (fun _ => True) :: []) (fun L _ W => JWd wz b3 6 (.cells (spFlat ((spT l list Tr.darts P p i).set tt (dSpan (ks.map (loHi st))))).toArray 65 (0,0)) (.cells (spFlat ((spT l list Tr.darts P p i).set tt (dSpan (ks.map (loHi st) ++ [((lo : Int),(hi : Int))])))).toArray 65 (0,0)) L W) rfl mix (by kernel_rfl) (by kernel_rfl) (fun _ _ _ _ _ h => h) (fun _ => JWd.start HRz.out.r3) ?_
          simp only [List.take_succ_cons,List.take_zero]
          iterate 6
           refine sv_rd rfl (fun _ _ _ h => h.read (by simp)) (fun W L vs hvs hL hj => ?_) ?_
           ·have z0':=hj.cell z0 (by omega)
            have z1':=hj.cell z1 (by omega)
            simp [opOK,go_sem,z0',z1',htT]
            try exact rfl
           simp only [Act.put,List.setIfInBounds_toArray,List.set_cons_succ,List.set_cons_zero]
          refine sv_new ⟨undef,trivial⟩ rfl (fun W L vs hvs hL hj hd => ?_) ?_
          ·simp only [List.length_append,List.length_cons,List.length_nil,Nat.zero_add,Nat.reduceAdd] at hL ⊢
           refine opOK_call (f:=28) (args:=#[.pointer (some ⟨b3,tt * 2,none⟩),.bool fs,.agg #[.int .i64 (lo : Int),.int .i64 (hi : Int)]]) (by simp [go_sem]) ?_
           have ha:=hj.at_;rw [if_neg (by rw [hL]; decide)] at ha
           have hcall:=dspan_row (HTL.out Tr.darts) (ks.map (loHi st)) (lo : Int) (hi : Int) fs HF3.out b3 W ha;refine hcall.mono ?_
           rintro e W' ⟨⟨v3,rfl⟩,hgq,hcq⟩;exact ⟨v3,rfl,trivial,hj.call hgq hcq⟩
          rintro vr -;simp only [Act.put,List.setIfInBounds_toArray,List.set_cons_succ,List.set_cons_zero];refine sv_end fun vs wf hvs hj => ?_
          simp only [List.drop_succ_cons,List.drop_zero];have hat:=hj.at_;rw [if_pos (by decide)] at hat
          have hgf:=hj.grown;have hRf:=HRz.out.set3 hgf hat;have HRf : Hid (TrSt l w5 gb hb kb b1 b2 b3 (fun q => F q ∨ r ≤ q) ((spT l list Tr.score P p i).set tt (spanL ((ks ++ [((⟨sl,si⟩ : Std),(⟨yl,yi⟩ : Std))]).map fun k => k.1.left - k.2.left))) ((spT l list Tr.left P p i).set tt (spanL ((ks ++ [((⟨sl,si⟩ : Std),(⟨yl,yi⟩ : Std))]).map fun k => k.2.left))) ((spT l list Tr.darts P p i).set tt (dSpan ((ks ++ [((⟨sl,si⟩ : Std),(⟨yl,yi⟩ : Std))]).map (loHi st)))) wf):=Lib.hid (by
           rw [List.map_append,List.map_append,List.map_append,List.map_singleton,List.map_singleton,List.map_singleton,loHi_some HAG.out];exact hRf)
          have HCf:=Lib.hid (HCz.out.thenG hgf fun x hx _ => .inr (.inr (Option.some.inj hx).symm))
          have HSf:=Lib.hid (HSz.out.keep (W':=wf) (hgf.block _ HSz.out.lt.2.1 fun e => by cases e; omega) (hgf.block _ HSz.out.lt.1 fun e => by cases e; omega))
          have HLf : Hid (L.length - seenN wf r < L.length - seenN wk r):=Lib.hid (by
           have e1:=SeenD.count HSf.out;have e2:=HLi.out;rw [e1,e2.2,List.length_append,List.length_singleton]; omega)
          clear hj hat hgf hRf hvs HRz HCz HSz z0 z1;go_wp2;go_roundw
          case rel => exact ⟨ks ++ [((⟨sl,si⟩ : Std),(⟨yl,yi⟩ : Std))],by simp,HSf,HRf,HCf⟩
          case measure => exact HLf.out
      ·obtain rfl : i = ts.length:=by omega
       have hnext : l.turns.toNat ≤ p + ts.length * P:=by
        refine Nat.le_of_not_lt fun q => ?_
        have h1:=turnsF_at (P:=l.players) (T:=l.turns) (by rw [HP.out]; omega) l.turns.toNat (p : Int) ts.length (by omega) (by rw [HP.out,← Int.natCast_mul]; omega)
        have h2:=HTS.out;unfold turnsL at h2;rw [← h2] at h1;rw [List.getElem?_eq_none (Nat.le_refl _)] at h1
        cases h1
       have HRn:=HRi.out;rw [spT_next hnext,spT_next hnext,spT_next hnext] at HRn;have HRN:=Lib.hid (HRn.less (F':=fun q => (q = gb ∨ q = hb ∨ q = kb) ∨ q = b1 ∨ q = b2 ∨ q = b3) (fun q h => HOO.out.sub q h) ⟨.inl (.inl rfl),.inl (.inr (.inl rfl)),.inl (.inr (.inr rfl)),.inr (.inl rfl),.inr (.inr (.inl rfl)),.inr (.inr (.inr rfl))⟩)
       have HA2 : Hid (∀ p' < p + 1,(playerL l (allS list) (p' : Int)).isSome = true):=Lib.hid fun p' h => by
        by_cases c : p' < p
        ·exact HA.out p' c
        ·rw [show p' = p by omega,HPL.out,if_neg HM0.out]; rfl
       have hwp : IntKind.i64.wrap ((p : Int) + 1) = (p : Int) + 1:=wrap_small _ (by omega) (by omega)
       clear HRn hnext HRi HCi;go_wp2;go_roundw
       case rel => exact ⟨p + 1,rfl,rfl,rfl,by omega,by go_num,HRN,HA2⟩
       case measure => simp [intOf]; omega
    ·have hm0 : m = 0:=of_decide_eq_true HZZ.out
     have hte : te = 9:=by
      rw [HTE.out,if_neg (by simp [HE.out]),if_neg]
      rw [List.all_eq_true];intro hall;have:=hall p (by rw [List.mem_range,HP.out]; omega)
      rw [HPL.out,if_pos hm0] at this;cases this
     have HTE9:=Lib.hid hte;have HBF : Hid (Below w.heap.size w w7):=Lib.hid (HB5.out.trans ⟨HR7.out.chg.os,HR7.out.chg.tape,HR7.out.chg.output,HR7.out.chg.size,fun q hq => HR7.out.chg.block q (by omega) (by omega)⟩)
     clear hte HTE hm0;go_wp2;refine bodyPost_ret (v:=.tuple #[.slice none 0 0,.slice none 0 0,.slice none 0 0,.int .i64 9]) (by simp [results,Tryz.results10,go_sem]) rfl ?_
     exact ⟨_,_,_,by rw [HTE9.out],HBF.out,fun _ => ⟨rfl,rfl,rfl⟩,fun e => by rw [HTE9.out] at e; cases e⟩
   ·obtain rfl : p = P:=by omega
    have hte : te = 0:=by
     rw [HTE.out,if_neg (by simp [HE.out]),if_pos]
     rw [List.all_eq_true];intro p' hp';rw [List.mem_range,HP.out] at hp';exact HA.out p' (by omega)
    have HTE0:=Lib.hid hte;have hPp : ∀ t,t % p < p:=fun t => Nat.mod_lt _ (by omega)
    have f1:=HR.out.r1;have f2:=HR.out.r2;have f3:=HR.out.r3;rw [spT_done hPp] at f1 f2 f3;have HFF:=Lib.hid (And.intro f1 (And.intro f2 f3));have HBF : Hid (Below w.heap.size w wo):=Lib.hid (HB5.out.trans ⟨HR.out.chg.os,HR.out.chg.tape,HR.out.chg.output,HR.out.chg.size,fun q hq => HR.out.chg.block q (by omega) (by omega)⟩)
    clear hte hPp f1 f2 f3 HTE;go_wp2;have hT2 : l.turns.toNat = T:=by rw [HT.out]; omega
    refine bodyPost_ret (v:=.tuple #[.slice (some ⟨b1,0,none⟩) T T,.slice (some ⟨b2,0,none⟩) T T,.slice (some ⟨b3,0,none⟩) T T,.int .i64 0]) (by simp [results,Tryz.results10,go_sem]) rfl ?_
    refine ⟨_,_,_,by rw [HTE0.out],HBF.out,fun e => (e HTE0.out).elim,fun _ => ⟨b1,b2,b3,by rw [hT2],by rw [hT2],by rw [hT2],by omega,by omega,by omega,HFF.out⟩⟩
 ·have he : ec ≠ 0:=by simpa using HZ.out
  have ht : te = ec:=by rw [HTE.out,if_pos he]
  clear HTE;subst ht;have HNE:=Lib.hid he;clear c0 c1 c2 c3 c4 c5 c6 he;go_wp2;go_returns;exact ⟨_,_,_,rfl,HB2.out,fun _ => ⟨rfl,rfl,rfl⟩,fun e => (HNE.out e).elim⟩
open Go.RowKit Go.Oche Go.Proofs

def bitsN (n s : Nat) : List Nat:=(List.range n).filter fun i => s.testBit i
def MinS (n : Nat) (is : Nat → Bool) (k : Nat) (x : List Nat) : Prop:=(∃ s,s < k ∧ is s = true ∧ x = bitsN n s) ∧ ∀ s,s < k → is s = true → x.length ≤ (bitsN n s).length
theorem MinS.len {n : Nat} {is : Nat → Bool} {k : Nat} {x y : List Nat} (h : MinS n is k x) (h' : MinS n is k y) : x.length = y.length:=by
 obtain ⟨⟨s,h1,h2,rfl⟩,h3⟩ := h;obtain ⟨⟨t,k1,k2,rfl⟩,k3⟩ := h';have:=h3 t k1 k2;have:=k3 s h1 h2;omega
theorem MinS.zero {n : Nat} {is : Nat → Bool} {x : List Nat} : ¬ MinS n is 0 x:=fun ⟨⟨s,h,_⟩,_⟩ => by omega
theorem MinS.no {n : Nat} {is : Nat → Bool} {k : Nat} (h : is k = false) {x : List Nat} : MinS n is (k + 1) x ↔ MinS n is k x:=by
 constructor
 ·rintro ⟨⟨s,h1,h2,h3⟩,h4⟩
  have : s ≠ k:=fun e => by rw [e,h] at h2; cases h2
  exact ⟨⟨s,by omega,h2,h3⟩,fun t ht hi => h4 t (by omega) hi⟩
 ·rintro ⟨⟨s,h1,h2,h3⟩,h4⟩
  refine ⟨⟨s,by omega,h2,h3⟩,fun t ht hi => h4 t ?_ hi⟩
  have : t ≠ k:=fun e => by rw [e,h] at hi; cases hi
  omega
theorem MinS.some {n : Nat} {is : Nat → Bool} : ∀ {k : Nat},(∃ s,s < k ∧ is s = true) → ∃ x,MinS n is k x
 | 0,h => by obtain ⟨s,h,_⟩ := h; omega
 | k + 1,h => by
  by_cases hk : is k = true
  ·by_cases he : ∃ s,s < k ∧ is s = true
   ·obtain ⟨x,hx⟩ := MinS.some he
    by_cases c : x.length ≤ (bitsN n k).length
    ·obtain ⟨⟨s,h1,h2,h3⟩,h4⟩ := hx
     refine ⟨x,⟨s,by omega,h2,h3⟩,fun t ht hi => ?_⟩
     by_cases e : t = k
     ·rw [e]; exact c
     ·exact h4 t (by omega) hi
    ·obtain ⟨-,h4⟩ := hx
     refine ⟨bitsN n k,⟨k,by omega,hk,rfl⟩,fun t ht hi => ?_⟩
     by_cases e : t = k
     ·rw [e]; omega
     ·have:=h4 t (by omega) hi; omega
   ·refine ⟨bitsN n k,⟨k,by omega,hk,rfl⟩,fun t ht hi => ?_⟩
    by_cases e : t = k
    ·rw [e]; omega
    ·exact (he ⟨t,by omega,hi⟩).elim
  ·obtain ⟨s,h1,h2⟩ := h
   have hf : is k = false:=by simpa using hk
   have : s ≠ k:=fun e => by rw [e,hf] at h2; cases h2
   obtain ⟨x,hx⟩ := MinS.some (n:=n) (is:=is) (k:=k) ⟨s,by omega,h2⟩
   exact ⟨x,(MinS.no hf).2 hx⟩
theorem MinS.first {n : Nat} {is : Nat → Bool} {k : Nat} (h : is k = true) (hn : ∀ x, ¬ MinS n is k x) {x : List Nat} : MinS n is (k + 1) x ↔ x = bitsN n k:=by
 have hno : ∀ s,s < k → is s = false:=fun s hs => by
  cases e : is s
  ·rfl
  ·obtain ⟨x,hx⟩ := MinS.some (n:=n) ⟨s,hs,e⟩; exact (hn x hx).elim
 constructor
 ·rintro ⟨⟨s,h1,h2,h3⟩,_⟩
  have : s = k:=by
   by_cases e : s < k
   ·rw [hno s e] at h2; cases h2
   ·omega
  rw [h3,this]
 ·rintro rfl
  refine ⟨⟨k,by omega,h,rfl⟩,fun t ht hi => ?_⟩
  have : t = k:=by
   by_cases e : t < k
   ·rw [hno t e] at hi; cases hi
   ·omega
  rw [this]; omega
def smallerN : List Nat → List Nat → Bool
 | a :: l1,b :: bs => if a = b then smallerN l1 bs else decide (a < b)
 | _,_ => false
theorem smaller_irrefl : ∀ a,smallerN a a = false
 | [] => rfl
 | a :: l1 => by rw [smallerN,if_pos rfl]; exact smaller_irrefl l1
theorem smaller_trans : ∀ {a b c : List Nat},smallerN a b = true → smallerN b c = true → smallerN a c = true
 | [],b,c,h,_ => by cases b <;> cases h
 | a :: l1,[],c,h,_ => by cases h
 | a :: l1,b :: bs,[],_,h => by cases h
 | a :: l1,b :: bs,c :: cs,h,h' => by
  rw [smallerN] at h h' ⊢;by_cases e1 : a = b
  ·subst e1
   rw [if_pos rfl] at h;by_cases e2 : a = c
   ·rw [if_pos e2] at h' ⊢; exact smaller_trans h h'
   ·rw [if_neg e2] at h' ⊢; exact h'
  ·rw [if_neg e1,decide_eq_true_eq] at h
   by_cases e2 : b = c
   ·subst e2; rw [if_neg e1]; exact decide_eq_true h
   ·rw [if_neg e2,decide_eq_true_eq] at h'
    rw [if_neg (by omega)]; exact decide_eq_true (by omega)
theorem asc_unique : ∀ {a b : List (List Nat)},a.Pairwise (fun x y => smallerN x y = true) → b.Pairwise (fun x y => smallerN x y = true) → (∀ x,x ∈ a ↔ x ∈ b) → a = b:=by
 intro a b ha hb h
 have hna : a.Nodup:=ha.imp fun h e => by rw [e,smaller_irrefl] at h; cases h
 have hnb : b.Nodup:=hb.imp fun h e => by rw [e,smaller_irrefl] at h; cases h
 refine List.Perm.eq_of_pairwise (le:=fun x y => smallerN x y = true) (fun x y _ _ h1 h2 => ?_) ha hb ((List.perm_ext_iff_of_nodup hna hnb).2 h)
 have:=smaller_trans h1 h2;rw [smaller_irrefl] at this; cases this
structure IsMin (n : Nat) (is : Nat → Bool) (k : Nat) (out : List (List Nat)) : Prop where
 asc : out.Pairwise fun x y => smallerN x y = true
 mem : ∀ x,x ∈ out ↔ MinS n is k x
theorem IsMin.unique {n : Nat} {is : Nat → Bool} {k : Nat} {a b : List (List Nat)} (h : IsMin n is k a) (h' : IsMin n is k b) : a = b :=
 asc_unique h.asc h'.asc fun x => (h.mem x).trans (h'.mem x).symm
theorem mem_bits {n s i : Nat} : i ∈ bitsN n s ↔ i < n ∧ s.testBit i = true:=by unfold bitsN; rw [List.mem_filter,List.mem_range]
theorem bits_asc (n s : Nat) : (bitsN n s).Pairwise (· < ·):=(List.pairwise_lt_range).filter _
theorem bits_of {n : Nat} (f : Nat → Bool) : ∃ s,s < 2 ^ n ∧ ∀ i,i < n → s.testBit i = f i:=by
 induction n with
 | zero => exact ⟨0,by simp,fun i h => by omega⟩
 | succ n ih =>
  obtain ⟨s,h1,h2⟩ := ih;refine ⟨s + if f n = true then 2 ^ n else 0, ?_,fun i hi => ?_⟩
  ·rw [Nat.pow_succ]; split <;> omega
  ·by_cases e : f n = true
   ·rw [if_pos e,Nat.add_comm]
    by_cases e2 : i = n
    ·subst e2
     rw [Nat.testBit_two_pow_add_eq,Nat.testBit_lt_two_pow h1,e]; rfl
    ·rw [Nat.testBit_two_pow_add_gt (by omega)]; exact h2 i (by omega)
   ·rw [if_neg e,Nat.add_zero]
    by_cases e2 : i = n
    ·subst e2
     rw [Nat.testBit_lt_two_pow h1]; simpa using e
    ·exact h2 i (by omega)
theorem can_less {l : Lg} {list : List Rp} {a b : Nat → Bool} (h : ∀ i,a i = true → b i = true) (hc : canL l list b = true) : canL l list a = true:=by
 unfold canL at hc ⊢;rw [List.all_eq_true] at hc ⊢;intro p hp;obtain ⟨r,hr⟩ := player_some.1 (hc p hp);refine player_some.2 ⟨r,hr.less fun t x hx => ?_⟩
 unfold saidL at hx ⊢;obtain ⟨q,hq,rfl⟩ := List.mem_map.1 hx;obtain ⟨h1,h2⟩ := List.mem_filter.1 hq;rw [Bool.and_eq_true] at h2;exact List.mem_map.2 ⟨q,List.mem_filter.2 ⟨h1,by rw [Bool.and_eq_true]; exact ⟨h2.1,h _ h2.2⟩⟩,rfl⟩
end Go.Proofs.YtnbmgkmcaoafnaaGreatDoor
