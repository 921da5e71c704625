/- The texts HL, in build order. -/
import Derived.Test.YtnhggfnnolfcdaaGreatZam

/- Chapter 4: the best players. -/
namespace Go.Proofs.YtnhggfnnolfcdaaGreat
open Go.RowKit Go.Oche Go.Proofs
theorem compare2_r (r : Rul) (nv : Value) (k : r.kind = 2) (x y : Plr) (hx : PlOk r x) (hy : PlOk r y) (w : World) :
  Calls Tryz.prog 108 #[.agg (rulA r nv),plrV x,plrV y] w fun e w' => e = .returned (.int .i64 (cmpP r x y)) ∧ Below w.heap.size w w':=by
 have:=compare2_any r nv x y hx.len hy.len (fun m hm => ⟨hx.mlo m hm,hx.mhi m hm⟩) (fun m hm => ⟨hy.mlo m hm,hy.mhi m hm⟩) w
 have e : cmpP r x y = (if (if r.cut = true then cmp3 x.pts y.pts else cmp3 y.pts x.pts) = 0 then cmp3 (sumM y) (sumM x) else (if r.cut = true then cmp3 x.pts y.pts else cmp3 y.pts x.pts)):=by unfold cmpP; rw [if_pos k]
 rw [e]; exact this
theorem compare3_r (r : Rul) (nv : Value) (k : r.kind = 3) (x y : Plr) (hx : PlOk r x) (hy : PlOk r y) (w : World) :
  Calls Tryz.prog 120 #[.agg (rulA r nv),plrV x,plrV y] w fun e w' => e = .returned (.int .i64 (cmpP r x y)) ∧ Below w.heap.size w w':=by
 have:=compare3_any r nv x y hx.len hy.len w
 have e : cmpP r x y = cmp3 y.pts x.pts:=by unfold cmpP; rw [if_neg (by omega)]
 rw [e]; exact this
def Least (r : Rul) (l : List Plr) (k : Nat) (m : Plr) : Prop:=m ∈ l ∧ ∀ j,j < k → ∀ h : j < l.length, ¬ cmpP r l[j] m < 0
theorem cmpP_zero {r : Rul} {x y : Plr} : cmpP r x y = 0 ↔ ¬ cmpP r x y < 0 ∧ ¬ cmpP r y x < 0:=by
 have h1 : ∀ a b,cmp3 a b = 0 ↔ a = b:=fun a b => cmp3_eq
 have h2 : ∀ a b,cmp3 a b < 0 ↔ a < b:=fun a b => cmp3_lt
 unfold cmpP
 by_cases k : r.kind = 2
 ·simp only [if_pos k]
  cases r.cut
  ·simp only [Bool.false_eq_true,if_false]
   have a1:=h1 y.pts x.pts; have a2:=h1 x.pts y.pts; have a3:=h1 (sumM y) (sumM x); have a4:=h1 (sumM x) (sumM y)
   have b1:=h2 y.pts x.pts; have b2:=h2 x.pts y.pts; have b3:=h2 (sumM y) (sumM x); have b4:=h2 (sumM x) (sumM y)
   by_cases q1 : cmp3 y.pts x.pts = 0 <;> by_cases q2 : cmp3 x.pts y.pts = 0 <;> (first | rw [if_pos q1] | rw [if_neg q1]) <;> (first | rw [if_pos q2] | rw [if_neg q2]) <;> omega
  ·simp only [if_true]
   have a1:=h1 y.pts x.pts; have a2:=h1 x.pts y.pts; have a3:=h1 (sumM y) (sumM x); have a4:=h1 (sumM x) (sumM y)
   have b1:=h2 y.pts x.pts; have b2:=h2 x.pts y.pts; have b3:=h2 (sumM y) (sumM x); have b4:=h2 (sumM x) (sumM y)
   by_cases q1 : cmp3 y.pts x.pts = 0 <;> by_cases q2 : cmp3 x.pts y.pts = 0 <;> (first | rw [if_pos q1] | rw [if_neg q1]) <;> (first | rw [if_pos q2] | rw [if_neg q2]) <;> omega
 ·simp only [if_neg k]
  have a1:=h1 y.pts x.pts
  have b1:=h2 y.pts x.pts; have b2:=h2 x.pts y.pts
  omega
def bestK (r : Rul) (l : List Plr) (m : Plr) (k : Nat) : List Int:=((List.range k).filter fun i => cmpP r (l.getD i default) m == 0).map fun (i : Nat) => (i : Int)
theorem bestK_succ (r : Rul) (l : List Plr) (m : Plr) (k : Nat) : bestK r l m (k + 1) = bestK r l m k ++ if (cmpP r (l.getD k default) m == 0) = true then [(k : Int)] else []:=by
 unfold bestK
 rw [List.range_succ,List.filter_append,List.map_append]
 congr 1
 cases h : (cmpP r (l.getD k default) m == 0) <;> simp only [List.filter_cons,List.filter_nil,h,if_true,if_false,Bool.false_eq_true,List.map_nil,List.map_cons]
theorem bestK_len (r : Rul) (l : List Plr) (m : Plr) (k : Nat) : (bestK r l m k).length ≤ k:=by
 unfold bestK; rw [List.length_map]; exact Nat.le_trans (List.length_filter_le _ _) (by simp)
theorem bestK_all {r : Rul} {l : List Plr} {m : Plr} (h : Least r l l.length m) : bestK r l m l.length = bestG r l:=by
 unfold bestK bestG
 congr 1
 apply List.filter_congr
 intro i hi
 rw [List.mem_range] at hi
 have hm : ∀ j,j < l.length → ¬ cmpP r (l.getD j default) m < 0:=fun j hj => by rw [getD_of hj]; exact h.2 j hj hj
 rw [Bool.eq_iff_iff,beq_iff_eq,List.all_eq_true,cmpP_zero]
 constructor
 ·intro hz k hk
  rw [List.mem_range] at hk
  have h1:=hm k hk
  have:=cmpP_trans' (r:=r) (x:=l.getD k default) (y:=m) (z:=l.getD i default) h1 hz.2
  simp; simp at this; exact this
 ·intro ha
  refine ⟨hm i hi, ?_⟩
  obtain ⟨k,hk,rfl⟩ := List.getElem_of_mem h.1
  have:=ha k (List.mem_range.2 hk)
  rw [getD_of hk] at this
  simp only [decide_eq_true_eq] at this
  omega
set_option maxRecDepth 100000 in
set_option maxHeartbeats 4000000 in
theorem minFunc2_any (r : Rul) (nv : Value) (kd : r.kind = 2) (l : List Plr) (pb cap : Nat) (w : World) (hP : PlsAt w pb l) (hok : ∀ p ∈ l,PlOk r p) (hn : 0 < l.length) (hc : l.length ≤ cap ∧ cap ≤ 9223372036854775807) :
  Calls Tryz.prog 118 #[.slice (some ⟨pb,0,none⟩) l.length cap,.func (.func 108) #[.agg (rulA r nv)] #[]] w fun e w' => ∃ m,Least r l l.length m ∧ e = .returned (plrV m) ∧ Below w.heap.size w w':=by
 obtain ⟨xP,xa,xb,xc,xd,xe,xf,xg,xk,hx0,x0,x1,x2,x3,x4,x5,x6,x7,x8⟩ := hP.nine hn
 unfold rulA
 obtain ⟨n,hnn⟩ : ∃ n,l.length = n:=⟨_,rfl⟩
 rw [hnn] at hc hn ⊢
 obtain ⟨w0,hw0⟩ : ∃ w0,(w.alloc (.cells #[.int .i64 0,.int .i64 0,.int .i64 0,.int .i64 0,.int .i64 0,.int .i64 0,.int .i64 0,.int .i64 0,.bool false] 80)).alloc (.cells #[.int .i64 xP,.int .i64 xa,.int .i64 xb,.int .i64 xc,.int .i64 xd,.int .i64 xe,.int .i64 xf,.int .i64 xg,.bool xk] 80) = w0:=⟨_,rfl⟩
 have hb0 : Below w.heap.size w w0:=by rw [← hw0]; exact (aB _ _).alloc (by simp) _
 obtain ⟨N,hN⟩ : ∃ N,w.heap.size = N:=⟨_,rfl⟩
 have hA : w0.heap[N]? = some (.cells #[.int .i64 0,.int .i64 0,.int .i64 0,.int .i64 0,.int .i64 0,.int .i64 0,.int .i64 0,.int .i64 0,.bool false] 80 (0,0)):=by rw [← hw0,← hN]; exact heap_old (World.alloc_heap_new _ _)
 have hB : w0.heap[N + 1]? = some (.cells #[.int .i64 xP,.int .i64 xa,.int .i64 xb,.int .i64 xc,.int .i64 xd,.int .i64 xe,.int .i64 xf,.int .i64 xg,.bool xk] 80 (0,0)):=by rw [← hw0,← hN]; exact heap_two _ _ _
 obtain ⟨B,hBN⟩ : ∃ B,N + 1 = B:=⟨_,rfl⟩
 rw [hBN] at hB
 have HNN:=Lib.hid hnn
 have HP:=Lib.hid hP
 have HOK:=Lib.hid hok
 have HW0:=Lib.hid hw0
 have HB0:=Lib.hid hb0
 have HN:=Lib.hid hN
 have HA:=Lib.hid hA
 have HBB:=Lib.hid hB
 have HBN:=Lib.hid hBN
 have HKD:=Lib.hid kd
 have HL0 : Hid (Least r l 1 ⟨xP,[xa,xb,xc,xd,xe,xf,xg],xk⟩):=Lib.hid ⟨by rw [← hx0]; exact List.getElem_mem _,fun j hj hl => by
  obtain rfl : j = 0:=by omega
  rw [hx0]; exact cmpP_self r _⟩
 have hpb : pb < N:=by rw [← hN]; exact hP.lt
 clear hnn hP hok hw0 hb0 hN hA hB hBN hx0 kd
 simp only [Nat.zero_mul,Nat.zero_add] at x0 x1 x2 x3 x4 x5 x6 x7 x8
 replace x0:=bAt (aB w (.cells #[.int .i64 0,.int .i64 0,.int .i64 0,.int .i64 0,.int .i64 0,.int .i64 0,.int .i64 0,.int .i64 0,.bool false] 80)) x0
 replace x1:=bAt (aB w (.cells #[.int .i64 0,.int .i64 0,.int .i64 0,.int .i64 0,.int .i64 0,.int .i64 0,.int .i64 0,.int .i64 0,.bool false] 80)) x1
 replace x2:=bAt (aB w (.cells #[.int .i64 0,.int .i64 0,.int .i64 0,.int .i64 0,.int .i64 0,.int .i64 0,.int .i64 0,.int .i64 0,.bool false] 80)) x2
 replace x3:=bAt (aB w (.cells #[.int .i64 0,.int .i64 0,.int .i64 0,.int .i64 0,.int .i64 0,.int .i64 0,.int .i64 0,.int .i64 0,.bool false] 80)) x3
 replace x4:=bAt (aB w (.cells #[.int .i64 0,.int .i64 0,.int .i64 0,.int .i64 0,.int .i64 0,.int .i64 0,.int .i64 0,.int .i64 0,.bool false] 80)) x4
 replace x5:=bAt (aB w (.cells #[.int .i64 0,.int .i64 0,.int .i64 0,.int .i64 0,.int .i64 0,.int .i64 0,.int .i64 0,.int .i64 0,.bool false] 80)) x5
 replace x6:=bAt (aB w (.cells #[.int .i64 0,.int .i64 0,.int .i64 0,.int .i64 0,.int .i64 0,.int .i64 0,.int .i64 0,.int .i64 0,.bool false] 80)) x6
 replace x7:=bAt (aB w (.cells #[.int .i64 0,.int .i64 0,.int .i64 0,.int .i64 0,.int .i64 0,.int .i64 0,.int .i64 0,.int .i64 0,.bool false] 80)) x7
 replace x8:=bAt (aB w (.cells #[.int .i64 0,.int .i64 0,.int .i64 0,.int .i64 0,.int .i64 0,.int .i64 0,.int .i64 0,.int .i64 0,.bool false] 80)) x8
 go_enter Tryz.func118,Tryz.ntmps118
 go_wp2_with fail
 rw [HW0.out,HN.out,HBN.out]
 clear x0 x1 x2 x3 x4 x5 x6 x7 x8
 go_loopw [6] (fun iv wr => ∃ (k : Nat) (m : Plr),1 ≤ k ∧ k ≤ n ∧ iv = .int .i64 k ∧ Hid (Least r l k m) ∧ Hid (wr.heap[B]? = some (.cells (plrRow m).toArray 80 (0,0))) ∧ Hid (Below N w wr) ∧ Hid (wr.heap[N]? = some (.cells #[.int .i64 0,.int .i64 0,.int .i64 0,.int .i64 0,.int .i64 0,.int .i64 0,.int .i64 0,.int .i64 0,.bool false] 80 (0,0)))) (fun iv _ => n - (intOf iv).toNat)
 case atStart => exact ⟨1,⟨xP,[xa,xb,xc,xd,xe,xf,xg],xk⟩,Nat.le_refl _,hn,rfl,HL0,HBB,Lib.hid (by rw [← HN.out]; exact HB0.out),HA⟩
 case round =>
  obtain ⟨k,m,hk1,hkn,rfl,HL,HBX,HBW,HAX⟩ := hrel
  obtain ⟨wo,rfl⟩ : ∃ wo : World,wo = wr:=⟨_,rfl⟩
  have hm7:=(HOK.out m HL.out.1).len
  have hmok:=HOK.out m HL.out.1
  obtain ⟨mP,mm,mk⟩ := m
  obtain ⟨ma,mb,mc,md,me,mf,mg,rfl⟩ := list_seven hm7
  have HMOK:=Lib.hid hmok
  clear hm7 hmok
  have hx : (plrRow ⟨mP,[ma,mb,mc,md,me,mf,mg],mk⟩).toArray = #[.int .i64 mP,.int .i64 ma,.int .i64 mb,.int .i64 mc,.int .i64 md,.int .i64 me,.int .i64 mf,.int .i64 mg,.bool mk]:=rfl
  rw [hx] at HBX
  clear hx
  have hBW2 : Below w.heap.size w wo:=by rw [HN.out]; exact HBW.out
  by_cases hlt : k < n
  ·have hkl : k < l.length:=by rw [HNN.out]; exact hlt
   obtain ⟨yP,ya,yb,yc,yd,ye,yf,yg,yk,hy,y0,y1,y2,y3,y4,y5,y6,y7,y8⟩ := (HP.out.below hBW2).nine hkl
   have hyok:=HOK.out _ (List.getElem_mem hkl)
   rw [hy] at hyok
   obtain ⟨z,hz⟩ : ∃ z,cmpP r ⟨yP,[ya,yb,yc,yd,ye,yf,yg],yk⟩ ⟨mP,[ma,mb,mc,md,me,mf,mg],mk⟩ = z:=⟨_,rfl⟩
   have hcm : ∀ w',Calls Tryz.prog 108 #[.agg #[.int .i64 r.kind,.int .i64 r.players,.int .i64 r.last,.bool r.bull,.bool r.jump,.int .i64 r.rounds,.bool r.cut,nv,.int .i64 r.lives,.bool r.own],.agg #[.int .i64 yP,.int .i64 ya,.int .i64 yb,.int .i64 yc,.int .i64 yd,.int .i64 ye,.int .i64 yf,.int .i64 yg,.bool yk],.agg #[.int .i64 mP,.int .i64 ma,.int .i64 mb,.int .i64 mc,.int .i64 md,.int .i64 me,.int .i64 mf,.int .i64 mg,.bool mk]] w' fun e w'' => e = .returned (.int .i64 z) ∧ Below w'.heap.size w' w'':=fun w' => by
    rw [← hz]; exact compare2_r r nv HKD.out ⟨yP,[ya,yb,yc,yd,ye,yf,yg],yk⟩ ⟨mP,[ma,mb,mc,md,me,mf,mg],mk⟩ hyok HMOK.out w'
   have HCM:=Lib.hid hcm
   have HZ:=Lib.hid hz
   have HY:=Lib.hid hy
   have HKL:=Lib.hid hlt
   have HYM:=Lib.hid (show ⟨yP,[ya,yb,yc,yd,ye,yf,yg],yk⟩ ∈ l by rw [← hy]; exact List.getElem_mem hkl)
   have HKLL:=Lib.hid hkl
   obtain ⟨zb,hzb⟩ : ∃ zb,decide (z < 0) = zb:=⟨_,rfl⟩
   clear hyok hz hcm hBW2
   go_wp2_with fail
   refine wp_region_seq 8 [.is (.func (.func 108) #[.agg #[.int .i64 r.kind,.int .i64 r.players,.int .i64 r.last,.bool r.bull,.bool r.jump,.int .i64 r.rounds,.bool r.cut,nv,.int .i64 r.lives,.bool r.own]] #[]),.is (.slice (some ⟨pb,0,none⟩) n cap),.is (.int .i64 k),.is (.pointer (some ⟨pb,k * 9,none⟩)),.is (.agg #[.int .i64 yP,.int .i64 ya,.int .i64 yb,.int .i64 yc,.int .i64 yd,.int .i64 ye,.int .i64 yf,.int .i64 yg,.bool yk]),.is (.agg #[.int .i64 mP,.int .i64 ma,.int .i64 mb,.int .i64 mc,.int .i64 md,.int .i64 me,.int .i64 mf,.int .i64 mg,.bool mk]),.is (.int .i64 z),.is (.bool zb)] rfl mix (by kernel_rfl) (by kernel_rfl) ?seqm
   case seqm =>
    simp only [List.take_succ_cons,List.take_zero]
    iterate 6
     refine seq_on (by rfl) (fun w3 hb3 _ => ?_) ?_
     ·have y0':=bAt hb3 y0
      have y1':=bAt hb3 y1
      have y2':=bAt hb3 y2
      have y3':=bAt hb3 y3
      have y4':=bAt hb3 y4
      have y5':=bAt hb3 y5
      have y6':=bAt hb3 y6
      have y7':=bAt hb3 y7
      have y8':=bAt hb3 y8
      have hB:=(hb3.block _ (Array.getElem?_eq_some_iff.1 HBX.out).1).trans HBX.out
      have m0 : w3.cell? ⟨B,0,none⟩ = _:=cell_of_heap (o:=0) hB
      have m1 : w3.cell? ⟨B,1,none⟩ = _:=cell_of_heap (o:=1) hB
      have m2 : w3.cell? ⟨B,2,none⟩ = _:=cell_of_heap (o:=2) hB
      have m3 : w3.cell? ⟨B,3,none⟩ = _:=cell_of_heap (o:=3) hB
      have m4 : w3.cell? ⟨B,4,none⟩ = _:=cell_of_heap (o:=4) hB
      have m5 : w3.cell? ⟨B,5,none⟩ = _:=cell_of_heap (o:=5) hB
      have m6 : w3.cell? ⟨B,6,none⟩ = _:=cell_of_heap (o:=6) hB
      have m7 : w3.cell? ⟨B,7,none⟩ = _:=cell_of_heap (o:=7) hB
      have m8 : w3.cell? ⟨B,8,none⟩ = _:=cell_of_heap (o:=8) hB
      have hkl:=HKL.out
      simp [opOK,go_sem,y0',m0,y1',m1,y2',m2,y3',m3,y4',m4,y5',m5,y6',m6,y7',m7,y8',m8,hkl,Below.refl]
      try exact rfl
     simp only [Act.put,List.setIfInBounds_toArray,List.set_cons_succ,List.set_cons_zero]
    refine seq_on (by rfl) (fun w3 hb3 hH => ?_) ?_
    ·have y0':=bAt hb3 y0
     have y1':=bAt hb3 y1
     have y2':=bAt hb3 y2
     have y3':=bAt hb3 y3
     have y4':=bAt hb3 y4
     have y5':=bAt hb3 y5
     have y6':=bAt hb3 y6
     have y7':=bAt hb3 y7
     have y8':=bAt hb3 y8
     have hB:=(hb3.block _ (Array.getElem?_eq_some_iff.1 HBX.out).1).trans HBX.out
     have m0 : w3.cell? ⟨B,0,none⟩ = _:=cell_of_heap (o:=0) hB
     have m1 : w3.cell? ⟨B,1,none⟩ = _:=cell_of_heap (o:=1) hB
     have m2 : w3.cell? ⟨B,2,none⟩ = _:=cell_of_heap (o:=2) hB
     have m3 : w3.cell? ⟨B,3,none⟩ = _:=cell_of_heap (o:=3) hB
     have m4 : w3.cell? ⟨B,4,none⟩ = _:=cell_of_heap (o:=4) hB
     have m5 : w3.cell? ⟨B,5,none⟩ = _:=cell_of_heap (o:=5) hB
     have m6 : w3.cell? ⟨B,6,none⟩ = _:=cell_of_heap (o:=6) hB
     have m7 : w3.cell? ⟨B,7,none⟩ = _:=cell_of_heap (o:=7) hB
     have m8 : w3.cell? ⟨B,8,none⟩ = _:=cell_of_heap (o:=8) hB
     have hkl:=HKL.out
     refine opOK_call (f:=108) (args:=#[.agg #[.int .i64 r.kind,.int .i64 r.players,.int .i64 r.last,.bool r.bull,.bool r.jump,.int .i64 r.rounds,.bool r.cut,nv,.int .i64 r.lives,.bool r.own],.agg #[.int .i64 yP,.int .i64 ya,.int .i64 yb,.int .i64 yc,.int .i64 yd,.int .i64 ye,.int .i64 yf,.int .i64 yg,.bool yk],.agg #[.int .i64 mP,.int .i64 ma,.int .i64 mb,.int .i64 mc,.int .i64 md,.int .i64 me,.int .i64 mf,.int .i64 mg,.bool mk]]) (by simp [go_sem]) ?_
     exact (HCM.out w3).mono fun e W' ⟨he,hb⟩ => ⟨_,he,rfl,hb⟩
    simp only [Act.put,List.setIfInBounds_toArray,List.set_cons_succ,List.set_cons_zero]
    refine seq_on (by rfl) (fun w3 hb3 _ => ?_) ?_
    ·have y0':=bAt hb3 y0
     have y1':=bAt hb3 y1
     have y2':=bAt hb3 y2
     have y3':=bAt hb3 y3
     have y4':=bAt hb3 y4
     have y5':=bAt hb3 y5
     have y6':=bAt hb3 y6
     have y7':=bAt hb3 y7
     have y8':=bAt hb3 y8
     have hB:=(hb3.block _ (Array.getElem?_eq_some_iff.1 HBX.out).1).trans HBX.out
     have m0 : w3.cell? ⟨B,0,none⟩ = _:=cell_of_heap (o:=0) hB
     have m1 : w3.cell? ⟨B,1,none⟩ = _:=cell_of_heap (o:=1) hB
     have m2 : w3.cell? ⟨B,2,none⟩ = _:=cell_of_heap (o:=2) hB
     have m3 : w3.cell? ⟨B,3,none⟩ = _:=cell_of_heap (o:=3) hB
     have m4 : w3.cell? ⟨B,4,none⟩ = _:=cell_of_heap (o:=4) hB
     have m5 : w3.cell? ⟨B,5,none⟩ = _:=cell_of_heap (o:=5) hB
     have m6 : w3.cell? ⟨B,6,none⟩ = _:=cell_of_heap (o:=6) hB
     have m7 : w3.cell? ⟨B,7,none⟩ = _:=cell_of_heap (o:=7) hB
     have m8 : w3.cell? ⟨B,8,none⟩ = _:=cell_of_heap (o:=8) hB
     have hkl:=HKL.out
     simp [opOK,go_sem,hzb,Below.refl]
     try exact rfl
    simp only [Act.put,List.setIfInBounds_toArray,List.set_cons_succ,List.set_cons_zero]
    refine seq_end fun w3 hb3 _ => ?_
    simp only [List.drop_succ_cons,List.drop_zero]
    have HB3:=Lib.hid ((hb3.block _ (Array.getElem?_eq_some_iff.1 HBX.out).1).trans HBX.out)
    have HA3:=Lib.hid ((hb3.block _ (Array.getElem?_eq_some_iff.1 HAX.out).1).trans HAX.out)
    have HW3:=Lib.hid (HBW.out.trans (hb3.mono (by have:=HBW.out.size; have:=HN.out; omega)))
    have HZB:=Lib.hid hzb
    replace y0:=bAt hb3 y0
    replace y1:=bAt hb3 y1
    replace y2:=bAt hb3 y2
    replace y3:=bAt hb3 y3
    replace y4:=bAt hb3 y4
    replace y5:=bAt hb3 y5
    replace y6:=bAt hb3 y6
    replace y7:=bAt hb3 y7
    replace y8:=bAt hb3 y8
    clear hb3 hzb
    cases zb
    ·have hz0 : ¬ z < 0:=by simpa using HZB.out
     have HL2 : Hid (Least r l (k + 1) ⟨mP,[ma,mb,mc,md,me,mf,mg],mk⟩):=Lib.hid ⟨HL.out.1,fun j hj h => by
      by_cases e : j = k
      ·subst e; rw [HY.out,HZ.out]; exact hz0
      ·exact HL.out.2 j (by omega) h⟩
     clear hz0 y0 y1 y2 y3 y4 y5 y6 y7 y8
     go_wp2
     go_roundw
     case rel => exact ⟨k + 1,⟨mP,[ma,mb,mc,md,me,mf,mg],mk⟩,by omega,by omega,by go_num,HL2,HB3,HW3,HA3⟩
     case measure => simp [intOf]; omega
    ·have hz0 : z < 0:=by simpa using HZB.out
     have HL2 : Hid (Least r l (k + 1) ⟨yP,[ya,yb,yc,yd,ye,yf,yg],yk⟩):=Lib.hid ⟨HYM.out,fun j hj h => by
      by_cases e : j = k
      ·subst e; rw [HY.out]; exact cmpP_self r _
      ·intro hl; exact HL.out.2 j (by omega) h (cmpP_trans hl (by rw [HZ.out]; exact hz0))⟩
     clear hz0
     have hkn:=HKL.out
     go_wp2_with (refine wpList_opOK rfl (opOK_store_row 80 (.tmp 5) (.tmp 31) rfl B #[.int .i64 yP,.int .i64 ya,.int .i64 yb,.int .i64 yc,.int .i64 yd,.int .i64 ye,.int .i64 yf,.int .i64 yg,.bool yk] rfl rfl 80 _ HB3.out (by kernel_rfl) rfl (by simp [Value.oneCell']) (R:=fun v w' => v = undef ∧ w' = w3.setRow B #[.int .i64 yP,.int .i64 ya,.int .i64 yb,.int .i64 yc,.int .i64 yd,.int .i64 ye,.int .i64 yf,.int .i64 yg,.bool yk]) ⟨rfl,rfl⟩) ?_; rintro v w4 ⟨rfl,rfl⟩)
     have hb4 : (w3.setRow B #[.int .i64 yP,.int .i64 ya,.int .i64 yb,.int .i64 yc,.int .i64 yd,.int .i64 ye,.int .i64 yf,.int .i64 yg,.bool yk]).heap[B]? = some (.cells #[.int .i64 yP,.int .i64 ya,.int .i64 yb,.int .i64 yc,.int .i64 yd,.int .i64 ye,.int .i64 yf,.int .i64 yg,.bool yk] 80 (0,0)):=setRow_heap w3 B _ _ _ _ HB3.out
     have ha4 : (w3.setRow B #[.int .i64 yP,.int .i64 ya,.int .i64 yb,.int .i64 yc,.int .i64 yd,.int .i64 ye,.int .i64 yf,.int .i64 yg,.bool yk]).heap[N]? = _:=(setRow_other w3 B N _ (by have:=HBN.out; omega)).trans HA3.out
     have hw4 : Below N w (w3.setRow B #[.int .i64 yP,.int .i64 ya,.int .i64 yb,.int .i64 yc,.int .i64 yd,.int .i64 ye,.int .i64 yf,.int .i64 yg,.bool yk]):=below_setRow HW3.out (by have:=HBN.out; omega) _
     have HB4:=Lib.hid hb4
     have HA4:=Lib.hid ha4
     have HW4:=Lib.hid hw4
     clear hb4 ha4 hw4 y0 y1 y2 y3 y4 y5 y6 y7 y8
     go_wp2
     go_roundw
     case rel => exact ⟨k + 1,⟨yP,[ya,yb,yc,yd,ye,yf,yg],yk⟩,by omega,by omega,by go_num,HL2,HB4,HW4,HA4⟩
     case measure => simp [intOf]; omega
  ·obtain rfl : k = n:=by omega
   have hB:=HBX.out
   have m0 : wo.cell? ⟨B,0,none⟩ = _:=cell_of_heap (o:=0) hB
   have m1 : wo.cell? ⟨B,1,none⟩ = _:=cell_of_heap (o:=1) hB
   have m2 : wo.cell? ⟨B,2,none⟩ = _:=cell_of_heap (o:=2) hB
   have m3 : wo.cell? ⟨B,3,none⟩ = _:=cell_of_heap (o:=3) hB
   have m4 : wo.cell? ⟨B,4,none⟩ = _:=cell_of_heap (o:=4) hB
   have m5 : wo.cell? ⟨B,5,none⟩ = _:=cell_of_heap (o:=5) hB
   have m6 : wo.cell? ⟨B,6,none⟩ = _:=cell_of_heap (o:=6) hB
   have m7 : wo.cell? ⟨B,7,none⟩ = _:=cell_of_heap (o:=7) hB
   have m8 : wo.cell? ⟨B,8,none⟩ = _:=cell_of_heap (o:=8) hB
   simp at m0 m1 m2 m3 m4 m5 m6 m7 m8
   clear hB
   go_wp2_with (refine wpList_opOK rfl (opOK_store_row 80 (.tmp 4) (.tmp 32) rfl N #[.int .i64 mP,.int .i64 ma,.int .i64 mb,.int .i64 mc,.int .i64 md,.int .i64 me,.int .i64 mf,.int .i64 mg,.bool mk] rfl rfl 80 _ HAX.out (by kernel_rfl) rfl (by simp [Value.oneCell']) (R:=fun v w' => v = undef ∧ w' = wo.setRow N #[.int .i64 mP,.int .i64 ma,.int .i64 mb,.int .i64 mc,.int .i64 md,.int .i64 me,.int .i64 mf,.int .i64 mg,.bool mk]) ⟨rfl,rfl⟩) ?_; rintro v w4 ⟨rfl,rfl⟩)
   have ha4 : (wo.setRow N #[.int .i64 mP,.int .i64 ma,.int .i64 mb,.int .i64 mc,.int .i64 md,.int .i64 me,.int .i64 mf,.int .i64 mg,.bool mk]).heap[N]? = some (.cells #[.int .i64 mP,.int .i64 ma,.int .i64 mb,.int .i64 mc,.int .i64 md,.int .i64 me,.int .i64 mf,.int .i64 mg,.bool mk] 80 (0,0)):=setRow_heap wo N _ _ _ _ HAX.out
   have hw4 : Below N w (wo.setRow N #[.int .i64 mP,.int .i64 ma,.int .i64 mb,.int .i64 mc,.int .i64 md,.int .i64 me,.int .i64 mf,.int .i64 mg,.bool mk]):=below_setRow HBW.out (by omega) _
   have HW4:=Lib.hid hw4
   have HA4:=Lib.hid ha4
   have r0 : (wo.setRow N #[.int .i64 mP,.int .i64 ma,.int .i64 mb,.int .i64 mc,.int .i64 md,.int .i64 me,.int .i64 mf,.int .i64 mg,.bool mk]).cell? ⟨N,0,none⟩ = _:=cell_of_heap (o:=0) ha4
   have r1 : (wo.setRow N #[.int .i64 mP,.int .i64 ma,.int .i64 mb,.int .i64 mc,.int .i64 md,.int .i64 me,.int .i64 mf,.int .i64 mg,.bool mk]).cell? ⟨N,1,none⟩ = _:=cell_of_heap (o:=1) ha4
   have r2 : (wo.setRow N #[.int .i64 mP,.int .i64 ma,.int .i64 mb,.int .i64 mc,.int .i64 md,.int .i64 me,.int .i64 mf,.int .i64 mg,.bool mk]).cell? ⟨N,2,none⟩ = _:=cell_of_heap (o:=2) ha4
   have r3 : (wo.setRow N #[.int .i64 mP,.int .i64 ma,.int .i64 mb,.int .i64 mc,.int .i64 md,.int .i64 me,.int .i64 mf,.int .i64 mg,.bool mk]).cell? ⟨N,3,none⟩ = _:=cell_of_heap (o:=3) ha4
   have r4 : (wo.setRow N #[.int .i64 mP,.int .i64 ma,.int .i64 mb,.int .i64 mc,.int .i64 md,.int .i64 me,.int .i64 mf,.int .i64 mg,.bool mk]).cell? ⟨N,4,none⟩ = _:=cell_of_heap (o:=4) ha4
   have r5 : (wo.setRow N #[.int .i64 mP,.int .i64 ma,.int .i64 mb,.int .i64 mc,.int .i64 md,.int .i64 me,.int .i64 mf,.int .i64 mg,.bool mk]).cell? ⟨N,5,none⟩ = _:=cell_of_heap (o:=5) ha4
   have r6 : (wo.setRow N #[.int .i64 mP,.int .i64 ma,.int .i64 mb,.int .i64 mc,.int .i64 md,.int .i64 me,.int .i64 mf,.int .i64 mg,.bool mk]).cell? ⟨N,6,none⟩ = _:=cell_of_heap (o:=6) ha4
   have r7 : (wo.setRow N #[.int .i64 mP,.int .i64 ma,.int .i64 mb,.int .i64 mc,.int .i64 md,.int .i64 me,.int .i64 mf,.int .i64 mg,.bool mk]).cell? ⟨N,7,none⟩ = _:=cell_of_heap (o:=7) ha4
   have r8 : (wo.setRow N #[.int .i64 mP,.int .i64 ma,.int .i64 mb,.int .i64 mc,.int .i64 md,.int .i64 me,.int .i64 mf,.int .i64 mg,.bool mk]).cell? ⟨N,8,none⟩ = _:=cell_of_heap (o:=8) ha4
   simp at r0 r1 r2 r3 r4 r5 r6 r7 r8
   clear hw4 ha4 m0 m1 m2 m3 m4 m5 m6 m7 m8
   go_wp2
   exact bodyPost_ret (v:=.agg #[.int .i64 mP,.int .i64 ma,.int .i64 mb,.int .i64 mc,.int .i64 md,.int .i64 me,.int .i64 mf,.int .i64 mg,.bool mk]) (by simp [results,Tryz.results118,go_sem,r0,r1,r2,r3,r4,r5,r6,r7,r8]) rfl ⟨⟨mP,[ma,mb,mc,md,me,mf,mg],mk⟩,HL.out,rfl,by rw [HN.out]; exact HW4.out⟩
set_option maxRecDepth 100000 in
set_option maxHeartbeats 4000000 in
theorem minFunc3_any (r : Rul) (nv : Value) (kd : r.kind = 3) (l : List Plr) (pb cap : Nat) (w : World) (hP : PlsAt w pb l) (hok : ∀ p ∈ l,PlOk r p) (hn : 0 < l.length) (hc : l.length ≤ cap ∧ cap ≤ 9223372036854775807) :
  Calls Tryz.prog 118 #[.slice (some ⟨pb,0,none⟩) l.length cap,.func (.func 120) #[.agg (rulA r nv)] #[]] w fun e w' => ∃ m,Least r l l.length m ∧ e = .returned (plrV m) ∧ Below w.heap.size w w':=by
 obtain ⟨xP,xa,xb,xc,xd,xe,xf,xg,xk,hx0,x0,x1,x2,x3,x4,x5,x6,x7,x8⟩ := hP.nine hn
 unfold rulA
 obtain ⟨n,hnn⟩ : ∃ n,l.length = n:=⟨_,rfl⟩
 rw [hnn] at hc hn ⊢
 obtain ⟨w0,hw0⟩ : ∃ w0,(w.alloc (.cells #[.int .i64 0,.int .i64 0,.int .i64 0,.int .i64 0,.int .i64 0,.int .i64 0,.int .i64 0,.int .i64 0,.bool false] 80)).alloc (.cells #[.int .i64 xP,.int .i64 xa,.int .i64 xb,.int .i64 xc,.int .i64 xd,.int .i64 xe,.int .i64 xf,.int .i64 xg,.bool xk] 80) = w0:=⟨_,rfl⟩
 have hb0 : Below w.heap.size w w0:=by rw [← hw0]; exact (aB _ _).alloc (by simp) _
 obtain ⟨N,hN⟩ : ∃ N,w.heap.size = N:=⟨_,rfl⟩
 have hA : w0.heap[N]? = some (.cells #[.int .i64 0,.int .i64 0,.int .i64 0,.int .i64 0,.int .i64 0,.int .i64 0,.int .i64 0,.int .i64 0,.bool false] 80 (0,0)):=by rw [← hw0,← hN]; exact heap_old (World.alloc_heap_new _ _)
 have hB : w0.heap[N + 1]? = some (.cells #[.int .i64 xP,.int .i64 xa,.int .i64 xb,.int .i64 xc,.int .i64 xd,.int .i64 xe,.int .i64 xf,.int .i64 xg,.bool xk] 80 (0,0)):=by rw [← hw0,← hN]; exact heap_two _ _ _
 obtain ⟨B,hBN⟩ : ∃ B,N + 1 = B:=⟨_,rfl⟩
 rw [hBN] at hB
 have HNN:=Lib.hid hnn
 have HP:=Lib.hid hP
 have HOK:=Lib.hid hok
 have HW0:=Lib.hid hw0
 have HB0:=Lib.hid hb0
 have HN:=Lib.hid hN
 have HA:=Lib.hid hA
 have HBB:=Lib.hid hB
 have HBN:=Lib.hid hBN
 have HKD:=Lib.hid kd
 have HL0 : Hid (Least r l 1 ⟨xP,[xa,xb,xc,xd,xe,xf,xg],xk⟩):=Lib.hid ⟨by rw [← hx0]; exact List.getElem_mem _,fun j hj hl => by
  obtain rfl : j = 0:=by omega
  rw [hx0]; exact cmpP_self r _⟩
 have hpb : pb < N:=by rw [← hN]; exact hP.lt
 clear hnn hP hok hw0 hb0 hN hA hB hBN hx0 kd
 simp only [Nat.zero_mul,Nat.zero_add] at x0 x1 x2 x3 x4 x5 x6 x7 x8
 replace x0:=bAt (aB w (.cells #[.int .i64 0,.int .i64 0,.int .i64 0,.int .i64 0,.int .i64 0,.int .i64 0,.int .i64 0,.int .i64 0,.bool false] 80)) x0
 replace x1:=bAt (aB w (.cells #[.int .i64 0,.int .i64 0,.int .i64 0,.int .i64 0,.int .i64 0,.int .i64 0,.int .i64 0,.int .i64 0,.bool false] 80)) x1
 replace x2:=bAt (aB w (.cells #[.int .i64 0,.int .i64 0,.int .i64 0,.int .i64 0,.int .i64 0,.int .i64 0,.int .i64 0,.int .i64 0,.bool false] 80)) x2
 replace x3:=bAt (aB w (.cells #[.int .i64 0,.int .i64 0,.int .i64 0,.int .i64 0,.int .i64 0,.int .i64 0,.int .i64 0,.int .i64 0,.bool false] 80)) x3
 replace x4:=bAt (aB w (.cells #[.int .i64 0,.int .i64 0,.int .i64 0,.int .i64 0,.int .i64 0,.int .i64 0,.int .i64 0,.int .i64 0,.bool false] 80)) x4
 replace x5:=bAt (aB w (.cells #[.int .i64 0,.int .i64 0,.int .i64 0,.int .i64 0,.int .i64 0,.int .i64 0,.int .i64 0,.int .i64 0,.bool false] 80)) x5
 replace x6:=bAt (aB w (.cells #[.int .i64 0,.int .i64 0,.int .i64 0,.int .i64 0,.int .i64 0,.int .i64 0,.int .i64 0,.int .i64 0,.bool false] 80)) x6
 replace x7:=bAt (aB w (.cells #[.int .i64 0,.int .i64 0,.int .i64 0,.int .i64 0,.int .i64 0,.int .i64 0,.int .i64 0,.int .i64 0,.bool false] 80)) x7
 replace x8:=bAt (aB w (.cells #[.int .i64 0,.int .i64 0,.int .i64 0,.int .i64 0,.int .i64 0,.int .i64 0,.int .i64 0,.int .i64 0,.bool false] 80)) x8
 go_enter Tryz.func118,Tryz.ntmps118
 go_wp2_with fail
 rw [HW0.out,HN.out,HBN.out]
 clear x0 x1 x2 x3 x4 x5 x6 x7 x8
 go_loopw [6] (fun iv wr => ∃ (k : Nat) (m : Plr),1 ≤ k ∧ k ≤ n ∧ iv = .int .i64 k ∧ Hid (Least r l k m) ∧ Hid (wr.heap[B]? = some (.cells (plrRow m).toArray 80 (0,0))) ∧ Hid (Below N w wr) ∧ Hid (wr.heap[N]? = some (.cells #[.int .i64 0,.int .i64 0,.int .i64 0,.int .i64 0,.int .i64 0,.int .i64 0,.int .i64 0,.int .i64 0,.bool false] 80 (0,0)))) (fun iv _ => n - (intOf iv).toNat)
 case atStart => exact ⟨1,⟨xP,[xa,xb,xc,xd,xe,xf,xg],xk⟩,Nat.le_refl _,hn,rfl,HL0,HBB,Lib.hid (by rw [← HN.out]; exact HB0.out),HA⟩
 case round =>
  obtain ⟨k,m,hk1,hkn,rfl,HL,HBX,HBW,HAX⟩ := hrel
  obtain ⟨wo,rfl⟩ : ∃ wo : World,wo = wr:=⟨_,rfl⟩
  have hm7:=(HOK.out m HL.out.1).len
  have hmok:=HOK.out m HL.out.1
  obtain ⟨mP,mm,mk⟩ := m
  obtain ⟨ma,mb,mc,md,me,mf,mg,rfl⟩ := list_seven hm7
  have HMOK:=Lib.hid hmok
  clear hm7 hmok
  have hx : (plrRow ⟨mP,[ma,mb,mc,md,me,mf,mg],mk⟩).toArray = #[.int .i64 mP,.int .i64 ma,.int .i64 mb,.int .i64 mc,.int .i64 md,.int .i64 me,.int .i64 mf,.int .i64 mg,.bool mk]:=rfl
  rw [hx] at HBX
  clear hx
  have hBW2 : Below w.heap.size w wo:=by rw [HN.out]; exact HBW.out
  by_cases hlt : k < n
  ·have hkl : k < l.length:=by rw [HNN.out]; exact hlt
   obtain ⟨yP,ya,yb,yc,yd,ye,yf,yg,yk,hy,y0,y1,y2,y3,y4,y5,y6,y7,y8⟩ := (HP.out.below hBW2).nine hkl
   have hyok:=HOK.out _ (List.getElem_mem hkl)
   rw [hy] at hyok
   obtain ⟨z,hz⟩ : ∃ z,cmpP r ⟨yP,[ya,yb,yc,yd,ye,yf,yg],yk⟩ ⟨mP,[ma,mb,mc,md,me,mf,mg],mk⟩ = z:=⟨_,rfl⟩
   have hcm : ∀ w',Calls Tryz.prog 120 #[.agg #[.int .i64 r.kind,.int .i64 r.players,.int .i64 r.last,.bool r.bull,.bool r.jump,.int .i64 r.rounds,.bool r.cut,nv,.int .i64 r.lives,.bool r.own],.agg #[.int .i64 yP,.int .i64 ya,.int .i64 yb,.int .i64 yc,.int .i64 yd,.int .i64 ye,.int .i64 yf,.int .i64 yg,.bool yk],.agg #[.int .i64 mP,.int .i64 ma,.int .i64 mb,.int .i64 mc,.int .i64 md,.int .i64 me,.int .i64 mf,.int .i64 mg,.bool mk]] w' fun e w'' => e = .returned (.int .i64 z) ∧ Below w'.heap.size w' w'':=fun w' => by
    rw [← hz]; exact compare3_r r nv HKD.out ⟨yP,[ya,yb,yc,yd,ye,yf,yg],yk⟩ ⟨mP,[ma,mb,mc,md,me,mf,mg],mk⟩ hyok HMOK.out w'
   have HCM:=Lib.hid hcm
   have HZ:=Lib.hid hz
   have HY:=Lib.hid hy
   have HKL:=Lib.hid hlt
   have HYM:=Lib.hid (show ⟨yP,[ya,yb,yc,yd,ye,yf,yg],yk⟩ ∈ l by rw [← hy]; exact List.getElem_mem hkl)
   have HKLL:=Lib.hid hkl
   obtain ⟨zb,hzb⟩ : ∃ zb,decide (z < 0) = zb:=⟨_,rfl⟩
   clear hyok hz hcm hBW2
   go_wp2_with fail
   refine wp_region_seq 8 [.is (.func (.func 120) #[.agg #[.int .i64 r.kind,.int .i64 r.players,.int .i64 r.last,.bool r.bull,.bool r.jump,.int .i64 r.rounds,.bool r.cut,nv,.int .i64 r.lives,.bool r.own]] #[]),.is (.slice (some ⟨pb,0,none⟩) n cap),.is (.int .i64 k),.is (.pointer (some ⟨pb,k * 9,none⟩)),.is (.agg #[.int .i64 yP,.int .i64 ya,.int .i64 yb,.int .i64 yc,.int .i64 yd,.int .i64 ye,.int .i64 yf,.int .i64 yg,.bool yk]),.is (.agg #[.int .i64 mP,.int .i64 ma,.int .i64 mb,.int .i64 mc,.int .i64 md,.int .i64 me,.int .i64 mf,.int .i64 mg,.bool mk]),.is (.int .i64 z),.is (.bool zb)] rfl mix (by kernel_rfl) (by kernel_rfl) ?seqm
   case seqm =>
    simp only [List.take_succ_cons,List.take_zero]
    iterate 6
     refine seq_on (by rfl) (fun w3 hb3 _ => ?_) ?_
     ·have y0':=bAt hb3 y0
      have y1':=bAt hb3 y1
      have y2':=bAt hb3 y2
      have y3':=bAt hb3 y3
      have y4':=bAt hb3 y4
      have y5':=bAt hb3 y5
      have y6':=bAt hb3 y6
      have y7':=bAt hb3 y7
      have y8':=bAt hb3 y8
      have hB:=(hb3.block _ (Array.getElem?_eq_some_iff.1 HBX.out).1).trans HBX.out
      have m0 : w3.cell? ⟨B,0,none⟩ = _:=cell_of_heap (o:=0) hB
      have m1 : w3.cell? ⟨B,1,none⟩ = _:=cell_of_heap (o:=1) hB
      have m2 : w3.cell? ⟨B,2,none⟩ = _:=cell_of_heap (o:=2) hB
      have m3 : w3.cell? ⟨B,3,none⟩ = _:=cell_of_heap (o:=3) hB
      have m4 : w3.cell? ⟨B,4,none⟩ = _:=cell_of_heap (o:=4) hB
      have m5 : w3.cell? ⟨B,5,none⟩ = _:=cell_of_heap (o:=5) hB
      have m6 : w3.cell? ⟨B,6,none⟩ = _:=cell_of_heap (o:=6) hB
      have m7 : w3.cell? ⟨B,7,none⟩ = _:=cell_of_heap (o:=7) hB
      have m8 : w3.cell? ⟨B,8,none⟩ = _:=cell_of_heap (o:=8) hB
      have hkl:=HKL.out
      simp [opOK,go_sem,y0',m0,y1',m1,y2',m2,y3',m3,y4',m4,y5',m5,y6',m6,y7',m7,y8',m8,hkl,Below.refl]
      try exact rfl
     simp only [Act.put,List.setIfInBounds_toArray,List.set_cons_succ,List.set_cons_zero]
    refine seq_on (by rfl) (fun w3 hb3 hH => ?_) ?_
    ·have y0':=bAt hb3 y0
     have y1':=bAt hb3 y1
     have y2':=bAt hb3 y2
     have y3':=bAt hb3 y3
     have y4':=bAt hb3 y4
     have y5':=bAt hb3 y5
     have y6':=bAt hb3 y6
     have y7':=bAt hb3 y7
     have y8':=bAt hb3 y8
     have hB:=(hb3.block _ (Array.getElem?_eq_some_iff.1 HBX.out).1).trans HBX.out
     have m0 : w3.cell? ⟨B,0,none⟩ = _:=cell_of_heap (o:=0) hB
     have m1 : w3.cell? ⟨B,1,none⟩ = _:=cell_of_heap (o:=1) hB
     have m2 : w3.cell? ⟨B,2,none⟩ = _:=cell_of_heap (o:=2) hB
     have m3 : w3.cell? ⟨B,3,none⟩ = _:=cell_of_heap (o:=3) hB
     have m4 : w3.cell? ⟨B,4,none⟩ = _:=cell_of_heap (o:=4) hB
     have m5 : w3.cell? ⟨B,5,none⟩ = _:=cell_of_heap (o:=5) hB
     have m6 : w3.cell? ⟨B,6,none⟩ = _:=cell_of_heap (o:=6) hB
     have m7 : w3.cell? ⟨B,7,none⟩ = _:=cell_of_heap (o:=7) hB
     have m8 : w3.cell? ⟨B,8,none⟩ = _:=cell_of_heap (o:=8) hB
     have hkl:=HKL.out
     refine opOK_call (f:=120) (args:=#[.agg #[.int .i64 r.kind,.int .i64 r.players,.int .i64 r.last,.bool r.bull,.bool r.jump,.int .i64 r.rounds,.bool r.cut,nv,.int .i64 r.lives,.bool r.own],.agg #[.int .i64 yP,.int .i64 ya,.int .i64 yb,.int .i64 yc,.int .i64 yd,.int .i64 ye,.int .i64 yf,.int .i64 yg,.bool yk],.agg #[.int .i64 mP,.int .i64 ma,.int .i64 mb,.int .i64 mc,.int .i64 md,.int .i64 me,.int .i64 mf,.int .i64 mg,.bool mk]]) (by simp [go_sem]) ?_
     exact (HCM.out w3).mono fun e W' ⟨he,hb⟩ => ⟨_,he,rfl,hb⟩
    simp only [Act.put,List.setIfInBounds_toArray,List.set_cons_succ,List.set_cons_zero]
    refine seq_on (by rfl) (fun w3 hb3 _ => ?_) ?_
    ·have y0':=bAt hb3 y0
     have y1':=bAt hb3 y1
     have y2':=bAt hb3 y2
     have y3':=bAt hb3 y3
     have y4':=bAt hb3 y4
     have y5':=bAt hb3 y5
     have y6':=bAt hb3 y6
     have y7':=bAt hb3 y7
     have y8':=bAt hb3 y8
     have hB:=(hb3.block _ (Array.getElem?_eq_some_iff.1 HBX.out).1).trans HBX.out
     have m0 : w3.cell? ⟨B,0,none⟩ = _:=cell_of_heap (o:=0) hB
     have m1 : w3.cell? ⟨B,1,none⟩ = _:=cell_of_heap (o:=1) hB
     have m2 : w3.cell? ⟨B,2,none⟩ = _:=cell_of_heap (o:=2) hB
     have m3 : w3.cell? ⟨B,3,none⟩ = _:=cell_of_heap (o:=3) hB
     have m4 : w3.cell? ⟨B,4,none⟩ = _:=cell_of_heap (o:=4) hB
     have m5 : w3.cell? ⟨B,5,none⟩ = _:=cell_of_heap (o:=5) hB
     have m6 : w3.cell? ⟨B,6,none⟩ = _:=cell_of_heap (o:=6) hB
     have m7 : w3.cell? ⟨B,7,none⟩ = _:=cell_of_heap (o:=7) hB
     have m8 : w3.cell? ⟨B,8,none⟩ = _:=cell_of_heap (o:=8) hB
     have hkl:=HKL.out
     simp [opOK,go_sem,hzb,Below.refl]
     try exact rfl
    simp only [Act.put,List.setIfInBounds_toArray,List.set_cons_succ,List.set_cons_zero]
    refine seq_end fun w3 hb3 _ => ?_
    simp only [List.drop_succ_cons,List.drop_zero]
    have HB3:=Lib.hid ((hb3.block _ (Array.getElem?_eq_some_iff.1 HBX.out).1).trans HBX.out)
    have HA3:=Lib.hid ((hb3.block _ (Array.getElem?_eq_some_iff.1 HAX.out).1).trans HAX.out)
    have HW3:=Lib.hid (HBW.out.trans (hb3.mono (by have:=HBW.out.size; have:=HN.out; omega)))
    have HZB:=Lib.hid hzb
    replace y0:=bAt hb3 y0
    replace y1:=bAt hb3 y1
    replace y2:=bAt hb3 y2
    replace y3:=bAt hb3 y3
    replace y4:=bAt hb3 y4
    replace y5:=bAt hb3 y5
    replace y6:=bAt hb3 y6
    replace y7:=bAt hb3 y7
    replace y8:=bAt hb3 y8
    clear hb3 hzb
    cases zb
    ·have hz0 : ¬ z < 0:=by simpa using HZB.out
     have HL2 : Hid (Least r l (k + 1) ⟨mP,[ma,mb,mc,md,me,mf,mg],mk⟩):=Lib.hid ⟨HL.out.1,fun j hj h => by
      by_cases e : j = k
      ·subst e; rw [HY.out,HZ.out]; exact hz0
      ·exact HL.out.2 j (by omega) h⟩
     clear hz0 y0 y1 y2 y3 y4 y5 y6 y7 y8
     go_wp2
     go_roundw
     case rel => exact ⟨k + 1,⟨mP,[ma,mb,mc,md,me,mf,mg],mk⟩,by omega,by omega,by go_num,HL2,HB3,HW3,HA3⟩
     case measure => simp [intOf]; omega
    ·have hz0 : z < 0:=by simpa using HZB.out
     have HL2 : Hid (Least r l (k + 1) ⟨yP,[ya,yb,yc,yd,ye,yf,yg],yk⟩):=Lib.hid ⟨HYM.out,fun j hj h => by
      by_cases e : j = k
      ·subst e; rw [HY.out]; exact cmpP_self r _
      ·intro hl; exact HL.out.2 j (by omega) h (cmpP_trans hl (by rw [HZ.out]; exact hz0))⟩
     clear hz0
     have hkn:=HKL.out
     go_wp2_with (refine wpList_opOK rfl (opOK_store_row 80 (.tmp 5) (.tmp 31) rfl B #[.int .i64 yP,.int .i64 ya,.int .i64 yb,.int .i64 yc,.int .i64 yd,.int .i64 ye,.int .i64 yf,.int .i64 yg,.bool yk] rfl rfl 80 _ HB3.out (by kernel_rfl) rfl (by simp [Value.oneCell']) (R:=fun v w' => v = undef ∧ w' = w3.setRow B #[.int .i64 yP,.int .i64 ya,.int .i64 yb,.int .i64 yc,.int .i64 yd,.int .i64 ye,.int .i64 yf,.int .i64 yg,.bool yk]) ⟨rfl,rfl⟩) ?_; rintro v w4 ⟨rfl,rfl⟩)
     have hb4 : (w3.setRow B #[.int .i64 yP,.int .i64 ya,.int .i64 yb,.int .i64 yc,.int .i64 yd,.int .i64 ye,.int .i64 yf,.int .i64 yg,.bool yk]).heap[B]? = some (.cells #[.int .i64 yP,.int .i64 ya,.int .i64 yb,.int .i64 yc,.int .i64 yd,.int .i64 ye,.int .i64 yf,.int .i64 yg,.bool yk] 80 (0,0)):=setRow_heap w3 B _ _ _ _ HB3.out
     have ha4 : (w3.setRow B #[.int .i64 yP,.int .i64 ya,.int .i64 yb,.int .i64 yc,.int .i64 yd,.int .i64 ye,.int .i64 yf,.int .i64 yg,.bool yk]).heap[N]? = _:=(setRow_other w3 B N _ (by have:=HBN.out; omega)).trans HA3.out
     have hw4 : Below N w (w3.setRow B #[.int .i64 yP,.int .i64 ya,.int .i64 yb,.int .i64 yc,.int .i64 yd,.int .i64 ye,.int .i64 yf,.int .i64 yg,.bool yk]):=below_setRow HW3.out (by have:=HBN.out; omega) _
     have HB4:=Lib.hid hb4
     have HA4:=Lib.hid ha4
     have HW4:=Lib.hid hw4
     clear hb4 ha4 hw4 y0 y1 y2 y3 y4 y5 y6 y7 y8
     go_wp2
     go_roundw
     case rel => exact ⟨k + 1,⟨yP,[ya,yb,yc,yd,ye,yf,yg],yk⟩,by omega,by omega,by go_num,HL2,HB4,HW4,HA4⟩
     case measure => simp [intOf]; omega
  ·obtain rfl : k = n:=by omega
   have hB:=HBX.out
   have m0 : wo.cell? ⟨B,0,none⟩ = _:=cell_of_heap (o:=0) hB
   have m1 : wo.cell? ⟨B,1,none⟩ = _:=cell_of_heap (o:=1) hB
   have m2 : wo.cell? ⟨B,2,none⟩ = _:=cell_of_heap (o:=2) hB
   have m3 : wo.cell? ⟨B,3,none⟩ = _:=cell_of_heap (o:=3) hB
   have m4 : wo.cell? ⟨B,4,none⟩ = _:=cell_of_heap (o:=4) hB
   have m5 : wo.cell? ⟨B,5,none⟩ = _:=cell_of_heap (o:=5) hB
   have m6 : wo.cell? ⟨B,6,none⟩ = _:=cell_of_heap (o:=6) hB
   have m7 : wo.cell? ⟨B,7,none⟩ = _:=cell_of_heap (o:=7) hB
   have m8 : wo.cell? ⟨B,8,none⟩ = _:=cell_of_heap (o:=8) hB
   simp at m0 m1 m2 m3 m4 m5 m6 m7 m8
   clear hB
   go_wp2_with (refine wpList_opOK rfl (opOK_store_row 80 (.tmp 4) (.tmp 32) rfl N #[.int .i64 mP,.int .i64 ma,.int .i64 mb,.int .i64 mc,.int .i64 md,.int .i64 me,.int .i64 mf,.int .i64 mg,.bool mk] rfl rfl 80 _ HAX.out (by kernel_rfl) rfl (by simp [Value.oneCell']) (R:=fun v w' => v = undef ∧ w' = wo.setRow N #[.int .i64 mP,.int .i64 ma,.int .i64 mb,.int .i64 mc,.int .i64 md,.int .i64 me,.int .i64 mf,.int .i64 mg,.bool mk]) ⟨rfl,rfl⟩) ?_; rintro v w4 ⟨rfl,rfl⟩)
   have ha4 : (wo.setRow N #[.int .i64 mP,.int .i64 ma,.int .i64 mb,.int .i64 mc,.int .i64 md,.int .i64 me,.int .i64 mf,.int .i64 mg,.bool mk]).heap[N]? = some (.cells #[.int .i64 mP,.int .i64 ma,.int .i64 mb,.int .i64 mc,.int .i64 md,.int .i64 me,.int .i64 mf,.int .i64 mg,.bool mk] 80 (0,0)):=setRow_heap wo N _ _ _ _ HAX.out
   have hw4 : Below N w (wo.setRow N #[.int .i64 mP,.int .i64 ma,.int .i64 mb,.int .i64 mc,.int .i64 md,.int .i64 me,.int .i64 mf,.int .i64 mg,.bool mk]):=below_setRow HBW.out (by omega) _
   have HW4:=Lib.hid hw4
   have HA4:=Lib.hid ha4
   have r0 : (wo.setRow N #[.int .i64 mP,.int .i64 ma,.int .i64 mb,.int .i64 mc,.int .i64 md,.int .i64 me,.int .i64 mf,.int .i64 mg,.bool mk]).cell? ⟨N,0,none⟩ = _:=cell_of_heap (o:=0) ha4
   have r1 : (wo.setRow N #[.int .i64 mP,.int .i64 ma,.int .i64 mb,.int .i64 mc,.int .i64 md,.int .i64 me,.int .i64 mf,.int .i64 mg,.bool mk]).cell? ⟨N,1,none⟩ = _:=cell_of_heap (o:=1) ha4
   have r2 : (wo.setRow N #[.int .i64 mP,.int .i64 ma,.int .i64 mb,.int .i64 mc,.int .i64 md,.int .i64 me,.int .i64 mf,.int .i64 mg,.bool mk]).cell? ⟨N,2,none⟩ = _:=cell_of_heap (o:=2) ha4
   have r3 : (wo.setRow N #[.int .i64 mP,.int .i64 ma,.int .i64 mb,.int .i64 mc,.int .i64 md,.int .i64 me,.int .i64 mf,.int .i64 mg,.bool mk]).cell? ⟨N,3,none⟩ = _:=cell_of_heap (o:=3) ha4
   have r4 : (wo.setRow N #[.int .i64 mP,.int .i64 ma,.int .i64 mb,.int .i64 mc,.int .i64 md,.int .i64 me,.int .i64 mf,.int .i64 mg,.bool mk]).cell? ⟨N,4,none⟩ = _:=cell_of_heap (o:=4) ha4
   have r5 : (wo.setRow N #[.int .i64 mP,.int .i64 ma,.int .i64 mb,.int .i64 mc,.int .i64 md,.int .i64 me,.int .i64 mf,.int .i64 mg,.bool mk]).cell? ⟨N,5,none⟩ = _:=cell_of_heap (o:=5) ha4
   have r6 : (wo.setRow N #[.int .i64 mP,.int .i64 ma,.int .i64 mb,.int .i64 mc,.int .i64 md,.int .i64 me,.int .i64 mf,.int .i64 mg,.bool mk]).cell? ⟨N,6,none⟩ = _:=cell_of_heap (o:=6) ha4
   have r7 : (wo.setRow N #[.int .i64 mP,.int .i64 ma,.int .i64 mb,.int .i64 mc,.int .i64 md,.int .i64 me,.int .i64 mf,.int .i64 mg,.bool mk]).cell? ⟨N,7,none⟩ = _:=cell_of_heap (o:=7) ha4
   have r8 : (wo.setRow N #[.int .i64 mP,.int .i64 ma,.int .i64 mb,.int .i64 mc,.int .i64 md,.int .i64 me,.int .i64 mf,.int .i64 mg,.bool mk]).cell? ⟨N,8,none⟩ = _:=cell_of_heap (o:=8) ha4
   simp at r0 r1 r2 r3 r4 r5 r6 r7 r8
   clear hw4 ha4 m0 m1 m2 m3 m4 m5 m6 m7 m8
   go_wp2
   exact bodyPost_ret (v:=.agg #[.int .i64 mP,.int .i64 ma,.int .i64 mb,.int .i64 mc,.int .i64 md,.int .i64 me,.int .i64 mf,.int .i64 mg,.bool mk]) (by simp [results,Tryz.results118,go_sem,r0,r1,r2,r3,r4,r5,r6,r7,r8]) rfl ⟨⟨mP,[ma,mb,mc,md,me,mf,mg],mk⟩,HL.out,rfl,by rw [HN.out]; exact HW4.out⟩
set_option maxRecDepth 100000 in
set_option maxHeartbeats 4000000 in
theorem best2_any (r : Rul) (nv : Value) (kd : r.kind = 2) (l : List Plr) (pb cap : Nat) (w : World) (hP : PlsAt w pb l) (hok : ∀ p ∈ l,PlOk r p) (hn : 0 < l.length) (hn8 : l.length ≤ 8) (hc : l.length ≤ cap ∧ cap ≤ 9223372036854775807) :
  Calls Tryz.prog 117 #[.slice (some ⟨pb,0,none⟩) l.length cap,.func (.func 108) #[.agg (rulA r nv)] #[]] w fun e w' => ∃ v,e = .returned v ∧ Below w.heap.size w w' ∧ Sl (fun q => w.heap.size ≤ q) w' v (ints (bestG r l)):=by
 have hmin:=minFunc2_any r nv kd l pb cap w hP hok hn hc
 unfold rulA at hmin
 unfold rulA
 obtain ⟨n,hnn⟩ : ∃ n,l.length = n:=⟨_,rfl⟩
 rw [hnn] at hc hn hn8 hmin ⊢
 obtain ⟨N,hN⟩ : ∃ N,w.heap.size = N:=⟨_,rfl⟩
 have HNN:=Lib.hid hnn
 have HP:=Lib.hid hP
 have HOK:=Lib.hid hok
 have HN:=Lib.hid hN
 have HKD:=Lib.hid kd
 have HMIN:=Lib.hid hmin
 have hpb : pb < N:=by rw [← hN]; exact hP.lt
 clear hnn hP hok hN kd hmin
 go_enter Tryz.func117,Tryz.ntmps117
 go_wp2_with fail
 refine HMIN.out.mono ?_
 rintro e w1 ⟨m,hL,rfl,hb1⟩
 have hmok:=HOK.out m hL.1
 have hm7:=hmok.len
 obtain ⟨mP,mm,mk⟩ := m
 obtain ⟨ma,mb,mc,md,me,mf,mg,rfl⟩ := list_seven hm7
 have HMOK:=Lib.hid hmok
 have HL:=Lib.hid hL
 have hx : plrV ⟨mP,[ma,mb,mc,md,me,mf,mg],mk⟩ = .agg #[.int .i64 mP,.int .i64 ma,.int .i64 mb,.int .i64 mc,.int .i64 md,.int .i64 me,.int .i64 mf,.int .i64 mg,.bool mk]:=rfl
 rw [hx]
 obtain ⟨B,hB⟩ : ∃ B,w1.heap.size = B:=⟨_,rfl⟩
 obtain ⟨w2,hw2⟩ : ∃ w2,w1.alloc (.cells #[.int .i64 mP,.int .i64 ma,.int .i64 mb,.int .i64 mc,.int .i64 md,.int .i64 me,.int .i64 mf,.int .i64 mg,.bool mk] 80) = w2:=⟨_,rfl⟩
 have hh2 : w2.heap[B]? = some (.cells #[.int .i64 mP,.int .i64 ma,.int .i64 mb,.int .i64 mc,.int .i64 md,.int .i64 me,.int .i64 mf,.int .i64 mg,.bool mk] 80 (0,0)):=by rw [← hw2,← hB]; exact World.alloc_heap_new _ _
 have m0 : w2.cell? ⟨B,0,none⟩ = _:=cell_of_heap (o:=0) hh2
 have m1 : w2.cell? ⟨B,1,none⟩ = _:=cell_of_heap (o:=1) hh2
 have m2 : w2.cell? ⟨B,2,none⟩ = _:=cell_of_heap (o:=2) hh2
 have m3 : w2.cell? ⟨B,3,none⟩ = _:=cell_of_heap (o:=3) hh2
 have m4 : w2.cell? ⟨B,4,none⟩ = _:=cell_of_heap (o:=4) hh2
 have m5 : w2.cell? ⟨B,5,none⟩ = _:=cell_of_heap (o:=5) hh2
 have m6 : w2.cell? ⟨B,6,none⟩ = _:=cell_of_heap (o:=6) hh2
 have m7 : w2.cell? ⟨B,7,none⟩ = _:=cell_of_heap (o:=7) hh2
 have m8 : w2.cell? ⟨B,8,none⟩ = _:=cell_of_heap (o:=8) hh2
 simp at m0 m1 m2 m3 m4 m5 m6 m7 m8
 have hb2 : Below N w w2:=by rw [← hw2,← HN.out]; exact bThen hb1 (aB _ _)
 have HB2:=Lib.hid hb2
 have HB:=Lib.hid hB
 have HW2:=Lib.hid hw2
 obtain ⟨M,hM⟩ : ∃ M,w2.heap.size = M:=⟨_,rfl⟩
 have HM:=Lib.hid hM
 have hNM : N ≤ M:=by have:=hb2.size; have:=HN.out; omega
 clear hmok hm7 hL hx hh2 hb1 hb2 hB hw2 hM
 go_wp2_with fail
 rw [HW2.out,HB.out]
 go_loopw [4,6,7,13] (fun lv _ _ iv wr => ∃ (k : Nat) (u : Value),u = lv ∧ k ≤ n ∧ iv = .int .i64 k ∧ Hid (wr.ownsRow M 3 1 u (bestK r l ⟨mP,[ma,mb,mc,md,me,mf,mg],mk⟩ k).length (ints (bestK r l ⟨mP,[ma,mb,mc,md,me,mf,mg],mk⟩ k))) ∧ Below w2.heap.size w2 wr) (fun _ _ _ iv _ => n - (intOf iv).toNat)
 case atStart => exact ⟨0,_,rfl,Nat.zero_le _,by go_num,Lib.hid (World.ownsRow_nil _ _ _ _),Below.refl _ _⟩
 case round =>
  obtain ⟨k,u,hu,hkn,rfl,HO,hb⟩ := hrel
  subst hu
  obtain ⟨wo,rfl⟩ : ∃ wo : World,wo = wr:=⟨_,rfl⟩
  have HBO:=Lib.hid hb
  have hsN : M ≤ wo.heap.size:=by have:=hb.size; have:=HM.out; omega
  replace m0:=bAt hb m0
  replace m1:=bAt hb m1
  replace m2:=bAt hb m2
  replace m3:=bAt hb m3
  replace m4:=bAt hb m4
  replace m5:=bAt hb m5
  replace m6:=bAt hb m6
  replace m7:=bAt hb m7
  replace m8:=bAt hb m8
  have hBW2 : Below w.heap.size w wo:=by rw [HN.out]; exact HB2.out.trans (hb.mono (by have:=HB2.out.size; have:=HN.out; omega))
  clear hb
  by_cases hlt : k < n
  ·have hkl : k < l.length:=by rw [HNN.out]; exact hlt
   obtain ⟨yP,ya,yb,yc,yd,ye,yf,yg,yk,hy,y0,y1,y2,y3,y4,y5,y6,y7,y8⟩ := (HP.out.below hBW2).nine hkl
   have hyok:=HOK.out _ (List.getElem_mem hkl)
   rw [hy] at hyok
   obtain ⟨z,hz⟩ : ∃ z,cmpP r ⟨yP,[ya,yb,yc,yd,ye,yf,yg],yk⟩ ⟨mP,[ma,mb,mc,md,me,mf,mg],mk⟩ = z:=⟨_,rfl⟩
   have hcm : ∀ w',Calls Tryz.prog 108 #[.agg #[.int .i64 r.kind,.int .i64 r.players,.int .i64 r.last,.bool r.bull,.bool r.jump,.int .i64 r.rounds,.bool r.cut,nv,.int .i64 r.lives,.bool r.own],.agg #[.int .i64 yP,.int .i64 ya,.int .i64 yb,.int .i64 yc,.int .i64 yd,.int .i64 ye,.int .i64 yf,.int .i64 yg,.bool yk],.agg #[.int .i64 mP,.int .i64 ma,.int .i64 mb,.int .i64 mc,.int .i64 md,.int .i64 me,.int .i64 mf,.int .i64 mg,.bool mk]] w' fun e w'' => e = .returned (.int .i64 z) ∧ Below w'.heap.size w' w'':=fun w' => by
    rw [← hz]; exact compare2_r r nv HKD.out ⟨yP,[ya,yb,yc,yd,ye,yf,yg],yk⟩ ⟨mP,[ma,mb,mc,md,me,mf,mg],mk⟩ hyok HMOK.out w'
   have HCM:=Lib.hid hcm
   obtain ⟨zb,hzb⟩ : ∃ zb,(z == 0) = zb:=⟨_,rfl⟩
   have HSU : Hid (bestK r l ⟨mP,[ma,mb,mc,md,me,mf,mg],mk⟩ (k + 1) = bestK r l ⟨mP,[ma,mb,mc,md,me,mf,mg],mk⟩ k ++ if zb = true then [(k : Int)] else []):=Lib.hid (by rw [bestK_succ,getD_of hkl,hy,hz,hzb])
   have HBW:=Lib.hid hBW2
   have hbl:=bestK_len r l ⟨mP,[ma,mb,mc,md,me,mf,mg],mk⟩ k
   obtain ⟨ln,hln⟩ : ∃ ln,(bestK r l ⟨mP,[ma,mb,mc,md,me,mf,mg],mk⟩ k).length = ln:=⟨_,rfl⟩
   rw [hln] at hbl HO
   have HLN:=Lib.hid hln
   replace m0:=bAt (aB wo (.cells #[.int .i64 yP,.int .i64 ya,.int .i64 yb,.int .i64 yc,.int .i64 yd,.int .i64 ye,.int .i64 yf,.int .i64 yg,.bool yk] 80)) m0
   replace m1:=bAt (aB wo (.cells #[.int .i64 yP,.int .i64 ya,.int .i64 yb,.int .i64 yc,.int .i64 yd,.int .i64 ye,.int .i64 yf,.int .i64 yg,.bool yk] 80)) m1
   replace m2:=bAt (aB wo (.cells #[.int .i64 yP,.int .i64 ya,.int .i64 yb,.int .i64 yc,.int .i64 yd,.int .i64 ye,.int .i64 yf,.int .i64 yg,.bool yk] 80)) m2
   replace m3:=bAt (aB wo (.cells #[.int .i64 yP,.int .i64 ya,.int .i64 yb,.int .i64 yc,.int .i64 yd,.int .i64 ye,.int .i64 yf,.int .i64 yg,.bool yk] 80)) m3
   replace m4:=bAt (aB wo (.cells #[.int .i64 yP,.int .i64 ya,.int .i64 yb,.int .i64 yc,.int .i64 yd,.int .i64 ye,.int .i64 yf,.int .i64 yg,.bool yk] 80)) m4
   replace m5:=bAt (aB wo (.cells #[.int .i64 yP,.int .i64 ya,.int .i64 yb,.int .i64 yc,.int .i64 yd,.int .i64 ye,.int .i64 yf,.int .i64 yg,.bool yk] 80)) m5
   replace m6:=bAt (aB wo (.cells #[.int .i64 yP,.int .i64 ya,.int .i64 yb,.int .i64 yc,.int .i64 yd,.int .i64 ye,.int .i64 yf,.int .i64 yg,.bool yk] 80)) m6
   replace m7:=bAt (aB wo (.cells #[.int .i64 yP,.int .i64 ya,.int .i64 yb,.int .i64 yc,.int .i64 yd,.int .i64 ye,.int .i64 yf,.int .i64 yg,.bool yk] 80)) m7
   replace m8:=bAt (aB wo (.cells #[.int .i64 yP,.int .i64 ya,.int .i64 yb,.int .i64 yc,.int .i64 yd,.int .i64 ye,.int .i64 yf,.int .i64 yg,.bool yk] 80)) m8
   clear hyok hz hcm hBW2 hln hy hkl
   go_wp2_with fail
   refine (HCM.out _).mono ?_
   rintro e w3 ⟨rfl,hb3⟩
   have hb3' : Below wo.heap.size wo w3:=bThen (aB wo _) hb3
   have HB3:=Lib.hid (HBO.out.trans (hb3'.mono HBO.out.size))
   have HO3:=Lib.hid (ownsN_below HO.out hb3')
   have hs3 : M ≤ w3.heap.size:=by have:=hb3'.size; omega
   have HZB:=Lib.hid hzb
   clear hb3 hb3' m0 y0 m1 y1 m2 y2 m3 y3 m4 y4 m5 y5 m6 y6 m7 y7 m8 y8
   cases zb
   ·have HO4:=Lib.hid (show w3.ownsRow M 3 1 u (bestK r l ⟨mP,[ma,mb,mc,md,me,mf,mg],mk⟩ (k + 1)).length (ints (bestK r l ⟨mP,[ma,mb,mc,md,me,mf,mg],mk⟩ (k + 1))) by rw [HSU.out]; simpa [HLN.out] using HO3.out)
    go_wp2
    go_roundw
    case rel => exact ⟨k + 1,_,rfl,by omega,by go_num,HO4,HB3.out⟩
    case measure => simp [intOf]; omega
   ·go_wp2_with (at_builtin; refine wpList_append1 rfl (.tmp 23) (.tmp 25) 27 rfl M 3 (.int .i64 0) 8 Tryz.underlying27 info3 rfl _ ln _ rfl (HO3.out.alloc _) w3.heap.size 0 1 (.int .i64 k) rfl (cell_new _ _ _) rfl (by omega) (by decide) (by simp; omega) ?_)
    intro g' c w5 ho5 hg5 _
    have hb5 : Below w2.heap.size w2 w5:=(HB3.out.trans ((aB w3 _).mono HB3.out.size)).trans ((below_grownBy hg5 (B:=w2.heap.size) (by have:=HB3.out.size; simp; omega) fun q hq => by rw [HM.out]; exact (HO3.out.lt q hq).1))
    have HO5:=Lib.hid (show w5.ownsRow M 3 1 (.slice (some ⟨g',0,none⟩) (ln + 1) c) (bestK r l ⟨mP,[ma,mb,mc,md,me,mf,mg],mk⟩ (k + 1)).length (ints (bestK r l ⟨mP,[ma,mb,mc,md,me,mf,mg],mk⟩ (k + 1))) by rw [HSU.out]; simpa [ints,HLN.out] using ho5)
    have HB5:=Lib.hid hb5
    clear ho5 hg5 hb5
    go_wp2
    go_roundw
    case rel => exact ⟨k + 1,_,rfl,by omega,by go_num,HO5,HB5.out⟩
    case measure => simp [intOf]; omega
  ·obtain rfl : k = n:=by omega
   have HLA : Hid (bestK r l ⟨mP,[ma,mb,mc,md,me,mf,mg],mk⟩ k = bestG r l):=Lib.hid (by rw [← HNN.out]; exact bestK_all (by rw [HNN.out]; exact HL.out))
   rw [HLA.out] at HO
   obtain ⟨a,c,hu⟩ := owns_form HO.out
   have HU:=Lib.hid hu
   have HBW:=Lib.hid hBW2
   have HSL:=Lib.hid ((Sl.of_owns HO.out).mono (S':=fun q => N ≤ q) fun q hq => Nat.le_trans hNM hq)
   clear hu HO hBW2 m0 m1 m2 m3 m4 m5 m6 m7 m8
   rw [HU.out] at HSL ⊢
   clear HU
   go_wp2
   go_ret
   exact ⟨_,rfl,HBW.out,by rw [HN.out]; exact HSL.out⟩
set_option maxRecDepth 100000 in
set_option maxHeartbeats 4000000 in
theorem best3_any (r : Rul) (nv : Value) (kd : r.kind = 3) (l : List Plr) (pb cap : Nat) (w : World) (hP : PlsAt w pb l) (hok : ∀ p ∈ l,PlOk r p) (hn : 0 < l.length) (hn8 : l.length ≤ 8) (hc : l.length ≤ cap ∧ cap ≤ 9223372036854775807) :
  Calls Tryz.prog 117 #[.slice (some ⟨pb,0,none⟩) l.length cap,.func (.func 120) #[.agg (rulA r nv)] #[]] w fun e w' => ∃ v,e = .returned v ∧ Below w.heap.size w w' ∧ Sl (fun q => w.heap.size ≤ q) w' v (ints (bestG r l)):=by
 have hmin:=minFunc3_any r nv kd l pb cap w hP hok hn hc
 unfold rulA at hmin
 unfold rulA
 obtain ⟨n,hnn⟩ : ∃ n,l.length = n:=⟨_,rfl⟩
 rw [hnn] at hc hn hn8 hmin ⊢
 obtain ⟨N,hN⟩ : ∃ N,w.heap.size = N:=⟨_,rfl⟩
 have HNN:=Lib.hid hnn
 have HP:=Lib.hid hP
 have HOK:=Lib.hid hok
 have HN:=Lib.hid hN
 have HKD:=Lib.hid kd
 have HMIN:=Lib.hid hmin
 have hpb : pb < N:=by rw [← hN]; exact hP.lt
 clear hnn hP hok hN kd hmin
 go_enter Tryz.func117,Tryz.ntmps117
 go_wp2_with fail
 refine HMIN.out.mono ?_
 rintro e w1 ⟨m,hL,rfl,hb1⟩
 have hmok:=HOK.out m hL.1
 have hm7:=hmok.len
 obtain ⟨mP,mm,mk⟩ := m
 obtain ⟨ma,mb,mc,md,me,mf,mg,rfl⟩ := list_seven hm7
 have HMOK:=Lib.hid hmok
 have HL:=Lib.hid hL
 have hx : plrV ⟨mP,[ma,mb,mc,md,me,mf,mg],mk⟩ = .agg #[.int .i64 mP,.int .i64 ma,.int .i64 mb,.int .i64 mc,.int .i64 md,.int .i64 me,.int .i64 mf,.int .i64 mg,.bool mk]:=rfl
 rw [hx]
 obtain ⟨B,hB⟩ : ∃ B,w1.heap.size = B:=⟨_,rfl⟩
 obtain ⟨w2,hw2⟩ : ∃ w2,w1.alloc (.cells #[.int .i64 mP,.int .i64 ma,.int .i64 mb,.int .i64 mc,.int .i64 md,.int .i64 me,.int .i64 mf,.int .i64 mg,.bool mk] 80) = w2:=⟨_,rfl⟩
 have hh2 : w2.heap[B]? = some (.cells #[.int .i64 mP,.int .i64 ma,.int .i64 mb,.int .i64 mc,.int .i64 md,.int .i64 me,.int .i64 mf,.int .i64 mg,.bool mk] 80 (0,0)):=by rw [← hw2,← hB]; exact World.alloc_heap_new _ _
 have m0 : w2.cell? ⟨B,0,none⟩ = _:=cell_of_heap (o:=0) hh2
 have m1 : w2.cell? ⟨B,1,none⟩ = _:=cell_of_heap (o:=1) hh2
 have m2 : w2.cell? ⟨B,2,none⟩ = _:=cell_of_heap (o:=2) hh2
 have m3 : w2.cell? ⟨B,3,none⟩ = _:=cell_of_heap (o:=3) hh2
 have m4 : w2.cell? ⟨B,4,none⟩ = _:=cell_of_heap (o:=4) hh2
 have m5 : w2.cell? ⟨B,5,none⟩ = _:=cell_of_heap (o:=5) hh2
 have m6 : w2.cell? ⟨B,6,none⟩ = _:=cell_of_heap (o:=6) hh2
 have m7 : w2.cell? ⟨B,7,none⟩ = _:=cell_of_heap (o:=7) hh2
 have m8 : w2.cell? ⟨B,8,none⟩ = _:=cell_of_heap (o:=8) hh2
 simp at m0 m1 m2 m3 m4 m5 m6 m7 m8
 have hb2 : Below N w w2:=by rw [← hw2,← HN.out]; exact bThen hb1 (aB _ _)
 have HB2:=Lib.hid hb2
 have HB:=Lib.hid hB
 have HW2:=Lib.hid hw2
 obtain ⟨M,hM⟩ : ∃ M,w2.heap.size = M:=⟨_,rfl⟩
 have HM:=Lib.hid hM
 have hNM : N ≤ M:=by have:=hb2.size; have:=HN.out; omega
 clear hmok hm7 hL hx hh2 hb1 hb2 hB hw2 hM
 go_wp2_with fail
 rw [HW2.out,HB.out]
 go_loopw [4,6,7,13] (fun lv _ _ iv wr => ∃ (k : Nat) (u : Value),u = lv ∧ k ≤ n ∧ iv = .int .i64 k ∧ Hid (wr.ownsRow M 3 1 u (bestK r l ⟨mP,[ma,mb,mc,md,me,mf,mg],mk⟩ k).length (ints (bestK r l ⟨mP,[ma,mb,mc,md,me,mf,mg],mk⟩ k))) ∧ Below w2.heap.size w2 wr) (fun _ _ _ iv _ => n - (intOf iv).toNat)
 case atStart => exact ⟨0,_,rfl,Nat.zero_le _,by go_num,Lib.hid (World.ownsRow_nil _ _ _ _),Below.refl _ _⟩
 case round =>
  obtain ⟨k,u,hu,hkn,rfl,HO,hb⟩ := hrel
  subst hu
  obtain ⟨wo,rfl⟩ : ∃ wo : World,wo = wr:=⟨_,rfl⟩
  have HBO:=Lib.hid hb
  have hsN : M ≤ wo.heap.size:=by have:=hb.size; have:=HM.out; omega
  replace m0:=bAt hb m0
  replace m1:=bAt hb m1
  replace m2:=bAt hb m2
  replace m3:=bAt hb m3
  replace m4:=bAt hb m4
  replace m5:=bAt hb m5
  replace m6:=bAt hb m6
  replace m7:=bAt hb m7
  replace m8:=bAt hb m8
  have hBW2 : Below w.heap.size w wo:=by rw [HN.out]; exact HB2.out.trans (hb.mono (by have:=HB2.out.size; have:=HN.out; omega))
  clear hb
  by_cases hlt : k < n
  ·have hkl : k < l.length:=by rw [HNN.out]; exact hlt
   obtain ⟨yP,ya,yb,yc,yd,ye,yf,yg,yk,hy,y0,y1,y2,y3,y4,y5,y6,y7,y8⟩ := (HP.out.below hBW2).nine hkl
   have hyok:=HOK.out _ (List.getElem_mem hkl)
   rw [hy] at hyok
   obtain ⟨z,hz⟩ : ∃ z,cmpP r ⟨yP,[ya,yb,yc,yd,ye,yf,yg],yk⟩ ⟨mP,[ma,mb,mc,md,me,mf,mg],mk⟩ = z:=⟨_,rfl⟩
   have hcm : ∀ w',Calls Tryz.prog 120 #[.agg #[.int .i64 r.kind,.int .i64 r.players,.int .i64 r.last,.bool r.bull,.bool r.jump,.int .i64 r.rounds,.bool r.cut,nv,.int .i64 r.lives,.bool r.own],.agg #[.int .i64 yP,.int .i64 ya,.int .i64 yb,.int .i64 yc,.int .i64 yd,.int .i64 ye,.int .i64 yf,.int .i64 yg,.bool yk],.agg #[.int .i64 mP,.int .i64 ma,.int .i64 mb,.int .i64 mc,.int .i64 md,.int .i64 me,.int .i64 mf,.int .i64 mg,.bool mk]] w' fun e w'' => e = .returned (.int .i64 z) ∧ Below w'.heap.size w' w'':=fun w' => by
    rw [← hz]; exact compare3_r r nv HKD.out ⟨yP,[ya,yb,yc,yd,ye,yf,yg],yk⟩ ⟨mP,[ma,mb,mc,md,me,mf,mg],mk⟩ hyok HMOK.out w'
   have HCM:=Lib.hid hcm
   obtain ⟨zb,hzb⟩ : ∃ zb,(z == 0) = zb:=⟨_,rfl⟩
   have HSU : Hid (bestK r l ⟨mP,[ma,mb,mc,md,me,mf,mg],mk⟩ (k + 1) = bestK r l ⟨mP,[ma,mb,mc,md,me,mf,mg],mk⟩ k ++ if zb = true then [(k : Int)] else []):=Lib.hid (by rw [bestK_succ,getD_of hkl,hy,hz,hzb])
   have HBW:=Lib.hid hBW2
   have hbl:=bestK_len r l ⟨mP,[ma,mb,mc,md,me,mf,mg],mk⟩ k
   obtain ⟨ln,hln⟩ : ∃ ln,(bestK r l ⟨mP,[ma,mb,mc,md,me,mf,mg],mk⟩ k).length = ln:=⟨_,rfl⟩
   rw [hln] at hbl HO
   have HLN:=Lib.hid hln
   replace m0:=bAt (aB wo (.cells #[.int .i64 yP,.int .i64 ya,.int .i64 yb,.int .i64 yc,.int .i64 yd,.int .i64 ye,.int .i64 yf,.int .i64 yg,.bool yk] 80)) m0
   replace m1:=bAt (aB wo (.cells #[.int .i64 yP,.int .i64 ya,.int .i64 yb,.int .i64 yc,.int .i64 yd,.int .i64 ye,.int .i64 yf,.int .i64 yg,.bool yk] 80)) m1
   replace m2:=bAt (aB wo (.cells #[.int .i64 yP,.int .i64 ya,.int .i64 yb,.int .i64 yc,.int .i64 yd,.int .i64 ye,.int .i64 yf,.int .i64 yg,.bool yk] 80)) m2
   replace m3:=bAt (aB wo (.cells #[.int .i64 yP,.int .i64 ya,.int .i64 yb,.int .i64 yc,.int .i64 yd,.int .i64 ye,.int .i64 yf,.int .i64 yg,.bool yk] 80)) m3
   replace m4:=bAt (aB wo (.cells #[.int .i64 yP,.int .i64 ya,.int .i64 yb,.int .i64 yc,.int .i64 yd,.int .i64 ye,.int .i64 yf,.int .i64 yg,.bool yk] 80)) m4
   replace m5:=bAt (aB wo (.cells #[.int .i64 yP,.int .i64 ya,.int .i64 yb,.int .i64 yc,.int .i64 yd,.int .i64 ye,.int .i64 yf,.int .i64 yg,.bool yk] 80)) m5
   replace m6:=bAt (aB wo (.cells #[.int .i64 yP,.int .i64 ya,.int .i64 yb,.int .i64 yc,.int .i64 yd,.int .i64 ye,.int .i64 yf,.int .i64 yg,.bool yk] 80)) m6
   replace m7:=bAt (aB wo (.cells #[.int .i64 yP,.int .i64 ya,.int .i64 yb,.int .i64 yc,.int .i64 yd,.int .i64 ye,.int .i64 yf,.int .i64 yg,.bool yk] 80)) m7
   replace m8:=bAt (aB wo (.cells #[.int .i64 yP,.int .i64 ya,.int .i64 yb,.int .i64 yc,.int .i64 yd,.int .i64 ye,.int .i64 yf,.int .i64 yg,.bool yk] 80)) m8
   clear hyok hz hcm hBW2 hln hy hkl
   go_wp2_with fail
   refine (HCM.out _).mono ?_
   rintro e w3 ⟨rfl,hb3⟩
   have hb3' : Below wo.heap.size wo w3:=bThen (aB wo _) hb3
   have HB3:=Lib.hid (HBO.out.trans (hb3'.mono HBO.out.size))
   have HO3:=Lib.hid (ownsN_below HO.out hb3')
   have hs3 : M ≤ w3.heap.size:=by have:=hb3'.size; omega
   have HZB:=Lib.hid hzb
   clear hb3 hb3' m0 y0 m1 y1 m2 y2 m3 y3 m4 y4 m5 y5 m6 y6 m7 y7 m8 y8
   cases zb
   ·have HO4:=Lib.hid (show w3.ownsRow M 3 1 u (bestK r l ⟨mP,[ma,mb,mc,md,me,mf,mg],mk⟩ (k + 1)).length (ints (bestK r l ⟨mP,[ma,mb,mc,md,me,mf,mg],mk⟩ (k + 1))) by rw [HSU.out]; simpa [HLN.out] using HO3.out)
    go_wp2
    go_roundw
    case rel => exact ⟨k + 1,_,rfl,by omega,by go_num,HO4,HB3.out⟩
    case measure => simp [intOf]; omega
   ·go_wp2_with (at_builtin; refine wpList_append1 rfl (.tmp 23) (.tmp 25) 27 rfl M 3 (.int .i64 0) 8 Tryz.underlying27 info3 rfl _ ln _ rfl (HO3.out.alloc _) w3.heap.size 0 1 (.int .i64 k) rfl (cell_new _ _ _) rfl (by omega) (by decide) (by simp; omega) ?_)
    intro g' c w5 ho5 hg5 _
    have hb5 : Below w2.heap.size w2 w5:=(HB3.out.trans ((aB w3 _).mono HB3.out.size)).trans ((below_grownBy hg5 (B:=w2.heap.size) (by have:=HB3.out.size; simp; omega) fun q hq => by rw [HM.out]; exact (HO3.out.lt q hq).1))
    have HO5:=Lib.hid (show w5.ownsRow M 3 1 (.slice (some ⟨g',0,none⟩) (ln + 1) c) (bestK r l ⟨mP,[ma,mb,mc,md,me,mf,mg],mk⟩ (k + 1)).length (ints (bestK r l ⟨mP,[ma,mb,mc,md,me,mf,mg],mk⟩ (k + 1))) by rw [HSU.out]; simpa [ints,HLN.out] using ho5)
    have HB5:=Lib.hid hb5
    clear ho5 hg5 hb5
    go_wp2
    go_roundw
    case rel => exact ⟨k + 1,_,rfl,by omega,by go_num,HO5,HB5.out⟩
    case measure => simp [intOf]; omega
  ·obtain rfl : k = n:=by omega
   have HLA : Hid (bestK r l ⟨mP,[ma,mb,mc,md,me,mf,mg],mk⟩ k = bestG r l):=Lib.hid (by rw [← HNN.out]; exact bestK_all (by rw [HNN.out]; exact HL.out))
   rw [HLA.out] at HO
   obtain ⟨a,c,hu⟩ := owns_form HO.out
   have HU:=Lib.hid hu
   have HBW:=Lib.hid hBW2
   have HSL:=Lib.hid ((Sl.of_owns HO.out).mono (S':=fun q => N ≤ q) fun q hq => Nat.le_trans hNM hq)
   clear hu HO hBW2 m0 m1 m2 m3 m4 m5 m6 m7 m8
   rw [HU.out] at HSL ⊢
   clear HU
   go_wp2
   go_ret
   exact ⟨_,rfl,HBW.out,by rw [HN.out]; exact HSL.out⟩
end Go.Proofs.YtnhggfnnolfcdaaGreat
