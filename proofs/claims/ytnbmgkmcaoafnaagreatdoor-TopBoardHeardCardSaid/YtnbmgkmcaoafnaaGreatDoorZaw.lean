/- The texts XF, XG, XH, XI, in build order. -/
import Derived.Test.YtnbmgkmcaoafnaaGreatDoorZav
import Derived.RangeFuncBound
import Derived.RangeFuncLeaves
import Derived.Shelf.Abstract
import Derived.Shelf.RegionOpen
import Derived.OwnWalkIn
import Derived.TacticsInMore
import Derived.LoopNIn
import Derived.LoopIn
import Derived.Laws.NewBlocks

/- Package board: radii, areRings. -/
namespace Go.Proofs.YtnbmgkmcaoafnaaGreatDoor
open Go Go.RowKit Go.Oche Go.Proofs
attribute [local go_sem] Oper.semAt_some

def radL (b : Bd) : List Int:=b.eye :: b.bull :: b.rings.map (·.1)
theorem radL_length (b : Bd) : (radL b).length = b.rings.length + 2:=by simp [radL]
theorem SlN.relB {k : Nat} {S O O' : Nat → Prop} {w w' : World} {v : Value} {rows : List (List Value)} (h : SlN k S w v rows) (hr : Rel O w O' w') (hS : ∀ q,S q → ¬ O q) : SlN k S w' v rows :=
 h.cells fun b o s hs => by
  obtain ⟨x,hx⟩ := Option.isSome_iff_exists.1 hs;rw [hx]; exact hr.cell hx (hS b s)
def encR : Int → Array Value → (Nat → Prop) → World → Prop:=fun c args _ _ => args = #[.int .i64 c]
set_option maxRecDepth 100000 in
set_option maxHeartbeats 4000000 in
theorem radii_in {S : Nat → Prop} (b : Bd) (pb : Nat) (rv : Value) (w : World) (Rs : Nat → Prop)
  (c0 : w.cell? ⟨pb,0,none⟩ = some (.int .i64 b.eye)) (c1 : w.cell? ⟨pb,1,none⟩ = some (.int .i64 b.bull)) (c2 : w.cell? ⟨pb,2,none⟩ = some rv) (hsl : SlN 2 S w rv (b.rings.map ptRow)) (hlen : b.rings.length ≤ 100) (r1 : Rs pb) (r2 : ∀ k,S k → k < w.heap.size → Rs k) :
  IterIn 3 Tryz.prog 120 #[] #[.pointer (some ⟨pb,0,none⟩)] encR (radL b) Rs w:=by
 intro l J Jx O W hBW hO hRs hJ hJx hY h0
 have hsl':=((hsl.lt (by decide)).mono (S':=Rs) fun k hk => r2 k hk.1 hk.2).below hBW
 obtain ⟨a,cap,rfl,h2,h3⟩ := hsl'.form;simp only [List.length_map] at *;unfold maxLen at h3;have c0':=bAt hBW c0;have c1':=bAt hBW c1;have c2':=bAt hBW c2;clear c0 c1 c2 hsl;obtain ⟨n,hn⟩ : ∃ n,b.rings.length = n:=⟨_,rfl⟩;rw [hn] at h2 hlen c2' hsl';have HS:=Lib.hid hsl';have HY:=Lib.hid hY;have HRS : Hid (∀ k,Rs k → ¬ O k):=Lib.hid (fun k hk => (hRs k hk).2)
 have HLN:=Lib.hid hn;have HJ0:=Lib.hid h0;have n1:=(hRs pb r1).2;have hRs' : ∀ k,Rs k → k < W.heap.size:=fun k hk => Nat.lt_of_lt_of_le (hRs k hk).1 hBW.size
 clear hsl' hY hRs hn h0;refine callsIn_of_wp Tryz.func120 rfl trivial ?_ rfl
 simp only [Tryz.ntmps120,List.size_toArray,List.length_cons,List.length_nil,Nat.reduceAdd,Nat.reduceSub,Array.replicate_succ,Array.replicate_zero,List.push_toArray,List.append_toArray,List.nil_append,List.cons_append];obtain ⟨fn,tmps,assign,body,hy,hR⟩ := HY.out [] b.eye (b.bull :: b.rings.map (·.1)) #[.int .i64 b.eye] O W rfl (Rel.refl hO) HJ0.out rfl
 have HRo:=Lib.hid hR;clear hR
 gi_wp2_with fail
 refine ⟨rfl,RoundIn.mono HRo.out ?_⟩
 rintro e W1 ⟨O1,hr1,(⟨rfl,hj1⟩ | ⟨rfl,hj1⟩)⟩
 rotate_left
 ·have HJ1:=Lib.hid hj1
  clear hj1
  gi_wp2
  refine ⟨fun _ h => (by cases h), ?_⟩
  gi_wp2
  refine bodyPost_ret (results_none rfl _ _ _) rfl ?_
  exact ⟨⟨_,rfl⟩,O1,hr1,.inr ⟨_,⟨_,rfl⟩,HJ1.out⟩⟩
 have HJ1:=Lib.hid hj1;clear hj1;have c0':=rAt hr1 c0' n1;have c1':=rAt hr1 c1' n1;have c2':=rAt hr1 c2' n1;clear hy HRo;obtain ⟨fn,tmps,assign,body,hy,hR⟩ := HY.out [b.eye] b.bull (b.rings.map (·.1)) #[.int .i64 b.bull] O1 W1 rfl hr1 HJ1.out rfl
 have HRo:=Lib.hid hR;clear hR
 gi_wp2_with fail
 refine ⟨rfl,RoundIn.mono HRo.out ?_⟩
 rintro e W2 ⟨O2,hr2,(⟨rfl,hj2⟩ | ⟨rfl,hj2⟩)⟩
 rotate_left
 ·have HJ2:=Lib.hid hj2
  have hr2':=hr1.trans hr2;clear hj2
  gi_wp2
  refine bodyPost_ret (results_none rfl _ _ _) rfl ?_
  exact ⟨⟨_,rfl⟩,O2,hr2',.inr ⟨_,⟨_,rfl⟩,HJ2.out⟩⟩
 have HJ2 : Hid (J ((radL b).take 2) O2 W2):=Lib.hid hj2;have hr02:=hr1.trans hr2;have c2':=rAt hr2 c2' (fun h => by
  rcases hr1.own pb h with h | h
  ·exact n1 h
  ·exact absurd (hRs' pb r1) (by omega))
 clear hj2 hr1 hr2 hy HRo HJ1 c0' c1'
 gi_wp2_with fail
 gi_loopw [20] (fun i wr => ∃ (k : Nat) (O₁ : Nat → Prop),k ≤ n ∧ i = .int .i64 k ∧ Rel O W O₁ wr ∧ J ((radL b).take (k + 2)) O₁ wr) (fun i _ => n - (intOf i).toNat)
 case atStart => exact ⟨0,O2,Nat.zero_le _,rfl,hr02,HJ2.out⟩
 case round =>
  clear HJ2 hr02;obtain ⟨k,O₁,hk,rfl,hr,hj⟩ := hrel;have HJ:=Lib.hid hj;clear hj c2';by_cases hlt : k < n
  ·have hkl : k < b.rings.length:=by rw [HLN.out]; exact hlt
   obtain ⟨bk,off,hal, -, -,hc⟩ := (SlN.relB HS.out hr HRS.out).cell (show k < (b.rings.map ptRow).length by rw [List.length_map]; exact hkl)
   cases hal;obtain ⟨⟨ro,rf⟩,hx⟩ : ∃ x,b.rings[k] = x:=⟨_,rfl⟩;have z0:=hc 0 (.int .i64 ro) (by simp [ptRow,hx])
   have z1:=hc 1 (.int .i64 rf) (by simp [ptRow,hx])
   simp only [Nat.add_zero] at z0;have hk2 : k + 2 < (radL b).length:=by rw [radL_length]; omega
   have hx2 : (radL b)[k + 2] = ro:=by simp [radL,hx]
   have hsplit : radL b = (radL b).take (k + 2) ++ ro :: (radL b).drop (k + 2 + 1):=by rw [← hx2,← List.drop_eq_getElem_cons hk2,List.take_append_drop]
   have htk : (radL b).take (k + 2) ++ [ro] = (radL b).take (k + 1 + 2):=by rw [show k + 1 + 2 = k + 2 + 1 by omega,List.take_succ_eq_append_getElem hk2,hx2]
   have HTK:=Lib.hid htk;obtain ⟨Q,hQ⟩ : ∃ Q,wr.heap.size = Q:=⟨_,rfl⟩;obtain ⟨w3,hw3⟩ : ∃ z,wr.alloc (.cells #[.int .i64 ro,.int .i64 rf] 28) = z:=⟨_,rfl⟩;have hb3 : Below wr.heap.size wr w3:=by rw [← hw3]; exact aB _ _
   have k3 : w3.heap[Q]? = some (.cells #[.int .i64 ro,.int .i64 rf] 28 (0,0)):=by rw [← hw3,← hQ]; exact World.alloc_heap_new _ _
   have y0 : w3.cell? ⟨Q,0,none⟩ = some (.int .i64 ro):=by rw [cell_of_heap k3]; rfl
   have hr3:=hr.ext hb3;have HJ3:=Lib.hid (Stab.ext hJ HJ.out hb3);obtain ⟨fn,tmps,assign,body,hy,hR⟩ := HY.out ((radL b).take (k + 2)) ro ((radL b).drop (k + 2 + 1)) #[.int .i64 ro] O₁ w3 hsplit hr3 HJ3.out rfl;have HRo:=Lib.hid hR;have HW3:=Lib.hid hw3;have HQ:=Lib.hid hQ;have hkk : (k : Int) < (n : Int):=by omega
   clear hR hsplit hx htk HJ hc hx2 hk2 hkl hw3 hQ k3 hb3
   gi_wp2_with fail
   rw [HW3.out,HQ.out];rw [hy];refine ⟨(fun h => by cases h),RoundIn.mono HRo.out ?_⟩
   rintro e W3 ⟨O',hr4,(⟨rfl,hj4⟩ | ⟨rfl,hj4⟩)⟩
   ·have HJ4:=Lib.hid (show J ((radL b).take (k + 1 + 2)) O' W3 by rw [← HTK.out]; exact hj4)
    have hr5:=hr3.trans hr4;clear hj4
    gi_wp2
    go_roundw
    case rel => exact ⟨k + 1,O',by omega,by go_num,hr5,HJ4.out⟩
    case measure => simp [intOf]; omega
   ·have HJ4:=Lib.hid (show Jx ((radL b).take (k + 1 + 2)) O' W3 by rw [← HTK.out]; exact hj4)
    have hr5:=hr3.trans hr4;clear hj4
    gi_wp2
    refine bodyPost_ret (results_none rfl _ _ _) rfl ?_
    exact ⟨⟨_,rfl⟩,O',hr5,.inr ⟨_,List.take_prefix _ _,HJ4.out⟩⟩
  ·obtain rfl : k = n:=by omega
   gi_wp2_with fail
   go_end0
   exact ⟨⟨_,rfl⟩,O₁,hr,.inl (by rw [show k + 2 = (radL b).length by rw [radL_length,HLN.out],List.take_length] at HJ; exact HJ.out)⟩
open Go Go.RowKit Go.Oche Go.Proofs
attribute [local go_sem] Oper.semAt_some

theorem radOk_at : ∀ {pre : List Int} {last r : Int} {post : List Int},radOk last (pre ++ r :: post) = true → isIn r (pre.getLastD last + 1) 5000 = true
 | [],last,r,post,h => by rw [List.nil_append,radOk,Bool.and_eq_true] at h; exact h.1
 | x :: xs,last,r,post,h => by
  rw [List.cons_append,radOk,Bool.and_eq_true] at h;have:=radOk_at h.2;rw [List.getLastD_cons]; exact this
theorem radOk_last : ∀ {pre : List Int} {last : Int} {post : List Int},radOk last (pre ++ post) = true → 0 ≤ last → 0 ≤ pre.getLastD last ∧ pre.getLastD last ≤ max last 5000
 | [],last,post,h,h0 => by simp only [List.getLastD_nil]; omega
 | x :: xs,last,post,h,h0 => by
  rw [List.cons_append,radOk,Bool.and_eq_true] at h;have hx : last + 1 ≤ x ∧ x ≤ 5000:=by have:=h.1; unfold isIn at this; simpa using this
  have:=radOk_last (pre:=xs) h.2 (by omega)
  rw [List.getLastD_cons];omega
theorem radii_any (b : Bd) (rv lv nv : Value) (w : World) : Calls Tryz.prog 76 #[bdV b rv lv nv] w fun e w' => e = .returned (.func (.func 120) #[] #[.pointer (some ⟨w.heap.size,0,none⟩)]) ∧ w' = w.alloc (.cells (bdA b rv lv nv) 35):=by
 have hmf : ∀ (fn : Fn) (first cap : Array Value) (w : World),(Instr.makeFunc fn first cap).run Tryz.prog w = .ok (.func fn first cap) w:=fun _ _ _ _ => rfl
 unfold bdV bdA
 go_enter Tryz.func76,Tryz.ntmps76
 go_wp2;go_returns;exact ⟨rfl,rfl⟩
def RadI (X : Nat) (pre : List Int) (O : Nat → Prop) (W : World) : Prop:=(∀ k,O k ↔ k = X) ∧ W.heap[X]? = some (.cells #[.int .i64 (pre.getLastD 0)] 3 (0,0))
theorem RadI.stab (X N : Nat) : Stab 3 N (RadI X):=by
 rintro pre O W W' ⟨h1,h2⟩ e1 e2 e3 e4 hk;exact ⟨h1,(hk X (Array.getElem?_eq_some_iff.1 h2).1 (.inl ((h1 X).2 rfl))).trans h2⟩
set_option maxRecDepth 100000 in
set_option maxHeartbeats 8000000 in
theorem areRings_any {S : Nat → Prop} (b : Bd) (hok : BdOk b) (rv lv nv : Value) (w : World) (hat0 : BdAt S w b rv lv nv) :
  Calls Tryz.prog 67 #[bdV b rv lv nv] w fun e w' => e = .returned (.bool true) ∧ Below w.heap.size w w':=by
 have hat : BdAt (fun k => k < w.heap.size) w b rv lv nv:=⟨(hat0.rs.lt (by decide)).mono fun _ h => h.2,(hat0.ls.lt (by decide)).mono fun _ h => h.2,hat0.ns.lt.mono fun _ h => h.2⟩
 clear hat0;obtain ⟨ra,rc,rfl,hr2,hr3⟩ := hat.rs.form;simp only [List.length_map] at *;unfold maxLen at hr3;obtain ⟨n,hn⟩ : ∃ n,b.rings.length = n:=⟨_,rfl⟩;obtain ⟨N,hN⟩ : ∃ N,w.heap.size = N:=⟨_,rfl⟩;rw [hn] at hr2 hat ⊢;obtain ⟨w0,hw0⟩ : ∃ z,w.alloc (.cells (bdA b (.slice ra n rc) lv nv) 35) = z:=⟨_,rfl⟩;have hb0 : Below w.heap.size w w0:=by rw [← hw0]; exact aB _ _
 have hz0 : w0.heap.size = N + 1:=by rw [← hw0]; simp [hN]
 have kb : w0.heap[N]? = some (.cells (bdA b (.slice ra n rc) lv nv) 35 (0,0)):=by rw [← hw0,← hN]; exact World.alloc_heap_new _ _
 obtain ⟨w1,hw1⟩ : ∃ z,w0.alloc (.cells #[.bool false] 4) = z:=⟨_,rfl⟩;have hb1 : Below w0.heap.size w0 w1:=by rw [← hw1]; exact aB _ _
 have hz1 : w1.heap.size = N + 2:=by rw [← hw1]; simp [hz0]
 have kr : w1.heap[N + 1]? = some (.cells #[.bool false] 4 (0,0)):=by rw [← hw1,← hz0]; exact World.alloc_heap_new _ _
 have hat1:=(hat.below hb0).below hb1;have kb1:=(hb1.block N (by omega)).trans kb
 obtain ⟨b0,b1,b2,b3,b4,b5⟩ := bd_cells kb1;have hn0 : 0 < n ∧ n ≤ 8:=by have:=hok.r0; rw [hn] at this; exact ⟨by cases h : b.rings with
  | nil => exact absurd h this.1
  | cons x xs => rw [h] at hn; simp at hn; omega,this.2⟩
 have HAT:=Lib.hid hat1;have HOK:=Lib.hid hok;have HB1 : Hid (Below w.heap.size w w1):=Lib.hid (hb0.trans (hb1.mono hb0.size));have HW0:=Lib.hid hw0;have HW1:=Lib.hid hw1;have HN:=Lib.hid hN;have HZ1:=Lib.hid hz1;have HKR:=Lib.hid kr;have HRN:=Lib.hid hn;have HFAC : Hid (b.rings.any badFac = false):=Lib.hid (by
  rw [List.any_eq_false];intro r hr;have:=hok.rf r hr;unfold badFac isIn;simp; omega)
 unfold bdV bdA at *;clear hw0 hw1 hb0 hb1 hz0 hz1 kb kb1 kr hat hat1 hok hN hn;have f0 : (n == 0) = false:=by simp; omega
 have f1 : ((n : Int) == 0) = false:=by rw [beq_eq_false_iff_ne]; omega
 refine (callsIn_wide (n:=0)).1 (callsIn_of_wp_marks Tryz.func67 rfl trivial ?_ rfl)
 simp only [Tryz.ntmps67,List.size_toArray,List.length_cons,List.length_nil,Nat.reduceAdd,Nat.reduceSub,Array.replicate_succ,Array.replicate_zero,List.push_toArray,List.append_toArray,List.nil_append,List.cons_append]
 gi_wp2_with fail
 rw [HW0.out,HW1.out,HN.out];have hsl:=Sl.new1 (fun _ => True) w1 trivial 3 (.int .i64 0)
 rw [HZ1.out] at hsl;refine ⟨trivial,rfl,(callsIn_wide.2 (within_anyBo 0 20 [0] _ _ hsl)).mono ?_⟩
 rintro e w2 ⟨rfl,hb2⟩;have hb2':=bThen (aB w1 _) hb2;have b0:=bAt hb2' b0;have b1:=bAt hb2' b1;have b2:=bAt hb2' b2;have b3:=bAt hb2' b3;have b4:=bAt hb2' b4;have b5:=bAt hb2' b5;have HAT2:=Lib.hid (HAT.out.below hb2');have HB2:=Lib.hid (bThen HB1.out hb2');have HKR2:=Lib.hid ((hb2'.block (N + 1) (by rw [HZ1.out]; omega)).trans HKR.out)
 have hz2 : N + 2 ≤ w2.heap.size:=by have:=hb2'.size; rw [HZ1.out] at this; exact this
 have e1 : (!([0] : List Int).any (outB 0 20)) = true:=by decide
 rw [e1];clear hb2 hb2' hsl HAT HB1 HKR e1
 gi_wp2_with fail
 have hcall:=containsFac_any b.rings HOK.out.ring_ok (.slice ra n rc) w2 HAT2.out.rs;rw [HFAC.out] at hcall;refine ⟨trivial,rfl,(callsIn_wide.2 hcall).mono ?_⟩
 rintro e w3 ⟨rfl,hb3⟩;clear hcall;have b0:=bAt hb3 b0;have b1:=bAt hb3 b1;have b2:=bAt hb3 b2;have b3:=bAt hb3 b3;have b4:=bAt hb3 b4;have b5:=bAt hb3 b5;have HAT3:=Lib.hid (HAT2.out.below hb3);have HB3:=Lib.hid (bThen HB2.out hb3);have HKR3:=Lib.hid ((hb3.block (N + 1) (by omega)).trans HKR2.out)
 have hz3 : N + 2 ≤ w3.heap.size:=by have:=hb3.size; omega
 clear hb3 HAT2 HB2 HKR2 hz2;obtain ⟨X,hX⟩ : ∃ X,w3.heap.size = X:=⟨_,rfl⟩;obtain ⟨w4,hw4⟩ : ∃ z,w3.alloc (.cells #[.int .i64 0] 3) = z:=⟨_,rfl⟩;have hb4 : Below w3.heap.size w3 w4:=by rw [← hw4]; exact aB _ _
 have k4 : w4.heap[X]? = some (.cells #[.int .i64 0] 3 (0,0)):=by rw [← hw4,← hX]; exact World.alloc_heap_new _ _
 have hz4 : w4.heap.size = X + 1:=by rw [← hw4,← hX]; simp
 have b0:=bAt hb4 b0;have b1:=bAt hb4 b1;have b2:=bAt hb4 b2;have b3:=bAt hb4 b3;have b4:=bAt hb4 b4;have b5:=bAt hb4 b5;have HAT4:=Lib.hid (HAT3.out.below hb4);have HB4:=Lib.hid (bThen HB3.out hb4);have HKR4:=Lib.hid ((hb4.block (N + 1) (by omega)).trans HKR3.out)
 have HW4:=Lib.hid hw4;have HX:=Lib.hid hX;have HZ4:=Lib.hid hz4;have HK4:=Lib.hid k4;have HNX : Hid (N + 2 ≤ X):=Lib.hid (by omega)
 clear hw4 hX hb4 k4 hz4 HAT3 HB3 HKR3 hz3;have q0:=b0;have q1:=b1;have q2:=b2;have q3:=b3;have q4:=b4;have q5:=b5;rw [← HW4.out] at q0 q1 q2 q3 q4 q5
 gi_wp2_with fail
 rw [HW4.out,HX.out];clear q0 q1 q2 q3 q4 q5;have hcall:=radii_any b (.slice ra n rc) lv nv w4;unfold bdV bdA at hcall;refine ⟨trivial,rfl,(callsIn_wide.2 hcall).mono ?_⟩
 rintro e w5 ⟨rfl,hw5⟩;clear hcall;have hb5 : Below w4.heap.size w4 w5:=by rw [hw5]; exact aB _ _
 have kp : w5.heap[X + 1]? = some (.cells (bdA b (.slice ra n rc) lv nv) 35 (0,0)):=by rw [hw5,← HZ4.out]; exact World.alloc_heap_new _ _
 have hz5 : w5.heap.size = X + 2:=by rw [hw5]; simp [HZ4.out]
 have b5:=bAt hb5 b5;have HAT5:=Lib.hid (HAT4.out.below hb5);have HB5:=Lib.hid (bThen HB4.out hb5);have HKR5:=Lib.hid ((hb5.block (N + 1) (by rw [HZ4.out]; have:=HNX.out; omega)).trans HKR4.out)
 have HK5:=Lib.hid ((hb5.block X (by rw [HZ4.out]; omega)).trans HK4.out)
 rw [HZ4.out];have HKP:=Lib.hid kp;have HZ5:=Lib.hid hz5;clear hb5 kp hz5 hw5 b0 b1 b2 b3 b4 HAT4 HB4 HKR4 HK4
 gi_wp2_with fail
 obtain ⟨r0,r1,r2, -, -, -⟩ := bd_cells HKP.out;refine wpIn_range (gf:=120) (fa:=#[]) (lb:=#[.pointer (some ⟨X + 1,0,none⟩)]) rfl (enters_of Tryz.func120 (by kernel_rfl) rfl)
  (radii_in b (X + 1) (.slice ra n rc) w5 (fun k => k = X + 1 ∨ k < N) r0 r1 r2 HAT5.out.rs (by rw [HRN.out]; omega) (.inl rfl) (fun k hk _ => .inr (by rw [← HN.out]; exact hk)))
  (RadI X) (fun _ _ _ _ => False) (RadI.stab _ _) (fun _ _ _ _ _ h => h.elim)
  (fun j => j = X) (fun j hj => by rw [HZ5.out]; omega) (fun j hj => by have:=HNX.out; rw [HZ5.out]; rcases hj with h | h <;> omega) ⟨fun k => Iff.rfl,HK5.out⟩
  (fun b args O W' h => by cases h; rfl) ?round ?done ?stop
 case round =>
  rintro l pre r post args O₁ W₁ hL hl1 hl2 hnl hnl' hrel hI rfl;clear hI;have hin:=HOK.out.rad;rw [show b.eye :: b.bull :: b.rings.map (·.1) = radL b from rfl,hL] at hin
  have hin2:=radOk_at hin;have hla:=radOk_last hin (Int.le_refl _);obtain ⟨la,hlast⟩ : ∃ x,pre.getLastD 0 = x:=⟨_,rfl⟩;rw [hlast] at hin2 hla;have HLA:=Lib.hid hlast;have HIN:=Lib.hid hin2;have w1' : IntKind.i64.wrap la = la:=wrap_small _ (by omega) (by omega)
  have w2' : IntKind.i64.wrap (la + 1) = la + 1:=wrap_small _ (by omega) (by omega)
  clear hL hin hin2 hlast hla
  gi_wp2_with fail
  refine ⟨Below.refl _ _, ?_⟩
  rintro W₃ hon ⟨i1,i2⟩;rw [HLA.out] at i2;have x0 : W₃.cell? ⟨X,0,none⟩ = some (.int .i64 la):=by rw [cell_of_heap i2]; rfl
  have z5 : W₃.cell? ⟨N,5,none⟩ = some (.int .i64 0):=(hon.cell _).trans (rAt hrel b5 (fun h => by have:=HNX.out; omega))
  obtain ⟨Q,hQ⟩ : ∃ Q,W₃.heap.size = Q:=⟨_,rfl⟩;have HQX : Hid (X < Q):=Lib.hid (by rw [← hQ]; exact (Array.getElem?_eq_some_iff.1 i2).1)
  have hsl:=Sl.new1 (fun _ => True) W₃ trivial 3 (.int .i64 r)
  rw [hQ] at hsl;have HSL:=Lib.hid hsl;have HQ:=Lib.hid hQ;have I1:=Lib.hid i1;have I2:=Lib.hid i2;clear hsl hQ i1 i2 hon
  gi_wp2_with fail
  rw [HQ.out];refine ⟨trivial,rfl,(callsIn_wide.2 (within_anyBo (la + 1) 5000 [r] _ _ HSL.out)).mono ?_⟩
  rintro e w6 ⟨rfl,hb6⟩;have hb6':=bThen (aB W₃ _) hb6;have e1 : (!([r] : List Int).any (outB (la + 1) 5000)) = true:=by rw [out_oneBo]; exact HIN.out
  rw [e1];have I26:=Lib.hid ((hb6'.block X (by rw [HQ.out]; exact HQX.out)).trans I2.out)
  have x0':=bAt hb6' x0;have fz : w6.frozen? ⟨X,0,none⟩ = false:=frozen_of_heap I26.out;have HB6:=Lib.hid hb6';clear hb6 hb6' e1 x0 z5
  gi_wp2_with fail
  refine ⟨O₁, ?_,I1.out, ?_⟩
  ·exact ((Rel.refl (fun k hk => by rw [(I1.out k).1 hk,HQ.out]; exact HQX.out)).ext HB6.out).setCell (p:=⟨X,0,none⟩) ((I1.out X).2 rfl) _
  ·rw [heap_setCell_at I26.out]
   simp
 case done =>
  intro D O₁ W' hD hnD hrel hI hDD
  clear hI;have hkr : W'.heap[N + 1]? = some (.cells #[.bool false] 4 (0,0)):=(hrel.block (N + 1) (by rw [HZ5.out]; have:=HNX.out; omega) (fun h => by have:=HNX.out; omega)).trans HKR5.out
  have x4 : W'.cell? ⟨N + 1,0,none⟩ = some (.bool false):=by rw [cell_of_heap hkr]; rfl
  have f4 : W'.frozen? ⟨N + 1,0,none⟩ = false:=frozen_of_heap hkr;have hB' : Below N w W':=(by rw [← HN.out]; exact HB5.out : Below N w w5).trans (hrel.below (by rw [HZ5.out]; have:=HNX.out; omega) (fun j hj e => by have:=HNX.out; omega))
  have HDD:=Lib.hid hDD;have HKR':=Lib.hid hkr;have HB':=Lib.hid hB';have HDN : Hid (D ≠ N + 1):=Lib.hid (by rw [HZ5.out] at hD; have:=HNX.out; omega)
  clear hDD hkr hB'
  gi_wp2_with fail
  have hmk : Marks 0 (W'.setCell ⟨N + 1,0,none⟩ (.bool true)) [D]:=(Marks.nil _ _).cons (by rw [Below.heap_setCell _ _ _ _ (by exact HDN.out)]; exact HDD.out) (Nat.zero_le _) (by simp)
  refine leave_marks [D] _ hmk fun W'' hp => ?_
  have hz : W''.cell? ⟨N + 1,0,none⟩ = some (.bool true):=(hp.cell _).trans (by rw [cell_of_heap (heap_setCell_at HKR'.out _)]; rfl)
  refine ⟨.bool true,by simp [results,Tryz.results67,go_sem,hz],rfl, ?_⟩
  rw [HN.out];exact (HB'.out.setCell (p:=⟨N + 1,0,none⟩) (by simp) _).trans (hp.below fun E hE => by simp at hE; rw [hE]; rw [HZ5.out] at hD; have:=HNX.out; omega)
 case stop => intro D c pre O₁ W' _ _ _ _ h; exact h.elim
open Go Go.RowKit Go.Oche Go.Proofs

set_option maxRecDepth 100000 in
set_option maxHeartbeats 8000000 in
theorem areLines_any {S : Nat → Prop} (b : Bd) (hok : BdOk b) (lv : Value) (w : World) (hls : SlN 2 S w lv (b.lines.map ptRow)) :
  Calls Tryz.prog 68 #[lv] w fun e w' => e = .returned (.bool true) ∧ Below w.heap.size w w':=by
 obtain ⟨la,lc,rfl,hl2,hl3⟩ := hls.form;simp only [List.length_map] at *;unfold maxLen at hl3;obtain ⟨n,hn⟩ : ∃ n,b.lines.length = n:=⟨_,rfl⟩;have hl0:=hok.l0;rw [hn] at hl2 hl0 hls ⊢;have HBAD : Hid (b.lines.any badLine = false):=Lib.hid (by
  rw [List.any_eq_false];intro p hp;obtain ⟨h1,h2⟩ := hok.lp p hp;unfold badLine;rw [isPt_ok.2 h1]
  simpa using h2)
 have HLS:=Lib.hid hls;have HLN:=Lib.hid hn;have HOK:=Lib.hid hok;have t1 : decide (n < 3) = false:=decide_eq_false (by omega)
 have t1i : decide ((n : Int) < 3) = false:=decide_eq_false (by omega)
 clear hls hn hok
 go_enter Tryz.func68,Tryz.ntmps68
 go_wp2_with fail;have hcall:=containsLine_any b.lines (fun p hp => (HOK.out.lp p hp).1) (.slice la n lc) w HLS.out
 rw [HBAD.out] at hcall;refine hcall.mono ?_
 rintro e w1 ⟨rfl,hb1⟩;clear hcall t1 t1i;have HLS1:=Lib.hid (HLS.out.below hb1);have HB1:=Lib.hid hb1;clear hb1;obtain ⟨bk,off,hal, -, -,hc0⟩ := HLS1.out.cell (show 0 < (b.lines.map ptRow).length by rw [List.length_map,HLN.out]; omega)
 cases hal;obtain ⟨f,hf⟩ : ∃ f,b.lines.headD (0,0) = f:=⟨_,rfl⟩;have hf0 : b.lines[0]'(by rw [HLN.out]; omega) = f:=by rw [← hf]; exact head_get _ _
 have f0:=hc0 0 (.int .i64 f.1) (by simp [ptRow,hf0])
 have f1:=hc0 1 (.int .i64 f.2) (by simp [ptRow,hf0])
 simp only [Nat.zero_mul,Nat.add_zero] at f0 f1;have hfm : PtOk f:=by rw [← hf0]; exact (HOK.out.lp _ (List.getElem_mem _)).1
 have HF:=Lib.hid hf;have HFM:=Lib.hid hfm;obtain ⟨N,hN⟩ : ∃ N,w1.heap.size = N:=⟨_,rfl⟩;obtain ⟨w2,hw2⟩ : ∃ z,w1.alloc (.cells #[.int .i64 f.1,.int .i64 f.2] 88) = z:=⟨_,rfl⟩;have hb2 : Below w1.heap.size w1 w2:=by rw [← hw2]; exact aB _ _
 have k2 : w2.heap[N]? = some (.cells #[.int .i64 f.1,.int .i64 f.2] 88 (0,0)):=by rw [← hw2,← hN]; exact World.alloc_heap_new _ _
 have g0 : w2.cell? ⟨N,0,none⟩ = some (.int .i64 f.1):=by rw [cell_of_heap k2]; rfl
 have g1 : w2.cell? ⟨N,1,none⟩ = some (.int .i64 f.2):=by rw [cell_of_heap k2]; rfl
 have HLS2:=Lib.hid (HLS1.out.below hb2);have HB2:=Lib.hid (bThen HB1.out hb2);have HW2:=Lib.hid hw2;have HN:=Lib.hid hN;clear hc0 hf hf0 hfm hw2 hN k2 hb2 HLS HLS1 HB1;have hn1 : 0 < n:=by omega
 go_upto_region 4 with fail
 rw [HW2.out,HN.out];clear f0 f1;go_wp2_with fail;go_loopw [20] (fun kv wr => ∃ (k : Nat),k ≤ n ∧ kv = .int .i64 (k : Int) ∧ Hid (Below w2.heap.size w2 wr)) (fun kv _ => n - (intOf kv).toNat)
 case atStart => exact ⟨0,Nat.zero_le _,rfl,Lib.hid (Below.refl _ _)⟩
 case round =>
  obtain ⟨k,hk,rfl,HBr⟩ := hrel;obtain ⟨wo,rfl⟩ : ∃ wo : World,wo = wr:=⟨_,rfl⟩;have g0:=bAt HBr.out g0;have g1:=bAt HBr.out g1;by_cases hlt : k < n
  ·have hkl : k < b.lines.length:=by rw [HLN.out]; exact hlt
   obtain ⟨b',off',hal, -, -,hc⟩ := (HLS2.out.below HBr.out).cell (show k < (b.lines.map ptRow).length by rw [List.length_map]; exact hkl)
   cases hal;obtain ⟨m,hm⟩ : ∃ m,(k + 1) % n = m:=⟨_,rfl⟩;have hmn : m < n:=by rw [← hm]; exact Nat.mod_lt _ hn1
   have hml : m < b.lines.length:=by rw [HLN.out]; exact hmn
   obtain ⟨b'',off'',hal, -, -,hc2⟩ := (HLS2.out.below HBr.out).cell (show m < (b.lines.map ptRow).length by rw [List.length_map]; exact hml)
   cases hal;obtain ⟨p,hp⟩ : ∃ p,b.lines[k] = p:=⟨_,rfl⟩;obtain ⟨q,hq⟩ : ∃ q,b.lines[m] = q:=⟨_,rfl⟩;have z0:=hc 0 (.int .i64 p.1) (by simp [ptRow,hp])
   have z1:=hc 1 (.int .i64 p.2) (by simp [ptRow,hp])
   have y0:=hc2 0 (.int .i64 q.1) (by simp [ptRow,hq])
   have y1:=hc2 1 (.int .i64 q.2) (by simp [ptRow,hq])
   simp only [Nat.add_zero] at z0 y0;have hlt2:=HOK.out.lt k hkl;rw [HLN.out,hm,List.getD_eq_getElem?_getD,List.getD_eq_getElem?_getD,List.getElem?_eq_getElem hkl,List.getElem?_eq_getElem hml,hp,hq,HF.out] at hlt2
   simp only [Option.getD_some] at hlt2;have HPART : Hid (partP p q = 1):=Lib.hid hlt2.1;have HBEF : Hid (k + 1 < n → beforeP f p q = true):=Lib.hid (fun h => by
    have h2:=hlt2.2 h;have e : (k + 1) = m:=by rw [← hm,Nat.mod_eq_of_lt h]
    rw [List.getD_eq_getElem?_getD,e,List.getElem?_eq_getElem hml,hq] at h2
    exact h2)
   have HPT : Hid (PtOk p):=Lib.hid (by rw [← hp]; exact (HOK.out.lp _ (List.getElem_mem hkl)).1)
   have HQT : Hid (PtOk q):=Lib.hid (by rw [← hq]; exact (HOK.out.lp _ (List.getElem_mem hml)).1)
   obtain ⟨Q,hQ⟩ : ∃ Q,wo.heap.size = Q:=⟨_,rfl⟩;obtain ⟨w3,hw3⟩ : ∃ z,wo.alloc (.cells #[.int .i64 p.1,.int .i64 p.2] 31) = z:=⟨_,rfl⟩;have hb3 : Below wo.heap.size wo w3:=by rw [← hw3]; exact aB _ _
   have k3 : w3.heap[Q]? = some (.cells #[.int .i64 p.1,.int .i64 p.2] 31 (0,0)):=by rw [← hw3,← hQ]; exact World.alloc_heap_new _ _
   have hz3 : w3.heap.size = Q + 1:=by rw [← hw3,← hQ]; simp
   obtain ⟨w4,hw4⟩ : ∃ z,w3.alloc (.cells #[.int .i64 q.1,.int .i64 q.2] 88) = z:=⟨_,rfl⟩;have hb4 : Below w3.heap.size w3 w4:=by rw [← hw4]; exact aB _ _
   have k4 : w4.heap[Q + 1]? = some (.cells #[.int .i64 q.1,.int .i64 q.2] 88 (0,0)):=by rw [← hw4,← hz3]; exact World.alloc_heap_new _ _
   have x0 : w4.cell? ⟨Q,0,none⟩ = some (.int .i64 p.1):=by rw [cell_of_heap ((hb4.block Q (by omega)).trans k3)]; rfl
   have x1 : w4.cell? ⟨Q,1,none⟩ = some (.int .i64 p.2):=by rw [cell_of_heap ((hb4.block Q (by omega)).trans k3)]; rfl
   have v0 : w4.cell? ⟨Q + 1,0,none⟩ = some (.int .i64 q.1):=by rw [cell_of_heap k4]; rfl
   have v1 : w4.cell? ⟨Q + 1,1,none⟩ = some (.int .i64 q.2):=by rw [cell_of_heap k4]; rfl
   have y0:=bAt hb3 y0;have y1:=bAt hb3 y1;have g0:=bAt hb4 (bAt hb3 g0);have g1:=bAt hb4 (bAt hb3 g1);have HB4:=Lib.hid (bThen (bThen HBr.out hb3) hb4);have HW3:=Lib.hid hw3;have HW4:=Lib.hid hw4;have HQ:=Lib.hid hQ;have HZ3:=Lib.hid hz3;have hkk : (k : Int) < (n : Int):=by omega
   have hmm : (m : Int) < (n : Int):=by omega
   have hwk : IntKind.i64.wrap ((k : Int) + 1) = (k : Int) + 1:=wrap_small _ (by omega) (by omega)
   have hmod : ((k : Int) + 1).tmod (n : Int) = (m : Int):=by rw [← hm]; rfl
   have hn0 : ¬ (n : Int) = 0:=by omega
   clear hc hc2 hp hq hm hlt2 hw3 hw4 hQ hb3 hb4 k3 k4 hz3 hkl hml HBr;go_upto_region 7 with fail;rw [HW3.out,HQ.out];go_upto_region 8 with fail;rw [HW4.out,HZ3.out];clear z0 z1 y0 y1;go_wp2_with fail;have hcall:=part_any p q HPT.out HQT.out w4;unfold ptV ptA at hcall;rw [HPART.out] at hcall;refine hcall.mono ?_
   rintro e w5 ⟨rfl,hb5⟩;clear hcall;have x0:=bAt hb5 x0;have x1:=bAt hb5 x1;have v0:=bAt hb5 v0;have v1:=bAt hb5 v1;have g0:=bAt hb5 g0;have g1:=bAt hb5 g1;have HB5:=Lib.hid (bThen HB4.out hb5);clear hb5 HB4;by_cases hlast : k + 1 < n
   ·have HBB:=Lib.hid (HBEF.out hlast)
    have t3 : decide (k + 1 < n) = true:=decide_eq_true hlast;have t3i : decide ((k : Int) + 1 < (n : Int)) = true:=decide_eq_true (by omega)
    clear HBEF hlast;go_wp2_with fail;have hcall:=before_any f p q HFM.out HPT.out HQT.out w5;unfold ptV ptA at hcall;rw [HBB.out] at hcall;refine hcall.mono ?_
    rintro e w6 ⟨rfl,hb6⟩;clear hcall;have HB6:=Lib.hid (bThen HB5.out hb6);clear hb6 x0 x1 v0 v1 g0 g1 t3 t3i;go_wp2_with fail;go_roundw
    case rel => exact ⟨k + 1,by omega,by go_num,HB6⟩
    case measure => simp [intOf]; omega
   ·have t3 : decide (k + 1 < n) = false:=decide_eq_false hlast
    have t3i : decide ((k : Int) + 1 < (n : Int)) = false:=decide_eq_false (by omega)
    clear hlast HBEF;go_wp2_with fail;go_roundw
    case rel => exact ⟨k + 1,by omega,by go_num,HB5⟩
    case measure => simp [intOf]; omega
  ·obtain rfl : k = n:=by omega
   go_wp2_with fail;go_returns;exact ⟨rfl,bThen HB2.out HBr.out⟩
def onL (xs : List Int) : List (Int × Value):=xs.map fun x => (x,.bool true)
theorem lookOn {xs : List Int} {x : Int} (h : x ∉ xs) : lookM (onL xs) x = none:=lookM_none (by unfold onL; rw [List.map_map]; simpa using h)
theorem updOn {xs : List Int} {x : Int} (h : x ∉ xs) : upd (onL xs) x (.bool true) = onL (xs ++ [x]):=by
 rw [upd_none (by unfold onL; rw [List.map_map]; simpa using h)]
 simp [onL]
set_option maxRecDepth 100000 in
set_option maxHeartbeats 8000000 in
theorem areNumbers_any {S : Nat → Prop} (b : Bd) (hok : BdOk b) (rv lv nv : Value) (w : World) (hat0 : BdAt S w b rv lv nv) :
  Calls Tryz.prog 69 #[bdV b rv lv nv] w fun e w' => e = .returned (.bool true) ∧ Below w.heap.size w w':=by
 have hat : BdAt (fun k => k < w.heap.size) w b rv lv nv:=⟨(hat0.rs.lt (by decide)).mono fun _ h => h.2,(hat0.ls.lt (by decide)).mono fun _ h => h.2,hat0.ns.lt.mono fun _ h => h.2⟩
 clear hat0;obtain ⟨na,nc,rfl,hn2,hn3⟩ := hat.ns.form;obtain ⟨la,lc,rfl,hl2,hl3⟩ := hat.ls.form;simp only [List.length_map,ints_length] at *;unfold maxLen at hn3 hl3;obtain ⟨m,hm⟩ : ∃ m,b.ns.length = m:=⟨_,rfl⟩;have hlm : b.lines.length = m:=by rw [← hok.n0]; exact hm
 have hl0:=hok.l0;rw [hlm] at hl0 hl2;rw [hm,hlm] at hat;rw [hm] at hn2;rw [hm,hlm];obtain ⟨N,hN⟩ : ∃ N,w.heap.size = N:=⟨_,rfl⟩;obtain ⟨w1,hw1⟩ : ∃ z,w.alloc (.cells (bdA b rv (.slice la m lc) (.slice na m nc)) 35) = z:=⟨_,rfl⟩;have hb1 : Below w.heap.size w w1:=by rw [← hw1]; exact aB _ _
 have hz1 : w1.heap.size = N + 1:=by rw [← hw1]; simp [hN]
 have kb : w1.heap[N]? = some (.cells (bdA b rv (.slice la m lc) (.slice na m nc)) 35 (0,0)):=by rw [← hw1,← hN]; exact World.alloc_heap_new _ _
 obtain ⟨w2,hw2⟩ : ∃ z,w1.alloc (.map #[] 0) = z:=⟨_,rfl⟩;have hb2 : Below w1.heap.size w1 w2:=by rw [← hw2]; exact aB _ _
 have hma : MapAt (Value.int .i64) w2 (N + 1) (onL []):=by rw [← hw2,← hz1]; exact MapAt.made _ _
 have kb2:=(hb2.block N (by omega)).trans kb
 have HNS:=Lib.hid hat.ns;have HB2 : Hid (Below N w w2):=Lib.hid (by rw [← hN]; exact bThen hb1 hb2)
 have HW1:=Lib.hid hw1;have HW2:=Lib.hid hw2;have HN:=Lib.hid hN;have HZ1:=Lib.hid hz1;have HOK:=Lib.hid hok;have HM:=Lib.hid hm;have HMA:=Lib.hid hma;have HKB:=Lib.hid kb2;have hmm := @run_makeMap Tryz.prog;unfold bdV bdA at *;clear hat hm hN hw1 hb1 hz1 kb hw2 hb2 hma kb2 hlm hok
 go_enter Tryz.func69,Tryz.ntmps69
 go_upto_region 2 with fail
 rw [HW1.out,HN.out,HW2.out];clear hmm;obtain ⟨-, -, -,q3,q4, -⟩ := bd_cells (b:=b) HKB.out;go_upto_region 3 with fail;clear q3 q4;have hszN : N + 2 ≤ w2.heap.size:=by rw [← HW2.out]; simp [HZ1.out]
 go_loopw [10] (fun kv wr => ∃ (k : Nat),k ≤ m ∧ kv = .int .i64 (k : Int) ∧ Hid (MapAt (Value.int .i64) wr (N + 1) (onL (b.ns.take k))) ∧ Hid (wr.heap[N]? = some (.cells (bdA b rv (.slice la m lc) (.slice na m nc)) 35 (0,0))) ∧ Hid (Below N w wr) ∧ N + 2 ≤ wr.heap.size) (fun kv _ => m - (intOf kv).toNat)
 case atStart => exact ⟨0,Nat.zero_le _,rfl,HMA,HKB,HB2,hszN⟩
 case round =>
  clear HMA HKB HB2 hszN;obtain ⟨k,hk,rfl,HMA,HKB,HBr,hsz⟩ := hrel;obtain ⟨wo,rfl⟩ : ∃ wo : World,wo = wr:=⟨_,rfl⟩;obtain ⟨-, -, -,q3,q4, -⟩ := bd_cells (b:=b) HKB.out;by_cases hlt : k < m
  ·have hkl : k < b.ns.length:=by rw [HM.out]; exact hlt
   have hns : Sl (fun k => k < w.heap.size) wo (.slice na m nc) (ints b.ns):=HNS.out.below (by rw [HN.out]; exact HBr.out)
   obtain ⟨bk,off,hal, -,hc⟩ := sl_cellB hns hkl;cases hal;obtain ⟨x,hx⟩ : ∃ x,b.ns[k] = x:=⟨_,rfl⟩;rw [hx] at hc;have hxr:=HOK.out.nr x (by rw [← hx]; exact List.getElem_mem hkl)
   have hxn : x ∉ b.ns.take k:=by
    intro hmem
    obtain ⟨j,hj,he⟩ := List.mem_iff_getElem.1 hmem;rw [List.length_take] at hj;rw [List.getElem_take] at he;exact (List.pairwise_iff_getElem.1 HOK.out.nd j k (by omega) hkl (by omega)) (by rw [he,hx])
   have htk : b.ns.take k ++ [x] = b.ns.take (k + 1):=by rw [List.take_succ_eq_append_getElem hkl,hx]
   have HXN:=Lib.hid hxn;have HTK:=Lib.hid htk;have hkk : (k : Int) < (m : Int):=by omega
   have e1 : (!([x] : List Int).any (outB 1 20)) = true:=by rw [out_oneBo]; unfold isIn; simp; omega
   have HE1:=Lib.hid e1;have hwk : IntKind.i64.wrap ((k : Int) + 1) = (k : Int) + 1:=wrap_small _ (by omega) (by omega)
   have hsl:=Sl.new1 (fun _ => True) wo trivial 3 (.int .i64 x)
   have HSL:=Lib.hid hsl;clear hns hx hxr hxn htk hkl e1 hsl;go_wp2_with fail;refine (within_anyBo 1 20 [x] _ _ HSL.out).mono ?_
   rintro e w3 ⟨rfl,hb3⟩;rw [HE1.out];have hb3':=bThen (aB wo _) hb3;have HMA3:=Lib.hid (HMA.out.below hb3');have HKB3:=Lib.hid ((hb3'.block N (by omega)).trans HKB.out)
   have HB3 : Hid (Below N w w3):=Lib.hid (HBr.out.trans (hb3'.mono (by omega)))
   have hsz3 : N + 2 ≤ w3.heap.size:=by have:=hb3'.size; omega
   have hlk:=HMA3.out.lookup (KeyEq.int (q:=.i64) Tryz.underlying3) (T:=206) (E:=4) (by rfl) (z:=.bool false) (by rfl) x false
   rw [lookOn HXN.out] at hlk;simp only [Option.getD_none,Bool.false_eq_true,if_false] at hlk;obtain ⟨wu,hup,hmu,hgu⟩ := HMA3.out.update (KeyEq.int (q:=.i64) Tryz.underlying3) (T:=206) (E:=4) (by rfl) x (.bool true)
   rw [updOn HXN.out,HTK.out] at hmu;have HMU:=Lib.hid hmu;have HKU:=Lib.hid ((hgu.block N (by omega) (fun e => by have:=Option.some.inj e; omega)).trans HKB3.out)
   have HBU : Hid (Below N w wu):=Lib.hid (HB3.out.trans (below_grownBy hgu (by omega) (fun x hx => by cases hx; omega)))
   have hszu : N + 2 ≤ wu.heap.size:=by have:=hgu.size; omega
   clear hb3 hb3' hmu hgu hc q3 q4 HMA HKB HBr;go_wp2_with fail;go_roundw
   case rel => exact ⟨k + 1,by omega,by go_num,HMU,HKU,HBU,hszu⟩
   case measure => simp [intOf]; omega
  ·obtain rfl : k = m:=by omega
   go_wp2_with fail;go_returns;exact ⟨by simp,by rw [HN.out]; exact HBr.out⟩
open Go Go.RowKit Go.Oche Go.Proofs

theorem BdAt.inn {S : Nat → Prop} {w : World} {b : Bd} {rv lv nv : Value} (h : BdAt S w b rv lv nv) : BdAt (fun k => k < w.heap.size) w b rv lv nv:=⟨(h.rs.lt (by decide)).mono fun _ h => h.2,(h.ls.lt (by decide)).mono fun _ h => h.2,h.ns.lt.mono fun _ h => h.2⟩
theorem one_bd (b : Bd) (rv lv nv : Value) (t : TypeId) (w : World) : ∃ w1,w.alloc (.cells (bdA b rv lv nv) t) = w1 ∧ Below w.heap.size w w1 ∧ w1.heap.size = w.heap.size + 1 ∧ w1.heap[w.heap.size]? = some (.cells (bdA b rv lv nv) t (0,0)) :=
 ⟨_,rfl,aB _ _,by simp,World.alloc_heap_new _ _⟩
set_option maxRecDepth 100000 in
set_option maxHeartbeats 4000000 in
theorem bCheck_any {S : Nat → Prop} (b : Bd) (hok : BdOk b) (rv lv nv : Value) (w : World) (hat : BdAt S w b rv lv nv) :
  Calls Tryz.prog 35 #[bdV b rv lv nv] w fun e w' => e = .returned (.int .i64 0) ∧ Below w.heap.size w w':=by
 obtain ⟨ra,rc,rfl,hr2,hr3⟩ := hat.rs.form;obtain ⟨la,lc,rfl,hl2,hl3⟩ := hat.ls.form;obtain ⟨na,nc,rfl,hn2,hn3⟩ := hat.ns.form;simp only [List.length_map,ints_length] at *;unfold maxLen at hr3 hl3 hn3;obtain ⟨n,hn⟩ : ∃ n,b.rings.length = n:=⟨_,rfl⟩;obtain ⟨m,hm⟩ : ∃ m,b.ns.length = m:=⟨_,rfl⟩;have hlm : b.lines.length = m:=by rw [← hok.n0]; exact hm
 have hr0:=hok.r0.2;have hl0:=hok.l0;rw [hlm] at hl0;rw [hn] at hr0;rw [hn,hm,hlm] at hat;rw [hn,hm,hlm];obtain ⟨w1,hw1,hb1,hz1,kb⟩ := one_bd b (.slice ra n rc) (.slice la m lc) (.slice na m nc) 35 w;obtain ⟨b0,b1,b2,b3,b4,b5⟩ := bd_cells kb;have t1 : decide (8 < n) = false:=decide_eq_false (by omega)
 have t1i : decide ((8 : Int) < (n : Int)) = false:=decide_eq_false (by omega)
 have t2 : decide (20 < m) = false:=decide_eq_false (by omega)
 have t2i : decide ((20 : Int) < (m : Int)) = false:=decide_eq_false (by omega)
 have HAT:=Lib.hid (hat.below hb1);have HB:=Lib.hid hb1;have HW:=Lib.hid hw1;have HOK:=Lib.hid hok;unfold bdV bdA at *;clear hw1 hb1 hz1 kb hat hok hn hm hlm
 go_enter Tryz.func35,Tryz.ntmps35
 go_upto_region 1 with fail
 rw [HW.out];go_wp2_with fail;have hcall:=areRings_any b HOK.out (.slice ra n rc) (.slice la m lc) (.slice na m nc) w1 HAT.out;unfold bdV bdA at hcall;refine hcall.mono ?_
 rintro e w2 ⟨rfl,hb2⟩;clear hcall t1 t1i t2 t2i;have b0:=bAt hb2 b0;have b1:=bAt hb2 b1;have b2:=bAt hb2 b2;have b3:=bAt hb2 b3;have b4:=bAt hb2 b4;have b5:=bAt hb2 b5;have HAT2:=Lib.hid (HAT.out.below hb2);have HB2:=Lib.hid (bThen HB.out hb2);clear hb2 HAT HB;go_wp2_with fail;refine (areLines_any b HOK.out (.slice la m lc) w2 HAT2.out.ls).mono ?_
 rintro e w3 ⟨rfl,hb3⟩;have b0:=bAt hb3 b0;have b1:=bAt hb3 b1;have b2:=bAt hb3 b2;have b3:=bAt hb3 b3;have b4:=bAt hb3 b4;have b5:=bAt hb3 b5;have HAT3:=Lib.hid (HAT2.out.below hb3);have HB3:=Lib.hid (bThen HB2.out hb3);clear hb3 HAT2 HB2;go_wp2_with fail;have hcall:=areNumbers_any b HOK.out (.slice ra n rc) (.slice la m lc) (.slice na m nc) w3 HAT3.out;unfold bdV bdA at hcall;refine hcall.mono ?_
 rintro e w4 ⟨rfl,hb4⟩;clear hcall;have HB4:=Lib.hid (bThen HB3.out hb4);clear hb4;go_wp2_with fail;go_returns;exact ⟨rfl,HB4.out⟩
structure JOp (w0 : World) (R : Nat) (t : TypeId) (c : Array Value) (L : Nat → Bool) (W : World) : Prop where
 g : w0.grownBy W (some R)
 at_ : ∃ old,old.size = c.size ∧ W.heap[R]? = some (.cells old t (0,0)) ∧ (L 4 = true → old = c)
section
variable {w0 W W' : World} {R : Nat} {t : TypeId} {c : Array Value} {L : Nat → Bool}
theorem grownBy_refl (w : World) (r : Option Nat) : w.grownBy w r:=⟨rfl,rfl,rfl,Nat.le_refl _,fun _ _ _ => rfl⟩
theorem JOp.start {old : Array Value} (h : w0.heap[R]? = some (.cells old t (0,0))) (hs : old.size = c.size) : JOp w0 R t c (fun _ => false) w0:=⟨grownBy_refl _ _,old,hs,h,fun h => (by cases h)⟩
theorem JOp.read (h : JOp w0 R t c L W) {i : Nat} (hi : 4 ≠ i) : JOp w0 R t c (setB L i) W:=by
 obtain ⟨old,h1,h2,h3⟩ := h.at_;exact ⟨h.g,old,h1,h2,by rw [setB_ne hi]; exact h3⟩
theorem JOp.call (h : JOp w0 R t c L W) {i : Nat} (hi : 4 ≠ i) (hb : Below W.heap.size W W') : JOp w0 R t c (setB L i) W':=by
 obtain ⟨old,h1,h2,h3⟩ := h.at_;exact ⟨⟨hb.os.trans h.g.os,hb.tape.trans h.g.tape,hb.output.trans h.g.output,Nat.le_trans h.g.size hb.size,fun k hk hne => (hb.block k (Nat.lt_of_lt_of_le hk h.g.size)).trans (h.g.block k hk hne)⟩,old,h1,(hb.block R (Array.getElem?_eq_some_iff.1 h2).1).trans h2,by rw [setB_ne hi]; exact h3⟩
theorem JOp.store (h : JOp w0 R t c L W) : JOp w0 R t c (setB L 4) (W.setRow R c):=by
 obtain ⟨old,h1,h2,h3⟩ := h.at_;have hk:=setRow_heap W R old c t (0,0) h2;refine ⟨⟨h.g.os,h.g.tape,h.g.output, ?_,fun k hk' hne => ?_⟩,c,rfl,hk,fun _ => rfl⟩
 ·have:=h.g.size; rw [setRow_size]; exact this
 ·rw [setRow_other _ _ _ _ (fun e => hne (by rw [e]))]; exact h.g.block k hk' hne
theorem JOp.cell (h : JOp w0 R t c L W) {b o : Nat} {v : Value} (hv : w0.cell? ⟨b,o,none⟩ = some v) (hb : b ≠ R) : W.cell? ⟨b,o,none⟩ = some v :=
 (World.cell?_of_block (w:=w0) (h.g.block b (World.block_lt_of_cell? w0 ⟨b,o,none⟩ hv) (fun e => hb (Option.some.inj e)))).trans hv
end
def zeroBd : Array Value:=#[.int .i64 0,.int .i64 0,.slice none 0 0,.slice none 0 0,.slice none 0 0,.int .i64 0]
set_option maxRecDepth 100000 in
set_option maxHeartbeats 4000000 in
theorem openB_any {S : Nat → Prop} (b : Bd) (hok : BdOk b) (rv lv nv : Value) (w : World) (hat : BdAt S w b rv lv nv) :
  Calls Tryz.prog 15 #[bdV b rv lv nv] w fun e w' => e = .returned (.tuple #[bdV b rv lv nv,.int .i64 0]) ∧ Below w.heap.size w w':=by
 obtain ⟨ra,rc,hrv, -, -⟩ := hat.rs.form;obtain ⟨la,lc,hlv, -, -⟩ := hat.ls.form;obtain ⟨na,nc,hnv, -, -⟩ := hat.ns.form;obtain ⟨rn,hrn⟩ : ∃ n,(b.rings.map ptRow).length = n:=⟨_,rfl⟩;obtain ⟨ln,hln⟩ : ∃ n,(b.lines.map ptRow).length = n:=⟨_,rfl⟩;obtain ⟨nn,hnn⟩ : ∃ n,(ints b.ns).length = n:=⟨_,rfl⟩;rw [hrn] at hrv;rw [hln] at hlv;rw [hnn] at hnv;subst hrv hlv hnv;obtain ⟨w1,hw1,hb1,hz1,kb⟩ := one_bd b (.slice ra rn rc) (.slice la ln lc) (.slice na nn nc) 35 w;obtain ⟨N,hN⟩ : ∃ N,w.heap.size = N:=⟨_,rfl⟩;rw [hN] at hz1 kb;obtain ⟨w2,hw2⟩ : ∃ z,w1.alloc (.cells zeroBd 72) = z:=⟨_,rfl⟩;have hb2 : Below w1.heap.size w1 w2:=by rw [← hw2]; exact aB _ _
 have k2 : w2.heap[N + 1]? = some (.cells zeroBd 72 (0,0)):=by rw [← hw2,← hz1]; exact World.alloc_heap_new _ _
 obtain ⟨b0,b1,b2,b3,b4,b5⟩ := bd_cells ((hb2.block N (by omega)).trans kb)
 have hsz2 : w2.heap.size = N + 2:=by rw [← hw2]; simp [hz1]
 have HAT:=Lib.hid ((hat.inn.below hb1).below hb2);have HB : Hid (Below N w w2):=Lib.hid (by rw [← hN]; exact bThen hb1 hb2)
 have HW:=Lib.hid hw1;have HW2:=Lib.hid hw2;have HN:=Lib.hid hN;have HOK:=Lib.hid hok;have HK2:=Lib.hid k2;unfold bdV bdA zeroBd at *;clear hw1 hb1 hz1 kb hat hok hN hw2 hb2 k2 hrn hln hnn
 go_enter Tryz.func15,Tryz.ntmps15
 go_upto_region 1 with fail
 rw [HW.out,HN.out,HW2.out];refine wp_region_seqC 6 [.agg #[.int .i64 b.eye,.int .i64 b.bull,.slice ra rn rc,.slice la ln lc,.slice na nn nc,.int .i64 0],.agg #[.int .i64 b.eye,.int .i64 b.bull,.slice ra rn rc,.slice la ln lc,.slice na nn nc,.int .i64 0],.agg #[.int .i64 b.eye,.int .i64 b.bull,.slice ra rn rc,.slice la ln lc,.slice na nn nc,.int .i64 0],.int .i64 0,undef,.int .i64 0] (JOp w2.drew (N + 1) 72 #[.int .i64 b.eye,.int .i64 b.bull,.slice ra rn rc,.slice la ln lc,.slice na nn nc,.int .i64 0]) rfl mix (by kernel_rfl) (by kernel_rfl) (JOp.start HK2.out rfl) ?_
 simp only [List.take_succ_cons,List.take_zero]
 iterate 3
  refine sc_rd rfl (fun _ _ _ h => h.read (by decide)) (fun w5 L hL hJ => ?_) ?_
  ·have b0':=hJ.cell b0 (by omega)
   have b1':=hJ.cell b1 (by omega)
   have b2':=hJ.cell b2 (by omega)
   have b3':=hJ.cell b3 (by omega)
   have b4':=hJ.cell b4 (by omega)
   have b5':=hJ.cell b5 (by omega)
   simp [opOK,go_sem,b0',b1',b2',b3',b4',b5']
   try exact rfl
  simp only [Act.put,List.setIfInBounds_toArray,List.set_cons_succ,List.set_cons_zero]
 refine sc_is rfl (fun w5 L hL hJ hd => ?_) ?_
 ·have hat5 : BdAt (fun k => k < w.heap.size) w5 b (.slice ra rn rc) (.slice la ln lc) (.slice na nn nc):=by
   have hc : ∀ q o,q < w.heap.size → (w2.cell? ⟨q,o,none⟩).isSome → w5.cell? ⟨q,o,none⟩ = w2.cell? ⟨q,o,none⟩ := fun q o hq hs => by
    obtain ⟨x,hx⟩ := Option.isSome_iff_exists.1 hs;rw [hx];exact hJ.cell hx (by rw [HN.out] at hq; omega)
   exact ⟨HAT.out.rs.cells hc,HAT.out.ls.cells hc,HAT.out.ns.cells hc⟩
  have hcall:=bCheck_any b HOK.out (.slice ra rn rc) (.slice la ln lc) (.slice na nn nc) w5 hat5;unfold bdV bdA at hcall;refine opOK_call (f:=35) (args:=#[.agg #[.int .i64 b.eye,.int .i64 b.bull,.slice ra rn rc,.slice la ln lc,.slice na nn nc,.int .i64 0]]) (by simp [go_sem]) ?_
  exact hcall.mono fun e W' ⟨he,hb⟩ => ⟨_,he,rfl,hJ.call (by decide) hb⟩
 simp only [Act.put,List.setIfInBounds_toArray,List.set_cons_succ,List.set_cons_zero];refine sc_is rfl (fun w5 L hL hJ hd => ?_) ?_
 ·obtain ⟨old,h1,h2, -⟩ := hJ.at_
  exact opOK_store_row _ _ _ rfl (N + 1) #[.int .i64 b.eye,.int .i64 b.bull,.slice ra rn rc,.slice la ln lc,.slice na nn nc,.int .i64 0] (by simp [Act.eval]) (by simp [Act.eval]) 72 old h2 (by kernel_rfl) h1 (by simp [Value.oneCell']) ⟨rfl,hJ.store⟩
 simp only [Act.put];refine sc_rd rfl (fun _ _ _ h => h.read (by decide)) (fun w5 L hL hJ => ?_) ?_
 ·simp [opOK,go_sem]
  try exact rfl
 simp only [Act.put,List.setIfInBounds_toArray,List.set_cons_succ,List.set_cons_zero];refine sc_end fun w5 hJ => ?_
 simp only [List.drop_succ_cons,List.drop_zero];obtain ⟨old, -,h2,h3⟩ := hJ.at_;have h4:=h3 rfl;subst h4;have hg5 : w2.grownBy w5 (some (N + 1)):=⟨hJ.g.os,hJ.g.tape,hJ.g.output,hJ.g.size,hJ.g.block⟩;have hb5 : Below N w w5:=HB.out.trans (below_grownBy hg5 (by omega) (fun k hk => by have:=Option.some.inj hk; omega))
 have HB5:=Lib.hid hb5;have p0 : w5.cell? ⟨N + 1,0,none⟩ = some (.int .i64 b.eye):=by rw [cell_of_heap h2]; rfl
 have p1 : w5.cell? ⟨N + 1,1,none⟩ = some (.int .i64 b.bull):=by rw [cell_of_heap h2]; rfl
 have p2 : w5.cell? ⟨N + 1,2,none⟩ = some (.slice ra rn rc):=by rw [cell_of_heap h2]; rfl
 have p3 : w5.cell? ⟨N + 1,3,none⟩ = some (.slice la ln lc):=by rw [cell_of_heap h2]; rfl
 have p4 : w5.cell? ⟨N + 1,4,none⟩ = some (.slice na nn nc):=by rw [cell_of_heap h2]; rfl
 have p5 : w5.cell? ⟨N + 1,5,none⟩ = some (.int .i64 0):=by rw [cell_of_heap h2]; rfl
 clear hJ h2 h3 hb5 hg5 b0 b1 b2 b3 b4 b5 hsz2;go_wp2_with fail;refine bodyPost_ret (v:=.tuple #[.agg #[.int .i64 b.eye,.int .i64 b.bull,.slice ra rn rc,.slice la ln lc,.slice na nn nc,.int .i64 0],.int .i64 0]) (by simp [results,Tryz.results15,go_sem,p0,p1,p2,p3,p4,p5]) rfl ?_
 exact ⟨rfl,by rw [HN.out]; exact HB5.out⟩
set_option maxRecDepth 100000 in
set_option maxHeartbeats 4000000 in
theorem bed_any {S : Nat → Prop} (b : Bd) (hok : BdOk b) (rv lv nv : Value) (p : Int × Int) (hp : PtOk p) (w : World) (hat : BdAt S w b rv lv nv) :
  Calls Tryz.prog 8 #[bdV b rv lv nv,ptV p] w fun e w' => e = .returned (.tuple #[.int .i64 (bedB b p),.bool false,.int .i64 0]) ∧ Below w.heap.size w w':=by
 obtain ⟨ra,rc,hrv, -, -⟩ := hat.rs.form;obtain ⟨la,lc,hlv, -, -⟩ := hat.ls.form;obtain ⟨na,nc,hnv, -, -⟩ := hat.ns.form;obtain ⟨rn,hrn⟩ : ∃ n,(b.rings.map ptRow).length = n:=⟨_,rfl⟩;obtain ⟨ln,hln⟩ : ∃ n,(b.lines.map ptRow).length = n:=⟨_,rfl⟩;obtain ⟨nn,hnn⟩ : ∃ n,(ints b.ns).length = n:=⟨_,rfl⟩;rw [hrn] at hrv;rw [hln] at hlv;rw [hnn] at hnv;subst hrv hlv hnv;obtain ⟨w1,hw1,hb1,hz1,kb,d0,d1⟩ := bd_pt b (.slice ra rn rc) (.slice la ln lc) (.slice na nn nc) p 35 31 w;obtain ⟨b0,b1,b2,b3,b4,b5⟩ := bd_cells kb;have HAT:=Lib.hid (hat.below hb1);have HB:=Lib.hid hb1;have HW:=Lib.hid hw1;have HOK:=Lib.hid hok;have HP:=Lib.hid hp;unfold bdV bdA ptV ptA at *;clear hw1 hb1 hz1 kb hat hok hp hrn hln hnn
 go_enter Tryz.func8,Tryz.ntmps8
 go_upto_region 1 with fail
 rw [HW.out];go_wp2_with fail;have hcall:=openB_any b HOK.out (.slice ra rn rc) (.slice la ln lc) (.slice na nn nc) w1 HAT.out;unfold bdV bdA at hcall;refine hcall.mono ?_
 rintro e w2 ⟨rfl,hb2⟩;clear hcall;have HAT2:=Lib.hid (HAT.out.below hb2);have HB2:=Lib.hid (bThen HB.out hb2);have d0:=bAt hb2 d0;have d1:=bAt hb2 d1;obtain ⟨K,hK⟩ : ∃ K,w2.heap.size = K:=⟨_,rfl⟩;obtain ⟨w3,hw3⟩ : ∃ z,w2.alloc (.cells #[.int .i64 b.eye,.int .i64 b.bull,.slice ra rn rc,.slice la ln lc,.slice na nn nc,.int .i64 0] 72) = z:=⟨_,rfl⟩;have hb3 : Below w2.heap.size w2 w3:=by rw [← hw3]; exact aB _ _
 have k3 : w3.heap[K]? = some (.cells (bdA b (.slice ra rn rc) (.slice la ln lc) (.slice na nn nc)) 72 (0,0)):=by rw [← hw3,← hK]; exact World.alloc_heap_new _ _
 obtain ⟨e0,e1,e2,e3,e4,e5⟩ := bd_cells k3;have HAT3:=Lib.hid (HAT2.out.below hb3);have HB3:=Lib.hid (bThen HB2.out hb3);have d0:=bAt hb3 d0;have d1:=bAt hb3 d1;have HW3:=Lib.hid hw3;have HK:=Lib.hid hK;clear hb2 hb3 hw3 hK k3 HAT HAT2 HB HB2 b0 b1 b2 b3 b4 b5;go_upto_region 2 with fail;rw [HW3.out,HK.out];go_wp2_with fail;have hcall:=isPoint_any p w3;rw [isPt_ok.2 HP.out] at hcall;unfold ptV ptA at hcall;refine hcall.mono ?_
 rintro e w4 ⟨rfl,hb4⟩;clear hcall;have HAT4:=Lib.hid (HAT3.out.below hb4);have HB4:=Lib.hid (bThen HB3.out hb4);have d0:=bAt hb4 d0;have d1:=bAt hb4 d1;have e0:=bAt hb4 e0;have e1:=bAt hb4 e1;have e2:=bAt hb4 e2;have e3:=bAt hb4 e3;have e4:=bAt hb4 e4;have e5:=bAt hb4 e5;clear hb4 HAT3 HB3;go_wp2_with fail;have hcall:=tbed_any b HOK.out (.slice ra rn rc) (.slice la ln lc) (.slice na nn nc) p HP.out w4 HAT4.out;unfold bdV bdA ptV ptA at hcall;refine hcall.mono ?_
 rintro e w5 ⟨rfl,hb5⟩;clear hcall;have HB5:=Lib.hid (bThen HB4.out hb5);clear hb5;go_wp2_with fail;go_returns;exact ⟨rfl,HB5.out⟩
end Go.Proofs.YtnbmgkmcaoafnaaGreatDoor
