/- The texts O2D, O2E, O2F, O2G, Blk, O2H, App, O2I, in build order. -/
import Derived.Test.YtnbmgkmcaoafnaaGreatDoorZab
import Derived.BigQuiet
import Derived.RangeFuncBound
import Derived.RangeFuncLeaves
import Derived.Shelf.Abstract
import Derived.Shelf.RegionOpen
import Derived.OwnWalkIn
import Derived.TacticsInMore
import Derived.LoopNIn
import Derived.LoopIn
import Derived.RangeFuncBox

/- Chapter 2: what a dart leaves of a score. -/
namespace Go.Proofs.YtnbmgkmcaoafnaaGreatDoor.O2
open Go.RowKit Go.Oche Go.Oche.O2 Go.Proofs

set_option maxRecDepth 100000 in
theorem wrap_small (x : Int) (h1 : -9223372036854775808 ≤ x) (h2 : x ≤ 9223372036854775807) : IntKind.i64.wrap x = x:=IntWalk.i64_in _ ⟨h1,h2⟩
theorem wrap_worth {b : Int} (h : bedOk b = true) : IntKind.i64.wrap (fac b * num b) = worth b:=by
 have:=worth_bd h;exact wrap_small (fac b * num b) (by unfold worth at this; omega) (by unfold worth at this; omega)
set_option maxRecDepth 100000 in
theorem after_any (s g b : Int) (p : Nat) (w : World) (hb : bedOk b = true) (h1 : 0 ≤ s) (h2 : s ≤ 2000) (hc : w.cell? ⟨p,1,none⟩ = some (.int .i64 g)) :
  Calls Tryz.prog 153 #[.pointer (some ⟨p,0,none⟩),.int .i64 s,.agg #[.int .i64 b]] w fun e w' => e = .returned (.tuple #[.int .i64 (s - worth b),.bool (aftOk g s b)]) ∧ Below w.heap.size w w':=by
 have hwb:=worth_bd hb;have hi:=Lib.hid (bedOk_i64 hb);have hpl : p < w.heap.size:=World.block_lt_of_cell? w _ hc;obtain ⟨w0,hw0⟩ : ∃ w0,w0 = w.alloc (.cells #[.int .i64 b] 229):=⟨_,rfl⟩;have hz : w.heap.size < w0.heap.size:=by rw [hw0]; simp
 have hb0 : Below w.heap.size w w0:=by rw [hw0]; exact (Below.refl _ _).alloc (Nat.le_refl _) _
 have hc0 : w0.cell? ⟨w.heap.size,0,none⟩ = some (.int .i64 b):=by rw [hw0]; simp
 have hc1 : w0.cell? ⟨p,1,none⟩ = some (.int .i64 g):=(hb0.cell (p:=⟨p,1,none⟩) hpl).trans hc;have HW:=Lib.hid hw0;clear hw0 hc;obtain ⟨q,hq⟩ : ∃ q,q = worth b:=⟨_,rfl⟩;rw [← hq] at hwb ⊢;have HQ:=Lib.hid hq;have HB:=Lib.hid hb;clear hq hb
 go_enter Tryz.func153,Tryz.ntmps153
 go_wp2_with fail;rw [← HW.out];refine (worth_any b _ hi.out (wrap_worth HB.out)).mono ?_
 rintro e w1 ⟨rfl,hb1⟩;rw [← HQ.out];have c0:=hb1.cell (p:=⟨w.heap.size,0,none⟩) hz;have c1:=hb1.cell (p:=⟨p,1,none⟩) (by omega : p < w0.heap.size)
 rw [hc0] at c0;rw [hc1] at c1;have hbt : Below w.heap.size w w1:=hb0.trans (hb1.mono hb0.size);have hz1:=hb1.size;clear hc0 hc1;by_cases e0 : s - q = 0
 ·have f0 : (s - q == 0) = true:=by simp [e0]
  have E0:=Lib.hid e0;have F0 : Hid (aftOk g s b = opensG g b):=by unfold aftOk; rw [← HQ.out,if_pos e0]; rfl
  clear e0;go_wp2_with fail;refine wp_region_fix 8 [.agg #[.int .i64 b],.pointer (some ⟨p,0,none⟩),.pointer (some ⟨p,0,none⟩),.pointer (some ⟨p,1,none⟩),.int .i64 g,.bool (opensG g b),.int .i64 0,.bool (opensG g b)] mix (by kernel_rfl) (by simp) ?_ ?_
  ·refine ⟨?_, ?_, ?_, ?_, ?_, ?_, ?_, ?_,trivial⟩
   all_goals
    refine vc_plain _ _ _ _ _ rfl fun a w2 hb2 hp ht => ?_
    simp [Region.binds,fixΦ] at hp
    have t0:=ht 0 rfl;have t5:=ht 5 rfl;have d0:=hb2.cell (p:=⟨w.heap.size,0,none⟩) (by simp; omega)
    have d1:=hb2.cell (p:=⟨p,1,none⟩) (by simp; omega)
    simp [c0,c1] at t0 t5 d0 d1
    simp [opOK,fixΦ,go_sem,hp,t0,t5,d0,d1,Below.refl]
   exact (opens_any b g w2 hi.out).mono fun e w' h => ⟨h.1,h.2⟩
  ·intro w2 hb2
   simp only [List.take_succ_cons,List.take_zero,List.drop_succ_cons,List.drop_zero,putL,Act.put,List.setIfInBounds_toArray,List.set_cons_succ,List.set_cons_zero];go_wp2
   go_ret2
   exact ⟨by rw [F0.out,E0.out]; rfl,hbt.trans (hb2.mono hbt.size)⟩
 ·have f0 : (s - q == 0) = false:=by simp [e0]
  by_cases e1 : s - q = 1
  ·have f1 : (s - q == 1) = true:=by simp [e1]
   have E0:=Lib.hid e1;have F0 : Hid (aftOk g s b = (g == 0)):=by unfold aftOk; rw [← HQ.out,if_neg e0,if_pos e1]; rfl
   clear e0 e1;go_wp2_with fail;refine wp_region_fix 7 [.pointer (some ⟨p,0,none⟩),.pointer (some ⟨p,0,none⟩),.pointer (some ⟨p,1,none⟩),.int .i64 g,.bool (g == 0),.int .i64 1,.bool (g == 0)] mix (by kernel_rfl) (by simp) ?_ ?_
   ·refine ⟨?_, ?_, ?_, ?_, ?_, ?_, ?_,trivial⟩
    all_goals
     refine vc_plain _ _ _ _ _ rfl fun a w2 hb2 hp ht => ?_
     simp [Region.binds,fixΦ] at hp
     have t0:=ht 0 rfl;have d1:=hb2.cell (p:=⟨p,1,none⟩) (by simp; omega)
     simp [c1] at t0 d1
     simp [opOK,fixΦ,go_sem,hp,t0,d1,Below.refl]
   ·intro w2 hb2
    simp only [List.take_succ_cons,List.take_zero,List.drop_succ_cons,List.drop_zero,putL,Act.put,List.setIfInBounds_toArray,List.set_cons_succ,List.set_cons_zero];go_wp2
    go_ret2
    exact ⟨by rw [F0.out,E0.out]; rfl,hbt.trans (hb2.mono hbt.size)⟩
  ·have f1 : (s - q == 1) = false:=by simp [e1]
   have F0 : Hid (aftOk g s b = decide (1 < s - q)):=by unfold aftOk; rw [← HQ.out,if_neg e0,if_neg e1]; rfl
   clear e0 e1;go_wp2
   go_ret2
   exact ⟨by rw [F0.out]; rfl,hbt⟩

open Go.RowKit Go.Oche Go.Oche.O2 Go.Proofs

set_option maxRecDepth 100000 in
theorem good_at {l : List Int} {k : Nat} (hk : k < l.length) : good l k = (bedOk l[k] && (k == 0 || decide (l[k-1]'(by omega) < l[k]))):=by
 have h2 : k - 1 < l.length:=by omega
 simp [good,List.getD_eq_getElem?_getD,hk,h2]

open Go.RowKit Go.Oche Go.Oche.O2 Go.Proofs

set_option maxRecDepth 100000 in
theorem isBed_r (b : Int) (r : Bool) (hr : Hid (bedOk b = r)) (w : World) (h : I64 b) : Calls Tryz.prog 151 #[.agg #[.int .i64 b]] w fun e w' => e = .returned (.bool r) ∧ Below w.heap.size w w':=by
 rw [← hr.out]; exact isBed_any b w h

set_option maxRecDepth 100000 in
set_option maxRecDepth 100000 in
set_option maxHeartbeats 1000000 in
theorem areBeds_any {S : Nat → Prop} (xs : List Int) (v : Value) (w : World) (hs : Sl S w v (ints xs)) (hi : ∀ b ∈ xs,I64 b) :
  Calls Tryz.prog 136 #[v] w fun e w' => e = .returned (.bool (bedsOk xs)) ∧ Below w.heap.size w w':=by
 obtain ⟨a,cap,rfl,h2,h3,h4⟩ := hs;simp only [ints_length] at *;unfold maxLen at h3;have H4:=Lib.hid h4;have HI:=Lib.hid hi;clear h4 hi
 go_enter Tryz.func136,Tryz.ntmps136
 go_wp2;go_loopw [3,4,7] (fun _ _ i wr => ∃ k : Nat,k ≤ xs.length ∧ i = .int .i64 k ∧ (∀ j,j < k → good xs j = true) ∧ Below w.heap.size w wr) (fun _ _ i _ => xs.length - (intOf i).toNat)
 case atStart => exact ⟨0,Nat.zero_le _,rfl,fun j hj => by omega,Below.refl _ _⟩
 case round =>
  obtain ⟨k,hk,rfl,hp,hb⟩ := hrel;have HP:=Lib.hid hp;clear hp;by_cases hlt : k < xs.length
  ·obtain ⟨b,off,rfl,_,hc⟩ := H4.out k _ (intsAt hlt)
   have hbl : b < w.heap.size:=World.block_lt_of_cell? w _ hc;have hk1 : k - 1 < xs.length:=by omega
   have hd : w.cell? ⟨b,off + (k - 1),none⟩ = some (.int .i64 (xs[k - 1]'hk1)):=by
    obtain ⟨b',off',e,_,hc'⟩ := H4.out (k - 1) _ (intsAt hk1);cases e; exact hc'
   have hc:=(hb.cell (p:=⟨b,off + k,none⟩) hbl).trans hc;have hd0:=(hb.cell (p:=⟨b,off + (k - 1),none⟩) hbl).trans hd;have HD:=Lib.hid hd0;clear hd hd0;obtain ⟨x,hx⟩ : ∃ x,xs[k] = x:=⟨_,rfl⟩;obtain ⟨y,hy⟩ : ∃ y,xs[k - 1]'hk1 = y:=⟨_,rfl⟩;rw [hx] at hc;rw [hy] at HD;have HX : Hid (I64 x):=by rw [← hx]; exact HI.out _ (List.getElem_mem hlt)
   have hgd : good xs k = (bedOk x && (k == 0 || decide (y < x))):=by rw [good_at hlt,hx,hy]
   clear hx hy;have HG:=Lib.hid hgd;clear hgd;have hbs:=hb.size;cases ho : bedOk x
   ·have HO:=Lib.hid ho
    clear ho;have HR : Hid (bedsOk xs = false):=bedsOk_bad hlt (by rw [HG.out,HO.out]; rfl)
    go_wp2_with (go_at_call 151; refine (isBed_r _ _ HO _ HX.out).mono ?_; rintro e w1 ⟨rfl,hb1⟩)
    go_ret
    exact ⟨ret_bool (by rw [HR.out]),hb.trans (hb1.mono hbs)⟩
   ·have HO:=Lib.hid ho
    clear ho;by_cases hk0 : k = 0
    ·have HK:=Lib.hid hk0
     have f0 : decide ((0 : Int) < (k : Int)) = false:=by simp; omega
     have f1 : ¬ (0 < k):=by omega
     clear hk0
     go_wp2_with (go_at_call 151; refine (isBed_r _ _ HO _ HX.out).mono ?_; rintro e w1 ⟨rfl,hb1⟩)
     go_roundw
     case rel => exact ⟨k + 1,by omega,by go_num,fun j hj => by
      have:=HK.out;obtain rfl : j = k:=by omega
      rw [HG.out,HO.out,this]; rfl,hb.trans (hb1.mono hbs)⟩
     case measure => simp [intOf]; omega
    ·have hpos : (0 : Int) < (k : Int):=by omega
     have hpos' : 0 < k:=by omega
     by_cases hyx : y < x
     all_goals
      go_wp2_with (go_at_call 151; refine (isBed_r _ _ HO _ HX.out).mono ?_; rintro e w1 ⟨rfl,hb1⟩; have hd1:=(hb1.cell (p:=⟨b,off + (k - 1),none⟩) (by simp; omega)).trans HD.out)
     ·go_roundw
      case rel => exact ⟨k + 1,by omega,by go_num,fun j hj => by
       by_cases hjk : j = k
       ·subst hjk; rw [HG.out,HO.out]; simp [hyx]
       ·exact HP.out j (by omega),hb.trans (hb1.mono hbs)⟩
      case measure => simp [intOf]; omega
     ·have HR : Hid (bedsOk xs = false):=bedsOk_bad hlt (by rw [HG.out,HO.out]; simp [hyx,hk0])
      go_ret
      exact ⟨ret_bool (by rw [HR.out]),hb.trans (hb1.mono hbs)⟩
  ·obtain rfl : k = xs.length:=by omega
   have hbs:=hb.size
   go_wp2_with (go_at_call 100; refine (within_one (S:=fun _ => True) 1 82 (xs.length : Int) _ _ (Sl.new1 _ _ trivial _ _)).mono ?_; rintro e w' ⟨rfl,hb1⟩)
   go_ret
   exact ⟨ret_bool (bedsOk_all HP.out).symm,hb.trans ((((Below.refl _ _).alloc (Nat.le_refl _) _).trans (hb1.mono (by simp))).mono hbs)⟩

def chkN (r : Bool) : Int:=if r then 0 else 2
def rulesOk (bs : List Int) (g d : Int) : Bool:=bedsOk bs && gateOk g && isIn d 1 9

set_option maxRecDepth 100000 in
theorem areBeds_r {S : Nat → Prop} (xs : List Int) (r : Bool) (hr : Hid (bedsOk xs = r)) (v : Value) (w : World) (hs : Sl S w v (ints xs)) (hi : ∀ b ∈ xs,I64 b) :
  Calls Tryz.prog 136 #[v] w fun e w' => e = .returned (.bool r) ∧ Below w.heap.size w w':=by rw [← hr.out]; exact areBeds_any xs v w hs hi
set_option maxRecDepth 100000 in
theorem isGate_r (g : Int) (r : Bool) (hr : Hid (gateOk g = r)) (w : World) : Calls Tryz.prog 137 #[.int .i64 g] w fun e w' => e = .returned (.bool r) ∧ w = w':=by rw [← hr.out]; exact isGate_any g w
set_option maxRecDepth 100000 in
set_option maxHeartbeats 1000000 in
theorem check_any {S : Nat → Prop} (bs : List Int) (g d : Int) (v : Value) (w : World) (hs : Sl S w v (ints bs)) (hi : ∀ b ∈ bs,I64 b) :
  Calls Tryz.prog 99 #[.agg #[v,.int .i64 g,.int .i64 d]] w fun e w' => e = .returned (.int .i64 (chkN (rulesOk bs g d))) ∧ Below w.heap.size w w':=by
 obtain ⟨a,cap,rfl,_,_⟩ := hs.form;simp only [ints_length] at *;obtain ⟨w0,hw0⟩ : ∃ w0,w0 = w.alloc (.cells #[.slice a bs.length cap,.int .i64 g,.int .i64 d] 120):=⟨_,rfl⟩;have hb0 : Below w.heap.size w w0:=by rw [hw0]; exact (Below.refl _ _).alloc (Nat.le_refl _) _
 have hz0 : w.heap.size < w0.heap.size:=by rw [hw0]; simp
 have c1 : w0.cell? ⟨w.heap.size,1,none⟩ = some (.int .i64 g):=by rw [hw0]; simp
 have c2 : w0.cell? ⟨w.heap.size,2,none⟩ = some (.int .i64 d):=by rw [hw0]; simp
 have HS:=Lib.hid (hs.below hb0);have HI:=Lib.hid hi;have HW:=Lib.hid hw0;have C1:=Lib.hid c1;have C2:=Lib.hid c2;clear hs hi hw0 c1 c2;obtain ⟨r1,hr1⟩ : ∃ r,bedsOk bs = r:=⟨_,rfl⟩;obtain ⟨r2,hr2⟩ : ∃ r,gateOk g = r:=⟨_,rfl⟩;obtain ⟨r3,hr3⟩ : ∃ r,isIn d 1 9 = r:=⟨_,rfl⟩;have HR : Hid (rulesOk bs g d = (r1 && r2 && r3)):=by rw [← hr1,← hr2,← hr3]; rfl
 have R1:=Lib.hid hr1;have R2:=Lib.hid hr2;have R3:=Lib.hid hr3;clear hr1 hr2 hr3;cases r1
 ·go_enter Tryz.func99,Tryz.ntmps99
  go_wp2_with fail;rw [← HW.out];refine (areBeds_r bs _ R1 _ _ HS.out HI.out).mono ?_
  rintro e w1 ⟨rfl,hb1⟩;go_wp2
  go_ret
  exact ⟨ret_int (by rw [HR.out]; rfl),hb0.trans (hb1.mono hb0.size)⟩
 cases r2
 ·go_enter Tryz.func99,Tryz.ntmps99
  go_wp2_with fail;rw [← HW.out];refine (areBeds_r bs _ R1 _ _ HS.out HI.out).mono ?_
  rintro e w1 ⟨rfl,hb1⟩;have c1:=(hb1.cell (p:=⟨w.heap.size,1,none⟩) hz0).trans C1.out
  go_wp2_with (go_at_call 137; refine (isGate_r _ _ R2 _).mono ?_; rintro e w2 ⟨rfl,rfl⟩)
  go_ret
  exact ⟨ret_int (by rw [HR.out]; rfl),hb0.trans (hb1.mono hb0.size)⟩
 ·go_enter Tryz.func99,Tryz.ntmps99
  go_wp2_with fail;rw [← HW.out];refine (areBeds_r bs _ R1 _ _ HS.out HI.out).mono ?_
  rintro e w1 ⟨rfl,hb1⟩;have c1:=(hb1.cell (p:=⟨w.heap.size,1,none⟩) hz0).trans C1.out;have c2:=(hb1.cell (p:=⟨w.heap.size,2,none⟩) hz0).trans C2.out;have hz1:=hb1.size;cases r3
  all_goals
   go_wp2_with (first | (go_at_call 137; refine (isGate_r _ _ R2 _).mono ?_; rintro e w2 ⟨rfl,rfl⟩) | (go_at_call 100; refine (within_one' (S:=fun _ => True) 1 9 d _ R3 _ _ (Sl.new1 _ _ trivial _ _)).mono ?_; rintro e w3 ⟨rfl,hb3⟩))
   go_ret
   exact ⟨ret_int (by rw [HR.out]; rfl),(hb0.trans (hb1.mono hb0.size)).trans ((((Below.refl _ _).alloc (Nat.le_refl _) _).trans (hb3.mono (by simp))).mono (by omega))⟩

open Go.RowKit Go.Oche Go.Oche.O2 Go.Proofs
attribute [local go_sem] Oper.semAt_some

set_option maxRecDepth 100000 in
theorem throws_any (p : Option Addr) (s : Int) (w : World) : Calls Tryz.prog 141 #[.pointer p,.int .i64 s] w fun e w' =>
  e = .returned (.func (.func 152) #[] #[.pointer (some ⟨w.heap.size,0,none⟩),.pointer (some ⟨w.heap.size + 1,0,none⟩)]) ∧ w' = (w.alloc (.cells #[.pointer p] 160)).alloc (.cells #[.int .i64 s] 3):=by
 go_enter Tryz.func141,Tryz.ntmps141
 go_wp2
 go_ret
 exact ⟨rfl,rfl⟩

def encT : Int × Int → Array Value → (Nat → Prop) → World → Prop:=fun x args _ _ => args = #[.agg #[.int .i64 x.1],.int .i64 x.2]

set_option maxRecDepth 100000 in
set_option maxHeartbeats 1000000 in
theorem throws1_in {Sb : Nat → Prop} (g s : Int) (bs : List Int) (pb ps p : Nat) (vb : Value) (w : World) (Rs : Nat → Prop)
  (hbs : ∀ b ∈ bs,bedOk b = true) (hs0 : 0 ≤ s) (hs1 : s ≤ 2000)
  (cb : w.cell? ⟨pb,0,none⟩ = some (.pointer (some ⟨p,0,none⟩))) (cs : w.cell? ⟨ps,0,none⟩ = some (.int .i64 s))
  (c0 : w.cell? ⟨p,0,none⟩ = some vb) (c1 : w.cell? ⟨p,1,none⟩ = some (.int .i64 g)) (hsl : Sl Sb w vb (ints bs))
  (r1 : Rs pb) (r2 : Rs ps) (r3 : Rs p) (r4 : ∀ k,Sb k → k < w.heap.size → Rs k) :
  IterIn 47 Tryz.prog 152 #[] #[.pointer (some ⟨pb,0,none⟩),.pointer (some ⟨ps,0,none⟩)] encT (throwsL g s bs) Rs w:=by
 intro l J Jx O W hBW hO hRs hJ hJx hY h0
 have hsl':=(hsl.lt.mono (S':=Rs) fun k hk => r4 k hk.1 hk.2).below hBW
 obtain ⟨a,cap,rfl,h2,h3,h4⟩ := hsl';simp only [ints_length] at *;unfold maxLen at h3;have cb':=bAt hBW cb;have cs':=bAt hBW cs;have c0':=bAt hBW c0;have c1':=bAt hBW c1;clear cb cs c0 c1 hsl;have H4:=Lib.hid h4;have HBS:=Lib.hid hbs;have HY:=Lib.hid hY;clear h4 hbs hY;have n1:=(hRs pb r1).2;have n2:=(hRs ps r2).2;have n3:=(hRs p r3).2;refine callsIn_of_wp Tryz.func152 rfl trivial ?_ rfl
 simp only [Tryz.ntmps152,List.size_toArray,List.length_cons,List.length_nil,Nat.reduceAdd,Nat.reduceSub,Array.replicate_succ,Array.replicate_zero,List.push_toArray,List.append_toArray,List.nil_append,List.cons_append]
 gi_wp2
 gi_loopw [13] (fun i wr => ∃ (k : Nat) (O₁ : Nat → Prop),k ≤ bs.length ∧ i = .int .i64 k ∧ Rel O W O₁ wr ∧ J (throwsL g s (bs.take k)) O₁ wr) (fun i _ => bs.length - (intOf i).toNat)
 case atStart => exact ⟨0,O,Nat.zero_le _,rfl,Rel.refl hO,by simpa [throwsL] using h0⟩
 case round =>
  obtain ⟨k,O₁,hk,rfl,hr,hj⟩ := hrel;have b0:=rAt hr cb' n1;have b1:=rAt hr cs' n2;have b2:=rAt hr c0' n3;have b3:=rAt hr c1' n3;have HJ:=Lib.hid hj;clear hj cb' cs' c0' c1';by_cases hlt : k < bs.length
  ·obtain ⟨b,off,rfl,hRb,hc⟩ := H4.out k _ (intsAt hlt)
   have b4:=rAt hr hc (hRs b hRb).2;obtain ⟨x,hx⟩ : ∃ x,bs[k] = x:=⟨_,rfl⟩;rw [hx] at b4;have HX : Hid (bedOk x = true):=by rw [← hx]; exact HBS.out _ (List.getElem_mem hlt)
   have HXK:=Lib.hid hx;clear hc hx;obtain ⟨w1,hw1⟩ : ∃ w1,w1 = wr.alloc (.cells #[.int .i64 x] 229):=⟨_,rfl⟩;have hb1 : Below wr.heap.size wr w1:=by rw [hw1]; exact (Below.refl _ _).alloc (Nat.le_refl _) _
   have a0:=bAt hb1 b0;have a1:=bAt hb1 b1;have a3:=bAt hb1 b3;have a5 : w1.cell? ⟨wr.heap.size,0,none⟩ = some (.int .i64 x):=by rw [hw1]; simp
   rw [hw1] at a0 a1 a3 a5;have HW1:=Lib.hid hw1;clear hw1
   gi_wp2_with fail
   rw [← HW1.out];refine ⟨trivial,rfl,(callsIn_wide.2 (after_any s g x p w1 HX.out hs0 hs1 (by rw [HW1.out]; exact a3))).mono ?_⟩
   rintro e w2 ⟨rfl,hb2⟩;rw [← HW1.out] at a0 a1 a3 a5
   replace a0:=bAt hb2 a0
   replace a1:=bAt hb2 a1
   replace a3:=bAt hb2 a3
   replace a5:=bAt hb2 a5
   have hr2:=(hr.ext hb1).ext hb2;have hj2:=Stab.ext hJ (Stab.ext hJ HJ.out hb1) hb2;have HJ2:=Lib.hid hj2;clear hj2 HJ b0 b1 b2 b3 b4;cases hao : aftOk g s x
   ·have HA:=Lib.hid hao
    have HN : Hid (throwsL g s (bs.take (k + 1)) = throwsL g s (bs.take k)):=throwsL_snoc_no hlt (by rw [HXK.out]; exact HA.out)
    clear hao
    gi_wp2
    refine ⟨fun _ h => (by cases h), ?_⟩
    gi_wp2
    go_roundw
    case rel => exact ⟨k + 1,O₁,by omega,by go_num,hr2,by rw [HN.out]; exact HJ2.out⟩
    case measure => simp [intOf]; omega
   ·have HA:=Lib.hid hao
    clear hao;by_cases hpos : 0 < s
    ·have HN : Hid (throwsL g s (bs.take (k + 1)) = throwsL g s (bs.take k) ++ [(x,s - worth x)]):=by
      have:=throwsL_snoc_yes hlt hpos (by rw [HXK.out]; exact HA.out)
      rw [HXK.out] at this; exact this
     have HS : Hid (∃ post,throwsL g s bs = throwsL g s (bs.take k) ++ (x,s - worth x) :: post):=by
      have:=throwsL_split hlt hpos (by rw [HXK.out]; exact HA.out)
      rw [HXK.out] at this; exact this
     obtain ⟨post,hpost⟩ := HS.out;obtain ⟨fn,tmps,assign,body,hy,hR⟩ := HY.out (throwsL g s (bs.take k)) (x,s - worth x) post #[.agg #[.int .i64 x],.int .i64 (s - worth x)] O₁ w2 hpost hr2 HJ2.out rfl;have HRo:=Lib.hid hR;clear hR hpost
     gi_wp2_with fail
     refine ⟨rfl,RoundIn.mono HRo.out ?_⟩
     rintro e W3 ⟨O',hr3,(⟨rfl,hj3⟩ | ⟨rfl,hj3⟩)⟩
     ·have HJ3:=Lib.hid hj3
      have hr4:=hr2.trans hr3;clear hj3
      gi_wp2
      go_roundw
      case rel => exact ⟨k + 1,O',by omega,by go_num,hr4,by rw [HN.out]; exact HJ3.out⟩
      case measure => simp [intOf]; omega
     ·have HJ3:=Lib.hid hj3
      have hr4:=hr2.trans hr3;have hpre : throwsL g s (bs.take k) ++ [(x,s - worth x)] <+: throwsL g s bs:=by rw [← HN.out]; exact throwsL_prefix _ _ _ _
      clear hj3
      gi_wp2
      refine bodyPost_ret (results_none rfl _ _ _) rfl ?_
      exact ⟨⟨_,rfl⟩,O',hr4,.inr ⟨_,hpre,HJ3.out⟩⟩
    ·have HN : Hid (throwsL g s (bs.take (k + 1)) = throwsL g s (bs.take k)):=by unfold throwsL; rw [if_neg hpos,if_neg hpos]; exact rfl
     gi_wp2
     refine ⟨fun _ h => (by cases h), ?_⟩
     gi_wp2
     go_roundw
     case rel => exact ⟨k + 1,O₁,by omega,by go_num,hr2,by rw [HN.out]; exact HJ2.out⟩
     case measure => simp [intOf]; omega
  ·obtain rfl : k = bs.length:=by omega
   gi_wp2
   go_end0
   exact ⟨⟨_,rfl⟩,O₁,hr,.inl (by simpa using HJ.out)⟩
end Go.Proofs.YtnbmgkmcaoafnaaGreatDoor.O2

/- A block of integers of one's own. -/
namespace Go.Oche
open Go Go.RowKit

def IntBlk (W : World) (R : Nat) (t : TypeId) (n : Nat) (f : Nat → Int) : Prop :=
 ∃ A : Array Value,W.heap[R]? = some (.cells A t (0,0)) ∧ A.size = n ∧ ∀ j,j < n → A[j]? = some (.int .i64 (f j))
section
variable {W W' : World} {R : Nat} {t : TypeId} {n : Nat} {f g : Nat → Int}
theorem IntBlk.cell (h : IntBlk W R t n f) {j : Nat} (hj : j < n) : W.cell? ⟨R,j,none⟩ = some (.int .i64 (f j)):=by
 obtain ⟨A,h1,h2,h3⟩ := h;rw [cell_of_heap h1]; exact h3 j hj
theorem IntBlk.frozen (h : IntBlk W R t n f) (j : Nat) : W.frozen? ⟨R,j,none⟩ = false:=by
 obtain ⟨A,h1,_⟩ := h; exact frozen_of_heap h1
theorem IntBlk.set (h : IntBlk W R t n f) (i : Nat) (v : Int) : IntBlk (W.setCell ⟨R,i,none⟩ (.int .i64 v)) R t n (fun j => if j = i then v else f j):=by
 obtain ⟨A,h1,h2,h3⟩ := h;refine ⟨_,heap_setCell_at h1 _,by simp [h2],fun j hj => ?_⟩
 rw [Array.getElem?_setIfInBounds]
 by_cases e : i = j
 ·subst e; simp [h2,hj]
 ·have e' : ¬ j = i:=fun h => e h.symm
  simp only [if_neg e,if_neg e']; exact h3 j hj
theorem IntBlk.keep (h : IntBlk W R t n f) (hk : W'.heap[R]? = W.heap[R]?) : IntBlk W' R t n f:=by
 obtain ⟨A,h1,h2⟩ := h; exact ⟨A,hk.trans h1,h2⟩
theorem IntBlk.lt (h : IntBlk W R t n f) : R < W.heap.size:=by
 obtain ⟨A,h1,_⟩ := h; exact (Array.getElem?_eq_some_iff.1 h1).1
theorem IntBlk.below (h : IntBlk W R t n f) (hb : Below W.heap.size W W') : IntBlk W' R t n f:=h.keep (hb.block R h.lt)
theorem IntBlk.congr (h : IntBlk W R t n f) (e : ∀ j,j < n → f j = g j) : IntBlk W R t n g:=by
 obtain ⟨A,h1,h2,h3⟩ := h; exact ⟨A,h1,h2,fun j hj => by rw [h3 j hj,e j hj]⟩
theorem IntBlk.made (W : World) (t : TypeId) (n : Nat) : IntBlk (W.alloc (.cells (madeCells #[.int .i64 0] n) t)) W.heap.size t n (fun _ => 0) :=
 ⟨_,World.alloc_heap_new _ _,size_madeCells _ _,fun j hj => by
  rw [← Array.getElem?_toList,toList_madeCells_one]; simp [hj]⟩
theorem IntBlk.sl (h : IntBlk W R t n f) (hn : n ≤ maxLen) : Sl (fun k => k = R) W (.slice (some ⟨R,0,none⟩) n n) (ints ((List.range n).map f)):=by
 refine ⟨_,n,by simp,by simp,hn,fun i x hx => ⟨R,0,rfl,rfl, ?_⟩⟩
 have hi : i < n:=by have:=(List.getElem?_eq_some_iff.1 hx).1; simpa using this
 rw [intsAt (by simpa using hi)] at hx
 simp only [List.getElem_map,List.getElem_range,Option.some.injEq] at hx;rw [← hx,Nat.zero_add];exact h.cell hi
end
end Go.Oche

/- Chapter 2: a row of counts. -/
namespace Go.Proofs.YtnbmgkmcaoafnaaGreatDoor.O2
open Go.RowKit Go.Oche Go.Oche.O2 Go.Proofs
attribute [local go_sem] Oper.semAt_some

theorem info3 : (Tryz.prog.info? 3).map (fun i => (i.zero,i.size,i.bytes)) = some (some (.int .i64 0),1,8):=by kernel_rfl
theorem make_ints (n : Nat) (hn : n ≤ 100000) (w : World) : (Instr.makeSlice 33 (.int .i64 n) (.int .i64 n)).run Tryz.prog w = .ok (.slice (some ⟨w.heap.size,0,none⟩) n n) (w.alloc (.cells (madeCells #[.int .i64 0] n) 3)):=by
 obtain ⟨i,hi,hz,hs,hb⟩ := info_parts info3;have:=run_make (P:=Tryz.prog) w 33 3 i _ Tryz.underlying33 hi hz .i64 .i64 (n : Int) (n : Int) (by omega) (by omega) (by rw [hb]; omega) (by omega)
 rw [hs] at this
 simpa [Value.cells] using this

structure RowI (g : Int) (bs C : List Int) (ac : Option Addr) (capc N : Nat) (w : World) (k : Nat) (Ds : List Nat) (W : World) : Prop where
 below : Below N w W
 marks : Marks (N + 3) W Ds
 box3 : W.cell? ⟨N,0,none⟩ = some (.slice ac C.length capc)
 box5 : W.cell? ⟨N + 1 + 1,0,none⟩ = some (.slice (some ⟨N + 1,0,none⟩) C.length C.length)
 row : IntBlk W (N + 1) 3 C.length (fun j => if j < k then rowSum g bs C j else 0)

set_option maxRecDepth 100000 in
set_option maxRecDepth 100000 in
set_option maxHeartbeats 1000000 in
theorem row_any {Sb Sc : Nat → Prop} (g : Int) (bs C : List Int) (p : Nat) (vb vc : Value) (w : World) (M : Int)
  (hbs : ∀ b ∈ bs,bedOk b = true) (hbl : bs.length ≤ 82) (hCl : C.length ≤ 1002) (hM : ∀ c ∈ C,0 ≤ c ∧ c ≤ M) (hM0 : 0 ≤ M) (hM1 : M * 82 ≤ 9223372036854775807)
  (c0 : w.cell? ⟨p,0,none⟩ = some vb) (c1 : w.cell? ⟨p,1,none⟩ = some (.int .i64 g)) (hsl : Sl Sb w vb (ints bs)) (hsc : Sl Sc w vc (ints C)) :
  Calls Tryz.prog 139 #[.pointer (some ⟨p,0,none⟩),vc] w fun e w' => ∃ R,e = .returned (.slice (some ⟨R,0,none⟩) C.length C.length) ∧ w.heap.size ≤ R ∧ Below w.heap.size w w' ∧ IntBlk w' R 3 C.length (fun s => rowSum g bs C s):=by
 obtain ⟨ac,capc,rfl,hc2,hc3⟩ := hsc.form;simp only [ints_length] at *;have hmk:=make_ints C.length (by omega)
 refine (callsIn_wide (n:=0)).1 (callsIn_of_wp_marks Tryz.func139 rfl trivial ?_ rfl)
 simp only [Tryz.ntmps139,List.size_toArray,List.length_cons,List.length_nil,Nat.reduceAdd,Nat.reduceSub,Array.replicate_succ,Array.replicate_zero,List.push_toArray,List.append_toArray,List.nil_append,List.cons_append];obtain ⟨N,hN⟩ : ∃ N,N = w.heap.size:=⟨_,rfl⟩
 gi_wp2_with fail
 rw [← hN];obtain ⟨W0,hW0⟩ : ∃ W0,(((w.alloc (Obj.cells #[Value.slice ac C.length capc] 33)).alloc (Obj.cells (madeCells #[Value.int IntKind.i64 0] C.length) 3)).alloc (Obj.cells #[Value.slice (some { block:=N + 1,off:=0 }) C.length C.length] 33)) = W0:=⟨_,rfl⟩;have hB0 : Below N w W0:=by rw [← hW0,hN]; exact (((Below.refl _ _).alloc (Nat.le_refl _) _).alloc (by simp) _).alloc (by simp; omega) _
 have hZ0 : W0.heap.size = N + 3:=by rw [← hW0,hN]; simp
 have e3 : W0.cell? ⟨N,0,none⟩ = some (.slice ac C.length capc):=by rw [← hW0,hN]; exact bAt (aB _ _) (bAt (aB _ _) (cell_new _ _ _))
 have e5 : W0.cell? ⟨N + 1 + 1,0,none⟩ = some (.slice (some ⟨N + 1,0,none⟩) C.length C.length):=by rw [← hW0,hN]; have:=cell_new ((w.alloc (Obj.cells #[Value.slice ac C.length capc] 33)).alloc (Obj.cells (madeCells #[Value.int IntKind.i64 0] C.length) 3)) (Value.slice (some { block:=w.heap.size + 1,off:=0 }) C.length C.length) 33; simpa using this
 have eR : IntBlk W0 (N + 1) 3 C.length (fun _ => 0):=by
  have h1:=IntBlk.made (w.alloc (Obj.cells #[Value.slice ac C.length capc] 33)) 3 C.length;rw [World.size_alloc,← hN] at h1;rw [← hW0]; exact h1.below ((Below.refl _ _).alloc (Nat.le_refl _) _)
 rw [hW0];have HN:=Lib.hid hN;clear hW0 hmk hN;refine wpIn_loop (fun a W => ∃ (k : Nat) (Ds : List Nat) (u6 u15 u16 u17 u18 u19 u32 : Value),k ≤ C.length ∧ RowI g bs C ac capc N w k Ds W ∧ a = { tmps:=#[.pointer (some ⟨p,0,none⟩),.slice ac C.length capc,undef,.pointer (some ⟨N,0,none⟩),.slice none 0 0,.pointer (some ⟨N + 1 + 1,0,none⟩),u6,undef,undef,.slice ac C.length capc,.int .i64 C.length,.slice (some ⟨N + 1,0,none⟩) C.length C.length,.slice (some ⟨N + 1,0,none⟩) C.length C.length,.int .i64 C.length,.int .i64 k,u15,u16,u17,u18,u19,undef,undef,undef,undef,undef,undef,undef,undef,undef,undef,undef,undef,u32,undef],defers:=Ds.map mk }) (fun a _ => C.length - (intOf (a.tmps.getD 14 undef)).toNat) ?_ ?_
 ·exact ⟨0,[],_,_,_,_,_,_,_,Nat.zero_le _,⟨hB0,Marks.nil _ _,e3,e5,eR.congr (by intro j _; simp)⟩,rfl⟩
 rintro a W ⟨k,Ds,u6,u15,u16,u17,u18,u19,u32,hk,⟨hB,hMk,f3,f5,fR⟩,rfl⟩;clear hB0 hZ0 e3 e5 eR;have hNW : N + 3 ≤ W.heap.size:=by
  have:=World.block_lt_of_cell? W _ f5;simp at this; omega
 by_cases hlt : k < C.length
 ·obtain ⟨W2,hW2⟩ : ∃ W2,(((W.alloc (.cells #[.int .i64 k] 3)).alloc (.cells #[.pointer (some ⟨p,0,none⟩)] 160)).alloc (.cells #[.int .i64 k] 3)) = W2:=⟨_,rfl⟩
  have hB2 : Below W.heap.size W W2:=by rw [← hW2]; exact (((Below.refl _ _).alloc (Nat.le_refl _) _).alloc (by simp) _).alloc (by simp; omega) _
  have hZ2 : W2.heap.size = W.heap.size + 3:=by rw [← hW2]; simp
  have g6 : W2.cell? ⟨W.heap.size,0,none⟩ = some (.int .i64 k):=by rw [← hW2]; exact bAt (aB _ _) (bAt (aB _ _) (cell_new _ _ _))
  have gb : W2.cell? ⟨W.heap.size + 1,0,none⟩ = some (.pointer (some ⟨p,0,none⟩)):=by rw [← hW2]; have:=cell_new (W.alloc (.cells #[.int .i64 k] 3)) (.pointer (some ⟨p,0,none⟩)) 160; rw [World.size_alloc] at this; exact bAt (aB _ _) this
  have gs : W2.cell? ⟨W.heap.size + 1 + 1,0,none⟩ = some (.int .i64 k):=by rw [← hW2]; have:=cell_new ((W.alloc (.cells #[.int .i64 k] 3)).alloc (.cells #[.pointer (some ⟨p,0,none⟩)] 160)) (.int .i64 k) 3; simpa only [World.size_alloc] using this
  have g3:=bAt hB2 f3;have g5:=bAt hB2 f5;have gR:=fR.below hB2;have gM:=hMk.below hB2;have hMkl:=hMk.lt;have HW2:=Lib.hid hW2;have HM:=Lib.hid hM;have HBS:=Lib.hid hbs;have c0':=bAt (HN.out ▸ hB.trans (hB2.mono (by omega))) c0
  have c1':=bAt (HN.out ▸ hB.trans (hB2.mono (by omega))) c1
  have HSL : Hid (Sl (fun j => Sb j ∧ j < w.heap.size) W2 vb (ints bs)):=hsl.lt.below (HN.out ▸ hB.trans (hB2.mono (by omega)))
  have HSC : Hid (Sl (fun j => Sc j ∧ j < w.heap.size) W2 (.slice ac C.length capc) (ints C)):=hsc.lt.below (HN.out ▸ hB.trans (hB2.mono (by omega)))
  have C0:=Lib.hid c0';have C1:=Lib.hid c1';have hpN : p < N:=by rw [HN.out]; exact World.block_lt_of_cell? w _ c0
  clear hW2 hM hbs c0 c1 c0' c1' f3 f5 fR hMk
  gi_wp2_with (refine ⟨trivial,rfl, ?_⟩; gi_at_call 141; refine (callsIn_wide.2 (throws_any _ _ _)).mono ?_; rintro e w' ⟨rfl,rfl⟩)
  rw [HW2.out];refine wpIn_range (gf:=152) (fa:=#[]) (lb:=#[.pointer (some ⟨W.heap.size + 1,0,none⟩),.pointer (some ⟨W.heap.size + 1 + 1,0,none⟩)]) rfl (enters_of Tryz.func152 (by kernel_rfl) rfl)
   (throws1_in (Sb:=fun j => Sb j ∧ j < w.heap.size) g k bs (W.heap.size + 1) (W.heap.size + 1 + 1) p vb W2 (fun j => j < W2.heap.size ∧ j ≠ N + 1) HBS.out (by omega) (by omega) gb gs C0.out C1.out HSL.out ⟨by omega,by omega⟩ ⟨by omega,by omega⟩ ⟨by omega,by omega⟩ (fun j hj hj2 => ⟨hj2,by have h1:=hj.2; rw [← HN.out] at h1; omega⟩))
   (fun pre O W' => (∀ j,O j ↔ j = N + 1) ∧ IntBlk W' (N + 1) 3 C.length (fun j => if j < k then rowSum g bs C j else if j = k then psum C pre else 0)) (fun _ _ _ _ => False)
   (fun pre O A B h _ _ _ _ hk => ⟨h.1,h.2.keep (hk _ h.2.lt (.inl ((h.1 _).2 rfl)))⟩) (fun _ _ _ _ _ h => h.elim)
   (fun j => j = N + 1) (fun j hj => by subst hj; omega) (fun j hj => ⟨hj.1,hj.2⟩) ⟨fun _ => Iff.rfl,gR.congr (by intro j _; by_cases hj : j < k <;> simp [hj,psum])⟩
   (fun b args O W' h => by subst h; rfl) ?round ?done ?stop
  case round =>
   rintro l pre ⟨x,y⟩ post args O₁ W₁ hL hl1 hl2 hnl hnl' hrel hI henc;subst henc;clear hI;have hmem : (x,y) ∈ throwsL g k bs:=by rw [hL]; simp
   obtain ⟨hx,hao,hy,hk0⟩ := throwsL_mem hmem;have hwx:=worth_bd (HBS.out x hx);have hy0:=aftOk_bd hao;obtain ⟨q,rfl⟩ : ∃ q : Nat,y = q:=⟨y.toNat,by omega⟩
   have hqk : q < k:=by omega
   have hqn : q < C.length:=by omega
   have hprelen : pre.length ≤ 81:=by
    have h1:=throwsL_length g k bs;rw [hL] at h1;simp at h1; omega
   have hps:=psum_bd HM.out hM0 pre;have hps2 : M * (pre.length : Int) ≤ M * 81:=Int.mul_le_mul_of_nonneg_left (by omega) hM0
   have hcq:=getD_bd HM.out hM0 q;obtain ⟨c,hc⟩ : ∃ c,C.getD q 0 = c:=⟨_,rfl⟩;obtain ⟨u,hu⟩ : ∃ u,psum C pre = u:=⟨_,rfl⟩;rw [hc] at hcq;rw [hu] at hps;have hwrap : IntKind.i64.wrap (u + c) = u + c:=wrap_small _ (by omega) (by omega)
   have hnext : psum C (pre ++ [(x,(q : Int))]) = u + c:=by rw [psum_snoc,hu]; simp only [Int.toNat_natCast]; rw [hc]
   have HU:=Lib.hid hu;have HNX:=Lib.hid hnext;have x5:=rAt hrel g5 (by omega)
   have x3:=rAt hrel g3 (by omega)
   have x6:=rAt hrel g6 (by omega)
   obtain ⟨bc,offc,hac,hsb,hcell⟩ : ∃ bc offc,ac = some ⟨bc,offc,none⟩ ∧ bc < N ∧ W₁.cell? ⟨bc,offc + q,none⟩ = some (.int .i64 c):=by
    obtain ⟨a',cap',e1,_,_,h4⟩ := HSC.out;obtain ⟨bc,offc,rfl,hb1,hb2⟩ := h4 q _ (intsAt hqn);simp only [Value.slice.injEq] at e1;have hbn : bc < N:=by have:=hb1.2; rw [HN.out]; exact this
    refine ⟨bc,offc,e1.1,hbn, ?_⟩
    rw [rAt hrel hb2 (by omega)]
    rw [List.getD_eq_getElem?_getD] at hc
    simp [hqn] at hc
    rw [hc]
   subst hac;clear hc hu hnext hcq hps hps2 hy hao hx hL hmem hprelen
   gi_wp2_with fail
   refine ⟨Below.refl _ _, ?_⟩
   rintro W₃ hon ⟨hO,hR3⟩
   replace x5:=(hon.cell _).trans x5
   replace x3:=(hon.cell _).trans x3
   replace x6:=(hon.cell _).trans x6
   replace hcell:=(hon.cell _).trans hcell
   have xr:=hR3.cell hlt;simp only [Nat.lt_irrefl,if_false,if_true] at xr;rw [HU.out] at xr;have HR3:=Lib.hid hR3;have HO:=Lib.hid hO;clear hR3 hO hon
   gi_wp2_with fail
   refine wpIn_region_fix 10 [.slice (some ⟨N + 1,0,none⟩) C.length C.length,.int .i64 k,.pointer (some ⟨N + 1,k,none⟩),.int .i64 u,.slice (some ⟨bc,offc,none⟩) C.length capc,.int .i64 q,.pointer (some ⟨bc,offc + q,none⟩),.int .i64 c,.int .i64 (u + c),.pointer (some ⟨N + 1,k,none⟩)] mix (open_round l) (by kernel_rfl) (by kernel_rfl) (by simp) ?_ ?_
   ·refine ⟨?_, ?_, ?_, ?_, ?_, ?_, ?_, ?_, ?_, ?_,trivial⟩
    all_goals
     refine vc_plain _ _ _ _ _ rfl fun a w2 hb2 hp ht => ?_
     simp [Region.binds,fixΦ] at hp
     have t3:=ht 3 rfl;have t5:=ht 5 rfl;have t6:=ht 6 rfl;have t8:=ht 8 rfl;have d3:=bAt hb2 x3;have d5:=bAt hb2 x5;have d6:=bAt hb2 x6;have dr:=bAt hb2 xr;have dc:=bAt hb2 hcell;simp at t3 t5 t6 t8;simp [opOK,fixΦ,go_sem,hp,t3,t5,t6,t8,d3,d5,d6,dr,dc,Below.refl,hlt,hqn,hwrap]
   ·intro w2 hb2
    have HR4:=Lib.hid (HR3.out.below hb2);have y1:=HR4.out.cell hlt;have y2:=HR4.out.frozen k;simp only [List.take_succ_cons,List.take_zero,List.drop_succ_cons,List.drop_zero,putL,Act.put,List.setIfInBounds_toArray,List.set_cons_succ,List.set_cons_zero]
    gi_wp2_with fail
    refine ⟨O₁,(Rel.of_below hb2 (fun j hj => by rw [(HO.out j).1 hj]; exact HR3.out.lt)).setCell ((HO.out _).2 rfl) _,HO.out,(HR4.out.set k _).congr ?_⟩
    intro j _
    by_cases e : j = k
    ·subst e; simp [HNX.out]
    ·simp [e]
  case done =>
   intro D O₁ W' hD hnD hrel hI hDD
   gi_wp2_with fail
   refine ⟨⟨k + 1,D :: Ds,_,_,_,_,_,_,_,by omega,⟨?_, ?_, ?_, ?_, ?_⟩,rfl⟩, ?_⟩
   ·exact (hB.trans (hB2.mono (by omega))).trans (hrel.below (by omega) (fun j hj => by omega))
   ·exact (gM.rel hrel (fun d hd => by have:=gM.low d hd; omega)).cons hDD (by omega) (fun h => by have:=gM.lt D h; have h2:=hMkl D h; omega)
   ·exact rAt hrel g3 (by omega)
   ·exact rAt hrel g5 (by omega)
   ·refine hI.2.congr fun j _ => ?_
    by_cases e1 : j < k
    ·rw [if_pos e1,if_pos (by omega)]
    ·rw [if_neg e1]
     by_cases e2 : j = k
     ·subst e2; rw [if_pos rfl,if_pos (by omega)]; rfl
     ·rw [if_neg e2,if_neg (by omega)]
   ·simp [intOf]; omega
  case stop => intro D c pre O₁ W' _ _ _ _ h; exact h.elim
 ·obtain rfl : k = C.length:=by omega
  gi_wp2_with fail
  refine leave_marks Ds W hMk fun W' hp => ⟨_,results_tmp rfl _ _ _,N + 1,rfl, ?_, ?_, ?_⟩
  ·rw [HN.out]; omega
  ·rw [← HN.out]; exact hB.trans (hp.below fun D hD => by have:=hMk.low D hD; omega)
  ·refine (fR.keep (hp.block _ fun h => by have:=hMk.low _ h; omega)).congr fun j hj => ?_
   rw [if_pos hj]
end Go.Proofs.YtnbmgkmcaoafnaaGreatDoor.O2

/- Appending one element to a slice of one's own. -/
namespace Go.Oche
open Go Go.RowKit
theorem opOK_append1 {P : Program} {o : Oper} {a : Act} {w : World} (s x : Operand) (t : TypeId) (ho : o.op = .call { callee:=.builtin .append,args:=#[s,x],argTypes:=#[t,t] })
  (base : Nat) (e : TypeId) (z : Value) (bytes : Nat) (ht : P.underlying t = some (.slice e)) (hi : (P.info? e).map (fun i => (i.zero,i.size,i.bytes)) = some (some z,1,bytes)) (hzs : z.cells.size = 1)
  (v : Value) (n : Nat) (xs : List Value) (hs : a.eval s = v) (hown : w.ownsRow base e 1 v n xs) (b off c : Nat) (u : Value) (hx : a.eval x = .slice (some ⟨b,off,none⟩) 1 c) (hc : w.cell? ⟨b,off,none⟩ = some u) (h1 : u.oneCell' = true)
  (h63 : n + 1 ≤ 100000) (hbytes : bytes ≤ 1000) (hbase : base ≤ w.heap.size) :
  opOK P o a w (fun v' w' => (∃ g cap,v' = .slice (some ⟨g,0,none⟩) (n + 1) cap) ∧ w'.ownsRow base e 1 v' (n + 1) (xs ++ [u]) ∧ w.grownBy w' v.ownBlock):=by
 obtain ⟨i,hi,hz0,hz1,hz2⟩ := info_parts hi;have hmul : (n + 1) * bytes ≤ 100000 * 1000:=Nat.mul_le_mul h63 hbytes;obtain ⟨v',w',hr,h2,h3,h4⟩ := run_append_own (P:=P) w base t o.type e i z 1 bytes ht hi hz0 hz1 hz2 hzs (by decide) v n xs hown ⟨b,off,none⟩ 1 c [u] rfl
  (fun j y hj => by
   match j,hj with
   | 0,hj => simp at hj; subst hj; simpa [Addr.add] using hc
   | j + 1,hj => simp at hj)
  (fun y hy => by simp at hy; subst hy; exact h1) (by unfold maxLen; omega) (by omega) hbase
 unfold opOK execOp;simp only [ho,resolve,invoke,builtin,Sem.run_bind,Sem.run_pure,Result.andThen_ok,List.map_toArray,List.map_cons,List.map_nil,hs,hx,hr];exact ⟨ownsRow_succ h2,h2,h3⟩
theorem grownBy_trans {w w' w'' : World} {row : Option Nat} (h : w.grownBy w' row) (k : w'.grownBy w'' row) : w.grownBy w'' row :=
 ⟨k.os.trans h.os,k.tape.trans h.tape,k.output.trans h.output,Nat.le_trans h.size k.size,fun i hi hn => (k.block i (Nat.lt_of_lt_of_le hi h.size) hn).trans (h.block i hi hn)⟩
theorem grownBy_below {w w' : World} (row : Option Nat) (h : Below w.heap.size w w') : w.grownBy w' row:=⟨h.os,h.tape,h.output,h.size,fun k hk _ => h.block k hk⟩
theorem below_grownBy {w w' : World} {row : Option Nat} (h : w.grownBy w' row) {B : Nat} (hB : B ≤ w.heap.size) (hr : ∀ k,row = some k → B ≤ k) : Below B w w' :=
 ⟨h.os,h.tape,h.output,h.size,fun k hk => h.block k (by omega) (fun e => by have:=hr k e.symm; omega)⟩
theorem owns_ne {w : World} {base n : Nat} {e e' : TypeId} {v : Value} {xs : List Value} (h : w.ownsRow base e 1 v n xs) {k : Nat} {c : Array Value} {f : Nat × Nat} (hk : w.heap[k]? = some (.cells c e' f)) (he : e ≠ e') : some k ≠ v.ownBlock:=by
 rcases h.2 with ⟨rfl,_⟩ | ⟨g,cap,cur,rfl,_,hg,_⟩
 ·simp [Value.ownBlock]
 ·intro hh
  simp only [Value.ownBlock,Option.some.injEq] at hh;subst hh;rw [hg] at hk;simp at hk;exact he hk.2.1
theorem IntBlk.ne {w : World} {base n m : Nat} {e t : TypeId} {v : Value} {xs : List Value} {R : Nat} {f : Nat → Int} (h : IntBlk w R t m f) (ho : w.ownsRow base e 1 v n xs) (he : e ≠ t) : some R ≠ v.ownBlock:=by
 obtain ⟨A,h1,_⟩ := h; exact owns_ne ho h1 he
theorem opOK_append_run {P : Program} {o : Oper} {a : Act} {w w' : World} {R : Value → World → Prop} (s x : Operand) (t : TypeId) (ho : o.op = .call { callee:=.builtin .append,args:=#[s,x],argTypes:=#[t,t] }) {v1 v2 v' : Value}
  (hs : a.eval s = v1) (hx : a.eval x = v2) (hr : (Builtin.append_ #[t,t] o.type #[v1,v2]).run P w = .ok v' w') (h : R v' w') : opOK P o a w R:=by
 unfold opOK execOp;simp only [ho,resolve,invoke,builtin,Sem.run_bind,Sem.run_pure,Result.andThen_ok,List.map_toArray,List.map_cons,List.map_nil,hs,hx,hr];exact h
theorem wpList_opOK {P : Program} {ops : Array Oper} {Q : Exit → Act → World → Prop} {o : Oper} {rest : List Oper} {a : Act} {w : World} {R : Value → World → Prop} (hg : o.guard = none) (h : opOK P o a w R)
  (hK : ∀ v w',R v w' → wpList P ops Q rest (a.put o.dst v) w') : wpList P ops Q (o :: rest) a w :=
 wpList_plain hg fun _ hk => wp_of_opOK h fun v w' hr => hk _ _ (hK v w' hr)
theorem wpListIn_opOK {F : Fence} (hF : Open F) {P : Program} {ops : Array Oper} {Q : Exit → Act → World → Prop} {o : Oper} {rest : List Oper} {a : Act} {w : World} {R : Value → World → Prop} (hg : o.guard = none) (hnd : ∀ c,o.op ≠ .defer c) (h : opOK P o a w R)
  (hK : ∀ v w',R v w' → wpListIn F 0 P ops Q rest (a.put o.dst v) w') : wpListIn F 0 P ops Q (o :: rest) a w :=
 wpListIn_plain hg fun _ hk => wpIn_of_opOK hF hnd h fun v w' hr => hk _ _ (hK v w' hr)
end Go.Oche

/- Chapter 2: a board; its last row; the total of a column. -/
namespace Go.Proofs.YtnbmgkmcaoafnaaGreatDoor.O2
open Go.RowKit Go.Oche Go.Oche.O2 Go.Proofs

def Board (S : Nat → Prop) (W : World) (p : Nat) (bs : List Int) (g : Int) (Cs : List (List Int)) : Prop :=
 S p ∧ ∃ vb vc vs,W.cell? ⟨p,0,none⟩ = some vb ∧ W.cell? ⟨p,1,none⟩ = some (.int .i64 g) ∧ W.cell? ⟨p,2,none⟩ = some vc ∧ Sl S W vb (ints bs) ∧ Sl S W vc vs ∧ vs.length = Cs.length ∧
  ∀ i (h : i < Cs.length), ∃ v,vs[i]? = some v ∧ Sl S W v (ints Cs[i])

theorem Board.cells {S : Nat → Prop} {W W' : World} {p : Nat} {bs : List Int} {g : Int} {Cs : List (List Int)} (h : Board S W p bs g Cs)
  (hc : ∀ b o,S b → (W.cell? ⟨b,o,none⟩).isSome → W'.cell? ⟨b,o,none⟩ = W.cell? ⟨b,o,none⟩) : Board S W' p bs g Cs:=by
 obtain ⟨hp,vb,vc,vs,c0,c1,c2,h0,h2,hl,hr⟩ := h;refine ⟨hp,vb,vc,vs,(hc _ _ hp (by rw [c0]; rfl)).trans c0,(hc _ _ hp (by rw [c1]; rfl)).trans c1,(hc _ _ hp (by rw [c2]; rfl)).trans c2,h0.cells hc,h2.cells hc,hl,fun i h => ?_⟩
 obtain ⟨v,h3,h4⟩ := hr i h;exact ⟨v,h3,h4.cells hc⟩
theorem Board.below {S : Nat → Prop} {W W' : World} {p : Nat} {bs : List Int} {g : Int} {Cs : List (List Int)} (h : Board S W p bs g Cs) (hb : Below W.heap.size W W') : Board S W' p bs g Cs :=
 h.cells fun b o _ hs => by obtain ⟨x,hx⟩ := Option.isSome_iff_exists.1 hs; rw [hx]; exact bAt hb hx
theorem Board.rel {S O O' : Nat → Prop} {W W' : World} {p : Nat} {bs : List Int} {g : Int} {Cs : List (List Int)} (h : Board S W p bs g Cs) (hr : Rel O W O' W') (hS : ∀ k,S k → ¬ O k) : Board S W' p bs g Cs :=
 h.cells fun b o s hs => by obtain ⟨x,hx⟩ := Option.isSome_iff_exists.1 hs; rw [hx]; exact rAt hr hx (hS b s)
set_option maxRecDepth 100000 in
theorem Board.mono {S S' : Nat → Prop} {W : World} {p : Nat} {bs : List Int} {g : Int} {Cs : List (List Int)} (h : Board S W p bs g Cs) (hS : ∀ k,S k → S' k) : Board S' W p bs g Cs:=by
 obtain ⟨hp,vb,vc,vs,c0,c1,c2,h0,h2,hl,hr⟩ := h;exact ⟨hS _ hp,vb,vc,vs,c0,c1,c2,h0.mono hS,h2.mono hS,hl,fun i h => let ⟨v,h3,h4⟩ := hr i h; ⟨v,h3,h4.mono hS⟩⟩

set_option maxRecDepth 100000 in
theorem last_any {_S : Nat → Prop} (p b off k cap : Nat) (x : Value) (w : World) (hk : k ≤ 100000) (c2 : w.cell? ⟨p,2,none⟩ = some (.slice (some ⟨b,off,none⟩) (k + 1) cap)) (hx : w.cell? ⟨b,off + k,none⟩ = some x)
  (hx1 : ∃ a m c,x = .slice a m c) : Calls Tryz.prog 140 #[.pointer (some ⟨p,0,none⟩)] w fun e w' => e = .returned x ∧ Below w.heap.size w w':=by
 obtain ⟨a,m,c,rfl⟩ := hx1
 go_enter Tryz.func140,Tryz.ntmps140
 go_wp2_with fail;refine wp_region_fix 13 [.pointer (some ⟨p,0,none⟩),.pointer (some ⟨p,0,none⟩),.pointer (some ⟨p,2,none⟩),.slice (some ⟨b,off,none⟩) (k + 1) cap,.pointer (some ⟨p,0,none⟩),.pointer (some ⟨p,0,none⟩),.pointer (some ⟨p,2,none⟩),.slice (some ⟨b,off,none⟩) (k + 1) cap,.int .i64 (k + 1),.int .i64 k,.pointer (some ⟨b,off + k,none⟩),.slice a m c,.slice a m c] mix (by kernel_rfl) (by simp) ?_ ?_
 ·have hw : IntKind.i64.wrap (k : Int) = k:=wrap_small _ (by omega) (by omega)
  have hkk : (k : Int) < (k : Int) + 1:=by omega
  refine ⟨?_, ?_, ?_, ?_, ?_, ?_, ?_, ?_, ?_, ?_, ?_, ?_, ?_,trivial⟩
  all_goals
   refine vc_plain _ _ _ _ _ rfl fun a w2 hb2 hp ht => ?_
   simp [Region.binds,fixΦ] at hp
   have t0:=ht 0 rfl;have d2:=bAt hb2 c2;have dx:=bAt hb2 hx;simp at t0;simp [opOK,fixΦ,go_sem,hp,t0,d2,dx,hw,hkk,Below.refl]
 ·intro w2 hb2
  simp only [List.take_succ_cons,List.take_zero,List.drop_succ_cons,List.drop_zero,putL,Act.put,List.setIfInBounds_toArray,List.set_cons_succ,List.set_cons_zero];go_wp2
  go_ret
  exact ⟨rfl,hb2⟩

set_option maxRecDepth 100000 in
theorem total_any {S : Nat → Prop} (p : Nat) (bs : List Int) (g : Int) (Cs : List (List Int)) (s : Nat) (M : Int) (w : World) (hB : Board S w p bs g Cs) (h2 : 2 ≤ Cs.length) (h10 : Cs.length ≤ 10)
  (hs : ∀ r ∈ Cs,s < r.length) (hM0 : 0 ≤ M) (hM1 : M * 10 ≤ 9223372036854775807) (hM : ∀ r ∈ Cs, ∀ c ∈ r,0 ≤ c ∧ c ≤ M) :
  Calls Tryz.prog 63 #[.pointer (some ⟨p,0,none⟩),.int .i64 s] w fun e w' => e = .returned (.int .i64 (colSum Cs s (Cs.length - 1))) ∧ w = w':=by
 obtain ⟨-,vb,vc,vs, -, -,c2, -,⟨a,cap,rfl,hcap,hcm,hcell⟩,hl,hr⟩ := hB;obtain ⟨d,hd⟩ : ∃ d,Cs.length = d + 2:=⟨Cs.length - 2,by omega⟩
 have hd8 : d ≤ 8:=by omega
 rw [hl,hd] at c2 hcap;obtain ⟨v0,hv0, -⟩ := hr 0 (by omega)
 obtain ⟨b,off,rfl, -, -⟩ := hcell 0 v0 hv0;have hbd : ∀ k,k ≤ d + 1 → 0 ≤ colSum Cs s k ∧ colSum Cs s k ≤ M * k:=by
  intro k
  induction k with
  | zero => intro _; simp [colSum]
  | succ k ih =>
   intro hk
   have h1:=ih (by omega)
   have hk1 : k + 1 < Cs.length:=by omega
   rw [colSum_succ hk1];have h3:=getD_bd (hM _ (List.getElem_mem hk1)) hM0 s;rw [Int.natCast_add,Int.mul_add];simp only [Int.natCast_one,Int.mul_one];omega
 have hcs : ∀ k,k < d + 1 → ∃ (b' off' cap' : Nat) (m : Nat),w.cell? ⟨b,off + 1 + k,none⟩ = some (.slice (some ⟨b',off',none⟩) m cap') ∧ s < m ∧ w.cell? ⟨b',off' + s,none⟩ = some (.int .i64 (colSum Cs s (k + 1) - colSum Cs s k)):=by
  intro k hk
  have hk1 : k + 1 < Cs.length:=by omega
  obtain ⟨v,hv,⟨a',cap',rfl,_,_,h4⟩⟩ := hr (k + 1) hk1;obtain ⟨b2,off2,e,_,hc⟩ := hcell (k + 1) _ hv;cases e;have hsl:=hs _ (List.getElem_mem hk1);obtain ⟨b',off',rfl,_,hc'⟩ := h4 s _ (intsAt hsl);refine ⟨b',off',cap',(Cs[k + 1]).length, ?_,hsl, ?_⟩
  ·rw [show off + 1 + k = off + (k + 1) by omega]; simpa using hc
  ·rw [hc',colSum_succ hk1,List.getD_eq_getElem?_getD]
   simp [hsl]
   omega
 have HBD:=Lib.hid hbd;have HCS:=Lib.hid hcs;have HD:=Lib.hid hd;clear hbd hcs hcell hr hl hv0 hM hs h2 h10 hd;unfold maxLen at hcm;have hcap1 : ¬ (cap = 1):=by omega
 have hc1 : (1 : Int) ≤ (cap : Int):=by omega
 go_enter Tryz.func63,Tryz.ntmps63
 go_wp2_with fail
 go_loop [4,6,13] (fun t _ i => ∃ k : Nat,k ≤ d + 1 ∧ i = .int .i64 k ∧ t = .int .i64 (colSum Cs s k)) (fun _ _ i => d + 1 - (intOf i).toNat)
 case atStart => exact ⟨0,Nat.zero_le _,rfl,by simp [colSum]⟩
 case round =>
  obtain ⟨k,hk,rfl,rfl⟩ := hrel;have h1:=HBD.out k hk;obtain ⟨u,hu⟩ : ∃ u,colSum Cs s k = u:=⟨_,rfl⟩;rw [hu] at h1 ⊢;have hk9 : M * (k : Int) ≤ M * 9:=Int.mul_le_mul_of_nonneg_left (by have:=HD.out; omega) hM0
  by_cases hlt : k < d + 1
  ·obtain ⟨b',off',cap',m,e1,e2,e3⟩ := HCS.out k hlt
   have h3:=HBD.out (k + 1) hlt;rw [hu] at e3;obtain ⟨v,hv⟩ : ∃ v,colSum Cs s (k + 1) = v:=⟨_,rfl⟩;rw [hv] at e3 h3;have hk10 : M * ((k + 1 : Nat) : Int) ≤ M * 10:=Int.mul_le_mul_of_nonneg_left (by have:=HD.out; omega) hM0
   obtain ⟨c,hc⟩ : ∃ c,v - u = c:=⟨_,rfl⟩;rw [hc] at e3;have b1 : 0 ≤ u + c:=by omega
   have b2 : u + c ≤ 9223372036854775807:=by omega
   have HE : Hid (u + c = colSum Cs s (k + 1)):=by show u + c = _; omega
   have hlt' : (k : Int) < (d : Int) + 1:=by omega
   clear hu hv hc h1 h3 hk9 hk10;go_wp2
   go_round
   case rel => exact ⟨k + 1,by omega,by go_num,by rw [← HE.out]⟩
   case measure => simp [intOf]; omega
  ·obtain rfl : k = d + 1:=by omega
   have HU:=Lib.hid hu;clear hu h1 hk9;go_wp2
   go_ret
   exact ⟨ret_int (by rw [HD.out,← HU.out]; rfl),rfl⟩
end Go.Proofs.YtnbmgkmcaoafnaaGreatDoor.O2
