/- The texts VI, SB, OpH, XN, SeqW, XO, QA, XA, LBo, OwS, in build order. -/
import Derived.Test.YtnbmgkmcaoafnaaGreatDoorZat
import Derived.Lib.TrailingZeros
import Derived.Lib.LaidTab
import Derived.LaidMore
import Derived.MakeChecks
import Derived.Stop.Joined
import Derived.Stop.LaidErr
import Derived.Laws.NewBlocks

/- Chapter 5, in plain Lean: HeardLeast and HeardRight. -/
namespace Go.Proofs.YtnbmgkmcaoafnaaGreatDoor
open Go.RowKit Go.Oche Go.Proofs

variable {l : Lg}
theorem can_iff {list : List Rp} {which : Nat → Bool} : canL l list which = true ↔ HasTruth l (saidL list which):=by
 unfold canL HasTruth;rw [List.all_eq_true];constructor
 ·intro h p hp; exact player_some.1 (h p (List.mem_range.2 hp))
 ·intro h p hp; exact player_some.2 (h p (List.mem_range.1 hp))
theorem mem_saidL {list : List Rp} {which : Nat → Bool} {t : Int} {x : Rp} : x ∈ saidL list which t ↔ ∃ i : Nat,list[i]? = some x ∧ x.turn = t ∧ which i = true:=by
 unfold saidL;rw [List.mem_map];constructor
 ·rintro ⟨⟨y,i⟩,h,rfl⟩
  obtain ⟨h1,h2⟩ := List.mem_filter.1 h;rw [List.mem_zipIdx_iff_getElem?] at h1;rw [Bool.and_eq_true,beq_iff_eq] at h2;exact ⟨i,h1,h2.1,h2.2⟩
 ·rintro ⟨i,h1,h2,h3⟩
  exact ⟨(x,i),List.mem_filter.2 ⟨by rw [List.mem_zipIdx_iff_getElem?]; exact h1,by rw [Bool.and_eq_true,beq_iff_eq]; exact ⟨h2,h3⟩⟩,rfl⟩
theorem truth_members {said said' : Int → List Rp} (h : ∀ t x,x ∈ said t ↔ x ∈ said' t) : HasTruth l said ↔ HasTruth l said' :=
 (kept_congr (fun t s x => by
  unfold fitsP;rw [Bool.eq_iff_iff,List.all_eq_true,List.all_eq_true];exact ⟨fun hh r hr => hh r ((h t r).2 hr),fun hh r hr => hh r ((h t r).1 hr)⟩) 0).2
def pickL (list : List Rp) (idx : List Nat) : List Rp:=idx.map fun i => list.getD i ⟨0, -1, -1⟩
theorem can_all {list : List Rp} : HasTruth l (allS list) ↔ canL l list (fun _ => true) = true:=can_iff.symm
theorem can_congr {list : List Rp} {a b : Nat → Bool} (h : ∀ i,i < list.length → a i = b i) : canL l list a = canL l list b:=by
 have key : ∀ {a b : Nat → Bool},(∀ i,i < list.length → a i = b i) → canL l list a = true → canL l list b = true:=fun h hc => by
  rw [can_iff] at hc ⊢;refine (truth_members fun t x => ?_).1 hc
  rw [mem_saidL,mem_saidL];constructor
  ·rintro ⟨i,h1,h2,h3⟩; exact ⟨i,h1,h2,by rw [← h i (List.getElem?_eq_some_iff.1 h1).1]; exact h3⟩
  ·rintro ⟨i,h1,h2,h3⟩; exact ⟨i,h1,h2,by rw [h i (List.getElem?_eq_some_iff.1 h1).1]; exact h3⟩
 rw [Bool.eq_iff_iff];exact ⟨key h,key fun i hi => (h i hi).symm⟩
def isBlame (l : Lg) (list : List Rp) (s : Nat) : Bool := !canL l list fun i => s.testBit i
def isDrop (l : Lg) (list : List Rp) (s : Nat) : Bool:=canL l list fun i => !s.testBit i
def Blames (l : Lg) (list : List Rp) (out : List (List Nat)) : Prop:=IsMin list.length (isBlame l list) (2 ^ list.length) out
def Drops (l : Lg) (list : List Rp) (out : List (List Nat)) : Prop:=IsMin list.length (isDrop l list) (2 ^ list.length) out
theorem bits_lt {n s : Nat} : ∀ i ∈ bitsN n s,i < n:=fun _ h => (mem_bits.1 h).1
theorem bits_eq {n : Nat} {idx : List Nat} (ha : idx.Pairwise (· < ·)) (hi : ∀ i ∈ idx,i < n) : ∃ s,s < 2 ^ n ∧ bitsN n s = idx:=by
 obtain ⟨s,h1,h2⟩ := bits_of (n:=n) fun i => decide (i ∈ idx)
 refine ⟨s,h1, ?_⟩
 have hm : ∀ i,i ∈ bitsN n s ↔ i ∈ idx:=fun i => by
  rw [mem_bits];constructor
  ·rintro ⟨h3,h4⟩; rw [h2 i h3] at h4; exact of_decide_eq_true h4
  ·intro h; exact ⟨hi i h,by rw [h2 i (hi i h)]; exact decide_eq_true h⟩
 have nd : ∀ {a : List Nat},a.Pairwise (· < ·) → a.Nodup:=fun h => h.imp fun h => by omega
 exact List.Perm.eq_of_pairwise (le:=fun a b : Nat => a < b) (fun a b _ _ h1 h2 => by omega) (bits_asc n s) ha ((List.perm_ext_iff_of_nodup (nd (bits_asc n s)) (nd ha)).2 hm)
theorem blame_none {list : List Rp} : (∀ x, ¬ MinS list.length (isBlame l list) (2 ^ list.length) x) ↔ HasTruth l (allS list):=by
 rw [can_all];constructor
 ·intro h
  cases e : canL l list fun _ => true
  ·exfalso
   obtain ⟨s,h1,h2⟩ := bits_of (n:=list.length) fun _ => true
   obtain ⟨x,hx⟩ := MinS.some (n:=list.length) (is:=isBlame l list) ⟨s,h1,by unfold isBlame; rw [can_congr (b:=fun _ => true) fun i hi => h2 i hi,e]; rfl⟩
   exact h x hx
  ·rfl
 ·rintro h x ⟨⟨s,h1,h2,rfl⟩, -⟩
  unfold isBlame at h2;rw [can_less (fun i _ => rfl) h] at h2; cases h2
def dropL (list : List Rp) (idx : List Nat) : List Rp:=(list.zipIdx.filter fun p => decide (p.2 ∉ idx)).map (·.1)
theorem can_drop {list : List Rp} {idx : List Nat} {which : Nat → Bool} (hw : ∀ i,i < list.length → (which i = true ↔ i ∉ idx)) : HasTruth l (allS (dropL list idx)) ↔ canL l list which = true:=by
 rw [can_iff];refine truth_members fun t x => ?_
 rw [mem_allS,mem_saidL];unfold dropL;rw [List.mem_map];constructor
 ·rintro ⟨⟨⟨y,i⟩,h,rfl⟩,ht⟩
  obtain ⟨h1,h2⟩ := List.mem_filter.1 h;rw [List.mem_zipIdx_iff_getElem?] at h1;exact ⟨i,h1,ht,(hw i (List.getElem?_eq_some_iff.1 h1).1).2 (by simpa using h2)⟩
 ·rintro ⟨i,h1,h2,h3⟩
  exact ⟨⟨(x,i),List.mem_filter.2 ⟨by rw [List.mem_zipIdx_iff_getElem?]; exact h1,by simpa using (hw i (List.getElem?_eq_some_iff.1 h1).1).1 h3⟩,rfl⟩,h2⟩
theorem drop_yes {list : List Rp} {x : List Nat} (hx : MinS list.length (isDrop l list) (2 ^ list.length) x) : HasTruth l (allS (dropL list x)) ∧ x.Pairwise (· < ·) ∧ (∀ i ∈ x,i < list.length):=by
 obtain ⟨⟨s,h1,h2,rfl⟩, -⟩ := hx;refine ⟨(can_drop (which:=fun i => !s.testBit i) fun i hl => ?_).2 h2,bits_asc _ _,bits_lt⟩
 rw [mem_bits]; simp [hl]
theorem drop_least {list : List Rp} {x : List Nat} (hx : MinS list.length (isDrop l list) (2 ^ list.length) x) {idx : List Nat} (ha : idx.Pairwise (· < ·)) (hi : ∀ i ∈ idx,i < list.length) (hn : HasTruth l (allS (dropL list idx))) : x.length ≤ idx.length:=by
 obtain ⟨s,h1,h2⟩ := bits_eq ha hi;rw [← h2];refine hx.2 s h1 ?_
 exact (can_drop (which:=fun i => !s.testBit i) fun i hl => by rw [← h2,mem_bits]; simp [hl]).1 hn
theorem drop_zero {list : List Rp} {x : List Nat} (hx : MinS list.length (isDrop l list) (2 ^ list.length) x) : x = [] ↔ HasTruth l (allS list):=by
 constructor
 ·rintro rfl
  have h:=(drop_yes hx).1;rw [can_drop (which:=fun _ => true) fun i _ => by simp] at h
  exact can_all.2 h
 ·intro h
  have:=drop_least hx (idx:=[]) List.Pairwise.nil (by simp) ((can_drop (which:=fun _ => true) fun i _ => by simp).2 (can_all.1 h))
  exact List.eq_nil_of_length_eq_zero (by simpa using this)
open Go Go.RowKit Go.Oche Go.Proofs

def Tab5 (W : World) : Prop := ∀ i,i < 64 → W.cell? ⟨1,i,none⟩ = some (.int .u8 ((Lib.deBruijn64tab.getD i 0 : Nat) : Int))
theorem Tab5.lt {W : World} (h : Tab5 W) : 1 < W.heap.size:=World.block_lt_of_cell? W _ (h 0 (by decide))
theorem Tab5.below {W W' : World} (h : Tab5 W) (hb : Below W.heap.size W W') : Tab5 W':=fun i hi => bAt hb (h i hi)
theorem Tab5.chg {O : Nat → Prop} {W W' : World} (h : Tab5 W) (hc : Chg O W W') (hO : ¬ O 1) : Tab5 W':=fun i hi =>
 (World.cell?_of_block (w:=W) (hc.block 1 h.lt hO)).trans (h i hi)
def onesA (s : Int) : Int:=IntKind.u64.wrap (bits BinOp.and IntKind.u64 (s / 2) 6148914691236517205 + bits BinOp.and IntKind.u64 s 6148914691236517205)
def onesB (s : Int) : Int:=IntKind.u64.wrap (bits BinOp.and IntKind.u64 (onesA s / 4) 3689348814741910323 + bits BinOp.and IntKind.u64 (onesA s) 3689348814741910323)
def onesC (s : Int) : Int:=bits BinOp.and IntKind.u64 (IntKind.u64.wrap (onesB s / 16 + onesB s)) 1085102592571150095
def onesD (s : Int) : Int:=IntKind.u64.wrap (onesC s + onesC s / 256)
def onesE (s : Int) : Int:=IntKind.u64.wrap (onesD s + onesD s / 65536)
def onesF (s : Int) : Int:=IntKind.u64.wrap (onesE s + onesE s / 4294967296)
def onesG (s : Int) : Int:=bits BinOp.and IntKind.i64 (wrap64 (onesF s)) 127
theorem ones_all : ∀ s : Fin 1024,onesG ((s.val : Nat) : Int) = ((bitsN 10 s.val).length : Int):=by decide +kernel
def tzE (s : Int) : Int:=IntKind.u64.wrap (bits BinOp.and IntKind.u64 s (IntKind.u64.wrap (-s)) * 285870213051353865) / 288230376151711744
theorem tz_all : ∀ s : Fin 1024,0 < s.val → (0 ≤ tzE ((s.val : Nat) : Int) ∧ (tzE ((s.val : Nat) : Int)).toNat < 64 ∧ Lib.deBruijn64tab.getD (tzE ((s.val : Nat) : Int)).toNat 0 = (bitsN 10 s.val).headD 0):=by decide +kernel
theorem low_all : ∀ s : Fin 1024,0 < s.val → (bitsN 10 s.val = (bitsN 10 s.val).headD 0 :: bitsN 10 (s.val &&& (s.val - 1)) ∧ bits BinOp.and IntKind.u64 ((s.val : Nat) : Int) (IntKind.u64.wrap (((s.val : Nat) : Int) - 1)) = ((s.val &&& (s.val - 1) : Nat) : Int) ∧ (s.val &&& (s.val - 1)) < s.val ∧ (bitsN 10 s.val).headD 0 < 10):=by decide +kernel
theorem bits_few : ∀ n : Fin 11, ∀ s : Fin 1024,s.val < 2 ^ n.val → bitsN 10 s.val = bitsN n.val s.val:=by decide +kernel
set_option maxRecDepth 100000 in
theorem ones64_any (s : Nat) (hs : s < 1024) (w : World) : Calls Tryz.prog 95 #[.int .u64 (s : Int)] w fun e w' => e = .returned (.int .i64 ((bitsN 10 s).length : Int)) ∧ w' = w:=by
 go_enter Tryz.func95,Tryz.ntmps95
 go_wp2;go_returns;refine ⟨?_,rfl⟩
 have h:=ones_all ⟨s,hs⟩;simp only at h;rw [← h]
 rfl
set_option maxRecDepth 100000 in
theorem ones_any (s : Nat) (hs : s < 1024) (w : World) : Calls Tryz.prog 57 #[.int .u64 (s : Int)] w fun e w' => e = .returned (.int .i64 ((bitsN 10 s).length : Int)) ∧ w' = w:=by
 go_enter Tryz.func57,Tryz.ntmps57
 go_wp2_with fail;refine (ones64_any s hs w).mono ?_
 rintro e w' ⟨rfl,rfl⟩;go_wp2;go_returns;exact ⟨rfl,rfl⟩
set_option maxRecDepth 100000 in
theorem tz64_any (s : Nat) (hs : s < 1024) (h0 : 0 < s) (w : World) (hT : Tab5 w) : Calls Tryz.prog 126 #[.int .u64 (s : Int)] w fun e w' => e = .returned (.int .i64 (((bitsN 10 s).headD 0 : Nat) : Int)) ∧ w' = w:=by
 have d0 : ((s : Int) == 0) = false:=beq_eq_false_iff_ne.2 (by omega)
 obtain ⟨e1,e2,e3⟩ := tz_all ⟨s,hs⟩ h0;simp only at e1 e2 e3;have hlow:=(low_all ⟨s,hs⟩ h0).2.2.2;simp only at hlow;have hc:=hT _ e2;rw [e3] at hc;obtain ⟨z,hz⟩ : ∃ z,(bitsN 10 s).headD 0 = z:=⟨_,rfl⟩;rw [hz] at hc hlow ⊢;obtain ⟨k,hk⟩ : ∃ k,(tzE (s : Int)).toNat = k:=⟨_,rfl⟩;rw [hk] at hc e2;have hE : IntKind.u64.wrap (bits BinOp.and IntKind.u64 (s : Int) (IntKind.u64.wrap (-(s : Int))) * 285870213051353865) / 288230376151711744 = (k : Int):=by
  show tzE (s : Int) = _; omega
 have hzw : IntKind.i64.wrap (z : Int) = z:=wrap_small _ (by omega) (by omega)
 clear hz hk e1 e3 hT
 go_enter Tryz.func126,Tryz.ntmps126
 go_wp2;go_returns;exact ⟨rfl,rfl⟩
set_option maxRecDepth 100000 in
theorem tz_any (s : Nat) (hs : s < 1024) (h0 : 0 < s) (w : World) (hT : Tab5 w) : Calls Tryz.prog 96 #[.int .u64 (s : Int)] w fun e w' => e = .returned (.int .i64 (((bitsN 10 s).headD 0 : Nat) : Int)) ∧ w' = w:=by
 have h64:=tz64_any s hs h0 w hT;obtain ⟨z,hz⟩ : ∃ z,(bitsN 10 s).headD 0 = z:=⟨_,rfl⟩;rw [hz] at h64 ⊢;clear hz hT
 go_enter Tryz.func96,Tryz.ntmps96
 go_wp2_with fail;refine h64.mono ?_
 rintro e w' ⟨rfl,rfl⟩;go_wp2;go_returns;exact ⟨rfl,rfl⟩
theorem all_all : ∀ n : Fin 11,IntKind.u64.wrap (IntKind.u64.wrap (2 ^ n.val) - 1) = ((2 ^ n.val - 1 : Nat) : Int):=by decide +kernel
set_option maxRecDepth 100000 in
theorem all_any (n : Nat) (hn : n ≤ 10) (w : World) : Calls Tryz.prog 56 #[.int .i64 (n : Int)] w fun e w' => e = .returned (.int .u64 ((2 ^ n - 1 : Nat) : Int)) ∧ w' = w:=by
 have ha:=all_all ⟨n,by omega⟩
 simp only at ha;have hn0 : (0 : Int) ≤ (n : Int):=by omega
 go_enter Tryz.func56,Tryz.ntmps56
 go_wp2;go_returns;exact ⟨by rw [← ha]; rfl,rfl⟩
open Go.RowKit Go.Oche Go.Proofs Go.ChangeShapes Go.WideShapes Go.ChangeAt Go.Deep
abbrev laid5 : List (String × DataW Unit) := [("math/bits.deBruijn32tab", Rows.laid_math_bits_deBruijn32tab), ("math/bits.deBruijn64tab", Rows.laid_math_bits_deBruijn64tab)]
theorem g64 : Tryz.prog.globalNamed "math/bits.deBruijn64tab" = some 1 := by kernel_rfl
set_option maxRecDepth 100000 in
theorem tab_of_laid {W : World} (h : laidMetH Tryz.prog laid5 W) : Tab5 W:=by
 rw [MakeChecks.laidMetH_plain _ _ _ (by kernel_rfl)] at h
 have h2:=laidMet.tail h;have h3 : laidMet Tryz.prog [("math/bits.deBruijn64tab", Lib.tabData .u8 (Lib.deBruijn64tab.map fun n : Nat => (n : Int)))] W := h2
 have h4:=Lib.tabIs_of_head (t:=241) (n:=64) (e:=5) g64 (by kernel_rfl) Tryz.underlying241 Tryz.underlying5 (by kernel_rfl) (by kernel_rfl) h3
 intro i hi
 have h5:=h4.cell g64 i (by simp [Lib.deBruijn64tab]; omega)
 rw [h5];have hl : i < Lib.deBruijn64tab.length:=by simp [Lib.deBruijn64tab]; omega
 simp [List.getD,hl]
theorem door_met (os : Os) (args : Array Value) : laidMetH Tryz.prog laid5 ((World.doorLaid Tryz.prog 19 os).forCall (fun _ _ => 0) ⟨#[],args,[]⟩).memory :=
 laidMetH_of_parts3 (fuel:=8) (laidMet_of_run' 8 (by kernel_rfl) (by kernel_rfl)) (by kernel_rfl) (by kernel_rfl)
theorem door_shaped (os : Os) (args : Array Value) : ((World.doorLaid Tryz.prog 19 os).forCall (fun _ _ => 0) ⟨#[],args,[]⟩).Shaped Tryz.prog:=World.shaped_of_RefB (by kernel_rfl) (by kernel_rfl)
section
variable {H : Type} {enc : TypeId × Value → H} {W : World} {base : Nat} {spare : Nat → Bool} {held : Bool} {n : Nat} {v : Value} {x : DataW H × List MemPlace}
end
open Go Go.RowKit Go.Oche Go.Proofs

theorem armSpan_any (a b : Int) (w : World) : Calls Tryz.prog 34 #[.int .i64 a,.int .i64 b] w fun e w' => e = .returned (.agg #[.int .i64 a,.int .i64 b]) ∧ Below w.heap.size w w':=by
 obtain ⟨w1,hw1⟩ : ∃ z,w.alloc (.cells #[.int .i64 0,.int .i64 0] 65) = z:=⟨_,rfl⟩;have hb1 : Below w.heap.size w w1:=by rw [← hw1]; exact aB _ _
 have k : w1.heap[w.heap.size]? = some (.cells #[.int .i64 0,.int .i64 0] 65 (0,0)):=by rw [← hw1]; exact World.alloc_heap_new _ _
 have z0 : w1.frozen? ⟨w.heap.size,0,none⟩ = false:=frozen_of_heap k;have z1 : w1.frozen? ⟨w.heap.size,1,none⟩ = false:=frozen_of_heap k;have q0 : w1.cell? ⟨w.heap.size,0,none⟩ = some (.int .i64 0):=by rw [cell_of_heap k]; rfl
 have q1 : w1.cell? ⟨w.heap.size,1,none⟩ = some (.int .i64 0):=by rw [cell_of_heap k]; rfl
 obtain ⟨w4,hw4⟩ : ∃ x,(w1.setCell ⟨w.heap.size,0,none⟩ (.int .i64 a)).setCell ⟨w.heap.size,1,none⟩ (.int .i64 b) = x:=⟨_,rfl⟩;have hk4 : w4.heap[w.heap.size]? = some (.cells #[.int .i64 a,.int .i64 b] 65 (0,0)):=by rw [← hw4]; exact heap_setCell_at (heap_setCell_at k _) _
 have p0 : w4.cell? ⟨w.heap.size,0,none⟩ = some (.int .i64 a):=by rw [cell_of_heap hk4]; rfl
 have p1 : w4.cell? ⟨w.heap.size,1,none⟩ = some (.int .i64 b):=by rw [cell_of_heap hk4]; rfl
 have HB4 : Hid (Below w.heap.size w w4):=Lib.hid (by rw [← hw4]; exact (hb1.setCell (by simp) _).setCell (by simp) _)
 have HW:=Lib.hid hw1;have HW4:=Lib.hid hw4;clear hw4 hk4 hw1 hb1 k
 go_enter Tryz.func34,Tryz.ntmps34
 go_upto_region 1 with fail
 rw [HW.out];go_wp2;rw [HW4.out];refine bodyPost_ret (v:=.agg #[.int .i64 a,.int .i64 b]) (by simp [results,Tryz.results34,go_sem,p0,p1]) rfl ?_
 exact ⟨rfl,HB4.out⟩
theorem armCount_any (a b c : Int) (ha : 0 ≤ a ∧ a < 256) (hb : 0 ≤ b ∧ b < 256) (hc : 0 ≤ c ∧ c < 256) (w : World) : Calls Tryz.prog 6 #[.agg #[.int .u8 a,.int .u8 b,.int .u8 c]] w fun e w' => e = .returned (.agg #[.int .i64 (2 + a % 39),.int .i64 (b % 3),.int .i64 (c % 3)]) ∧ Below w.heap.size w w':=by
 have t1 : a.tmod 39 = a % 39:=Int.tmod_eq_emod_of_nonneg ha.1;have t2 : b.tmod 3 = b % 3:=Int.tmod_eq_emod_of_nonneg hb.1;have t3 : c.tmod 3 = c % 3:=Int.tmod_eq_emod_of_nonneg hc.1;have c1 : IntKind.i64.wrap a = a:=wrap_small _ (by omega) (by omega)
 have c2 : IntKind.i64.wrap (a % 39) = a % 39:=wrap_small _ (by omega) (by omega)
 have c3 : IntKind.i64.wrap (2 + a % 39) = 2 + a % 39:=wrap_small _ (by omega) (by omega)
 have c4 : IntKind.i64.wrap (b % 3) = b % 3:=wrap_small _ (by omega) (by omega)
 have c5 : IntKind.i64.wrap (c % 3) = c % 3:=wrap_small _ (by omega) (by omega)
 have c6 : IntKind.u8.wrap (b % 3) = b % 3:=by rw [IntKind.wrap_u8]; omega
 have c7 : IntKind.u8.wrap (c % 3) = c % 3:=by rw [IntKind.wrap_u8]; omega
 clear ha hb hc;obtain ⟨d,hd⟩ : ∃ d,2 + a % 39 = d:=⟨_,rfl⟩;rw [hd] at c3;have c8 : IntKind.i64.wrap (2 + a % 39) = d:=by rw [hd]; exact c3
 rw [hd];obtain ⟨b3,hb3⟩ : ∃ d,b % 3 = d:=⟨_,rfl⟩;rw [hb3] at c4 c6 t2 ⊢;obtain ⟨c3',hc3⟩ : ∃ d,c % 3 = d:=⟨_,rfl⟩;rw [hc3] at c5 c7 t3 ⊢;clear hd hb3 hc3;obtain ⟨w1,hw1⟩ : ∃ z,(w.alloc (.cells #[.int .u8 a,.int .u8 b,.int .u8 c] 22)).alloc (.cells #[.int .i64 0,.int .i64 0,.int .i64 0] 45) = z:=⟨_,rfl⟩;have hb1 : Below w.heap.size w w1:=by rw [← hw1]; exact (aB _ _).alloc (by simp) _
 have k0 : w1.heap[w.heap.size]? = some (.cells #[.int .u8 a,.int .u8 b,.int .u8 c] 22 (0,0)):=by rw [← hw1]; exact ((aB _ _).block _ (by simp)).trans (World.alloc_heap_new _ _)
 have k : w1.heap[w.heap.size + 1]? = some (.cells #[.int .i64 0,.int .i64 0,.int .i64 0] 45 (0,0)):=by rw [← hw1,show w.heap.size + 1 = (w.alloc (.cells #[.int .u8 a,.int .u8 b,.int .u8 c] 22)).heap.size by simp]; exact World.alloc_heap_new _ _
 have r0 : w1.cell? ⟨w.heap.size,0,none⟩ = some (.int .u8 a):=by rw [cell_of_heap k0]; rfl
 have r1 : w1.cell? ⟨w.heap.size,1,none⟩ = some (.int .u8 b):=by rw [cell_of_heap k0]; rfl
 have r2 : w1.cell? ⟨w.heap.size,2,none⟩ = some (.int .u8 c):=by rw [cell_of_heap k0]; rfl
 have z0 : w1.frozen? ⟨w.heap.size + 1,0,none⟩ = false:=frozen_of_heap k;have z1 : w1.frozen? ⟨w.heap.size + 1,1,none⟩ = false:=frozen_of_heap k;have z2 : w1.frozen? ⟨w.heap.size + 1,2,none⟩ = false:=frozen_of_heap k;have q0 : w1.cell? ⟨w.heap.size + 1,0,none⟩ = some (.int .i64 0):=by rw [cell_of_heap k]; rfl
 have q1 : w1.cell? ⟨w.heap.size + 1,1,none⟩ = some (.int .i64 0):=by rw [cell_of_heap k]; rfl
 have q2 : w1.cell? ⟨w.heap.size + 1,2,none⟩ = some (.int .i64 0):=by rw [cell_of_heap k]; rfl
 obtain ⟨w4,hw4⟩ : ∃ x,((w1.setCell ⟨w.heap.size + 1,0,none⟩ (.int .i64 d)).setCell ⟨w.heap.size + 1,1,none⟩ (.int .i64 b3)).setCell ⟨w.heap.size + 1,2,none⟩ (.int .i64 c3') = x:=⟨_,rfl⟩;have hk4 : w4.heap[w.heap.size + 1]? = some (.cells #[.int .i64 d,.int .i64 b3,.int .i64 c3'] 45 (0,0)):=by rw [← hw4]; exact heap_setCell_at (heap_setCell_at (heap_setCell_at k _) _) _
 have p0 : w4.cell? ⟨w.heap.size + 1,0,none⟩ = some (.int .i64 d):=by rw [cell_of_heap hk4]; rfl
 have p1 : w4.cell? ⟨w.heap.size + 1,1,none⟩ = some (.int .i64 b3):=by rw [cell_of_heap hk4]; rfl
 have p2 : w4.cell? ⟨w.heap.size + 1,2,none⟩ = some (.int .i64 c3'):=by rw [cell_of_heap hk4]; rfl
 have HB4 : Hid (Below w.heap.size w w4):=Lib.hid (by rw [← hw4]; exact ((hb1.setCell (by simp) _).setCell (by simp) _).setCell (by simp) _)
 have HW:=Lib.hid hw1;have HW4:=Lib.hid hw4;clear hw4 hk4 hw1 hb1 k k0
 go_enter Tryz.func6,Tryz.ntmps6
 go_upto_region 1 with fail
 rw [HW.out];go_wp2;rw [HW4.out];refine bodyPost_ret (v:=.agg #[.int .i64 d,.int .i64 b3,.int .i64 c3']) (by simp [results,Tryz.results6,go_sem,p0,p1,p2]) rfl ?_
 exact ⟨rfl,HB4.out⟩
end Go.Proofs.YtnbmgkmcaoafnaaGreatDoor

/- A region that draws its order, walked in the text's order (Seq), all of it. -/
namespace Go.Oche
open Go Go.RowKit
theorem wp_region_seqW {P : Program} {id : Nat} {l : List Oper} {a : Act} {w : World} {Q : Exit → Act → World → Prop} (ks : List Kn) (hlk : ks.length = l.length) (hmix : P.follows .mixedOrders = true) (hB : freeB l.toArray l.length a.tmps.size = true) (hR : readsB l.toArray l.length = true)
  (h : SeqAll P l.toArray w ks (fun a H => ∀ w',Below w.heap.size w w' → (∀ j,j < l.length → H j w') → wpList P l.toArray Q [] a w') ks l a (fun _ _ => True) 0) : (Code.region id l.toArray true).wp P Q a w :=
 wp_region_seq l.length ks hlk hmix hB hR (by rw [List.take_length,List.drop_length]; exact h)
end Go.Oche

/- TopBoardHeard: the known call of heard.Ways. -/
namespace Go.Proofs.YtnbmgkmcaoafnaaGreatDoor
open Go Go.RowKit Go.Oche Go.Proofs
set_option maxRecDepth 100000

def legW : Lg:={ start:=50,gin:=0,gout:=1,beds:=[101,120,201,220,320],players:=1,turns:=0,won:=false }
theorem w_waysE : waysE legW ⟨2,true⟩ 0 = 0:=by decide +kernel
theorem w_waysR : waysR legW ⟨2,true⟩ 0 = ⟨13,1,3⟩ := by decide +kernel
theorem legW_in : BedsIn legW:=by intro b hb; simp [legW] at hb; omega
set_option maxHeartbeats 4000000 in
theorem armKnownHeard_any (w : World) : Calls Tryz.prog 14 #[] w fun e w' => e = .returned (.bool true) ∧ Below w.heap.size w w':=by
 obtain ⟨w1,hw1⟩ : ∃ z,w.alloc (.cells (ints legW.beds).toArray 47) = z:=⟨_,rfl⟩;have hb1 : Below w.heap.size w w1:=by rw [← hw1]; exact aB _ _
 have k1 : w1.heap[w.heap.size]? = some (.cells (ints legW.beds).toArray 47 (0,0)):=by rw [← hw1]; exact World.alloc_heap_new _ _
 have hs : Sl (fun _ => True) w1 (.slice (some ⟨w.heap.size,0,none⟩) 5 5) (ints legW.beds):=sl_blk k1 (by decide)
 have hcall:=ways_any legW _ ⟨2,true⟩ 0 w1 hs legW_in;rw [w_waysE,w_waysR] at hcall;have HB1:=Lib.hid hb1;have HW:=Lib.hid hw1;clear hw1 hb1 k1 hs
 go_enter Tryz.func14,Tryz.ntmps14
 go_wp2_with fail;refine Eq.subst (motive:=fun z => Calls _ _ _ z _) HW.out.symm ?_
 refine hcall.mono ?_
 rintro e w2 ⟨rfl,hb2⟩;have HB2:=Lib.hid (bThen HB1.out hb2);clear hb2 hcall;obtain ⟨w3,hw3⟩ : ∃ z,w2.alloc (.cells #[.int .i64 1,.int .i64 3] 65) = z:=⟨_,rfl⟩;have hb3 : Below w2.heap.size w2 w3:=by rw [← hw3]; exact aB _ _
 have k3 : w3.heap[w2.heap.size]? = some (.cells #[.int .i64 1,.int .i64 3] 65 (0,0)):=by rw [← hw3]; exact World.alloc_heap_new _ _
 have d0 : w3.cell? ⟨w2.heap.size,0,none⟩ = some (.int .i64 1):=by rw [cell_of_heap k3]; rfl
 have d1 : w3.cell? ⟨w2.heap.size,1,none⟩ = some (.int .i64 3):=by rw [cell_of_heap k3]; rfl
 have HB3:=Lib.hid (bThen HB2.out hb3);have HW3:=Lib.hid hw3;clear hw3 hb3 k3;go_upto_region 2 with fail;rw [HW3.out];refine wp_region_seqW [.is (.int .i64 0),.is (.bool true),.is (.bool true),.is (.int .i64 13),.is (.bool true),.is (.bool true),.is (.bool true),.is (.agg #[.int .i64 1,.int .i64 3]),.is (.agg #[.int .i64 1,.int .i64 3]),.is (.bool true),.is (.bool true),.is (.bool true)] rfl mix (by kernel_rfl) (by kernel_rfl) ?seqm
 case seqm =>
  iterate 7
   refine seq_on (by rfl) (fun w3 hb3 _ => ?_) ?_
   ·simp [opOK,go_sem,Below.refl]
    try exact rfl
   simp only [Act.put,List.setIfInBounds_toArray,List.set_cons_succ,List.set_cons_zero]
  refine seq_on (by rfl) (fun w3 hb3 _ => ?_) ?_
  ·have d0':=bAt hb3 d0
   have d1':=bAt hb3 d1;simp [opOK,go_sem,d0',d1',Below.refl]
   try exact rfl
  simp only [Act.put,List.setIfInBounds_toArray,List.set_cons_succ,List.set_cons_zero];refine seq_on (by rfl) (fun w3 hb3 hH => ?_) ?_
  ·refine opOK_call (f:=34) (args:=#[.int .i64 1,.int .i64 3]) (by simp [go_sem]) ?_
   exact (armSpan_any 1 3 w3).mono fun e W' ⟨he,hb⟩ => ⟨_,he,rfl,hb⟩
  simp only [Act.put,List.setIfInBounds_toArray,List.set_cons_succ,List.set_cons_zero]
  iterate 3
   refine seq_on (by rfl) (fun w3 hb3 _ => ?_) ?_
   ·simp [opOK,go_sem,Below.refl]
    try exact rfl
   simp only [Act.put,List.setIfInBounds_toArray,List.set_cons_succ,List.set_cons_zero]
  refine seq_end fun w4 hb4 _ => ?_
  have HB4:=Lib.hid (bThen HB3.out hb4);clear hb4;go_wp2;go_returns;exact ⟨rfl,HB4.out⟩
open Go.RowKit Go.Oche Go.Proofs

def byteL (D : List Int) (i : Nat) : Int:=if D = [] then 0 else D.getD (i % D.length) 0
def Bytes (D : List Int) : Prop := ∀ b ∈ D,0 ≤ b ∧ b < 256
theorem byteL_at {D : List Int} (h : D ≠ []) (i : Nat) : i % D.length < D.length ∧ D[i % D.length]? = some (byteL D i):=by
 have hl : 0 < D.length:=List.length_pos_iff.2 h;have hm:=Nat.mod_lt i hl;refine ⟨hm, ?_⟩
 unfold byteL;rw [if_neg h,List.getD_eq_getElem?_getD,List.getElem?_eq_getElem hm]; rfl
theorem byteL_bd {D : List Int} (h : Bytes D) (i : Nat) : 0 ≤ byteL D i ∧ byteL D i < 256:=by
 by_cases e : D = []
 ·unfold byteL; rw [if_pos e]; omega
 ·exact h _ (List.mem_of_getElem? (byteL_at e i).2)
structure Thr where
 st : Int
 inn : Int
 out : Int
 pl : Int
 which : Nat
 darts : List Int
 said : List Int
def beds12 : List Int:=[101,102,103,105,110,201,202,204,205,225,301,303]
def bedIs (W k : Nat) : Bool:=W.testBit k || k == 5
def bedsP (W k : Nat) : List Int:=((List.range k).filter (bedIs W)).map fun k => beds12.getD k 0
def bedsOf (W : Nat) : List Int:=(bedsP W 12).take 6
def Thr.D (x : Thr) (q : Nat) : Nat:=(byteL x.darts q).toNat
def legB (x : Thr) : Lg:={ start:=2 + x.st % 20,gin:=x.inn % 3,gout:=x.out % 3,beds:=bedsOf x.which,players:=1 + x.pl % 3,turns:=0,won:=false }
def playX (x : Thr) (most : Nat) : Pl5:=play5 (legB x) x.D most (begin5 (legB x))
def legT (x : Thr) (most : Nat) : Lg:=leg5 (legB x) (playX x most)
theorem play_len (l : Lg) (D : Nat → Nat) : ∀ (k : Nat) (s : Pl5),(play5 l D k s).out.length ≤ s.out.length + k ∧ ((s.won = true → s.out ≠ []) → (play5 l D k s).won = true → (play5 l D k s).out ≠ [])
 | 0,s => ⟨Nat.le_refl _,fun h => h⟩
 | k + 1,s => by
  rw [play5];split
  ·exact ⟨by omega,fun h => h⟩
  ·have h:=play_len l D k (step5 l D s)
   have h2 : (step5 l D s).out.length = s.out.length + 1:=by simp [step5]
   exact ⟨by omega,fun _ => h.2 fun _ e => by rw [e] at h2; simp at h2⟩
theorem Ok5.truth {l : Lg} {x : Pl5} (hp : 1 ≤ l.players) (h : Ok5 l x) {said : Int → List Rp} (hs : ∀ (i : Nat) (sp : Sp),x.out[i]? = some sp → fitsP sp.bef sp.en (said i) = true) :
  HasTruth (leg5 l x) said ∧ ∀ (t : Nat) (sp : Sp),x.out[t]? = some sp → sp ∈ keptL (leg5 l x) said t:=by
 have hrun : ∀ p : Nat,p < l.players.toNat → ∃ r,Run (leg5 l x) said (turnsL (leg5 l x) p) (start5 (leg5 l x)) r ∧ ∀ (j : Nat) (sp : Sp),x.out[p + j * l.players.toNat]? = some sp → r[j]? = some sp:=fun p hp2 => by
  obtain ⟨r,h1,h2⟩ := Ok5.run hp h hs x.out.length p (by omega)
  rw [if_pos hp2] at h1;exact ⟨r,h1,h2⟩
 have ht : HasTruth (leg5 l x) said:=fun p hp2 => let ⟨r,h1,_⟩ := hrun p hp2; ⟨r,h1⟩
 refine ⟨ht,fun t sp hsp => (kept_mem (l:=leg5 l x) hp ht).2 ?_⟩
 obtain ⟨r,h1,h2⟩ := hrun (t % l.players.toNat) (Nat.mod_lt _ (by omega))
 refine ⟨r,h1,h2 _ _ ?_⟩
 have:=Nat.mod_add_div t l.players.toNat;rw [Nat.mul_comm] at this;show x.out[t % l.players.toNat + t / l.players.toNat * l.players.toNat]? = some sp;rw [this]; exact hsp
/-! ## A visit, dart by dart -/
def hitK (l : Lg) (k : Nat) : Ht:=if k = l.beds.length then miss5 else hitB5 l (l.beds.getD k 0)
theorem thr5_on {l : Lg} {D : Nat → Nat} {k q : Nat} {s : Std} {j : Nat} (hj : D q % (l.beds.length + 1) = j) {x : En} (h : dart5 l s (hitK l j) = (x,true)) : thr5 l D (k + 1) s q = ((thr5 l D k x.std (q + 1)).1,(thr5 l D k x.std (q + 1)).2 + 1):=by
 unfold hitK at h;rw [thr5];simp only [hj,h,if_true]
theorem thr5_off {l : Lg} {D : Nat → Nat} {k q : Nat} {s : Std} {j : Nat} (hj : D q % (l.beds.length + 1) = j) {x : En} (h : dart5 l s (hitK l j) = (x,false)) : thr5 l D (k + 1) s q = (x,1):=by
 unfold hitK at h;rw [thr5];simp only [hj,h,Bool.false_eq_true,if_false]
theorem hitK_miss {l : Lg} {s : Std} {j : Nat} (hj : j = l.beds.length) : dart5 l s (hitK l j) = (s.en,true):=by
 unfold hitK;rw [if_pos hj];unfold dart5 miss5 Std.en;simp
theorem hitK_bed {l : Lg} {j : Nat} {b : Int} (hb : l.beds[j]? = some b) : hitK l j = hitB5 l b:=by
 have hl:=(List.getElem?_eq_some_iff.1 hb).1
 unfold hitK;rw [if_neg (by omega),List.getD_eq_getElem?_getD,hb]; rfl
theorem dart_out {l : Lg} {s : Std} {b : Int} (hi : s.inn = false) (ho : opens5 b l.gin = false) : dart5 l s (hitB5 l b) = (s.en,true):=by
 unfold dart5 hitB5 Std.en;simp [hi,ho]
theorem dart_win {l : Lg} {s : Std} {b : Int} (hi : s.inn = true ∨ opens5 b l.gin = true) (h1 : 1 ≤ b.tdiv 100 * b.tmod 100) (hr : s.left - b.tdiv 100 * b.tmod 100 = 0) (ho : opens5 b l.gout = true) : dart5 l s (hitB5 l b) = (⟨0,true,false,true⟩,false):=by
 have e : (s.inn || opens5 b l.gin) = true:=by rcases hi with h | h <;> simp [h]
 unfold dart5 hitB5;simp only [e];rw [if_neg (by rintro (h | h); cases h; omega),if_pos ⟨hr,ho⟩]
theorem dart_rest {l : Lg} {s : Std} {b : Int} (hi : s.inn = true ∨ opens5 b l.gin = true) (h1 : 1 ≤ b.tdiv 100 * b.tmod 100) (hw : ¬ (s.left - b.tdiv 100 * b.tmod 100 = 0 ∧ opens5 b l.gout = true)) (hr : low5 l.gout ≤ s.left - b.tdiv 100 * b.tmod 100) : dart5 l s (hitB5 l b) = (⟨s.left - b.tdiv 100 * b.tmod 100,true,false,false⟩,true):=by
 have e : (s.inn || opens5 b l.gin) = true:=by rcases hi with h | h <;> simp [h]
 unfold dart5 hitB5;simp only [e];rw [if_neg (by rintro (h | h); cases h; omega),if_neg hw,if_neg (by omega)]
theorem dart_bust {l : Lg} {s : Std} {b : Int} (hi : s.inn = true ∨ opens5 b l.gin = true) (h1 : 1 ≤ b.tdiv 100 * b.tmod 100) (hw : ¬ (s.left - b.tdiv 100 * b.tmod 100 = 0 ∧ opens5 b l.gout = true)) (hr : s.left - b.tdiv 100 * b.tmod 100 < low5 l.gout) : dart5 l s (hitB5 l b) = (⟨0,false,true,false⟩,false):=by
 have e : (s.inn || opens5 b l.gin) = true:=by rcases hi with h | h <;> simp [h]
 unfold dart5 hitB5;simp only [e];rw [if_neg (by rintro (h | h); cases h; omega),if_neg hw,if_pos (by omega)]
structure VisAt (l : Lg) (D : Nat → Nat) (E : En × Nat) (q d : Nat) (c : Std) (wn : Bool) : Prop where
 on : wn = false → E = ((thr5 l D (3 - d) c (q + d)).1,(thr5 l D (3 - d) c (q + d)).2 + d)
 off : wn = true → E = (⟨0,true,false,true⟩,d) ∧ c = ⟨0,true⟩
theorem VisAt.start (l : Lg) (D : Nat → Nat) (q : Nat) (s : Std) : VisAt l D (thr5 l D 3 s q) q 0 s false:=⟨fun _ => rfl,fun h => (by cases h)⟩
section
variable {l : Lg} {D : Nat → Nat} {E : En × Nat} {q d : Nat} {c : Std}
theorem VisAt.next (h : VisAt l D E q d c false) (hd : d < 3) {j : Nat} (hj : D (q + d) % (l.beds.length + 1) = j) {x : En} (hx : dart5 l c (hitK l j) = (x,true)) : VisAt l D E q (d + 1) x.std false:=by
 refine ⟨fun _ => ?_,fun h => (by cases h)⟩
 rw [h.on rfl,show 3 - d = (3 - (d + 1)) + 1 by omega,thr5_on hj hx,Nat.add_assoc q d 1,Nat.add_assoc,Nat.add_comm 1 d]
theorem VisAt.stop (h : VisAt l D E q d c false) (hd : d < 3) {j : Nat} (hj : D (q + d) % (l.beds.length + 1) = j) {x : En} (hx : dart5 l c (hitK l j) = (x,false)) : E = (x,d + 1):=by
 rw [h.on rfl,show 3 - d = (3 - (d + 1)) + 1 by omega,thr5_off hj hx,Nat.add_comm 1 d]
theorem VisAt.win (h : VisAt l D E q d c false) (hd : d < 3) {j : Nat} (hj : D (q + d) % (l.beds.length + 1) = j) (hx : dart5 l c (hitK l j) = (⟨0,true,false,true⟩,false)) : VisAt l D E q (d + 1) ⟨0,true⟩ true :=
 ⟨fun h => (by cases h),fun _ => ⟨h.stop hd hj hx,rfl⟩⟩
structure VisEnd (V : Sp) (s : Std) (d : Nat) (c : Std) (wn : Bool) : Prop where
 left : V.en.left = c.left
 inn : V.en.inn = c.inn
 won : V.en.won = wn
 darts : V.darts = d
 bef : V.bef = s
theorem VisAt.done {s : Std} {wn : Bool} (h : VisAt l D (thr5 l D 3 s q) q d c wn) (hd : d = 3 ∨ wn = true) : VisEnd (visT l D s q) s d c wn:=by
 cases wn
 ·obtain rfl : d = 3:=by rcases hd with h | h; exact h; cases h
  have h1:=h.on rfl;have h2 : thr5 l D 3 s q = (c.en,3):=by rw [h1]; rfl
  unfold visT;rw [h2];exact ⟨rfl,rfl,rfl,rfl,rfl⟩
 ·obtain ⟨h1,rfl⟩ := h.off rfl
  unfold visT;rw [h1];exact ⟨rfl,rfl,rfl,rfl,rfl⟩
theorem VisAt.bust {s : Std} (h : VisAt l D (thr5 l D 3 s q) q d c false) (hd : d < 3) {j : Nat} (hj : D (q + d) % (l.beds.length + 1) = j) (hx : dart5 l c (hitK l j) = (⟨0,false,true,false⟩,false)) : VisEnd (visT l D s q) s (d + 1) s false:=by
 have h1:=h.stop hd hj hx;unfold visT;rw [h1];exact ⟨rfl,rfl,rfl,rfl,rfl⟩
end
structure PlAt (l : Lg) (D : Nat → Nat) (most : Nat) (F x : Pl5) : Prop where
 len : x.out.length ≤ most
 eq : play5 l D (most - x.out.length) x = F
 at_ : x.at_ ≤ 3 * x.out.length
 sts : x.sts.length = l.players.toNat
 bd : ∀ s ∈ x.sts,0 ≤ s.left ∧ s.left ≤ l.start
theorem PlAt.start {l : Lg} {D : Nat → Nat} {most : Nat} (h0 : 0 ≤ l.start) : PlAt l D most (play5 l D most (begin5 l)) (begin5 l) :=
 ⟨Nat.zero_le _,rfl,Nat.le_refl _,by simp [begin5],fun s hs => by rw [List.eq_of_mem_replicate hs]; exact ⟨h0,Int.le_refl _⟩⟩
theorem PlAt.done {l : Lg} {D : Nat → Nat} {most : Nat} {F x : Pl5} (h : PlAt l D most F x) (hd : x.out.length = most ∨ x.won = true) : x = F:=by
 rw [← h.eq];rcases hd with hd | hd
 ·rw [hd,Nat.sub_self]; rfl
 ·cases hk : most - x.out.length with
  | zero => rfl
  | succ k => rw [play5,if_pos hd]
theorem PlAt.step {l : Lg} {D : Nat → Nat} {most : Nat} {F x : Pl5} (h : PlAt l D most F x) (hg : GoodBeds l) (hm : x.out.length < most) (hw : x.won = false) {s : Std} (hs : x.sts[x.out.length % x.sts.length]? = some s) : step5 l D x = ⟨x.sts.set (x.out.length % x.sts.length) (visT l D s x.at_).aft,x.at_ + (visT l D s x.at_).darts,x.out ++ [visT l D s x.at_],(visT l D s x.at_).en.won⟩ ∧ PlAt l D most F (step5 l D x):=by
 have e : step5 l D x = ⟨x.sts.set (x.out.length % x.sts.length) (visT l D s x.at_).aft,x.at_ + (visT l D s x.at_).darts,x.out ++ [visT l D s x.at_],(visT l D s x.at_).en.won⟩ := by
  have hgd : x.sts.getD (x.out.length % x.sts.length) (start5 l) = s:=by rw [List.getD_eq_getElem?_getD,hs]; rfl
  unfold step5;simp only [hgd]
 refine ⟨e, ?_⟩
 have hv:=visT_mem l D s x.at_;have hd:=vis_darts l hv;have hb:=h.bd s (List.mem_of_getElem? hs);have hl:=vis_left hg hb.1 hv;have h1:=h.eq;rw [show most - x.out.length = (most - (x.out.length + 1)) + 1 by omega,play5,if_neg (by rw [hw]; simp)] at h1
 have h3:=h.at_;rw [e] at h1 ⊢;refine ⟨by simp; omega,by simpa using h1,by simp at hd ⊢; omega,by simpa using h.sts,fun y hy => ?_⟩
 rcases List.mem_or_eq_of_mem_set hy with hy | hy
 ·exact h.bd y hy
 ·rw [hy]
  simp only [Sp.aft,En.std] at hl ⊢;omega
/-! ## Reports -/
def repOf (S : List Int) (i : Nat) (sp : Sp) : Rp:=⟨i,if byteL S i % 4 = 0 ∨ byteL S i % 4 = 1 then sp.score else -1,if byteL S i % 4 = 0 ∨ byteL S i % 4 = 2 then sp.en.left else -1⟩
def repIs (S : List Int) (i : Nat) : Bool:=decide (byteL S i % 4 < 3) || decide (250 ≤ byteL S i)
def repsN (S : List Int) (out : List Sp) (i : Nat) : List Rp:=((out.take i).zipIdx.filter fun p => repIs S p.2).map fun p => repOf S p.2 p.1
def repsL (x : Thr) (most : Nat) : List Rp:=repsN x.said (playX x most).out (playX x most).out.length
open Go.RowKit Go.Oche Go.Proofs

/-! ## The board: all points by their coordinates -/
def crossP (a b : Int × Int) : Int:=a.1 * b.2 - a.2 * b.1
def dotP (a b : Int × Int) : Int:=a.1 * b.1 + a.2 * b.2
def partP (d p : Int × Int) : Int:=if crossP d p < 0 then 1 else if 0 < crossP d p then 3 else if 0 < dotP d p then 0 else 2
def beforeP (d a b : Int × Int) : Bool:=if partP d a = partP d b then decide (crossP a b < 0) else decide (partP d a < partP d b)
def secP (ls : List (Int × Int)) (d : Int × Int) : Nat → Int → Int → Int
 | 0,_,i => i
 | k + 1,j,i => match ls[ls.length - (k + 1)]? with
  | some p => secP ls d k (j + 1) (if beforeP (ls.headD (0,0)) d p = true then i else j)
  | none => i
def sectorP (ls : List (Int × Int)) (d : Int × Int) : Int:=secP ls d ls.length 0 0
theorem secP_bd (ls : List (Int × Int)) (d : Int × Int) : ∀ (k : Nat) (j i : Int),0 ≤ j → j + k ≤ ls.length → 0 ≤ i → i < ls.length → 0 ≤ secP ls d k j i ∧ secP ls d k j i < ls.length
 | 0,j,i,h1,h2,h3,h4 => ⟨h3,h4⟩
 | k + 1,j,i,h1,h2,h3,h4 => by
  rw [secP];split
  ·split
   ·exact secP_bd ls d k (j + 1) i (by omega) (by omega) h3 h4
   ·exact secP_bd ls d k (j + 1) j (by omega) (by omega) h1 (by omega)
  ·exact ⟨h3,h4⟩
theorem sectorP_bd {ls : List (Int × Int)} (h : 0 < ls.length) (d : Int × Int) : 0 ≤ sectorP ls d ∧ sectorP ls d < ls.length :=
 secP_bd ls d ls.length 0 0 (by omega) (by omega) (by omega) (by omega)
def bedP (eye bull : Int) (rings : List (Int × Int)) (ls : List (Int × Int)) (ns : List Int) (d : Int × Int) : Int :=
 if dotP d d < eye * eye then 225 else if dotP d d < bull * bull then 125 else
  match rings.find? (fun r => decide (dotP d d < r.1 * r.1)) with
  | none => 0
  | some r => if r.2 = 0 then 0 else 100 * r.2 + ns.getD (sectorP ls d).toNat 0
def lines4 : List (Int × Int):=[(-1,1),(1,1),(1, -1),(-1, -1)]
def bedH (d : Int × Int) : Int:=bedP 30 70 [(150,1),(180,2)] lines4 [5,1,3,2] d
def beds10 : List Int:=[101,102,103,105,125,201,202,203,205,225]
theorem ns4 : ∀ i : Fin 4,([5,1,3,2] : List Int).getD i.val 0 = 5 ∨ ([5,1,3,2] : List Int).getD i.val 0 = 1 ∨ ([5,1,3,2] : List Int).getD i.val 0 = 3 ∨ ([5,1,3,2] : List Int).getD i.val 0 = 2:=by decide
theorem bedH_in (d : Int × Int) : bedH d = 0 ∨ bedH d ∈ beds10:=by
 unfold bedH bedP;split
 ·exact .inr (by decide)
 ·split
  ·exact .inr (by decide)
  ·have hs:=sectorP_bd (ls:=lines4) (by decide) d
   have hl : ((lines4.length : Nat) : Int) = 4:=rfl;rw [hl] at hs;have hn:=ns4 ⟨(sectorP lines4 d).toNat,by omega⟩
   simp only at hn;cases hf : ([(150,1),(180,2)] : List (Int × Int)).find? (fun r => decide (dotP d d < r.1 * r.1)) with
   | none => exact .inl rfl
   | some r =>
    simp only;have hr : r = (150,1) ∨ r = (180,2):=by
     have:=List.mem_of_find?_eq_some hf
     simpa using this
    rcases hr with rfl | rfl
    ·rw [if_neg (by decide)]
     rcases hn with e | e | e | e <;> rw [e] <;> exact .inr (by decide)
    ·rw [if_neg (by decide)]
     rcases hn with e | e | e | e <;> rw [e] <;> exact .inr (by decide)
/-! ## The leg -/
structure Ovh where
 v0 : Int
 v1 : Int
 v2 : Int
 points : List (Int × Int)
 said : List Int
 lie : Int
structure Ovh.Ok (x : Ovh) : Prop where
 b0 : 0 ≤ x.v0 ∧ x.v0 < 256
 b1 : 0 ≤ x.v1 ∧ x.v1 < 256
 b2 : 0 ≤ x.v2 ∧ x.v2 < 256
 pts : ∀ p ∈ x.points,(0 ≤ p.1 ∧ p.1 < 256) ∧ 0 ≤ p.2 ∧ p.2 < 256
 said : Bytes x.said
 lie : 0 ≤ x.lie ∧ x.lie < 256
def pointAt (x : Ovh) (q : Nat) : Int × Int:=if x.points = [] then (0,0) else x.points.getD (q % x.points.length) (0,0)
def bedAt (x : Ovh) (q : Nat) : Int:=bedH (2 * (pointAt x q).1 - 255,2 * (pointAt x q).2 - 255)
def bedIx (b : Int) : Nat:=beds10.idxOf b
theorem bedIx_zero : bedIx 0 = 10:=by decide
theorem bedIx_at {b : Int} (h : b ∈ beds10) : beds10[bedIx b]? = some b:=by
 unfold bedIx;rw [List.getElem?_eq_getElem (List.idxOf_lt_length_iff.2 h),List.getElem_idxOf]
theorem bedIx_lt (b : Int) : bedIx b < 11:=by
 unfold bedIx;have:=List.idxOf_le_length (a:=b) (l:=beds10);have hl : beds10.length = 10:=rfl;omega
def Ovh.D (x : Ovh) (q : Nat) : Nat:=bedIx (bedAt x q)
def legH (x : Ovh) : Lg:={ start:=2 + x.v0 % 39,gin:=x.v1 % 3,gout:=x.v2 % 3,beds:=beds10,players:=2,turns:=0,won:=false }
theorem legH_bd (x : Ovh) : 2 ≤ (legH x).start ∧ (legH x).start ≤ 40 ∧ 0 ≤ (legH x).gin ∧ (legH x).gin ≤ 2 ∧ 0 ≤ (legH x).gout ∧ (legH x).gout ≤ 2:=by
 unfold legH; simp only; omega
def playH (x : Ovh) : Pl5:=play5 (legH x) x.D 4 (begin5 (legH x))
def legF (x : Ovh) : Lg:=leg5 (legH x) (playH x)
theorem playH_len (x : Ovh) : (playH x).out.length ≤ 4:=by
 have:=(play_len (legH x) x.D 4 (begin5 (legH x))).1;have h : (begin5 (legH x)).out.length = 0:=rfl;unfold playH; omega
theorem playH_won (x : Ovh) (h : (playH x).won = true) : (playH x).out ≠ [] :=
 (play_len (legH x) x.D 4 (begin5 (legH x))).2 (fun h => by cases h) h
theorem play_more (l : Lg) (D : Nat → Nat) : ∀ (k : Nat) (s : Pl5),s.out.length ≤ (play5 l D k s).out.length
 | 0,_ => Nat.le_refl _
 | k + 1,s => by
  rw [play5];split
  ·exact Nat.le_refl _
  ·have h:=play_more l D k (step5 l D s)
   have h2 : (step5 l D s).out.length = s.out.length + 1:=by simp [step5]
   omega
theorem playH_one (x : Ovh) : 1 ≤ (playH x).out.length:=by
 unfold playH;rw [play5,if_neg (by simp [begin5])]
 have h:=play_more (legH x) x.D 3 (step5 (legH x) x.D (begin5 (legH x)));have h2 : (step5 (legH x) x.D (begin5 (legH x))).out.length = 0 + 1:=by simp [step5,begin5]
 omega
theorem bed10_ok : ∀ b ∈ beds10,isBed5 b = true ∧ 1 ≤ b.tdiv 100 * b.tmod 100 ∧ b.tdiv 100 * b.tmod 100 ≤ 80 ∧ 100 ≤ b ∧ b < 400:=by decide
theorem legF_check (x : Ovh) : checkL (legF x) = 0:=by
 have hb:=legH_bd x;have hl:=playH_len x;have h0 : ¬ 82 < (legF x).beds.length:=by show ¬ 82 < beds10.length; decide
 have h1 : ¬ (okCount (legF x) = false ∨ (legF x).beds = [] ∨ ¬ (legF x).beds.Pairwise (· < ·) ∨ (∃ b ∈ (legF x).beds,isBed5 b = false)):=by
  rintro (h | h | h | ⟨b,hb,h⟩)
  ·have : okCount (legF x) = true:=by
    show (isIn (legH x).start 2 1001 && isIn (legH x).gin 0 2 && isIn (legH x).gout 0 2) = true
    unfold isIn;simp only [Bool.and_eq_true,decide_eq_true_eq]; omega
   rw [this] at h; cases h
  ·exact absurd (show beds10 = [] from h) (by decide)
  ·exact h (show beds10.Pairwise (· < ·) by decide)
  ·rw [(bed10_ok b hb).1] at h; cases h
 have h2 : ¬ (isIn (legF x).players 1 4 = false ∨ isIn (legF x).turns 0 60 = false ∨ ((legF x).won = true ∧ (legF x).turns = 0)):=by
  rintro (h | h | ⟨h,h'⟩)
  ·cases (show isIn 2 1 4 = false from h)
  ·have : isIn (((playH x).out.length : Nat) : Int) 0 60 = true:=by unfold isIn; simp only [Bool.and_eq_true,decide_eq_true_eq]; omega
   rw [show (legF x).turns = (((playH x).out.length : Nat) : Int) from rfl,this] at h; cases h
  ·have h3:=playH_won x h
   have h4 : (((playH x).out.length : Nat) : Int) = 0:=h';exact h3 (List.length_eq_zero_iff.1 (by omega))
 unfold checkL;rw [if_neg h0,if_neg h1,if_neg h2]
theorem legF_good (x : Ovh) : GoodBeds (legF x):=fun b hb => by
 have:=(bed10_ok b hb).2.1; omega
theorem playH_ok (x : Ovh) : Ok5 (legH x) (playH x):=Ok5.play (show (1 : Int) ≤ 2 by decide) 4 (Ok5.begin (show (1 : Int) ≤ 2 by decide))
/-! ## What is said -/
def repH (x : Ovh) (i : Nat) (sp : Sp) : Rp:=⟨i,if byteL x.said i % 3 = 0 then -1 else sp.score,if byteL x.said i % 3 = 1 then -1 else sp.en.left⟩
def repsH (x : Ovh) (n : Nat) : List Rp:=((playH x).out.take n).zipIdx.map fun p => repH x p.2 p.1
theorem repsH_len (x : Ovh) {n : Nat} (h : n ≤ (playH x).out.length) : (repsH x n).length = n:=by
 unfold repsH; rw [List.length_map,List.length_zipIdx,List.length_take]; omega
theorem repsH_succ (x : Ovh) {i : Nat} {sp : Sp} (h : (playH x).out[i]? = some sp) : repsH x (i + 1) = repsH x i ++ [repH x i sp]:=by
 have hl:=(List.getElem?_eq_some_iff.1 h).1
 unfold repsH;rw [List.take_add_one,h,Option.toList_some,List.zipIdx_append,List.map_append]
 congr 1
 have e : ((playH x).out.take i).length = i:=by rw [List.length_take]; omega
 rw [e]; simp
def saidH (x : Ovh) : List Rp:=repsH x (playH x).out.length
theorem saidH_len (x : Ovh) : (saidH x).length = (playH x).out.length:=repsH_len x (Nat.le_refl _)
theorem saidH_at (x : Ovh) (i : Nat) : (saidH x)[i]? = ((playH x).out[i]?).map (repH x i):=by
 unfold saidH repsH;rw [List.take_length,List.getElem?_map,List.getElem?_zipIdx]
 cases (playH x).out[i]? <;> simp
theorem saidH_mem {x : Ovh} {r : Rp} (h : r ∈ saidH x) : ∃ (i : Nat) (sp : Sp),(playH x).out[i]? = some sp ∧ r = repH x i sp:=by
 obtain ⟨i,hi,rfl⟩ := List.mem_iff_getElem.1 h;have h2:=List.getElem?_eq_getElem hi
 rw [saidH_at] at h2;cases e : (playH x).out[i]? with
 | none => rw [e] at h2; cases h2
 | some sp =>
  rw [e] at h2;exact ⟨i,sp,e,by simpa using h2.symm⟩
theorem repH_fit (x : Ovh) (i : Nat) (sp : Sp) : fitsP sp.bef sp.en [repH x i sp] = true:=by
 unfold fitsP repH Sp.score;simp only [List.all_cons,List.all_nil,Bool.and_true,Bool.and_eq_true,Bool.or_eq_true];refine ⟨?_, ?_⟩
 ·split <;> simp
 ·split <;> simp
theorem fit_of {x : Ovh} {said : Int → List Rp} (h : ∀ (i : Nat) (r : Rp),r ∈ said i → r ∈ saidH x ∧ r.turn = i) : ∀ (i : Nat) (sp : Sp),(playH x).out[i]? = some sp → fitsP sp.bef sp.en (said i) = true:=by
 intro i sp hsp
 unfold fitsP;rw [List.all_eq_true];intro r hr;obtain ⟨hm,ht⟩ := h i r hr;obtain ⟨j,sp',hj,rfl⟩ := saidH_mem hm;have e : j = i:=by have : ((j : Nat) : Int) = i:=ht; omega
 subst e;rw [hsp] at hj;cases hj;have:=repH_fit x j sp;unfold fitsP at this
 simpa using this
theorem saidH_truth (x : Ovh) : HasTruth (legF x) (allS (saidH x)) ∧ ∀ (t : Nat) (sp : Sp),(playH x).out[t]? = some sp → sp ∈ keptL (legF x) (allS (saidH x)) t :=
 (playH_ok x).truth (show (1 : Int) ≤ 2 by decide) (fit_of fun i r hr => mem_allS.1 hr)
theorem outH_bd {x : Ovh} {i : Nat} {sp : Sp} (h : (playH x).out[i]? = some sp) : 0 ≤ sp.score ∧ sp.score ≤ 40 ∧ 0 ≤ sp.en.left ∧ sp.en.left ≤ 40:=by
 have ht:=saidH_truth x;have hb:=legH_bd x;have hl:=kept_left (l:=legF x) (show (1 : Int) ≤ 2 by decide) (legF_good x) (show 0 ≤ (legH x).start by omega) ht.1 (ht.2 i sp h)
 have hs : (legF x).start = (legH x).start:=rfl;unfold Sp.score; omega
/-! ## One report is changed -/
def lieI (x : Ovh) : Nat:=x.lie.toNat % (saidH x).length
def bentR (x : Ovh) (r : Rp) : Rp:=if 0 ≤ r.score then { r with score:=(r.score + 1 + x.lie / 8) % 30 } else { r with left:=(r.left + 1 + x.lie / 8) % 30 }
def liedH (x : Ovh) : List Rp:=(saidH x).set (lieI x) (bentR x ((saidH x).getD (lieI x) ⟨0, -1, -1⟩))
theorem lieI_lt (x : Ovh) : lieI x < (saidH x).length:=Nat.mod_lt _ (by rw [saidH_len]; exact playH_one x)
theorem liedH_len (x : Ovh) : (liedH x).length = (saidH x).length:=List.length_set ..
theorem liedH_other (x : Ovh) {j : Nat} (h : j ≠ lieI x) : (liedH x)[j]? = (saidH x)[j]? := List.getElem?_set_ne (fun e => h e.symm)
theorem bad_said (x : Ovh) : ∀ r ∈ saidH x,(0 ≤ r.turn ∧ r.turn ≤ (legF x).turns - 1) ∧ (-1 ≤ r.score ∧ r.score ≤ 40) ∧ (-1 ≤ r.left ∧ r.left ≤ 40):=by
 intro r hr
 obtain ⟨i,sp,hi,rfl⟩ := saidH_mem hr;have hb:=outH_bd hi;have hl:=(List.getElem?_eq_some_iff.1 hi).1
 refine ⟨⟨by show (0 : Int) ≤ (i : Int); omega,by show (i : Int) ≤ ((playH x).out.length : Int) - 1; omega⟩, ?_, ?_⟩
 ·show -1 ≤ (if _ then -1 else sp.score) ∧ (if _ then -1 else sp.score) ≤ 40
  split <;> omega
 ·show -1 ≤ (if _ then -1 else sp.en.left) ∧ (if _ then -1 else sp.en.left) ≤ 40
  split <;> omega
theorem bad_lied (x : Ovh) : ∀ r ∈ liedH x,(0 ≤ r.turn ∧ r.turn ≤ (legF x).turns - 1) ∧ (-1 ≤ r.score ∧ r.score ≤ 40) ∧ (-1 ≤ r.left ∧ r.left ≤ 40):=by
 intro r hr
 rcases List.mem_or_eq_of_mem_set hr with h | rfl
 ·exact bad_said x r h
 ·have hm : (saidH x).getD (lieI x) ⟨0, -1, -1⟩ ∈ saidH x:=by
   rw [List.getD_eq_getElem?_getD,List.getElem?_eq_getElem (lieI_lt x)]
   exact List.getElem_mem _
  have h:=bad_said x _ hm;unfold bentR;split
  ·refine ⟨h.1, ?_,h.2.2⟩
   simp only; omega
  ·refine ⟨h.1,h.2.1, ?_⟩
   simp only; omega
theorem lied_but (x : Ovh) {which : Nat → Bool} (h : which (lieI x) = false) : canL (legF x) (liedH x) which = true:=by
 refine can_iff.2 ((playH_ok x).truth (show (1 : Int) ≤ 2 by decide) (fit_of fun i r hr => ?_)).1
 obtain ⟨j,h1,h2,h3⟩ := mem_saidL.1 hr;have hj : j ≠ lieI x:=fun e => by rw [e,h] at h3; cases h3
 rw [liedH_other x hj] at h1;exact ⟨List.mem_of_getElem? h1,h2⟩
theorem lied_in (x : Ovh) {b : List Nat} (h : MinS (liedH x).length (isBlame (legF x) (liedH x)) (2 ^ (liedH x).length) b) : lieI x ∈ b:=by
 obtain ⟨⟨s,_,h2,rfl⟩,_⟩ := h;rw [mem_bits];refine ⟨by rw [liedH_len]; exact lieI_lt x, ?_⟩
 cases e : s.testBit (lieI x) with
 | true => rfl
 | false =>
  have:=lied_but x (which:=fun i => s.testBit i) e
  unfold isBlame at h2;rw [this] at h2; cases h2
theorem lied_none (x : Ovh) {out : List (List Nat)} (h : Blames (legF x) (liedH x) out) : out = [] ↔ HasTruth (legF x) (allS (liedH x)):=by
 rw [← blame_none (l:=legF x)];constructor
 ·intro e y hy
  have:=(h.mem y).2 hy;rw [e] at this; cases this
 ·intro hn
  cases e : out with
  | nil => rfl
  | cons y ys => exact (hn y ((h.mem y).1 (by rw [e]; exact List.mem_cons_self ..))).elim
open Go.RowKit Go.Oche Go.Proofs

theorem within1_anyBo (n lo hi : Int) (pl ph : Addr) (w : World) (hl : w.cell? pl = some (.int .i64 lo)) (hh : w.cell? ph = some (.int .i64 hi)) :
  Calls Tryz.prog 74 #[.int .i64 n,.pointer (some pl),.pointer (some ph)] w fun e w' => e = .returned (.bool (outB lo hi n)) ∧ w = w':=by
 go_enter Tryz.func74,Tryz.ntmps74
 go_wp2
 all_goals (go_ret; refine ⟨ret_bool ?_,rfl⟩; simp [outB]; try omega)

theorem indexFunc_anyBo {S : Nat → Prop} (lo hi : Int) (xs : List Int) (v : Value) (pl ph : Addr) (w : World) (hs : Sl S w v (ints xs)) (hl : w.cell? pl = some (.int .i64 lo)) (hh : w.cell? ph = some (.int .i64 hi)) :
  Calls Tryz.prog 119 #[v,.func (.func 74) #[] #[.pointer (some pl),.pointer (some ph)]] w fun e w' => e = .returned (.int .i64 (idxOut lo hi xs)) ∧ w = w':=by
 obtain ⟨a,cap,rfl,h2,h3,h4⟩ := hs;simp only [ints_length] at *;unfold maxLen at h3
 go_enter Tryz.func119,Tryz.ntmps119
 go_wp2

 go_loop [5,8] (fun _ i => ∃ k : Nat,k ≤ xs.length ∧ i = .int .i64 k ∧ ∀ j,j < k → ∀ h : j < xs.length,outB lo hi xs[j] = false) (fun _ i => xs.length - (intOf i).toNat)
 case atStart => exact ⟨0,Nat.zero_le _,rfl,fun j hj => by omega⟩
 case round =>
  obtain ⟨k,hk,rfl,hp⟩ := hrel;by_cases hlt : k < xs.length
  ·obtain ⟨b,off,rfl,_,hc⟩ := h4 k _ (intsAt hlt)
   clear h4;cases ho : outB lo hi xs[k]
   all_goals
    have HO:=Lib.hid ho;have HP:=Lib.hid hp;clear ho hp
    go_wp2_with (go_at_call 74; refine (within1_anyBo xs[k] lo hi _ _ _ hl hh).mono ?_; rintro e w' ⟨rfl,rfl⟩; rw [HO.out])
   ·go_round
    case rel => exact ⟨k + 1,by omega,by go_num,fun j hj h => by
     by_cases hjk : j = k
     ·subst hjk; exact HO.out
     ·exact HP.out j (by omega) h⟩
    case measure => simp [intOf]; omega
   ·go_ret
    exact ⟨ret_int (idxOut_hit hlt HP.out HO.out).symm,rfl⟩
  ·obtain rfl : k = xs.length:=by omega
   have HP:=Lib.hid hp;clear hp h4;go_wp2
   go_ret
   exact ⟨ret_int (idxOut_miss fun j hj h => HP.out j hj h).symm,rfl⟩

theorem containsFunc_anyBo {S : Nat → Prop} (lo hi : Int) (xs : List Int) (v : Value) (pl ph : Addr) (w : World) (hs : Sl S w v (ints xs)) (hl : w.cell? pl = some (.int .i64 lo)) (hh : w.cell? ph = some (.int .i64 hi)) :
  Calls Tryz.prog 73 #[v,.func (.func 74) #[] #[.pointer (some pl),.pointer (some ph)]] w fun e w' => e = .returned (.bool (xs.any (outB lo hi))) ∧ w = w':=by
 go_enter Tryz.func73,Tryz.ntmps73
 go_wp2_with (go_at_call 119; refine (indexFunc_anyBo lo hi xs _ _ _ _ hs hl hh).mono ?_; rintro e w' ⟨rfl,rfl⟩)
 go_ret
 refine ⟨ret_bool ?_,rfl⟩
 unfold idxOut;cases xs.any (outB lo hi) <;> simp <;> omega

theorem within_anyBo {S : Nat → Prop} (lo hi : Int) (xs : List Int) (v : Value) (w : World) (hs : Sl S w v (ints xs)) :
  Calls Tryz.prog 39 #[.int .i64 lo,.int .i64 hi,v] w fun e w' => e = .returned (.bool (!xs.any (outB lo hi))) ∧ Below w.heap.size w w':=by
 have hb : Below w.heap.size w ((w.alloc (.cells #[.int .i64 lo] 3)).alloc (.cells #[.int .i64 hi] 3)):=((Below.refl _ _).alloc (Nat.le_refl _) _).alloc (by simp) _
 have hs':=hs.below hb;have H:=Lib.hid hs';clear hs hs';obtain ⟨a,cap,hv⟩ : ∃ a cap,v = .slice a xs.length cap:=by obtain ⟨a,cap,h,_⟩ := H.out; exact ⟨a,cap,by simpa using h⟩
 subst hv
 go_enter Tryz.func39,Tryz.ntmps39
 go_wp2_with (go_at_call 73; refine (containsFunc_anyBo lo hi xs _ _ _ _ H.out (by simp) (by simp)).mono ?_; rintro e w' ⟨rfl,rfl⟩)
 go_ret
 exact ⟨rfl,hb⟩

theorem out_oneBo (lo hi n : Int) : (!([n] : List Int).any (outB lo hi)) = isIn n lo hi:=by
 simp [outB,isIn]; rw [Bool.eq_iff_iff]; simp
open Go Go.RowKit Go.Oche Go.Proofs

def kMk (lo : Nat) (t : TypeId) (cells : Array Value) (n : Nat) : Kn where
 s:=fun v => ∃ b,v = .slice (some ⟨b,0,none⟩) n n
 p:=fun v w => ∃ b,v = .slice (some ⟨b,0,none⟩) n n ∧ lo ≤ b ∧ w.heap[b]? = some (.cells cells t (0,0))
 m:=fun _ _ _ hb ⟨b,e,h1,h2⟩ => ⟨b,e,h1,(hb.block b (Array.getElem?_eq_some_iff.1 h2).1).trans h2⟩
theorem own_empty {W : World} {base b k : Nat} {e : TypeId} (h : W.heap[b]? = some (.cells #[] e (0,0))) (hb : base ≤ b) : W.ownsRow base e k (.slice (some ⟨b,0,none⟩) 0 0) 0 [] :=
 ⟨by simp,.inr ⟨b,0, #[],rfl,hb,h,Nat.le_refl _,Nat.zero_le _,by simp,by simp⟩⟩
theorem own_lit {W : World} {base b k m : Nat} {e : TypeId} {cs : Array Value} (h : W.heap[b]? = some (.cells cs e (0,0))) (hb : base ≤ b) (hm : m ≤ 100000) (hs : cs.size = m * k) : W.ownsRow base e k (.slice (some ⟨b,0,none⟩) m m) m cs.toList :=
 ⟨by simpa using hs,.inr ⟨b,m,cs,rfl,hb,h,Nat.le_refl _,by unfold maxLen; omega,hs,List.take_of_length_le (by rw [Array.length_toList,hs]; exact Nat.le_refl _)⟩⟩
theorem own_mono {W : World} {base base' k n : Nat} {e : TypeId} {v : Value} {xs : List Value} (h : W.ownsRow base e k v n xs) (hb : base' ≤ base) : W.ownsRow base' e k v n xs:=by
 refine ⟨h.1, ?_⟩
 rcases h.2 with h | ⟨g,cap,cur,e1,e2,e3⟩
 ·exact .inl h
 ·exact .inr ⟨g,cap,cur,e1,Nat.le_trans hb e2,e3⟩
end Go.Proofs.YtnbmgkmcaoafnaaGreatDoor
