/- The texts JC, MD, in build order. -/
import Derived.Test.YtnhggfnnolfcdaaGreatZav

/- Chapter 4: the examples (known). -/
namespace Go.Proofs.YtnhggfnnolfcdaaGreat
open Go.RowKit Go.Oche Go.Proofs
def RA0 : Rul:=⟨1,1,3,true,true,0,false,[],0,false⟩
def RD0 : Rul:=⟨3,2,0,false,false,7,false,[],0,false⟩
theorem play_k {S S' : Nat → Prop} (r : Rul) (va : Option Addr) (nl vc : Nat) (da : Option Addr) (n0 dc : Nat) (darts : List Int) (g : Gam) (rd pl dd : Int) (n m : Nat) (hp : playG r darts = (some g,0,0)) (e1 : (g.round : Int) = rd) (e2 : (g.player : Int) = pl) (e3 : (g.darts : Int) = dd) (hgn : g.pls.length = n) (hgm : g.win.length = m) (hn : darts.length = n0) (h64 : ∀ b ∈ darts, -9223372036854775808 ≤ b ∧ b ≤ 9223372036854775807) (w : World) (hs : Sl S w (.slice va nl vc) (ints r.nums)) (hd : Sl S' w (.slice da n0 dc) (ints darts)) :
  Calls Tryz.prog 10 #[.agg #[.int .i64 r.kind,.int .i64 r.players,.int .i64 r.last,.bool r.bull,.bool r.jump,.int .i64 r.rounds,.bool r.cut,.slice va nl vc,.int .i64 r.lives,.bool r.own],.slice da n0 dc] w fun e w' => ∃ pa pc wa wc,e = .returned (.tuple #[.agg #[.int .i64 rd,.int .i64 pl,.int .i64 dd,.slice pa n pc,.slice wa m wc],.int .i64 0,.int .i64 0]) ∧ Below w.heap.size w w' ∧ SlN 9 (fun _ => True) w' (.slice pa n pc) (g.pls.map plrRow) ∧ Sl (fun _ => True) w' (.slice wa m wc) (ints g.win):=by
 subst e1 e2 e3
 refine (play_any r va nl vc da n0 dc darts hn h64 w hs hd).mono fun e w' ⟨v,he,hb,pa,pc,wa,wc,hv,h1,_,h3⟩ => ?_
 rw [hp] at he hv h1 h3
 have n1 : (staOf (some g)).pls.length = n:=hgn
 have n2 : (staOf (some g)).win.length = m:=hgm
 dsimp only at hv h1 h3
 rw [n1] at hv h1
 rw [n2] at hv h3
 exact ⟨pa,pc,wa,wc,by rw [he,hv]; rfl,hb,h1.mono fun _ _ => trivial,h3.mono fun _ _ => trivial⟩
theorem useful_k {S S' : Nat → Prop} (r : Rul) (va : Option Addr) (nl vc : Nat) (da : Option Addr) (n0 dc : Nat) (darts : List Int) (g : Gam) (hp : playG r darts = (some g,0,0)) (hw : g.win = []) (hn : darts.length = n0) (h64 : ∀ b ∈ darts, -9223372036854775808 ≤ b ∧ b ≤ 9223372036854775807) (w : World) (hs : Sl S w (.slice va nl vc) (ints r.nums)) (hd : Sl S' w (.slice da n0 dc) (ints darts)) :
  Calls Tryz.prog 25 #[.agg #[.int .i64 r.kind,.int .i64 r.players,.int .i64 r.last,.bool r.bull,.bool r.jump,.int .i64 r.rounds,.bool r.cut,.slice va nl vc,.int .i64 r.lives,.bool r.own],.slice da n0 dc] w fun e w' => ∃ bv,e = .returned (.tuple #[bv,.int .i64 0]) ∧ Below w.heap.size w w' ∧ Sl (fun q => w.heap.size ≤ q) w' bv (ints (usesL r g 500)):=by
 refine (useful_any r va nl vc da n0 dc darts hn h64 w hs hd).mono fun e w' ⟨hb,h⟩ => ?_
 rw [hp] at h
 rcases h with ⟨er,_,h,_⟩ | ⟨g',bv,h1,_,h3,h4⟩
 ·rcases h with ⟨h,_⟩ | ⟨⟨g',h,hh⟩,_⟩
  ·cases h
  ·cases h; exact (hh hw).elim
 ·cases h1; exact ⟨bv,h3,hb,h4⟩
theorem rank_k {S S' : Nat → Prop} (r : Rul) (va : Option Addr) (nl vc : Nat) (da : Option Addr) (n0 dc : Nat) (darts : List Int) (g : Gam) (hp : playG r darts = (some g,0,0)) (hn : darts.length = n0) (h64 : ∀ b ∈ darts, -9223372036854775808 ≤ b ∧ b ≤ 9223372036854775807) (w : World) (hs : Sl S w (.slice va nl vc) (ints r.nums)) (hd : Sl S' w (.slice da n0 dc) (ints darts)) :
  Calls Tryz.prog 26 #[.agg #[.int .i64 r.kind,.int .i64 r.players,.int .i64 r.last,.bool r.bull,.bool r.jump,.int .i64 r.rounds,.bool r.cut,.slice va nl vc,.int .i64 r.lives,.bool r.own],.slice da n0 dc] w fun e w' => ∃ gv,e = .returned (.tuple #[gv,.int .i64 0]) ∧ Below w.heap.size w w' ∧ SlSl (fun _ => True) w' gv (rankG r g):=by
 refine (rank_any r va nl vc da n0 dc darts hn h64 w hs hd).mono fun e w' ⟨hb,h⟩ => ?_
 rw [hp] at h
 rcases h with ⟨_,_,h,_⟩ | ⟨g',gv,h1,h3,h4⟩
 ·cases h
 ·cases h1; exact ⟨gv,h3,hb,h4⟩
def Ga0 : Gam:=⟨1,0,3,[⟨4,[0,0,0,0,0,0,0],false⟩],[0],[false,false,false,false,false]⟩
theorem pg_a : playG RA0 [201,301,102,125,303,225] = (some Ga0,0,0):=by kernel_rfl
def Gb0 : Gam:=⟨0,0,2,[⟨40,[0,0,0,0,0,3,0],false⟩,⟨0,[0,0,0,0,0,0,0],false⟩],[],[false,false,false,false,false]⟩
theorem pg_b : playG (cricR false) [320,220] = (some Gb0,0,0):=by kernel_rfl
def Gc0 : Gam:=⟨0,0,2,[⟨0,[0,0,0,0,0,3,0],false⟩,⟨40,[0,0,0,0,0,0,0],false⟩],[],[false,false,false,false,false]⟩
theorem pg_c : playG (cricR true) [320,220] = (some Gc0,0,0):=by kernel_rfl
def Gd0 : Gam:=⟨0,0,3,[⟨6,[0,0,0,0,0,0,0],false⟩,⟨0,[0,0,0,0,0,0,0],false⟩],[0],[false,true,true,true,false]⟩
theorem pg_d : playG RD0 [101,301,201] = (some Gd0,0,0):=by kernel_rfl
def Gx0 : Gam:=⟨0,0,3,[⟨2,[0,0,0,0,0,0,0],true⟩,⟨0,[0,0,0,0,0,0,0],false⟩],[0],[false,false,false,false,false]⟩
theorem pg_x : playG killR0 [205,209,209] = (some Gx0,0,0):=by kernel_rfl
def Gu0 : Gam:=⟨0,1,0,[⟨1,[0,0,0,0,0,0,0],true⟩,⟨2,[0,0,0,0,0,0,0],false⟩],[],[false,false,false,false,false]⟩
theorem pg_u : playG killR0 [205,205,0] = (some Gu0,0,0):=by kernel_rfl
theorem uses_k : usesL killR0 Gu0 500 = [209]:=by decide +kernel
theorem rank_kk : rankG (cricR true) Gc0 = [[0],[1]]:=by decide +kernel
set_option maxRecDepth 100000 in
set_option maxHeartbeats 16000000 in
theorem known_any (w : World) : Calls Tryz.prog 8 #[] w fun e w' => e = .returned (.bool true) ∧ Below w.heap.size w w':=by
 have hbd : ∀ l : List Int,(∀ b ∈ l,0 ≤ b ∧ b ≤ 1000) → ∀ b ∈ l, -9223372036854775808 ≤ b ∧ b ≤ 9223372036854775807:=fun l h b hb => by have:=h b hb; omega
 have HBD:=Lib.hid hbd
 clear hbd
 have HBw : Hid (Below w.heap.size w w):=Lib.hid (Below.refl _ _)
 obtain ⟨v1,hv1⟩ : ∃ x,World.alloc w (.cells #[.int .i64 201,.int .i64 301,.int .i64 102,.int .i64 125,.int .i64 303,.int .i64 225] 45) = x:=⟨_,rfl⟩
 have hbv1 : Below w.heap.size w v1:=by rw [← hv1]; exact aB _ _
 have hsv1 : Sl (fun _ => True) v1 (.slice (some ⟨w.heap.size,0,none⟩) 6 6) (ints [201,301,102,125,303,225]):=by rw [← hv1]; exact Sl.new _ w trivial 45 (ints [201,301,102,125,303,225]) (by decide)
 have HSV1:=Lib.hid hsv1
 clear hsv1
 have HBv1:=Lib.hid (bThen HBw.out hbv1)
 clear HBw
 have HWv1:=Lib.hid hv1
 clear hbv1 hv1
 go_enter Tryz.func8,Tryz.ntmps8
 go_wp2_with fail
 rw [HWv1.out]
 refine (play_k RA0 none 0 0 (some ⟨w.heap.size,0,none⟩) 6 6 [201,301,102,125,303,225] Ga0 1 0 3 1 1 pg_a rfl rfl rfl rfl rfl rfl (HBD.out _ (by decide)) v1 (Sl.nil (fun _ => True) _) HSV1.out).mono ?_
 rintro e y1 ⟨pa1,pc1,wa1,wc1,rfl,hby1,hp1,hw1⟩
 clear HSV1
 have HBy1:=Lib.hid (bThen HBv1.out hby1)
 clear HBv1
 clear hby1
 have HP1:=Lib.hid hp1
 have HN1:=Lib.hid hw1
 clear hp1 hw1
 obtain ⟨z1,hz1⟩ : ∃ x,World.alloc y1 (.cells #[.int .i64 1,.int .i64 0,.int .i64 3,.slice pa1 1 pc1,.slice wa1 1 wc1] 36) = x:=⟨_,rfl⟩
 have hbz1 : Below y1.heap.size y1 z1:=by rw [← hz1]; exact aB _ _
 have k13 : z1.cell? ⟨y1.heap.size,3,none⟩ = some (.slice pa1 1 pc1):=by rw [← hz1,cell_of_heap (World.alloc_heap_new _ _)]; rfl
 have k14 : z1.cell? ⟨y1.heap.size,4,none⟩ = some (.slice wa1 1 wc1):=by rw [← hz1,cell_of_heap (World.alloc_heap_new _ _)]; rfl
 replace HP1:=Lib.hid (HP1.out.below hbz1)
 replace HN1:=Lib.hid (HN1.out.below hbz1)
 have HBz1:=Lib.hid (bThen HBy1.out hbz1)
 clear HBy1
 have HWz1:=Lib.hid hz1
 clear hbz1 hz1
 obtain ⟨q1,hq1⟩ : ∃ q,y1.heap.size = q:=⟨_,rfl⟩
 have HQ1:=Lib.hid hq1
 rw [hq1] at k13 k14
 clear hq1
 go_wp2_with fail
 rw [HWz1.out,HQ1.out]
 refine (cricket0_any false z1).mono ?_
 rintro e c2 ⟨rfl,hbc2⟩
 replace k13:=bAt hbc2 k13
 replace k14:=bAt hbc2 k14
 replace HP1:=Lib.hid (HP1.out.below hbc2)
 replace HN1:=Lib.hid (HN1.out.below hbc2)
 have HBc2:=Lib.hid (bThen HBz1.out hbc2)
 clear HBz1
 clear hbc2
 obtain ⟨v2,hv2⟩ : ∃ x,World.alloc c2 (.cells #[.int .i64 320,.int .i64 220] 45) = x:=⟨_,rfl⟩
 have hbv2 : Below c2.heap.size c2 v2:=by rw [← hv2]; exact aB _ _
 have hsv2 : Sl (fun _ => True) v2 (.slice (some ⟨c2.heap.size,0,none⟩) 2 2) (ints [320,220]):=by rw [← hv2]; exact Sl.new _ c2 trivial 45 (ints [320,220]) (by decide)
 have HSV2:=Lib.hid hsv2
 clear hsv2
 replace k13:=bAt hbv2 k13
 replace k14:=bAt hbv2 k14
 replace HP1:=Lib.hid (HP1.out.below hbv2)
 replace HN1:=Lib.hid (HN1.out.below hbv2)
 have HBv2:=Lib.hid (bThen HBc2.out hbv2)
 clear HBc2
 have HWv2:=Lib.hid hv2
 clear hbv2 hv2
 go_wp2_with fail
 rw [HWv2.out]
 refine (play_k (cricR false) none 0 0 (some ⟨c2.heap.size,0,none⟩) 2 2 [320,220] Gb0 0 0 2 2 0 pg_b rfl rfl rfl rfl rfl rfl (HBD.out _ (by decide)) v2 (Sl.nil (fun _ => True) _) HSV2.out).mono ?_
 rintro e y2 ⟨pa2,pc2,wa2,wc2,rfl,hby2,hp2,hw2⟩
 clear HSV2
 replace k13:=bAt hby2 k13
 replace k14:=bAt hby2 k14
 replace HP1:=Lib.hid (HP1.out.below hby2)
 replace HN1:=Lib.hid (HN1.out.below hby2)
 have HBy2:=Lib.hid (bThen HBv2.out hby2)
 clear HBv2
 clear hby2
 have HP2:=Lib.hid hp2
 have HN2:=Lib.hid hw2
 clear hp2 hw2
 obtain ⟨z2,hz2⟩ : ∃ x,World.alloc y2 (.cells #[.int .i64 0,.int .i64 0,.int .i64 2,.slice pa2 2 pc2,.slice wa2 0 wc2] 36) = x:=⟨_,rfl⟩
 have hbz2 : Below y2.heap.size y2 z2:=by rw [← hz2]; exact aB _ _
 have k23 : z2.cell? ⟨y2.heap.size,3,none⟩ = some (.slice pa2 2 pc2):=by rw [← hz2,cell_of_heap (World.alloc_heap_new _ _)]; rfl
 have k24 : z2.cell? ⟨y2.heap.size,4,none⟩ = some (.slice wa2 0 wc2):=by rw [← hz2,cell_of_heap (World.alloc_heap_new _ _)]; rfl
 replace k13:=bAt hbz2 k13
 replace k14:=bAt hbz2 k14
 replace HP1:=Lib.hid (HP1.out.below hbz2)
 replace HN1:=Lib.hid (HN1.out.below hbz2)
 replace HP2:=Lib.hid (HP2.out.below hbz2)
 replace HN2:=Lib.hid (HN2.out.below hbz2)
 have HBz2:=Lib.hid (bThen HBy2.out hbz2)
 clear HBy2
 have HWz2:=Lib.hid hz2
 clear hbz2 hz2
 obtain ⟨q2,hq2⟩ : ∃ q,y2.heap.size = q:=⟨_,rfl⟩
 have HQ2:=Lib.hid hq2
 rw [hq2] at k23 k24
 clear hq2
 go_wp2_with fail
 rw [HWz2.out,HQ2.out]
 refine (cricket0_any true z2).mono ?_
 rintro e c3 ⟨rfl,hbc3⟩
 replace k13:=bAt hbc3 k13
 replace k14:=bAt hbc3 k14
 replace k23:=bAt hbc3 k23
 replace k24:=bAt hbc3 k24
 replace HP1:=Lib.hid (HP1.out.below hbc3)
 replace HN1:=Lib.hid (HN1.out.below hbc3)
 replace HP2:=Lib.hid (HP2.out.below hbc3)
 replace HN2:=Lib.hid (HN2.out.below hbc3)
 have HBc3:=Lib.hid (bThen HBz2.out hbc3)
 clear HBz2
 clear hbc3
 obtain ⟨v3,hv3⟩ : ∃ x,World.alloc c3 (.cells #[.int .i64 320,.int .i64 220] 45) = x:=⟨_,rfl⟩
 have hbv3 : Below c3.heap.size c3 v3:=by rw [← hv3]; exact aB _ _
 have hsv3 : Sl (fun _ => True) v3 (.slice (some ⟨c3.heap.size,0,none⟩) 2 2) (ints [320,220]):=by rw [← hv3]; exact Sl.new _ c3 trivial 45 (ints [320,220]) (by decide)
 have HSV3:=Lib.hid hsv3
 clear hsv3
 replace k13:=bAt hbv3 k13
 replace k14:=bAt hbv3 k14
 replace k23:=bAt hbv3 k23
 replace k24:=bAt hbv3 k24
 replace HP1:=Lib.hid (HP1.out.below hbv3)
 replace HN1:=Lib.hid (HN1.out.below hbv3)
 replace HP2:=Lib.hid (HP2.out.below hbv3)
 replace HN2:=Lib.hid (HN2.out.below hbv3)
 have HBv3:=Lib.hid (bThen HBc3.out hbv3)
 clear HBc3
 have HWv3:=Lib.hid hv3
 clear hbv3 hv3
 go_wp2_with fail
 rw [HWv3.out]
 refine (play_k (cricR true) none 0 0 (some ⟨c3.heap.size,0,none⟩) 2 2 [320,220] Gc0 0 0 2 2 0 pg_c rfl rfl rfl rfl rfl rfl (HBD.out _ (by decide)) v3 (Sl.nil (fun _ => True) _) HSV3.out).mono ?_
 rintro e y3 ⟨pa3,pc3,wa3,wc3,rfl,hby3,hp3,hw3⟩
 clear HSV3
 replace k13:=bAt hby3 k13
 replace k14:=bAt hby3 k14
 replace k23:=bAt hby3 k23
 replace k24:=bAt hby3 k24
 replace HP1:=Lib.hid (HP1.out.below hby3)
 replace HN1:=Lib.hid (HN1.out.below hby3)
 replace HP2:=Lib.hid (HP2.out.below hby3)
 replace HN2:=Lib.hid (HN2.out.below hby3)
 have HBy3:=Lib.hid (bThen HBv3.out hby3)
 clear HBv3
 clear hby3
 have HP3:=Lib.hid hp3
 have HN3:=Lib.hid hw3
 clear hp3 hw3
 obtain ⟨z3,hz3⟩ : ∃ x,World.alloc y3 (.cells #[.int .i64 0,.int .i64 0,.int .i64 2,.slice pa3 2 pc3,.slice wa3 0 wc3] 36) = x:=⟨_,rfl⟩
 have hbz3 : Below y3.heap.size y3 z3:=by rw [← hz3]; exact aB _ _
 have k33 : z3.cell? ⟨y3.heap.size,3,none⟩ = some (.slice pa3 2 pc3):=by rw [← hz3,cell_of_heap (World.alloc_heap_new _ _)]; rfl
 have k34 : z3.cell? ⟨y3.heap.size,4,none⟩ = some (.slice wa3 0 wc3):=by rw [← hz3,cell_of_heap (World.alloc_heap_new _ _)]; rfl
 replace k13:=bAt hbz3 k13
 replace k14:=bAt hbz3 k14
 replace k23:=bAt hbz3 k23
 replace k24:=bAt hbz3 k24
 replace HP1:=Lib.hid (HP1.out.below hbz3)
 replace HN1:=Lib.hid (HN1.out.below hbz3)
 replace HP2:=Lib.hid (HP2.out.below hbz3)
 replace HN2:=Lib.hid (HN2.out.below hbz3)
 replace HP3:=Lib.hid (HP3.out.below hbz3)
 replace HN3:=Lib.hid (HN3.out.below hbz3)
 have HBz3:=Lib.hid (bThen HBy3.out hbz3)
 clear HBy3
 have HWz3:=Lib.hid hz3
 clear hbz3 hz3
 obtain ⟨q3,hq3⟩ : ∃ q,y3.heap.size = q:=⟨_,rfl⟩
 have HQ3:=Lib.hid hq3
 rw [hq3] at k33 k34
 clear hq3
 obtain ⟨v4,hv4⟩ : ∃ x,World.alloc z3 (.cells #[.int .i64 101,.int .i64 301,.int .i64 201] 45) = x:=⟨_,rfl⟩
 have hbv4 : Below z3.heap.size z3 v4:=by rw [← hv4]; exact aB _ _
 have hsv4 : Sl (fun _ => True) v4 (.slice (some ⟨z3.heap.size,0,none⟩) 3 3) (ints [101,301,201]):=by rw [← hv4]; exact Sl.new _ z3 trivial 45 (ints [101,301,201]) (by decide)
 have HSV4:=Lib.hid hsv4
 clear hsv4
 have hz34 : z3.heap.size = q3 + 1:=by rw [← HWz3.out]; simp [HQ3.out]
 rw [hz34] at HSV4
 clear hz34
 replace k13:=bAt hbv4 k13
 replace k14:=bAt hbv4 k14
 replace k23:=bAt hbv4 k23
 replace k24:=bAt hbv4 k24
 replace k33:=bAt hbv4 k33
 replace k34:=bAt hbv4 k34
 replace HP1:=Lib.hid (HP1.out.below hbv4)
 replace HN1:=Lib.hid (HN1.out.below hbv4)
 replace HP2:=Lib.hid (HP2.out.below hbv4)
 replace HN2:=Lib.hid (HN2.out.below hbv4)
 replace HP3:=Lib.hid (HP3.out.below hbv4)
 replace HN3:=Lib.hid (HN3.out.below hbv4)
 have HBv4:=Lib.hid (bThen HBz3.out hbv4)
 clear HBz3
 have HWv4:=Lib.hid hv4
 clear hbv4 hv4
 go_wp2_with fail
 rw [HWz3.out,HQ3.out,HWv4.out]
 refine (play_k RD0 none 0 0 (some ⟨q3 + 1,0,none⟩) 3 3 [101,301,201] Gd0 0 0 3 2 1 pg_d rfl rfl rfl rfl rfl rfl (HBD.out _ (by decide)) v4 (Sl.nil (fun _ => True) _) HSV4.out).mono ?_
 rintro e y4 ⟨pa4,pc4,wa4,wc4,rfl,hby4,hp4,hw4⟩
 clear HSV4
 replace k13:=bAt hby4 k13
 replace k14:=bAt hby4 k14
 replace k23:=bAt hby4 k23
 replace k24:=bAt hby4 k24
 replace k33:=bAt hby4 k33
 replace k34:=bAt hby4 k34
 replace HP1:=Lib.hid (HP1.out.below hby4)
 replace HN1:=Lib.hid (HN1.out.below hby4)
 replace HP2:=Lib.hid (HP2.out.below hby4)
 replace HN2:=Lib.hid (HN2.out.below hby4)
 replace HP3:=Lib.hid (HP3.out.below hby4)
 replace HN3:=Lib.hid (HN3.out.below hby4)
 have HBy4:=Lib.hid (bThen HBv4.out hby4)
 clear HBv4
 clear hby4
 have HP4:=Lib.hid hp4
 have HN4:=Lib.hid hw4
 clear hp4 hw4
 obtain ⟨z4,hz4⟩ : ∃ x,World.alloc y4 (.cells #[.int .i64 0,.int .i64 0,.int .i64 3,.slice pa4 2 pc4,.slice wa4 1 wc4] 36) = x:=⟨_,rfl⟩
 have hbz4 : Below y4.heap.size y4 z4:=by rw [← hz4]; exact aB _ _
 have k43 : z4.cell? ⟨y4.heap.size,3,none⟩ = some (.slice pa4 2 pc4):=by rw [← hz4,cell_of_heap (World.alloc_heap_new _ _)]; rfl
 have k44 : z4.cell? ⟨y4.heap.size,4,none⟩ = some (.slice wa4 1 wc4):=by rw [← hz4,cell_of_heap (World.alloc_heap_new _ _)]; rfl
 replace k13:=bAt hbz4 k13
 replace k14:=bAt hbz4 k14
 replace k23:=bAt hbz4 k23
 replace k24:=bAt hbz4 k24
 replace k33:=bAt hbz4 k33
 replace k34:=bAt hbz4 k34
 replace HP1:=Lib.hid (HP1.out.below hbz4)
 replace HN1:=Lib.hid (HN1.out.below hbz4)
 replace HP2:=Lib.hid (HP2.out.below hbz4)
 replace HN2:=Lib.hid (HN2.out.below hbz4)
 replace HP3:=Lib.hid (HP3.out.below hbz4)
 replace HN3:=Lib.hid (HN3.out.below hbz4)
 replace HP4:=Lib.hid (HP4.out.below hbz4)
 replace HN4:=Lib.hid (HN4.out.below hbz4)
 have HBz4:=Lib.hid (bThen HBy4.out hbz4)
 clear HBy4
 have HWz4:=Lib.hid hz4
 clear hbz4 hz4
 obtain ⟨q4,hq4⟩ : ∃ q,y4.heap.size = q:=⟨_,rfl⟩
 have HQ4:=Lib.hid hq4
 rw [hq4] at k43 k44
 clear hq4
 go_wp2_with fail
 rw [HWz4.out,HQ4.out]
 refine (killers0_any z4).mono ?_
 rintro e c5 ⟨ka5,kc5,rfl,hbc5,hks5⟩
 replace k13:=bAt hbc5 k13
 replace k14:=bAt hbc5 k14
 replace k23:=bAt hbc5 k23
 replace k24:=bAt hbc5 k24
 replace k33:=bAt hbc5 k33
 replace k34:=bAt hbc5 k34
 replace k43:=bAt hbc5 k43
 replace k44:=bAt hbc5 k44
 replace HP1:=Lib.hid (HP1.out.below hbc5)
 replace HN1:=Lib.hid (HN1.out.below hbc5)
 replace HP2:=Lib.hid (HP2.out.below hbc5)
 replace HN2:=Lib.hid (HN2.out.below hbc5)
 replace HP3:=Lib.hid (HP3.out.below hbc5)
 replace HN3:=Lib.hid (HN3.out.below hbc5)
 replace HP4:=Lib.hid (HP4.out.below hbc5)
 replace HN4:=Lib.hid (HN4.out.below hbc5)
 have HBc5:=Lib.hid (bThen HBz4.out hbc5)
 clear HBz4
 have HK5:=Lib.hid hks5
 clear hbc5 hks5
 obtain ⟨v5,hv5⟩ : ∃ x,World.alloc c5 (.cells #[.int .i64 205,.int .i64 209,.int .i64 209] 45) = x:=⟨_,rfl⟩
 have hbv5 : Below c5.heap.size c5 v5:=by rw [← hv5]; exact aB _ _
 have hsv5 : Sl (fun _ => True) v5 (.slice (some ⟨c5.heap.size,0,none⟩) 3 3) (ints [205,209,209]):=by rw [← hv5]; exact Sl.new _ c5 trivial 45 (ints [205,209,209]) (by decide)
 have HSV5:=Lib.hid hsv5
 clear hsv5
 replace k13:=bAt hbv5 k13
 replace k14:=bAt hbv5 k14
 replace k23:=bAt hbv5 k23
 replace k24:=bAt hbv5 k24
 replace k33:=bAt hbv5 k33
 replace k34:=bAt hbv5 k34
 replace k43:=bAt hbv5 k43
 replace k44:=bAt hbv5 k44
 replace HP1:=Lib.hid (HP1.out.below hbv5)
 replace HN1:=Lib.hid (HN1.out.below hbv5)
 replace HP2:=Lib.hid (HP2.out.below hbv5)
 replace HN2:=Lib.hid (HN2.out.below hbv5)
 replace HP3:=Lib.hid (HP3.out.below hbv5)
 replace HN3:=Lib.hid (HN3.out.below hbv5)
 replace HP4:=Lib.hid (HP4.out.below hbv5)
 replace HN4:=Lib.hid (HN4.out.below hbv5)
 replace HK5:=Lib.hid (HK5.out.below hbv5)
 have HBv5:=Lib.hid (bThen HBc5.out hbv5)
 clear HBc5
 have HWv5:=Lib.hid hv5
 clear hbv5 hv5
 go_wp2_with fail
 rw [HWv5.out]
 refine (play_k killR0 ka5 2 kc5 (some ⟨c5.heap.size,0,none⟩) 3 3 [205,209,209] Gx0 0 0 3 2 1 pg_x rfl rfl rfl rfl rfl rfl (HBD.out _ (by decide)) v5 HK5.out HSV5.out).mono ?_
 rintro e y5 ⟨pa5,pc5,wa5,wc5,rfl,hby5,hp5,hw5⟩
 clear HSV5
 replace k13:=bAt hby5 k13
 replace k14:=bAt hby5 k14
 replace k23:=bAt hby5 k23
 replace k24:=bAt hby5 k24
 replace k33:=bAt hby5 k33
 replace k34:=bAt hby5 k34
 replace k43:=bAt hby5 k43
 replace k44:=bAt hby5 k44
 replace HP1:=Lib.hid (HP1.out.below hby5)
 replace HN1:=Lib.hid (HN1.out.below hby5)
 replace HP2:=Lib.hid (HP2.out.below hby5)
 replace HN2:=Lib.hid (HN2.out.below hby5)
 replace HP3:=Lib.hid (HP3.out.below hby5)
 replace HN3:=Lib.hid (HN3.out.below hby5)
 replace HP4:=Lib.hid (HP4.out.below hby5)
 replace HN4:=Lib.hid (HN4.out.below hby5)
 replace HK5:=Lib.hid (HK5.out.below hby5)
 have HBy5:=Lib.hid (bThen HBv5.out hby5)
 clear HBv5
 clear hby5
 clear HK5
 have HP5:=Lib.hid hp5
 have HN5:=Lib.hid hw5
 clear hp5 hw5
 obtain ⟨z5,hz5⟩ : ∃ x,World.alloc y5 (.cells #[.int .i64 0,.int .i64 0,.int .i64 3,.slice pa5 2 pc5,.slice wa5 1 wc5] 36) = x:=⟨_,rfl⟩
 have hbz5 : Below y5.heap.size y5 z5:=by rw [← hz5]; exact aB _ _
 have k53 : z5.cell? ⟨y5.heap.size,3,none⟩ = some (.slice pa5 2 pc5):=by rw [← hz5,cell_of_heap (World.alloc_heap_new _ _)]; rfl
 have k54 : z5.cell? ⟨y5.heap.size,4,none⟩ = some (.slice wa5 1 wc5):=by rw [← hz5,cell_of_heap (World.alloc_heap_new _ _)]; rfl
 replace k13:=bAt hbz5 k13
 replace k14:=bAt hbz5 k14
 replace k23:=bAt hbz5 k23
 replace k24:=bAt hbz5 k24
 replace k33:=bAt hbz5 k33
 replace k34:=bAt hbz5 k34
 replace k43:=bAt hbz5 k43
 replace k44:=bAt hbz5 k44
 replace HP1:=Lib.hid (HP1.out.below hbz5)
 replace HN1:=Lib.hid (HN1.out.below hbz5)
 replace HP2:=Lib.hid (HP2.out.below hbz5)
 replace HN2:=Lib.hid (HN2.out.below hbz5)
 replace HP3:=Lib.hid (HP3.out.below hbz5)
 replace HN3:=Lib.hid (HN3.out.below hbz5)
 replace HP4:=Lib.hid (HP4.out.below hbz5)
 replace HN4:=Lib.hid (HN4.out.below hbz5)
 replace HP5:=Lib.hid (HP5.out.below hbz5)
 replace HN5:=Lib.hid (HN5.out.below hbz5)
 have HBz5:=Lib.hid (bThen HBy5.out hbz5)
 clear HBy5
 have HWz5:=Lib.hid hz5
 clear hbz5 hz5
 obtain ⟨q5,hq5⟩ : ∃ q,y5.heap.size = q:=⟨_,rfl⟩
 have HQ5:=Lib.hid hq5
 rw [hq5] at k53 k54
 clear hq5
 go_wp2_with fail
 rw [HWz5.out,HQ5.out]
 refine (killers0_any z5).mono ?_
 rintro e c6 ⟨ka6,kc6,rfl,hbc6,hks6⟩
 replace k13:=bAt hbc6 k13
 replace k14:=bAt hbc6 k14
 replace k23:=bAt hbc6 k23
 replace k24:=bAt hbc6 k24
 replace k33:=bAt hbc6 k33
 replace k34:=bAt hbc6 k34
 replace k43:=bAt hbc6 k43
 replace k44:=bAt hbc6 k44
 replace k53:=bAt hbc6 k53
 replace k54:=bAt hbc6 k54
 replace HP1:=Lib.hid (HP1.out.below hbc6)
 replace HN1:=Lib.hid (HN1.out.below hbc6)
 replace HP2:=Lib.hid (HP2.out.below hbc6)
 replace HN2:=Lib.hid (HN2.out.below hbc6)
 replace HP3:=Lib.hid (HP3.out.below hbc6)
 replace HN3:=Lib.hid (HN3.out.below hbc6)
 replace HP4:=Lib.hid (HP4.out.below hbc6)
 replace HN4:=Lib.hid (HN4.out.below hbc6)
 replace HP5:=Lib.hid (HP5.out.below hbc6)
 replace HN5:=Lib.hid (HN5.out.below hbc6)
 have HBc6:=Lib.hid (bThen HBz5.out hbc6)
 clear HBz5
 have HK6:=Lib.hid hks6
 clear hbc6 hks6
 obtain ⟨v6,hv6⟩ : ∃ x,World.alloc c6 (.cells #[.int .i64 205,.int .i64 205,.int .i64 0] 45) = x:=⟨_,rfl⟩
 have hbv6 : Below c6.heap.size c6 v6:=by rw [← hv6]; exact aB _ _
 have hsv6 : Sl (fun _ => True) v6 (.slice (some ⟨c6.heap.size,0,none⟩) 3 3) (ints [205,205,0]):=by rw [← hv6]; exact Sl.new _ c6 trivial 45 (ints [205,205,0]) (by decide)
 have HSV6:=Lib.hid hsv6
 clear hsv6
 replace k13:=bAt hbv6 k13
 replace k14:=bAt hbv6 k14
 replace k23:=bAt hbv6 k23
 replace k24:=bAt hbv6 k24
 replace k33:=bAt hbv6 k33
 replace k34:=bAt hbv6 k34
 replace k43:=bAt hbv6 k43
 replace k44:=bAt hbv6 k44
 replace k53:=bAt hbv6 k53
 replace k54:=bAt hbv6 k54
 replace HP1:=Lib.hid (HP1.out.below hbv6)
 replace HN1:=Lib.hid (HN1.out.below hbv6)
 replace HP2:=Lib.hid (HP2.out.below hbv6)
 replace HN2:=Lib.hid (HN2.out.below hbv6)
 replace HP3:=Lib.hid (HP3.out.below hbv6)
 replace HN3:=Lib.hid (HN3.out.below hbv6)
 replace HP4:=Lib.hid (HP4.out.below hbv6)
 replace HN4:=Lib.hid (HN4.out.below hbv6)
 replace HP5:=Lib.hid (HP5.out.below hbv6)
 replace HN5:=Lib.hid (HN5.out.below hbv6)
 replace HK6:=Lib.hid (HK6.out.below hbv6)
 have HBv6:=Lib.hid (bThen HBc6.out hbv6)
 clear HBc6
 have HWv6:=Lib.hid hv6
 clear hbv6 hv6
 go_wp2_with fail
 rw [HWv6.out]
 refine (useful_k killR0 ka6 2 kc6 (some ⟨c6.heap.size,0,none⟩) 3 3 [205,205,0] Gu0 pg_u rfl rfl (HBD.out _ (by decide)) v6 HK6.out HSV6.out).mono ?_
 rintro e y6 ⟨bv,rfl,hby6,hu⟩
 rw [uses_k] at hu
 clear HSV6
 replace k13:=bAt hby6 k13
 replace k14:=bAt hby6 k14
 replace k23:=bAt hby6 k23
 replace k24:=bAt hby6 k24
 replace k33:=bAt hby6 k33
 replace k34:=bAt hby6 k34
 replace k43:=bAt hby6 k43
 replace k44:=bAt hby6 k44
 replace k53:=bAt hby6 k53
 replace k54:=bAt hby6 k54
 replace HP1:=Lib.hid (HP1.out.below hby6)
 replace HN1:=Lib.hid (HN1.out.below hby6)
 replace HP2:=Lib.hid (HP2.out.below hby6)
 replace HN2:=Lib.hid (HN2.out.below hby6)
 replace HP3:=Lib.hid (HP3.out.below hby6)
 replace HN3:=Lib.hid (HN3.out.below hby6)
 replace HP4:=Lib.hid (HP4.out.below hby6)
 replace HN4:=Lib.hid (HN4.out.below hby6)
 replace HP5:=Lib.hid (HP5.out.below hby6)
 replace HN5:=Lib.hid (HN5.out.below hby6)
 replace HK6:=Lib.hid (HK6.out.below hby6)
 have HBy6:=Lib.hid (bThen HBv6.out hby6)
 clear HBv6
 clear hby6
 clear HK6
 have HU:=Lib.hid hu
 clear hu
 go_wp2_with fail
 refine (cricket0_any true y6).mono ?_
 rintro e c7 ⟨rfl,hbc7⟩
 replace k13:=bAt hbc7 k13
 replace k14:=bAt hbc7 k14
 replace k23:=bAt hbc7 k23
 replace k24:=bAt hbc7 k24
 replace k33:=bAt hbc7 k33
 replace k34:=bAt hbc7 k34
 replace k43:=bAt hbc7 k43
 replace k44:=bAt hbc7 k44
 replace k53:=bAt hbc7 k53
 replace k54:=bAt hbc7 k54
 replace HP1:=Lib.hid (HP1.out.below hbc7)
 replace HN1:=Lib.hid (HN1.out.below hbc7)
 replace HP2:=Lib.hid (HP2.out.below hbc7)
 replace HN2:=Lib.hid (HN2.out.below hbc7)
 replace HP3:=Lib.hid (HP3.out.below hbc7)
 replace HN3:=Lib.hid (HN3.out.below hbc7)
 replace HP4:=Lib.hid (HP4.out.below hbc7)
 replace HN4:=Lib.hid (HN4.out.below hbc7)
 replace HP5:=Lib.hid (HP5.out.below hbc7)
 replace HN5:=Lib.hid (HN5.out.below hbc7)
 replace HU:=Lib.hid (HU.out.below hbc7)
 have HBc7:=Lib.hid (bThen HBy6.out hbc7)
 clear HBy6
 clear hbc7
 obtain ⟨v7,hv7⟩ : ∃ x,World.alloc c7 (.cells #[.int .i64 320,.int .i64 220] 45) = x:=⟨_,rfl⟩
 have hbv7 : Below c7.heap.size c7 v7:=by rw [← hv7]; exact aB _ _
 have hsv7 : Sl (fun _ => True) v7 (.slice (some ⟨c7.heap.size,0,none⟩) 2 2) (ints [320,220]):=by rw [← hv7]; exact Sl.new _ c7 trivial 45 (ints [320,220]) (by decide)
 have HSV7:=Lib.hid hsv7
 clear hsv7
 replace k13:=bAt hbv7 k13
 replace k14:=bAt hbv7 k14
 replace k23:=bAt hbv7 k23
 replace k24:=bAt hbv7 k24
 replace k33:=bAt hbv7 k33
 replace k34:=bAt hbv7 k34
 replace k43:=bAt hbv7 k43
 replace k44:=bAt hbv7 k44
 replace k53:=bAt hbv7 k53
 replace k54:=bAt hbv7 k54
 replace HP1:=Lib.hid (HP1.out.below hbv7)
 replace HN1:=Lib.hid (HN1.out.below hbv7)
 replace HP2:=Lib.hid (HP2.out.below hbv7)
 replace HN2:=Lib.hid (HN2.out.below hbv7)
 replace HP3:=Lib.hid (HP3.out.below hbv7)
 replace HN3:=Lib.hid (HN3.out.below hbv7)
 replace HP4:=Lib.hid (HP4.out.below hbv7)
 replace HN4:=Lib.hid (HN4.out.below hbv7)
 replace HP5:=Lib.hid (HP5.out.below hbv7)
 replace HN5:=Lib.hid (HN5.out.below hbv7)
 replace HU:=Lib.hid (HU.out.below hbv7)
 have HBv7:=Lib.hid (bThen HBc7.out hbv7)
 clear HBc7
 have HWv7:=Lib.hid hv7
 clear hbv7 hv7
 go_wp2_with fail
 rw [HWv7.out]
 refine (rank_k (cricR true) none 0 0 (some ⟨c7.heap.size,0,none⟩) 2 2 [320,220] Gc0 pg_c rfl (HBD.out _ (by decide)) v7 (Sl.nil (fun _ => True) _) HSV7.out).mono ?_
 rintro e y7 ⟨gv,rfl,hby7,hr⟩
 rw [rank_kk] at hr
 clear HSV7
 replace k13:=bAt hby7 k13
 replace k14:=bAt hby7 k14
 replace k23:=bAt hby7 k23
 replace k24:=bAt hby7 k24
 replace k33:=bAt hby7 k33
 replace k34:=bAt hby7 k34
 replace k43:=bAt hby7 k43
 replace k44:=bAt hby7 k44
 replace k53:=bAt hby7 k53
 replace k54:=bAt hby7 k54
 replace HP1:=Lib.hid (HP1.out.below hby7)
 replace HN1:=Lib.hid (HN1.out.below hby7)
 replace HP2:=Lib.hid (HP2.out.below hby7)
 replace HN2:=Lib.hid (HN2.out.below hby7)
 replace HP3:=Lib.hid (HP3.out.below hby7)
 replace HN3:=Lib.hid (HN3.out.below hby7)
 replace HP4:=Lib.hid (HP4.out.below hby7)
 replace HN4:=Lib.hid (HN4.out.below hby7)
 replace HP5:=Lib.hid (HP5.out.below hby7)
 replace HN5:=Lib.hid (HN5.out.below hby7)
 replace HU:=Lib.hid (HU.out.below hby7)
 have HBy7:=Lib.hid (bThen HBv7.out hby7)
 clear HBv7
 clear hby7
 have HR:=Lib.hid hr
 clear hr
 obtain ⟨b1,o1,hal1,_,_,hc1⟩ := HP1.out.cell (i:=0) (by decide)
 subst hal1
 have n1 : y7.cell? ⟨b1,o1,none⟩ = some (.int .i64 4):=hc1 0 _ rfl
 obtain ⟨b2,o2,hal2,_,_,hc2⟩ := HP2.out.cell (i:=0) (by decide)
 subst hal2
 have n2 : y7.cell? ⟨b2,o2,none⟩ = some (.int .i64 40):=hc2 0 _ rfl
 have n3 : y7.cell? ⟨b2,o2 + 6,none⟩ = some (.int .i64 3):=hc2 6 _ rfl
 obtain ⟨b3,o3,hal3,_,_,hc3⟩ := HP3.out.cell (i:=1) (by decide)
 subst hal3
 have n4 : y7.cell? ⟨b3,o3 + 9,none⟩ = some (.int .i64 40):=hc3 0 _ rfl
 obtain ⟨b4,o4,hal4,_,_,hc4⟩ := HP4.out.cell (i:=0) (by decide)
 subst hal4
 have n5 : y7.cell? ⟨b4,o4,none⟩ = some (.int .i64 6):=hc4 0 _ rfl
 clear hc1 hc2 hc3 hc4 HP1 HP2 HP3 HP4 HP5 HBD
 obtain ⟨la,hla⟩ : ∃ x,World.alloc y7 (.cells #[.int .i64 0] 3) = x:=⟨_,rfl⟩
 have hbla : Below y7.heap.size y7 la:=by rw [← hla]; exact aB _ _
 have HLla : Hid (Sl (fun _ => True) la (.slice (some ⟨y7.heap.size,0,none⟩) 1 1) (ints [0])):=Lib.hid (by rw [← hla]; exact Sl.new _ y7 trivial 3 (ints [0]) (by decide))
 have HBla:=Lib.hid hbla
 have HWla:=Lib.hid hla
 clear hbla hla
 go_wp2_with fail
 rw [HWla.out]
 refine (ints_any [0] [0] _ _ la (HN1.out.below HBla.out) HLla.out).mono ?_
 rintro e ma ⟨rfl,hb0ma⟩
 have hbma:=bThen HBla.out hb0ma
 clear HLla HBla hb0ma
 replace k13:=bAt hbma k13
 replace k14:=bAt hbma k14
 replace k23:=bAt hbma k23
 replace k24:=bAt hbma k24
 replace k33:=bAt hbma k33
 replace k34:=bAt hbma k34
 replace k43:=bAt hbma k43
 replace k44:=bAt hbma k44
 replace k53:=bAt hbma k53
 replace k54:=bAt hbma k54
 replace n1:=bAt hbma n1
 replace n2:=bAt hbma n2
 replace n3:=bAt hbma n3
 replace n4:=bAt hbma n4
 replace n5:=bAt hbma n5
 replace HN1:=Lib.hid (HN1.out.below hbma)
 replace HN2:=Lib.hid (HN2.out.below hbma)
 replace HN3:=Lib.hid (HN3.out.below hbma)
 replace HN4:=Lib.hid (HN4.out.below hbma)
 replace HN5:=Lib.hid (HN5.out.below hbma)
 replace HU:=Lib.hid (HU.out.below hbma)
 replace HR:=Lib.hid (HR.out.below hbma)
 have HBma:=Lib.hid (bThen HBy7.out hbma)
 clear HBy7
 clear hbma
 obtain ⟨ld,hld⟩ : ∃ x,World.alloc ma (.cells #[.int .i64 0] 3) = x:=⟨_,rfl⟩
 have hbld : Below ma.heap.size ma ld:=by rw [← hld]; exact aB _ _
 have HLld : Hid (Sl (fun _ => True) ld (.slice (some ⟨ma.heap.size,0,none⟩) 1 1) (ints [0])):=Lib.hid (by rw [← hld]; exact Sl.new _ ma trivial 3 (ints [0]) (by decide))
 have HBld:=Lib.hid hbld
 have HWld:=Lib.hid hld
 clear hbld hld
 go_wp2_with fail
 rw [HWld.out]
 refine (ints_any [0] [0] _ _ ld (HN4.out.below HBld.out) HLld.out).mono ?_
 rintro e md ⟨rfl,hb0md⟩
 have hbmd:=bThen HBld.out hb0md
 clear HLld HBld hb0md
 replace k13:=bAt hbmd k13
 replace k14:=bAt hbmd k14
 replace k23:=bAt hbmd k23
 replace k24:=bAt hbmd k24
 replace k33:=bAt hbmd k33
 replace k34:=bAt hbmd k34
 replace k43:=bAt hbmd k43
 replace k44:=bAt hbmd k44
 replace k53:=bAt hbmd k53
 replace k54:=bAt hbmd k54
 replace n1:=bAt hbmd n1
 replace n2:=bAt hbmd n2
 replace n3:=bAt hbmd n3
 replace n4:=bAt hbmd n4
 replace n5:=bAt hbmd n5
 replace HN1:=Lib.hid (HN1.out.below hbmd)
 replace HN2:=Lib.hid (HN2.out.below hbmd)
 replace HN3:=Lib.hid (HN3.out.below hbmd)
 replace HN4:=Lib.hid (HN4.out.below hbmd)
 replace HN5:=Lib.hid (HN5.out.below hbmd)
 replace HU:=Lib.hid (HU.out.below hbmd)
 replace HR:=Lib.hid (HR.out.below hbmd)
 have HBmd:=Lib.hid (bThen HBma.out hbmd)
 clear HBma
 clear hbmd
 obtain ⟨lx,hlx⟩ : ∃ x,World.alloc md (.cells #[.int .i64 0] 3) = x:=⟨_,rfl⟩
 have hblx : Below md.heap.size md lx:=by rw [← hlx]; exact aB _ _
 have HLlx : Hid (Sl (fun _ => True) lx (.slice (some ⟨md.heap.size,0,none⟩) 1 1) (ints [0])):=Lib.hid (by rw [← hlx]; exact Sl.new _ md trivial 3 (ints [0]) (by decide))
 have HBlx:=Lib.hid hblx
 have HWlx:=Lib.hid hlx
 clear hblx hlx
 go_wp2_with fail
 rw [HWlx.out]
 refine (ints_any [0] [0] _ _ lx (HN5.out.below HBlx.out) HLlx.out).mono ?_
 rintro e mx ⟨rfl,hb0mx⟩
 have hbmx:=bThen HBlx.out hb0mx
 clear HLlx HBlx hb0mx
 replace k13:=bAt hbmx k13
 replace k14:=bAt hbmx k14
 replace k23:=bAt hbmx k23
 replace k24:=bAt hbmx k24
 replace k33:=bAt hbmx k33
 replace k34:=bAt hbmx k34
 replace k43:=bAt hbmx k43
 replace k44:=bAt hbmx k44
 replace k53:=bAt hbmx k53
 replace k54:=bAt hbmx k54
 replace n1:=bAt hbmx n1
 replace n2:=bAt hbmx n2
 replace n3:=bAt hbmx n3
 replace n4:=bAt hbmx n4
 replace n5:=bAt hbmx n5
 replace HN1:=Lib.hid (HN1.out.below hbmx)
 replace HN2:=Lib.hid (HN2.out.below hbmx)
 replace HN3:=Lib.hid (HN3.out.below hbmx)
 replace HN4:=Lib.hid (HN4.out.below hbmx)
 replace HN5:=Lib.hid (HN5.out.below hbmx)
 replace HU:=Lib.hid (HU.out.below hbmx)
 replace HR:=Lib.hid (HR.out.below hbmx)
 have HBmx:=Lib.hid (bThen HBmd.out hbmx)
 clear HBmd
 clear hbmx
 obtain ⟨lu,hlu⟩ : ∃ x,World.alloc mx (.cells #[.int .i64 209] 45) = x:=⟨_,rfl⟩
 have hblu : Below mx.heap.size mx lu:=by rw [← hlu]; exact aB _ _
 have HLlu : Hid (Sl (fun _ => True) lu (.slice (some ⟨mx.heap.size,0,none⟩) 1 1) (ints [209])):=Lib.hid (by rw [← hlu]; exact Sl.new _ mx trivial 45 (ints [209]) (by decide))
 have HBlu:=Lib.hid hblu
 have HWlu:=Lib.hid hlu
 clear hblu hlu
 go_wp2_with fail
 rw [HWlu.out]
 refine (beds_any [209] [209] _ _ lu (HU.out.below HBlu.out) HLlu.out).mono ?_
 rintro e mu ⟨rfl,hb0mu⟩
 have hbmu:=bThen HBlu.out hb0mu
 clear HLlu HBlu hb0mu
 replace k13:=bAt hbmu k13
 replace k14:=bAt hbmu k14
 replace k23:=bAt hbmu k23
 replace k24:=bAt hbmu k24
 replace k33:=bAt hbmu k33
 replace k34:=bAt hbmu k34
 replace k43:=bAt hbmu k43
 replace k44:=bAt hbmu k44
 replace k53:=bAt hbmu k53
 replace k54:=bAt hbmu k54
 replace n1:=bAt hbmu n1
 replace n2:=bAt hbmu n2
 replace n3:=bAt hbmu n3
 replace n4:=bAt hbmu n4
 replace n5:=bAt hbmu n5
 replace HN1:=Lib.hid (HN1.out.below hbmu)
 replace HN2:=Lib.hid (HN2.out.below hbmu)
 replace HN3:=Lib.hid (HN3.out.below hbmu)
 replace HN4:=Lib.hid (HN4.out.below hbmu)
 replace HN5:=Lib.hid (HN5.out.below hbmu)
 replace HU:=Lib.hid (HU.out.below hbmu)
 replace HR:=Lib.hid (HR.out.below hbmu)
 have HBmu:=Lib.hid (bThen HBmx.out hbmu)
 clear HBmx
 clear hbmu
 obtain ⟨g2,hg2⟩ : ∃ x,((World.alloc mu (.cells #[.int .i64 0] 3)).alloc (.cells #[.int .i64 1] 3)).alloc (.cells #[.slice (some ⟨mu.heap.size,0,none⟩) 1 1,.slice (some ⟨mu.heap.size + 1,0,none⟩) 1 1] 27) = x:=⟨_,rfl⟩
 have hbg2 : Below mu.heap.size mu g2:=by rw [← hg2]; exact ((aB _ _).alloc (by simp) _).alloc (by simp; omega) _
 have s0 : Sl (fun _ => True) g2 (.slice (some ⟨mu.heap.size,0,none⟩) 1 1) (ints [0]):=by
  rw [← hg2]; exact ((Sl.new _ mu trivial 3 (ints [0]) (by decide)).below (aB _ _)).below (aB _ _)
 have s1 : Sl (fun _ => True) g2 (.slice (some ⟨mu.heap.size + 1,0,none⟩) 1 1) (ints [1]):=by
  have:=(Sl.new (fun _ => True) (World.alloc mu (.cells #[.int .i64 0] 3)) trivial 3 (ints [1]) (by decide)).below (aB _ (.cells #[.slice (some ⟨mu.heap.size,0,none⟩) 1 1,.slice (some ⟨mu.heap.size + 1,0,none⟩) 1 1] 27))
  rw [← hg2]
  rw [show (World.alloc mu (.cells #[.int .i64 0] 3)).heap.size = mu.heap.size + 1 by simp] at this
  exact this
 have sg : SlSl (fun _ => True) g2 (.slice (some ⟨mu.heap.size + 1 + 1,0,none⟩) 2 2) [[0],[1]]:=by
  refine ⟨[.slice (some ⟨mu.heap.size,0,none⟩) 1 1,.slice (some ⟨mu.heap.size + 1,0,none⟩) 1 1], ?_,rfl,fun i hi => ?_⟩
  ·have:=Sl.new (fun _ => True) ((World.alloc mu (.cells #[.int .i64 0] 3)).alloc (.cells #[.int .i64 1] 3)) trivial 27 [.slice (some ⟨mu.heap.size,0,none⟩) 1 1,.slice (some ⟨mu.heap.size + 1,0,none⟩) 1 1] (by simp [maxLen])
   rw [← hg2]
   rw [show ((World.alloc mu (.cells #[.int .i64 0] 3)).alloc (.cells #[.int .i64 1] 3)).heap.size = mu.heap.size + 1 + 1 by simp] at this
   exact this
  ·match i,hi with
   | 0,_ => exact ⟨_,rfl,s0⟩
   | 1,_ => exact ⟨_,rfl,s1⟩
 have HSG:=Lib.hid sg
 have HBg2:=Lib.hid hbg2
 have HWg2:=Lib.hid hg2
 clear s0 s1 sg hbg2 hg2
 go_wp2_with fail
 rw [HWg2.out]
 refine (groups_any _ _ [[0],[1]] [[0],[1]] g2 (HR.out.below HBg2.out) HSG.out).mono ?_
 rintro e mg ⟨rfl,hbmg⟩
 have HBF:=Lib.hid (bThen HBmu.out (bThen HBg2.out hbmg))
 clear hbmg
 go_wp2
 go_ret
 exact ⟨rfl,HBF.out⟩
end Go.Proofs.YtnhggfnnolfcdaaGreat

/- Chapter 4, in plain Lean: who wins; groups of the ranking. -/
namespace Go.Proofs.YtnhggfnnolfcdaaGreat
open Go.RowKit Go.Oche Go.Proofs

structure RankOk (n : Nat) (gs : List (List Int)) : Prop where
 ne : ∀ x ∈ gs,x ≠ []
 asc : ∀ x ∈ gs,x.Pairwise (· < ·)
 mem : ∀ x ∈ gs.flatten,0 ≤ x ∧ x.toNat < n
 nd : gs.flatten.Nodup
 all : ∀ i : Nat,i < n → (i : Int) ∈ gs.flatten
/-! Who wins. -/
def TopP (r : Rul) (g : Gam) (x : Int) : Prop := ∀ i,i < g.pls.length → ¬ ((plr g x.toNat).pts < (plr g i).pts ∧ r.cut = false) ∧ ¬ ((plr g i).pts < (plr g x.toNat).pts ∧ r.cut = true)
structure Won (r : Rul) (g : Gam) : Prop where
 asc : g.win.Pairwise (· < ·)
 mem : ∀ x ∈ g.win,0 ≤ x ∧ x.toNat < g.pls.length
 one : (r.kind = 1 ∨ r.kind = 4) → g.win ≠ [] → g.win.length = 1
 top : (r.kind ≠ 3 ∨ ¬ (g.hit.getD 1 false = true ∧ g.hit.getD 2 false = true ∧ g.hit.getD 3 false = true)) → ∀ x ∈ g.win,TopP r g x
theorem Won.none {r : Rul} {g : Gam} (h : g.win = []) : Won r g:=by
 refine ⟨by rw [h]; exact List.Pairwise.nil, ?_,fun _ e => (e h).elim,fun _ => ?_⟩
 ·rw [h]; simp
 ·rw [h]; simp
structure DWon (r : Rul) (d : Gam × List Int) : Prop where
 asc : d.2.Pairwise (· < ·)
 mem : ∀ x ∈ d.2,0 ≤ x ∧ x.toNat < d.1.pls.length
 one : d.2 ≠ [] → d.2.length = 1
 top : d.2 ≠ [] → (r.kind ≠ 3 ∨ ¬ (d.1.hit.getD 1 false = true ∧ d.1.hit.getD 2 false = true ∧ d.1.hit.getD 3 false = true)) → ∀ x ∈ d.2,TopP r d.1 x
theorem DWon.none {r : Rul} {g : Gam} : DWon r (g,[]):=⟨List.Pairwise.nil,by simp,fun e => (e rfl).elim,by simp⟩
theorem DWon.me {r : Rul} {g : Gam} {p : Nat} (hp : p < g.pls.length) (ht : (r.kind ≠ 3 ∨ ¬ (g.hit.getD 1 false = true ∧ g.hit.getD 2 false = true ∧ g.hit.getD 3 false = true)) → TopP r g p) : DWon r (g,[(p : Int)]) :=
 ⟨by simp,fun x hx => by rw [List.mem_singleton] at hx; subst hx; exact ⟨by omega,by simpa using hp⟩,fun _ => rfl,fun _ h x hx => by rw [List.mem_singleton] at hx; subst hx; exact ht h⟩
theorem throw_hit {r : Rul} {M : Int} {g : Gam} (h : Live r M g) {f n : Int} (hb : okHit f n) (hw : (throwG r g f n).win ≠ []) : (throwG r g f n).hit = (dartG r { g with darts:=g.darts + 1 } f n).1.hit:=by
 have ht:=throw_thrown h hb
 unfold throwG at hw ⊢
 dsimp only at hw ⊢
 split
 ·rename_i e
  rw [if_pos e] at hw
  unfold nextG at hw ⊢
  dsimp only at hw ⊢
  split
  ·rfl
  ·rename_i e2
   rw [if_neg e2] at hw
   exact (hw e.1).elim
 ·rfl
def HitOk (ds : List Int) (g : Gam) : Prop := ∀ f : Nat,g.hit.getD f false = true → ∃ j,j < g.darts ∧ j < ds.length ∧ (ds.getD (ds.length - 1 - j) 0).tmod 100 = g.round + 1 ∧ (ds.getD (ds.length - 1 - j) 0).tdiv 100 = f
theorem HitOk.init {r : Rul} : HitOk [] (initG r):=fun f h => by
 unfold initG at h
 simp only [List.getD_eq_getElem?_getD,List.getElem?_replicate] at h
 split at h <;> simp at h
theorem dart_hit {r : Rul} {g : Gam} {f n : Int} (hb : okHit f n) {i : Nat} (hi : (dartG r g f n).1.hit.getD i false = true) : g.hit.getD i false = true ∨ (n = g.round + 1 ∧ f = i):=by
 unfold dartG at hi
 split at hi
 ·left
  unfold dartRound at hi
  by_cases ht : n = if decide (r.last < (plr g g.player).pts + 1) = true then 25 else (plr g g.player).pts + 1
  ·dsimp only at hi; rw [if_pos ht] at hi; exact hi
  ·dsimp only at hi; rw [if_neg ht] at hi; exact hi
 split at hi
 ·left
  unfold dartCricket at hi
  rw [(cric_rest (r:=r) (g:=g) (f:=f) (n:=n)).2.2.2.1] at hi; exact hi
 split at hi
 ·unfold dartShanghai at hi
  split at hi
  ·dsimp only at hi
   by_cases e : i = f.toNat
   ·right
    have:=hb.f
    exact ⟨by assumption,by omega⟩
   ·left
    simp only [List.getD_eq_getElem?_getD,List.getElem?_set] at hi ⊢
    rw [if_neg (by omega)] at hi; exact hi
  ·exact .inl hi
 ·left
  unfold dartKiller at hi
  cases hf : r.nums.findIdx? (· == n) with
  | none => rw [hf] at hi; exact hi
  | some k =>
   rw [hf] at hi
   dsimp only at hi
   split at hi
   ·exact hi
   ·dsimp only at hi
    split at hi
    ·exact hi
    split at hi <;> exact hi
theorem HitOk.throw {r : Rul} {M : Int} {g : Gam} {ds : List Int} (h : Live r M g) (hh : HitOk ds g) {b : Int} (hb : okBed b = true) : HitOk (ds ++ [b]) (throwG r g (b.tdiv 100) (b.tmod 100)):=by
 have hit:=okBed_hit hb
 have ht:=throw_thrown h hit
 have hd:=dart_ok (h.toRun.dart (g.darts + 1)) hit
 have key : ∀ f : Nat,(dartG r { g with darts:=g.darts + 1 } (b.tdiv 100) (b.tmod 100)).1.hit.getD f false = true → ∃ j,j < g.darts + 1 ∧ j < (ds ++ [b]).length ∧ ((ds ++ [b]).getD ((ds ++ [b]).length - 1 - j) 0).tmod 100 = g.round + 1 ∧ ((ds ++ [b]).getD ((ds ++ [b]).length - 1 - j) 0).tdiv 100 = f:=fun f hf => by
  rcases dart_hit (g:={ g with darts:=g.darts + 1 }) hit hf with e | ⟨e1,e2⟩
  ·obtain ⟨j,a1,a2,a3,a4⟩ := hh f e
   refine ⟨j + 1,by omega,by simp; omega, ?_⟩
   have he : (ds ++ [b]).getD ((ds ++ [b]).length - 1 - (j + 1)) 0 = ds.getD (ds.length - 1 - j) 0:=by
    simp only [List.getD_eq_getElem?_getD,List.length_append,List.length_singleton]
    rw [List.getElem?_append_left (by omega)]
    congr 2; omega
   rw [he]; exact ⟨a3,a4⟩
  ·refine ⟨0,by omega,by simp, ?_⟩
   have he : (ds ++ [b]).getD ((ds ++ [b]).length - 1 - 0) 0 = b:=by
    simp only [List.getD_eq_getElem?_getD,List.length_append,List.length_singleton]
    rw [List.getElem?_append_right (by omega)]
    simp
   rw [he]; exact ⟨e1,e2⟩
 have hz : ∀ f : Nat,(List.replicate 5 false).getD f false = true → False:=fun f h => by
  simp only [List.getD_eq_getElem?_getD,List.getElem?_replicate] at h
  split at h <;> simp at h
 by_cases hw : (throwG r g (b.tdiv 100) (b.tmod 100)).win = []
 ·by_cases hc : g.darts < 2 ∧ isOutG r (dartG r { g with darts:=g.darts + 1 } (b.tdiv 100) (b.tmod 100)).1 g.player = false
  ·rw [ht.stay hw hc.1 hc.2]
   intro f hf
   dsimp only at hf ⊢
   rw [hd.kept.darts,hd.kept.round]
   exact key f hf
  ·have hc' : g.darts = 2 ∨ isOutG r (dartG r { g with darts:=g.darts + 1 } (b.tdiv 100) (b.tmod 100)).1 g.player = true:=by
    by_cases e : g.darts < 2
    ·right
     cases e2 : isOutG r (dartG r { g with darts:=g.darts + 1 } (b.tdiv 100) (b.tmod 100)).1 g.player
     ·exact (hc ⟨e,e2⟩).elim
     ·rfl
    ·left; have:=h.darts; omega
   rw [ht.next hw hc']
   intro f hf
   exact (hz f hf).elim
 ·intro f hf
  rw [throw_hit h hit hw] at hf
  have ho:=ht.over hw
  rw [ho.2.2.2,ho.2.2.1]
  exact key f hf
end Go.Proofs.YtnhggfnnolfcdaaGreat
