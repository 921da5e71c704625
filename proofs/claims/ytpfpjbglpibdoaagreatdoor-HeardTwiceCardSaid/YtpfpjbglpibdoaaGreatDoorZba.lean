/- The texts QH, in build order. -/
import Derived.Test.YtpfpjbglpibdoaaGreatDoorZaz
import Derived.Deep.DeepCutAuto
import Derived.Deep.CutRange
import Derived.Deep.CutBlock

/- Chapter 5: HeardTwice, the walk. -/
namespace Go.Proofs.YtpfpjbglpibdoaaGreatDoor
open Go Go.RowKit Go.Oche Go.Proofs

theorem own_cellN {W : World} {base n g c k : Nat} {e : TypeId} {xs : List Value} (h : W.ownsRow base e k (.slice (some ⟨g, 0, none⟩) n c) n xs) {j : Nat} {x : Value} (hx : xs[j]? = some x) : W.cell? ⟨g, 0 + j, none⟩ = some x := by
  rcases h.2 with ⟨e1, _⟩ | ⟨g', cap, cur, e1, h1, h2, h3, h4, h5, h6⟩
  · cases e1
  · cases e1
    rw [Nat.zero_add, cell_of_heap h2]
    rw [← h6, List.getElem?_take] at hx
    split at hx
    · simpa using hx
    · cases hx
theorem flat_one' (l : List Rp) : ∀ u ∈ (l.map rpRow).flatten, u.oneCell' = true := fun u hu => by
  obtain ⟨r, hr, hu⟩ := List.mem_flatten.1 hu
  obtain ⟨y, _, rfl⟩ := List.mem_map.1 hr
  exact rpRow_one y u hu

set_option maxRecDepth 100000 in
set_option maxHeartbeats 40000000 in
theorem heardTwice_any {S S' : Nat → Prop} (x : Thr) (hx : ThrOk x) (dv sv : Value) (w : World) (hd : Sl S w dv (u8s x.darts)) (hs : Sl S' w sv (u8s x.said)) (tw mo : Int) (htw : 0 ≤ tw ∧ tw < 256) (hmo : 0 ≤ mo ∧ mo < 256) (hT : Tab5 w) :
    Calls Tryz.prog 8 #[thrV x dv sv, .int .u8 tw, .int .u8 mo] w fun e w' => e = .returned (.bool true) ∧ Below w.heap.size w w' := by
  obtain ⟨a, cap, rfl, -, -⟩ := hd.form
  obtain ⟨a', cap', rfl, -, -⟩ := hs.form
  have hdl : (u8s x.darts).length = x.darts.length := List.length_map ..
  have hsl : (u8s x.said).length = x.said.length := List.length_map ..
  rw [hdl] at hd ⊢
  rw [hsl] at hs ⊢
  obtain ⟨dl, hdl2⟩ : ∃ n, x.darts.length = n := ⟨_, rfl⟩
  obtain ⟨sl, hsl2⟩ : ∃ n, x.said.length = n := ⟨_, rfl⟩
  rw [hdl2] at hd ⊢
  rw [hsl2] at hs ⊢
  obtain ⟨N, hN⟩ : ∃ N, w.heap.size = N := ⟨_, rfl⟩
  obtain ⟨w1, hw1⟩ : ∃ y, w.alloc (.cells #[.int .u8 x.st, .int .u8 x.inn, .int .u8 x.out, .int .u8 x.pl, .int .u16 (x.which : Int), .slice a dl cap, .slice a' sl cap'] 76) = y := ⟨_, rfl⟩
  have hb1 : Below w.heap.size w w1 := by rw [← hw1]; exact aB _ _
  have k : w1.heap[N]? = some (.cells #[.int .u8 x.st, .int .u8 x.inn, .int .u8 x.out, .int .u8 x.pl, .int .u16 (x.which : Int), .slice a dl cap, .slice a' sl cap'] 76 (0, 0)) := by rw [← hw1, ← hN]; exact World.alloc_heap_new _ _
  have x0 : w1.cell? ⟨N, 0, none⟩ = some (.int .u8 x.st) := by rw [cell_of_heap k]; rfl
  have x1 : w1.cell? ⟨N, 1, none⟩ = some (.int .u8 x.inn) := by rw [cell_of_heap k]; rfl
  have x2 : w1.cell? ⟨N, 2, none⟩ = some (.int .u8 x.out) := by rw [cell_of_heap k]; rfl
  have x3 : w1.cell? ⟨N, 3, none⟩ = some (.int .u8 x.pl) := by rw [cell_of_heap k]; rfl
  have x4 : w1.cell? ⟨N, 4, none⟩ = some (.int .u16 (x.which : Int)) := by rw [cell_of_heap k]; rfl
  have x5 : w1.cell? ⟨N, 5, none⟩ = some (.slice a dl cap) := by rw [cell_of_heap k]; rfl
  have x6 : w1.cell? ⟨N, 6, none⟩ = some (.slice a' sl cap') := by rw [cell_of_heap k]; rfl
  have HD := Lib.hid (hd.below hb1)
  have HS := Lib.hid (hs.below hb1)
  have HB := Lib.hid hb1
  have HT := Lib.hid (hT.below hb1)
  have HW := Lib.hid hw1
  have HN := Lib.hid hN
  have HX := Lib.hid hx
  have HTW := Lib.hid htw
  have HMO := Lib.hid hmo
  unfold thrV
  clear hd hs hb1 hw1 hN k hx hT htw hmo hdl hsl hdl2 hsl2
  obtain ⟨l, hl⟩ : ∃ l, legT x 8 = l := ⟨_, rfl⟩
  obtain ⟨F, hF⟩ : ∃ F, playX x 8 = F := ⟨_, rfl⟩
  obtain ⟨list, hli⟩ : ∃ y, repsL x 8 = y := ⟨_, rfl⟩
  obtain ⟨n, hn⟩ : ∃ n, F.out.length = n := ⟨_, rfl⟩
  obtain ⟨nb, hnb⟩ : ∃ n, (bedsOf x.which).length = n := ⟨_, rfl⟩
  obtain ⟨m, hm⟩ : ∃ n, list.length = n := ⟨_, rfl⟩
  have hrl : repsN x.said F.out F.out.length = list := by rw [← hli, ← hF]; rfl
  have hbd := legT_bd x 8
  rw [hl] at hbd
  have HBD := Lib.hid hbd
  have HTN : Hid (l.turns = (n : Int)) := Lib.hid (by rw [← hl, legT_turns, hF, hn])
  have HBE : Hid (l.beds = bedsOf x.which) := Lib.hid (by rw [← hl]; rfl)
  have HCK : Hid (checkL l = 0) := Lib.hid (by rw [← hl]; exact legT_check x (by omega))
  have HBI : Hid (BedsIn l) := Lib.hid (by rw [← hl]; exact legT_in x 8)
  have HGB : Hid (GoodBeds l) := Lib.hid (by rw [← hl]; exact legT_good x 8)
  have htt := thrown_truth x 8
  rw [hl, hF, hli] at htt
  have HTR : Hid (HasTruth l (allS list)) := Lib.hid htt.1
  have HMT : Hid (∀ (t : Nat) (sp : Sp), F.out[t]? = some sp → HasTruth l (allS (list ++ [⟨t, sp.score, sp.en.left⟩])) ∧ InSp F.out (scF l (list ++ [⟨t, sp.score, sp.en.left⟩])) (leF l (list ++ [⟨t, sp.score, sp.en.left⟩])) (daF l (list ++ [⟨t, sp.score, sp.en.left⟩])) ∧ badR l.turns ⟨t, sp.score, sp.en.left⟩ = false) := Lib.hid (fun t sp hsp => by
    have h := more_truth x 8 (t := t) (sp := sp) (by rw [hF]; exact hsp)
    have h2 := thrown_in x 8 h.1 h.2.1
    rw [hl, hli] at h
    rw [hl, hF, hli] at h2
    exact ⟨h.1, h2, h.2.2⟩)
  have hin := thrown_in x 8 (list := list) (by rw [hl]; exact htt.1) (by rw [hl, hF]; exact htt.2)
  rw [hl, hF] at hin
  have HIN := Lib.hid hin
  have hro := repsL_ok x 8 (by omega)
  rw [hli] at hro
  have HLB : Hid (∀ r ∈ list, badR l.turns r = false) := Lib.hid (by have h := hro.bad; rw [hl] at h; exact h)
  have hm5 : m ≤ 8 := by rw [← hm, ← hli]; exact repsL_len x 8
  have hn5 : n ≤ 8 := by rw [← hn, ← hF]; exact playX_len x 8
  have HM := Lib.hid hm
  have HNN := Lib.hid hn
  have HNB := Lib.hid hnb
  have HRL := Lib.hid hrl
  have HN6 : Hid (nb ≤ 6) := Lib.hid (by rw [← hnb]; exact bedsOf_len _)
  clear hbd htt hin hro hli hrl
  go_enter Tryz.func8, Tryz.ntmps8
  go_upto_region 1 with fail
  rw [HW.out, HN.out]
  go_wp2_with fail
  have hcall := play_any x HX.out (.slice a dl cap) (.slice a' sl cap') 8 (by omega) w1 HD.out HS.out
  unfold thrV at hcall
  rw [hl, hF, hn, hnb] at hcall
  refine hcall.mono ?_
  rintro e w2 ⟨bv, ov, rfl, hb2, hob, hoo⟩
  clear hcall hl hF hn hnb hm
  obtain ⟨ba, bc, rfl⟩ := owns_form hob
  obtain ⟨oa, oc, rfl⟩ := owns_form hoo
  have HB2 := Lib.hid (bThen HB.out hb2)
  have HBS2 : Hid (Sl (fun q => w1.heap.size ≤ q) w2 (.slice ba nb bc) (ints l.beds)) := Lib.hid (by rw [HBE.out]; exact Sl.of_owns hob)
  have HO2 : Hid (SlN 3 (fun q => w1.heap.size ≤ q) w2 (.slice oa n oc) (F.out.map visRw)) := Lib.hid (SlN.of_ownsN (by rw [List.length_map, HNN.out]; exact hoo) (fun r hr => by obtain ⟨sp, _, rfl⟩ := List.mem_map.1 hr; rfl))
  have HT2 := Lib.hid (HT.out.below hb2)
  have HSS2 := Lib.hid (HS.out.below hb2)
  have HDD2 := Lib.hid (HD.out.below hb2)
  have x0 := bAt hb2 x0
  have x1 := bAt hb2 x1
  have x2 := bAt hb2 x2
  have x3 := bAt hb2 x3
  have x4 := bAt hb2 x4
  have x5 := bAt hb2 x5
  have x6 := bAt hb2 x6
  obtain ⟨K, hK⟩ : ∃ K, w2.heap.size = K := ⟨_, rfl⟩
  obtain ⟨w3, hw3⟩ : ∃ y, w2.alloc (.cells #[.int .i64 l.start, .int .i64 l.gin, .int .i64 l.gout, .slice ba nb bc, .int .i64 l.players, .int .i64 l.turns, .bool l.won] 27) = y := ⟨_, rfl⟩
  have hb3 : Below w2.heap.size w2 w3 := by rw [← hw3]; exact aB _ _
  have k3 : w3.heap[K]? = some (.cells #[.int .i64 l.start, .int .i64 l.gin, .int .i64 l.gout, .slice ba nb bc, .int .i64 l.players, .int .i64 l.turns, .bool l.won] 27 (0, 0)) := by rw [← hw3, ← hK]; exact World.alloc_heap_new _ _
  have HK := Lib.hid hK
  have HW3 := Lib.hid hw3
  have HB3 := Lib.hid (bThen HB2.out hb3)
  have HBS3 := Lib.hid (HBS2.out.below hb3)
  have HO3 := Lib.hid (HO2.out.below hb3)
  have HT3 := Lib.hid (HT2.out.below hb3)
  have HSS3 := Lib.hid (HSS2.out.below hb3)
  have HDD3 := Lib.hid (HDD2.out.below hb3)
  have hb3' := hb3
  clear hb2 hob hoo hw3 hK hb3
  unfold legV legA
  go_upto_region 2 with fail
  rw [HW3.out, HK.out]
  have x0 := bAt hb3' x0
  have x1 := bAt hb3' x1
  have x2 := bAt hb3' x2
  have x3 := bAt hb3' x3
  have x4 := bAt hb3' x4
  have x5 := bAt hb3' x5
  have x6 := bAt hb3' x6
  have c0 : w3.cell? ⟨K, 0, none⟩ = some (.int .i64 l.start) := by rw [cell_of_heap k3]; rfl
  have c1 : w3.cell? ⟨K, 1, none⟩ = some (.int .i64 l.gin) := by rw [cell_of_heap k3]; rfl
  have c2 : w3.cell? ⟨K, 2, none⟩ = some (.int .i64 l.gout) := by rw [cell_of_heap k3]; rfl
  have c3 : w3.cell? ⟨K, 3, none⟩ = some (.slice ba nb bc) := by rw [cell_of_heap k3]; rfl
  have c4 : w3.cell? ⟨K, 4, none⟩ = some (.int .i64 l.players) := by rw [cell_of_heap k3]; rfl
  have c5 : w3.cell? ⟨K, 5, none⟩ = some (.int .i64 l.turns) := by rw [cell_of_heap k3]; rfl
  have c6 : w3.cell? ⟨K, 6, none⟩ = some (.bool l.won) := by rw [cell_of_heap k3]; rfl
  clear k3 hb3'
  go_wp2_with fail
  have hcall := reports_any x HX.out.said (.slice a dl cap) (.slice a' sl cap') (.slice oa n oc) F.out 8 (by rw [HNN.out]; exact hn5) (by omega) w3 HDD3.out HSS3.out HO3.out
  unfold thrV at hcall
  rw [HRL.out, HM.out] at hcall
  refine hcall.mono ?_
  rintro e w4 ⟨rv, rfl, hb4, hrr⟩
  clear hcall
  obtain ⟨ra, rc, rfl⟩ := owns_form hrr
  have HR4 : Hid (SlN 3 (fun q => w3.heap.size ≤ q) w4 (.slice ra m rc) (list.map rpRow)) := Lib.hid (SlN.of_ownsN (by rw [List.length_map, HM.out]; exact hrr) (fun r hr => by obtain ⟨y, _, rfl⟩ := List.mem_map.1 hr; rfl))
  have HB4 := Lib.hid (bThen HB3.out hb4)
  have HBS4 := Lib.hid (HBS3.out.below hb4)
  have HO4 := Lib.hid (HO3.out.below hb4)
  have HT4 := Lib.hid (HT3.out.below hb4)
  clear HB3 HBS3 HO3 HT3
  have c0 := bAt hb4 c0
  have c1 := bAt hb4 c1
  have c2 := bAt hb4 c2
  have c3 := bAt hb4 c3
  have c4 := bAt hb4 c4
  have c5 := bAt hb4 c5
  have c6 := bAt hb4 c6
  clear hb4 hrr x0 x1 x2 x3 x4 x5 x6 HSS2 HDD2 HSS3 HDD3
  obtain ⟨K5, hK5⟩ : ∃ K5, w4.heap.size = K5 := ⟨_, rfl⟩
  obtain ⟨w5, hw5⟩ : ∃ y, w4.alloc (.cells #[] 83) = y := ⟨_, rfl⟩
  have hb5 : Below w4.heap.size w4 w5 := by rw [← hw5]; exact aB _ _
  have k5 : w5.heap[K5]? = some (.cells #[] 83 (0, 0)) := by rw [← hw5, ← hK5]; exact World.alloc_heap_new _ _
  have HK5 := Lib.hid hK5
  have HW5 := Lib.hid hw5
  have HO0 : Hid (w5.ownsRow K5 83 3 (.slice (some ⟨K5, 0, none⟩) 0 0) 0 (((list.take 0).reverse.map rpRow).flatten)) := Lib.hid (own_empty k5 (Nat.le_refl _))
  have HB50 := Lib.hid hb5
  have HZ5 : Hid (K5 ≤ w5.heap.size) := Lib.hid (by rw [← hK5]; exact hb5.size)
  clear hK5 hw5 hb5 k5
  go_upto_block 0 with fail
  rw [HW5.out, HK5.out]
  go_wp2_with fail
  go_loopw [10, 11] (fun bv jv wr => ∃ (j g c : Nat), bv = .slice (some ⟨g, 0, none⟩) j c ∧ j ≤ m ∧ jv = .int .i64 (j : Int) ∧ Hid (wr.ownsRow K5 83 3 (.slice (some ⟨g, 0, none⟩) j c) j (((list.take j).reverse.map rpRow).flatten)) ∧ Hid (K5 ≤ wr.heap.size) ∧ Hid (Below w4.heap.size w4 wr)) (fun _ jv _ => m - (intOf jv).toNat)
  case atStart => exact ⟨0, K5, 0, rfl, by omega, by go_num, HO0, HZ5, HB50⟩
  case round =>
    clear HO0 HZ5 HB50
    obtain ⟨j, g, c, rfl, hj, rfl, HOW, HZ, HBr⟩ := hrel
    obtain ⟨wo, rfl⟩ : ∃ wo : World, wo = wr := ⟨_, rfl⟩
    obtain ⟨XS, hXS⟩ : ∃ y, ((list.take j).reverse.map rpRow).flatten = y := ⟨_, rfl⟩
    have hX1 : ∀ u ∈ XS, u.oneCell' = true := by rw [← hXS]; exact flat_one' _
    rw [hXS] at HOW
    have HXS := Lib.hid hXS
    have HX1 := Lib.hid hX1
    clear hXS hX1
    by_cases hjm : j < m
    · have hjl : j < list.length := by rw [HM.out]; exact hjm
      obtain ⟨⟨rt, rs, rl⟩, hr⟩ : ∃ r, list[j] = r := ⟨_, rfl⟩
      obtain ⟨rb, rf, hra, -, -, hc⟩ := (HR4.out.below HBr.out).cell (i := j) (by rw [List.length_map]; exact hjl)
      cases hra
      have hrow : (list.map rpRow)[j]'(by rw [List.length_map]; exact hjl) = [.int .i64 rt, .int .i64 rs, .int .i64 rl] := by rw [List.getElem_map, hr]; rfl
      rw [hrow] at hc
      have p0 := hc 0 _ rfl
      have p1 := hc 1 _ rfl
      have p2 := hc 2 _ rfl
      rw [Nat.add_zero] at p0
      have htk : (list.take (j + 1)).reverse = ⟨rt, rs, rl⟩ :: (list.take j).reverse := by rw [List.take_succ_eq_append_getElem hjl, hr, List.reverse_append]; rfl
      have HTK := Lib.hid htk
      have hji : (j : Int) < (m : Int) := by omega
      have hwi : IntKind.i64.wrap ((j : Int) + 1) = (j : Int) + 1 := wrap_small _ (by omega) (by omega)
      have hbl : Below wo.heap.size wo (wo.alloc (.cells #[.int .i64 rt, .int .i64 rs, .int .i64 rl] 83)) := aB _ _
      have HOL : Hid ((wo.alloc (.cells #[.int .i64 rt, .int .i64 rs, .int .i64 rl] 83)).ownsRow K5 83 3 (.slice (some ⟨wo.heap.size, 0, none⟩) 1 1) 1 [.int .i64 rt, .int .i64 rs, .int .i64 rl]) := Lib.hid (own_lit (cs := #[.int .i64 rt, .int .i64 rs, .int .i64 rl]) (World.alloc_heap_new _ _) HZ.out (by decide) rfl)
      have HOW2 := Lib.hid (ownsN_below HOW.out hbl)
      have HBL := Lib.hid hbl
      have hj9 : 1 + j ≤ 100000 := by omega
      clear hjl hr hc hrow htk hbl
      go_wp2_with (at_builtin; refine wpList_appendN rfl (.tmp 45) (.tmp 46) 53 rfl K5 83 (.agg #[.int .i64 0, .int .i64 0, .int .i64 0]) 3 24 Tryz.underlying53 info_rp rfl (by decide) (.slice (some ⟨wo.heap.size, 0, none⟩) 1 1) 1 [.int .i64 rt, .int .i64 rs, .int .i64 rl] rfl HOL.out g 0 j c XS rfl HOW2.out.1 (fun q u hq => own_cellN HOW2.out hq) HX1.out hj9 (by decide) (by have := HZ.out; simp; omega) ?_)
      intro v6 w6 ho6 hg6 hat6
      obtain ⟨g6, c6', rfl⟩ := own_pos ho6 (by omega)
      have HO6 : Hid (w6.ownsRow K5 83 3 (.slice (some ⟨g6, 0, none⟩) (j + 1) c6') (j + 1) (((list.take (j + 1)).reverse.map rpRow).flatten)) := Lib.hid (by
        rw [HTK.out, List.map_cons, List.flatten_cons, HXS.out, Nat.add_comm j 1]; exact ho6)
      have HZ6 : Hid (K5 ≤ w6.heap.size) := Lib.hid (Nat.le_trans HZ.out (Nat.le_trans HBL.out.size hg6.size))
      have HB6 : Hid (Below w4.heap.size w4 w6) := Lib.hid ((HBr.out.trans (HBL.out.mono HBr.out.size)).trans (below_grownBy hg6 (Nat.le_trans HBr.out.size HBL.out.size) (fun q hq => by cases hq; exact HBr.out.size)))
      rw [Nat.add_comm 1 j]
      clear ho6 hg6 hat6 HOL HOW2 p0 p1 p2
      go_wp2_with fail
      go_roundw
      case rel => exact ⟨j + 1, g6, c6', rfl, by omega, by go_num, HO6, HZ6, HB6⟩
      case measure => simp [intOf]; omega
    · obtain rfl : j = m := by omega
      have HB9 := HBr
      have hsz5 := HZ
      obtain ⟨b0, hb0⟩ : ∃ b, decide (0 < j) = b := ⟨_, rfl⟩
      have hb1 : decide ((0 : Int) < (j : Int)) = b0 := by rw [← hb0]; simp
      have HB0 : Hid (b0 = decide (0 < j)) := Lib.hid hb0.symm
      have HTAK : Hid (list.take j = list) := Lib.hid (List.take_of_length_le (by rw [HM.out]; exact Nat.le_refl _))
      go_upto_if 50 with fail
      clear hb0 hb1
      go_cut [10] from 51 to 61 (fun bv wx => ∃ (g2 c2 q : Nat), bv = .slice (some ⟨g2, 0, none⟩) q c2 ∧ Hid ((backL list tw.toNat).length = q) ∧ Hid (wx.ownsRow K5 83 3 (.slice (some ⟨g2, 0, none⟩) q c2) q (((backL list tw.toNat).map rpRow).flatten)) ∧ Hid (Below w4.heap.size w4 wx))
      case first =>
        cases b0
        · have hj0 : j = 0 := by have := HB0.out; simp at this; exact this
          have hl0 : list = [] := List.length_eq_zero_iff.1 (by rw [HM.out]; exact hj0)
          have HBK : Hid (backL list tw.toNat = []) := Lib.hid (by rw [hl0]; rfl)
          have HX0 : Hid (XS = []) := Lib.hid (by rw [← HXS.out, HTAK.out, hl0]; rfl)
          have HJ0 := Lib.hid hj0
          clear hj0 hl0
          go_wp2
          go_meet
          case rel => exact ⟨g, c, j, rfl, Lib.hid (by rw [HBK.out, HJ0.out]; rfl), Lib.hid (by rw [HBK.out]; have h := HOW.out; rw [HX0.out] at h; exact h), HBr⟩
        · have hj0 : 0 < j := by have := HB0.out; simp at this; exact this
          have hlne : list ≠ [] := fun e => by have := HM.out; rw [e] at this; simp at this; omega
          obtain ⟨hmo, y, hy, hym, hyt⟩ := twL_at hlne tw.toNat
          rw [HM.out] at hmo hy
          obtain ⟨rt, rs, rl⟩ := y
          obtain ⟨d, hd⟩ : ∃ d, tw.toNat % j = d := ⟨_, rfl⟩
          rw [hd] at hmo hy
          have tm : tw.tmod (j : Int) = (d : Int) := by rw [← hd, ← tmodN]; congr 1; have := HTW.out; omega
          have HBK : Hid (backL list tw.toNat = list.reverse ++ [⟨rt, rs, rl⟩]) := Lib.hid (by unfold backL; rw [hyt])
          have hsl := SlN.of_ownsN (base := K5) (e := 83) (rows := list.reverse.map rpRow) (k := 3) (W := wo) (v := .slice (some ⟨g, 0, none⟩) j c) (by rw [List.length_map, List.length_reverse, HM.out]; have h := HOW.out; rw [← HXS.out, HTAK.out] at h; exact h) (fun q hq => by obtain ⟨z, _, rfl⟩ := List.mem_map.1 hq; rfl)
          have hdl : d < (list.reverse.map rpRow).length := by rw [List.length_map, List.length_reverse, HM.out]; exact hmo
          obtain ⟨qb, qf, hqa, -, -, hc⟩ := hsl.cell (i := d) hdl
          cases hqa
          have hrow : (list.reverse.map rpRow)[d]'hdl = [.int .i64 rt, .int .i64 rs, .int .i64 rl] := by
            have h := (List.getElem?_eq_some_iff.1 hy).2
            rw [List.getElem_map, h]; rfl
          rw [hrow] at hc
          have p0 := hc 0 _ rfl
          have p1 := hc 1 _ rfl
          have p2 := hc 2 _ rfl
          simp only [Nat.zero_add, Nat.add_zero] at p0 p1 p2
          have hdi : (d : Int) < (j : Int) := by omega
          have wtw : wrap64 tw = tw := by have := HTW.out; unfold wrap64; omega
          have hj1 : ¬ (j : Int) = 0 := by omega
          have hj2 : ((j : Int) == 0) = false := beq_eq_false_iff_ne.2 hj1
          have HMJ : Hid (j + 1 ≤ 100000) := Lib.hid (by omega)
          have hbl : Below wo.heap.size wo (wo.alloc (.cells #[.int .i64 rt, .int .i64 rs, .int .i64 rl] 83)) := aB _ _
          have HBL := Lib.hid hbl
          clear hd hmo hy hym hyt hsl hdl hc hrow hlne hj0 hbl
          go_wp2_with (at_builtin; refine wpList_appendN rfl (.tmp 51) (.tmp 60) 53 rfl K5 83 (.agg #[.int .i64 0, .int .i64 0, .int .i64 0]) 3 24 Tryz.underlying53 info_rp rfl (by decide) (.slice (some ⟨g, 0, none⟩) j c) j XS rfl (HOW.out.alloc _) wo.heap.size 0 1 1 (rpRow ⟨rt, rs, rl⟩) rfl rfl (fun q u hq => by rw [cell_of_heap (World.alloc_heap_new _ _), Nat.zero_add]; simpa [rpRow] using hq) (rpRow_one _) HMJ.out (by decide) (by have := HZ.out; simp; omega) ?_)
          intro v6 w6 ho6 hg6 hat6
          obtain ⟨g6, c6', rfl⟩ := own_pos ho6 (by omega)
          have HO6 : Hid (w6.ownsRow K5 83 3 (.slice (some ⟨g6, 0, none⟩) (j + 1) c6') (j + 1) (((backL list tw.toNat).map rpRow).flatten)) := Lib.hid (by
            rw [HBK.out, List.map_append, List.flatten_append]
            have h := HXS.out
            rw [HTAK.out] at h
            rw [h]; simpa using ho6)
          have HB6 : Hid (Below w4.heap.size w4 w6) := Lib.hid ((HBr.out.trans (HBL.out.mono HBr.out.size)).trans (below_grownBy hg6 (Nat.le_trans HBr.out.size HBL.out.size) (fun q hq => by have := (HOW.out.lt q hq).1; rw [HK5.out]; exact this)))
          have HLQ : Hid ((backL list tw.toNat).length = j + 1) := Lib.hid (by rw [HBK.out, List.length_append, List.length_reverse, HM.out]; rfl)
          clear ho6 hg6 hat6 p0 p1 p2
          go_wp2_with fail
          go_meet
          case rel => exact ⟨g6, c6', j + 1, rfl, HLQ, HO6, HB6⟩
      case rest =>
        obtain ⟨g2, c2', q, rfl, HLQ, HBW, HBq⟩ := hcut
        obtain ⟨w6, rfl⟩ : ∃ y : World, y = wc := ⟨_, rfl⟩
        have hbq := HBq.out
        have HV4 : Hid (SlN 3 (fun q => K5 ≤ q) w6 (.slice (some ⟨g2, 0, none⟩) q c2') ((backL list tw.toNat).map rpRow)) := Lib.hid (SlN.of_ownsN (by rw [List.length_map, HLQ.out]; exact HBW.out) (fun y hy => by obtain ⟨z, _, rfl⟩ := List.mem_map.1 hy; rfl))
        have HV6 := HV4
        have hq9 : Hid (q ≤ 20) := Lib.hid (by rw [← HLQ.out]; unfold backL twL; rw [List.length_append, List.length_reverse, HM.out]; split <;> simp <;> omega)
        have hbs := back_same (l := l) list tw.toNat
        have HBB : Hid (∀ y ∈ backL list tw.toNat, badR l.turns y = false) := Lib.hid (fun y hy => HLB.out y (mem_back.1 hy))
        have HBT : Hid (HasTruth l (allS (backL list tw.toNat))) := Lib.hid (hbs.1.2 HTR.out)
        have HBE2 := Lib.hid hbs.2
        clear hbs HBW HV4 HB9 hsz5 HOW HZ HBr HBq
        have HB6 := Lib.hid (bThen HB4.out hbq)
        have HBS6 := Lib.hid (HBS4.out.below hbq)
        have HO6 := Lib.hid (HO4.out.below hbq)
        have HT6 := Lib.hid (HT4.out.below hbq)
        have HR6 := Lib.hid (HR4.out.below hbq)
        clear HB4 HBS4 HO4 HT4 HR4
        have c0 := bAt hbq c0
        have c1 := bAt hbq c1
        have c2 := bAt hbq c2
        have c3 := bAt hbq c3
        have c4 := bAt hbq c4
        have c5 := bAt hbq c5
        have c6 := bAt hbq c6
        clear hbq
        go_wp2_with fail
        have hcall := own_any l (.slice ba nb bc) w6 HBS6.out (by rw [HBE.out, HNB.out]; have := HN6.out; omega)
        unfold legV legA at hcall
        refine hcall.mono ?_
        rintro e w7 ⟨bv7, rfl, hb7, ho7⟩
        clear hcall
        obtain ⟨oa7, oc7, rfl, -, -⟩ := ho7.form
        rw [ints_length, HBE.out, HNB.out] at ho7 ⊢
        have HBO7 : Hid (Sl (fun q => w6.heap.size ≤ q) w7 (.slice oa7 nb oc7) (ints l.beds)) := Lib.hid (by rw [HBE.out]; exact ho7)
        have HB7 := Lib.hid (bThen HB6.out hb7)
        have HBS7 := Lib.hid (HBS6.out.below hb7)
        have HO7 := Lib.hid (HO6.out.below hb7)
        have HT7 := Lib.hid (HT6.out.below hb7)
        have HR7 := Lib.hid (HR6.out.below hb7)
        have HV7 := Lib.hid (HV6.out.below hb7)
        clear ho7 HB6 HBS6 HO6 HT6 HR6 HV6
        have c0 := bAt hb7 c0
        have c1 := bAt hb7 c1
        have c2 := bAt hb7 c2
        have c3 := bAt hb7 c3
        have c4 := bAt hb7 c4
        have c5 := bAt hb7 c5
        have c6 := bAt hb7 c6
        clear hb7
        go_wp2_with fail
        have hcall := told_any list (.slice ra j rc) w7 HR7.out (by rw [HM.out]; omega)
        refine hcall.mono ?_
        rintro e w8' ⟨lv2, rfl, hb8, hlv2⟩
        obtain ⟨w8, rfl⟩ : ∃ y : World, y = w8' := ⟨_, rfl⟩
        clear hcall
        have HLV8 := Lib.hid hlv2
        have HBO8 := Lib.hid (HBO7.out.below hb8)
        have HB8 := Lib.hid (bThen HB7.out hb8)
        have HBS8 := Lib.hid (HBS7.out.below hb8)
        have HO8 := Lib.hid (HO7.out.below hb8)
        have HT8 := Lib.hid (HT7.out.below hb8)
        have HR8 := Lib.hid (HR7.out.below hb8)
        have HV8 := Lib.hid (HV7.out.below hb8)
        clear HB7 HBS7 HO7 HT7 HR7 HV7
        have c0 := bAt hb8 c0
        have c1 := bAt hb8 c1
        have c2 := bAt hb8 c2
        have c3 := bAt hb8 c3
        have c4 := bAt hb8 c4
        have c5 := bAt hb8 c5
        have c6 := bAt hb8 c6
        clear hb8 hlv2 HBO7
        go_wp2_with fail
        have hcall := truth_ok l (.slice oa7 nb oc7) lv2 list n HTN.out w8 HBO8.out HBI.out HLV8.out HCK.out (by rw [HM.out]; omega) HLB.out HTR.out
        unfold legV legA at hcall
        refine hcall.mono ?_
        rintro e w9 ⟨g1, g2x, g3, rfl, hb9, h1, h2, h3⟩
        clear hcall
        have HG1 := Lib.hid h1
        have HG2 := Lib.hid h2
        have HG3 := Lib.hid h3
        have HB9 := Lib.hid (bThen HB8.out hb9)
        have HBS9 := Lib.hid (HBS8.out.below hb9)
        have HO9 := Lib.hid (HO8.out.below hb9)
        have HT9 := Lib.hid (HT8.out.below hb9)
        have HR9 := Lib.hid (HR8.out.below hb9)
        have HV9 := Lib.hid (HV8.out.below hb9)
        clear HB8 HBS8 HO8 HT8 HR8 HV8
        have c0 := bAt hb9 c0
        have c1 := bAt hb9 c1
        have c2 := bAt hb9 c2
        have c3 := bAt hb9 c3
        have c4 := bAt hb9 c4
        have c5 := bAt hb9 c5
        have c6 := bAt hb9 c6
        clear hb9 h1 h2 h3 HBO8 HLV8
        go_wp2_with fail
        have hcall := own_any l (.slice ba nb bc) w9 HBS9.out (by rw [HBE.out, HNB.out]; have := HN6.out; omega)
        unfold legV legA at hcall
        refine hcall.mono ?_
        rintro e w10 ⟨bv10, rfl, hb10, ho10⟩
        clear hcall
        obtain ⟨oa10, oc10, rfl, -, -⟩ := ho10.form
        rw [ints_length, HBE.out, HNB.out] at ho10 ⊢
        have HBO10 : Hid (Sl (fun q => w9.heap.size ≤ q) w10 (.slice oa10 nb oc10) (ints l.beds)) := Lib.hid (by rw [HBE.out]; exact ho10)
        have HB10 := Lib.hid (bThen HB9.out hb10)
        have HBS10 := Lib.hid (HBS9.out.below hb10)
        have HO10 := Lib.hid (HO9.out.below hb10)
        have HT10 := Lib.hid (HT9.out.below hb10)
        have HR10 := Lib.hid (HR9.out.below hb10)
        have HV10 := Lib.hid (HV9.out.below hb10)
        clear ho10 HB9 HBS9 HO9 HT9 HR9 HV9
        have c0 := bAt hb10 c0
        have c1 := bAt hb10 c1
        have c2 := bAt hb10 c2
        have c3 := bAt hb10 c3
        have c4 := bAt hb10 c4
        have c5 := bAt hb10 c5
        have c6 := bAt hb10 c6
        have HG1 := Lib.hid (HG1.out.below hb10)
        have HG2 := Lib.hid (HG2.out.below hb10)
        have HG3 := Lib.hid (HG3.out.below hb10)
        clear hb10
        go_wp2_with fail
        have hcall := told_any (backL list tw.toNat) (.slice (some ⟨g2, 0, none⟩) q c2') w10 HV10.out (by rw [HLQ.out]; have := hq9.out; omega)
        refine hcall.mono ?_
        rintro e w11 ⟨lv3, rfl, hb11, hlv3⟩
        clear hcall
        have HLV11 := Lib.hid hlv3
        have HBO11 := Lib.hid (HBO10.out.below hb11)
        have HG1 := Lib.hid (HG1.out.below hb11)
        have HG2 := Lib.hid (HG2.out.below hb11)
        have HG3 := Lib.hid (HG3.out.below hb11)
        have HB11 := Lib.hid (bThen HB10.out hb11)
        have HBS11 := Lib.hid (HBS10.out.below hb11)
        have HO11 := Lib.hid (HO10.out.below hb11)
        have HT11 := Lib.hid (HT10.out.below hb11)
        have HR11 := Lib.hid (HR10.out.below hb11)
        clear HB10 HBS10 HO10 HT10 HR10
        have c0 := bAt hb11 c0
        have c1 := bAt hb11 c1
        have c2 := bAt hb11 c2
        have c3 := bAt hb11 c3
        have c4 := bAt hb11 c4
        have c5 := bAt hb11 c5
        have c6 := bAt hb11 c6
        clear hb11 hlv3 HBO10 HV10
        go_wp2_with fail
        have hcall := truth_ok l (.slice oa10 nb oc10) lv3 (backL list tw.toNat) n HTN.out w11 HBO11.out HBI.out HLV11.out HCK.out (by rw [HLQ.out]; have := hq9.out; omega) HBB.out HBT.out
        unfold legV legA at hcall
        rw [HBE2.out.1, HBE2.out.2.1, HBE2.out.2.2] at hcall
        refine hcall.mono ?_
        rintro e w12 ⟨f1, f2, f3, rfl, hb12, h1, h2, h3⟩
        clear hcall
        have HF1 := Lib.hid h1
        have HF2 := Lib.hid h2
        have HF3 := Lib.hid h3
        have HG1 := Lib.hid (HG1.out.below hb12)
        have HG2 := Lib.hid (HG2.out.below hb12)
        have HG3 := Lib.hid (HG3.out.below hb12)
        have HB12 := Lib.hid (bThen HB11.out hb12)
        have HBS12 := Lib.hid (HBS11.out.below hb12)
        have HO12 := Lib.hid (HO11.out.below hb12)
        have HT12 := Lib.hid (HT11.out.below hb12)
        have HR12 := Lib.hid (HR11.out.below hb12)
        clear HB11 HBS11 HO11 HT11 HR11
        have c0 := bAt hb12 c0
        have c1 := bAt hb12 c1
        have c2 := bAt hb12 c2
        have c3 := bAt hb12 c3
        have c4 := bAt hb12 c4
        have c5 := bAt hb12 c5
        have c6 := bAt hb12 c6
        clear hb12 h1 h2 h3 HBO11 HLV11
        go_wp2_with fail
        have hcall := holds_any F.out n HNN.out _ _ _ HIN.out (.slice oa n oc) g1 g2x g3 w12 HO12.out HG1.out HG2.out HG3.out
        refine hcall.mono ?_
        rintro e w13 ⟨rfl, hb13⟩
        clear hcall
        have HG1 := Lib.hid (HG1.out.below hb13)
        have HG2 := Lib.hid (HG2.out.below hb13)
        have HG3 := Lib.hid (HG3.out.below hb13)
        have HF1 := Lib.hid (HF1.out.below hb13)
        have HF2 := Lib.hid (HF2.out.below hb13)
        have HF3 := Lib.hid (HF3.out.below hb13)
        have HB13 := Lib.hid (bThen HB12.out hb13)
        have HBS13 := Lib.hid (HBS12.out.below hb13)
        have HO13 := Lib.hid (HO12.out.below hb13)
        have HT13 := Lib.hid (HT12.out.below hb13)
        have HR13 := Lib.hid (HR12.out.below hb13)
        clear HB12 HBS12 HO12 HT12 HR12
        have c0 := bAt hb13 c0
        have c1 := bAt hb13 c1
        have c2 := bAt hb13 c2
        have c3 := bAt hb13 c3
        have c4 := bAt hb13 c4
        have c5 := bAt hb13 c5
        have c6 := bAt hb13 c6
        clear hb13
        go_wp2_with fail
        have hcall := holds_any F.out n HNN.out _ _ _ HIN.out (.slice oa n oc) f1 f2 f3 w13 HO13.out HF1.out HF2.out HF3.out
        refine hcall.mono ?_
        rintro e wa ⟨rfl, hba⟩
        clear hcall
        have HG1 := Lib.hid (HG1.out.below hba)
        have HG2 := Lib.hid (HG2.out.below hba)
        have HG3 := Lib.hid (HG3.out.below hba)
        have HF1 := Lib.hid (HF1.out.below hba)
        have HF2 := Lib.hid (HF2.out.below hba)
        have HF3 := Lib.hid (HF3.out.below hba)
        have HBa := Lib.hid (bThen HB13.out hba)
        have HBSa := Lib.hid (HBS13.out.below hba)
        have HOa := Lib.hid (HO13.out.below hba)
        have HTa := Lib.hid (HT13.out.below hba)
        have HRa := Lib.hid (HR13.out.below hba)
        clear HB13 HBS13 HO13 HT13 HR13
        have c0 := bAt hba c0
        have c1 := bAt hba c1
        have c2 := bAt hba c2
        have c3 := bAt hba c3
        have c4 := bAt hba c4
        have c5 := bAt hba c5
        have c6 := bAt hba c6
        clear hba
        by_cases hn0 : n = 0
        · have d0 : ((n : Int) == 0) = true := beq_iff_eq.2 (by omega)
          clear hn0
          go_wp2_with fail
          refine (known_any wa HTa.out).mono ?_
          rintro e wz ⟨rfl, hbz⟩
          have HBZ := Lib.hid (bThen HBa.out hbz)
          clear hbz
          go_wp2
          go_returns
          exact ⟨rfl, HBZ.out⟩
        · have d0 : ((n : Int) == 0) = false := beq_eq_false_iff_ne.2 (by omega)
          have d1 : ¬ (n : Int) = 0 := by omega
          obtain ⟨tu, htu⟩ : ∃ z, mo.toNat % n = z := ⟨_, rfl⟩
          have htul : tu < n := by rw [← htu]; exact Nat.mod_lt _ (by omega)
          have tm : mo.tmod (n : Int) = (tu : Int) := by rw [← htu, ← tmodN]; congr 1; have := HMO.out; omega
          have wmo : wrap64 mo = mo := by have := HMO.out; unfold wrap64; omega
          clear htu
          have htl : tu < F.out.length := by rw [HNN.out]; exact htul
          obtain ⟨sp, hsp⟩ : ∃ s, F.out[tu] = s := ⟨_, rfl⟩
          have hsa : F.out[tu]? = some sp := by rw [List.getElem?_eq_getElem htl, hsp]
          obtain ⟨ob, ofx, hoa, -, -, hc⟩ := HOa.out.cell (i := tu) (by rw [List.length_map]; exact htl)
          cases hoa
          have hrow : (F.out.map visRw)[tu]'(by rw [List.length_map]; exact htl) = visRw sp := by rw [List.getElem_map, hsp]
          rw [hrow] at hc
          have p0 := hc 0 (.int .i64 sp.score) rfl
          have p1 := hc 1 (.int .i64 sp.en.left) rfl
          rw [Nat.add_zero] at p0
          have hmt := HMT.out tu sp hsa
          obtain ⟨sc, hsc⟩ : ∃ z, sp.score = z := ⟨_, rfl⟩
          obtain ⟨le, hle⟩ : ∃ z, sp.en.left = z := ⟨_, rfl⟩
          rw [hsc] at p0 hmt
          rw [hle] at p1 hmt
          obtain ⟨r, hr⟩ : ∃ r : Rp, r = ⟨tu, sc, le⟩ := ⟨_, rfl⟩
          rw [← hr] at hmt
          have HRW : Hid (rpRow r = [.int .i64 (tu : Int), .int .i64 sc, .int .i64 le]) := Lib.hid (by rw [hr]; rfl)
          have HTR2 := Lib.hid hmt.1
          have HIN2 := Lib.hid hmt.2.1
          have HLR : Hid (∀ y ∈ list ++ [r], badR l.turns y = false) := Lib.hid (fun y hy => (List.mem_append.1 hy).elim (HLB.out y) fun hy => by rw [List.mem_singleton] at hy; rw [hy]; exact hmt.2.2)
          have hti : (tu : Int) < (n : Int) := by omega
          obtain ⟨wz, hwz⟩ : ∃ y, y = wa := ⟨_, rfl⟩
          subst hwz
          have HBSz := HBSa
          have HRz := HRa
          clear htl hsp hsa hc hrow hmt hsc hle hr
          go_upto_region 16 with fail
          have hown : ∀ W, Below wz.heap.size wz W → Calls Tryz.prog 14 #[.agg #[.int .i64 l.start, .int .i64 l.gin, .int .i64 l.gout, .slice ba nb bc, .int .i64 l.players, .int .i64 l.turns, .bool l.won]] W fun e w' => ∃ bv', e = .returned (legV l bv') ∧ Below W.heap.size W w' ∧ Sl (fun q => W.heap.size ≤ q) w' bv' (ints l.beds) := fun W hW =>
            own_any l (.slice ba nb bc) W (HBSz.out.below hW) (by rw [HBE.out, HNB.out]; have := HN6.out; omega)
          have htold : ∀ W, Below wz.heap.size wz W → Calls Tryz.prog 24 #[.slice ra j rc] W fun e w' => ∃ v, e = .returned v ∧ Below W.heap.size W w' ∧ w'.ownsRow W.heap.size 83 3 v j ((list.map rpRow).flatten) := fun W hW => by
            have h := told_own list (.slice ra j rc) W (HRz.out.below hW) (by rw [HM.out]; omega)
            rw [HM.out] at h
            exact h
          have htruth : ∀ W (xa : Option Addr) (y : Nat) (v2 : Value) (S2 : Nat → Prop) (B2 : Nat), Sl S2 W (.slice xa nb y) (ints l.beds) → W.ownsRow B2 83 3 v2 (j + 1) (((list.map rpRow).flatten) ++ rpRow r) → Calls Tryz.prog 25 #[.agg #[.int .i64 l.start, .int .i64 l.gin, .int .i64 l.gout, .slice xa nb y, .int .i64 l.players, .int .i64 l.turns, .bool l.won], v2] W fun e w' => ∃ g1 g2 g3, e = .returned (tupT n g1 g2 g3) ∧ Below W.heap.size W w' ∧ SpansAt w' g1 n (scF l (list ++ [r])) ∧ SpansAt w' g2 n (leF l (list ++ [r])) ∧ SpansAt w' g3 n (daF l (list ++ [r])) := fun W xa y v2 S2 B2 hs ho =>
            truth_ok l (.slice xa nb y) v2 (list ++ [r]) n HTN.out W hs HBI.out (SlN.of_ownsN (base := B2) (e := 83) (by rw [List.length_map, List.length_append, HM.out, List.map_append, List.flatten_append]; simpa using ho) (fun q hq => by obtain ⟨y, _, rfl⟩ := List.mem_map.1 hq; rfl)) HCK.out (by rw [List.length_append, HM.out]; simp; omega) HLR.out HTR2.out
          refine wp_region_seqV 28 ((fun v => v = .agg #[.int .i64 l.start, .int .i64 l.gin, .int .i64 l.gout, .slice ba nb bc, .int .i64 l.players, .int .i64 l.turns, .bool l.won]) :: (fun v => ∃ p : Option Addr × Nat, v = .agg #[.int .i64 l.start, .int .i64 l.gin, .int .i64 l.gout, .slice p.1 nb p.2, .int .i64 l.players, .int .i64 l.turns, .bool l.won]) :: (fun v => v = .slice ra j rc) :: (fun v => ∃ p : Option Addr × Nat, v = .slice p.1 j p.2) :: (fun v => v = .int .i64 (tu : Int)) :: (fun v => v = .slice (some ⟨ob, ofx, none⟩) n oc) :: (fun v => v = .int .i64 (tu : Int)) :: (fun v => v = .pointer (some ⟨ob, ofx + tu * 3, none⟩)) :: (fun v => v = .pointer (some ⟨ob, ofx + tu * 3, none⟩)) :: (fun v => v = .int .i64 sc) :: (fun v => v = .slice (some ⟨ob, ofx, none⟩) n oc) :: (fun v => v = .int .i64 (tu : Int)) :: (fun v => v = .pointer (some ⟨ob, ofx + tu * 3, none⟩)) :: (fun v => v = .pointer (some ⟨ob, ofx + tu * 3 + 1, none⟩)) :: (fun v => v = .int .i64 le) :: (fun v => v = .agg #[.int .i64 (tu : Int), .int .i64 sc, .int .i64 le]) :: (fun v => ∃ q, v = .slice (some ⟨q, 0, none⟩) 1 1) :: (fun v => ∃ p : Option Addr × Nat, v = .slice p.1 (j + 1) p.2) :: (fun v => ∃ p : Nat × Nat × Nat, v = tupT n p.1 p.2.1 p.2.2) :: (fun v => ∃ p : Nat × Nat × Nat, v = tupT n p.1 p.2.1 p.2.2) :: (fun v => ∃ g, v = slT n g) :: (fun v => ∃ g, v = slT n g) :: (fun v => ∃ g, v = slT n g) :: (fun v => v = .int .i64 0) :: (fun v => ∃ g, v = slT n g) :: (fun v => ∃ g, v = slT n g) :: (fun v => ∃ g, v = slT n g) :: (fun v => v = .int .i64 0) :: []) (JT l nb j ((list.map rpRow).flatten) (rpRow r) 1 3 16 17 18 n (scF l (list ++ [r])) (leF l (list ++ [r])) (daF l (list ++ [r])) wz) rfl mix (by kernel_rfl) (by kernel_rfl) (fun _ _ _ _ hc h => h.congr hc) (fun vs => JT.start vs) ?_
          simp only [List.take_succ_cons, List.take_zero]
          refine sv_new ⟨_, rfl⟩ rfl (fun W L vs hvs hL hj hd => ?_) ?_
          · simp only [List.length_nil] at hL ⊢
            have q0 := bAt hj.base.below c0
            have q1 := bAt hj.base.below c1
            have q2 := bAt hj.base.below c2
            have q3 := bAt hj.base.below c3
            have q4 := bAt hj.base.below c4
            have q5 := bAt hj.base.below c5
            have q6 := bAt hj.base.below c6
            exact opOK_val (v := .agg #[.int .i64 l.start, .int .i64 l.gin, .int .i64 l.gout, .slice ba nb bc, .int .i64 l.players, .int .i64 l.turns, .bool l.won]) (w' := W) (by simp [go_sem, execOp, q0, q1, q2, q3, q4, q5, q6]) ⟨rfl, hj.oth (by decide) (by decide) (by decide) (by decide) (by decide)⟩
          rintro _ rfl
          simp only [Act.put, List.setIfInBounds_toArray, List.set_cons_succ, List.set_cons_zero]
          refine sv_new ⟨_, (none, 0), rfl⟩ rfl (fun W L vs hvs hL hj hd => ?_) ?_
          · simp only [List.length_append, List.length_cons, List.length_nil, Nat.zero_add] at hL ⊢
            have h6 : L 17 = false := by
              cases e : L 17 with
              | false => rfl
              | true => rw [hj.base.d3 (hj.base.d6 e).1] at hL; cases hL
            refine opOK_call (f := 14) (args := #[.agg #[.int .i64 l.start, .int .i64 l.gin, .int .i64 l.gout, .slice ba nb bc, .int .i64 l.players, .int .i64 l.turns, .bool l.won]]) (by simp [go_sem]) ?_
            refine (hown W hj.base.below).mono ?_
            rintro e w' ⟨bv', rfl, hb3, hs3⟩
            obtain ⟨xa, y, rfl, -, -⟩ := hs3.form
            rw [ints_length, HBE.out, HNB.out] at hs3 ⊢
            rw [← HBE.out] at hs3
            exact ⟨_, rfl, ⟨(xa, y), rfl⟩, hj.low (by decide) h6 (hj.base.own1 hL hb3 hs3 (by decide) (by decide) (by decide))⟩
          rintro _ ⟨⟨xo, yo⟩, rfl⟩
          simp only [Act.put, List.setIfInBounds_toArray, List.set_cons_succ, List.set_cons_zero]
          refine sv_new ⟨_, rfl⟩ rfl (fun W L vs hvs hL hj hd => ?_) ?_
          · simp only [List.length_append, List.length_cons, List.length_nil, Nat.zero_add, Nat.reduceAdd] at hL ⊢
            exact opOK_val (v := .slice ra j rc) (w' := W) (by simp [go_sem, execOp]) ⟨rfl, hj.oth (by decide) (by decide) (by decide) (by decide) (by decide)⟩
          rintro _ rfl
          simp only [Act.put, List.setIfInBounds_toArray, List.set_cons_succ, List.set_cons_zero]
          refine sv_new ⟨_, (none, 0), rfl⟩ rfl (fun W L vs hvs hL hj hd => ?_) ?_
          · simp only [List.length_append, List.length_cons, List.length_nil, Nat.zero_add, Nat.reduceAdd] at hL ⊢
            have h6 : L 17 = false := by
              cases e : L 17 with
              | false => rfl
              | true => rw [(hj.base.d6 e).1] at hL; cases hL
            refine opOK_call (f := 24) (args := #[.slice ra j rc]) (by simp [go_sem]) ?_
            refine (htold W hj.base.below).mono ?_
            rintro e w' ⟨v, rfl, hb3, ho3⟩
            obtain ⟨xa, y, rfl⟩ := owns_form ho3
            exact ⟨_, rfl, ⟨(xa, y), rfl⟩, hj.low (by decide) h6 (hj.base.told3 (hd ⟨1, .chain⟩ (by simp) rfl) hL hb3 ho3 (by decide) (by decide) (by decide))⟩
          rintro _ ⟨⟨xt, yt⟩, rfl⟩
          simp only [Act.put, List.setIfInBounds_toArray, List.set_cons_succ, List.set_cons_zero]
          refine sv_new ⟨_, rfl⟩ rfl (fun W L vs hvs hL hj hd => ?_) ?_
          · simp only [List.length_append, List.length_cons, List.length_nil, Nat.zero_add, Nat.reduceAdd] at hL ⊢
            exact opOK_val (v := .int .i64 (tu : Int)) (w' := W) (by simp [go_sem, execOp]) ⟨rfl, hj.oth (by decide) (by decide) (by decide) (by decide) (by decide)⟩
          rintro _ rfl
          simp only [Act.put, List.setIfInBounds_toArray, List.set_cons_succ, List.set_cons_zero]
          refine sv_new ⟨_, rfl⟩ rfl (fun W L vs hvs hL hj hd => ?_) ?_
          · simp only [List.length_append, List.length_cons, List.length_nil, Nat.zero_add, Nat.reduceAdd] at hL ⊢
            exact opOK_val (v := .slice (some ⟨ob, ofx, none⟩) n oc) (w' := W) (by simp [go_sem, execOp]) ⟨rfl, hj.oth (by decide) (by decide) (by decide) (by decide) (by decide)⟩
          rintro _ rfl
          simp only [Act.put, List.setIfInBounds_toArray, List.set_cons_succ, List.set_cons_zero]
          refine sv_new ⟨_, rfl⟩ rfl (fun W L vs hvs hL hj hd => ?_) ?_
          · simp only [List.length_append, List.length_cons, List.length_nil, Nat.zero_add, Nat.reduceAdd] at hL ⊢
            exact opOK_val (v := .int .i64 (tu : Int)) (w' := W) (by simp [go_sem, execOp]) ⟨rfl, hj.oth (by decide) (by decide) (by decide) (by decide) (by decide)⟩
          rintro _ rfl
          simp only [Act.put, List.setIfInBounds_toArray, List.set_cons_succ, List.set_cons_zero]
          refine sv_new ⟨_, rfl⟩ rfl (fun W L vs hvs hL hj hd => ?_) ?_
          · simp only [List.length_append, List.length_cons, List.length_nil, Nat.zero_add, Nat.reduceAdd] at hL ⊢
            exact opOK_val (v := .pointer (some ⟨ob, ofx + tu * 3, none⟩)) (w' := W) (by simp [go_sem, execOp, hti]) ⟨rfl, hj.oth (by decide) (by decide) (by decide) (by decide) (by decide)⟩
          rintro _ rfl
          simp only [Act.put, List.setIfInBounds_toArray, List.set_cons_succ, List.set_cons_zero]
          refine sv_new ⟨_, rfl⟩ rfl (fun W L vs hvs hL hj hd => ?_) ?_
          · simp only [List.length_append, List.length_cons, List.length_nil, Nat.zero_add, Nat.reduceAdd] at hL ⊢
            exact opOK_val (v := .pointer (some ⟨ob, ofx + tu * 3, none⟩)) (w' := W) (by simp [go_sem, execOp]) ⟨rfl, hj.oth (by decide) (by decide) (by decide) (by decide) (by decide)⟩
          rintro _ rfl
          simp only [Act.put, List.setIfInBounds_toArray, List.set_cons_succ, List.set_cons_zero]
          refine sv_new ⟨_, rfl⟩ rfl (fun W L vs hvs hL hj hd => ?_) ?_
          · simp only [List.length_append, List.length_cons, List.length_nil, Nat.zero_add, Nat.reduceAdd] at hL ⊢
            have pp := bAt hj.base.below p0
            exact opOK_val (v := .int .i64 sc) (w' := W) (by simp [go_sem, execOp, pp]) ⟨rfl, hj.oth (by decide) (by decide) (by decide) (by decide) (by decide)⟩
          rintro _ rfl
          simp only [Act.put, List.setIfInBounds_toArray, List.set_cons_succ, List.set_cons_zero]
          refine sv_new ⟨_, rfl⟩ rfl (fun W L vs hvs hL hj hd => ?_) ?_
          · simp only [List.length_append, List.length_cons, List.length_nil, Nat.zero_add, Nat.reduceAdd] at hL ⊢
            exact opOK_val (v := .slice (some ⟨ob, ofx, none⟩) n oc) (w' := W) (by simp [go_sem, execOp]) ⟨rfl, hj.oth (by decide) (by decide) (by decide) (by decide) (by decide)⟩
          rintro _ rfl
          simp only [Act.put, List.setIfInBounds_toArray, List.set_cons_succ, List.set_cons_zero]
          refine sv_new ⟨_, rfl⟩ rfl (fun W L vs hvs hL hj hd => ?_) ?_
          · simp only [List.length_append, List.length_cons, List.length_nil, Nat.zero_add, Nat.reduceAdd] at hL ⊢
            exact opOK_val (v := .int .i64 (tu : Int)) (w' := W) (by simp [go_sem, execOp]) ⟨rfl, hj.oth (by decide) (by decide) (by decide) (by decide) (by decide)⟩
          rintro _ rfl
          simp only [Act.put, List.setIfInBounds_toArray, List.set_cons_succ, List.set_cons_zero]
          refine sv_new ⟨_, rfl⟩ rfl (fun W L vs hvs hL hj hd => ?_) ?_
          · simp only [List.length_append, List.length_cons, List.length_nil, Nat.zero_add, Nat.reduceAdd] at hL ⊢
            exact opOK_val (v := .pointer (some ⟨ob, ofx + tu * 3, none⟩)) (w' := W) (by simp [go_sem, execOp, hti]) ⟨rfl, hj.oth (by decide) (by decide) (by decide) (by decide) (by decide)⟩
          rintro _ rfl
          simp only [Act.put, List.setIfInBounds_toArray, List.set_cons_succ, List.set_cons_zero]
          refine sv_new ⟨_, rfl⟩ rfl (fun W L vs hvs hL hj hd => ?_) ?_
          · simp only [List.length_append, List.length_cons, List.length_nil, Nat.zero_add, Nat.reduceAdd] at hL ⊢
            exact opOK_val (v := .pointer (some ⟨ob, ofx + tu * 3 + 1, none⟩)) (w' := W) (by simp [go_sem, execOp]) ⟨rfl, hj.oth (by decide) (by decide) (by decide) (by decide) (by decide)⟩
          rintro _ rfl
          simp only [Act.put, List.setIfInBounds_toArray, List.set_cons_succ, List.set_cons_zero]
          refine sv_new ⟨_, rfl⟩ rfl (fun W L vs hvs hL hj hd => ?_) ?_
          · simp only [List.length_append, List.length_cons, List.length_nil, Nat.zero_add, Nat.reduceAdd] at hL ⊢
            have pp := bAt hj.base.below p1
            exact opOK_val (v := .int .i64 le) (w' := W) (by simp [go_sem, execOp, pp]) ⟨rfl, hj.oth (by decide) (by decide) (by decide) (by decide) (by decide)⟩
          rintro _ rfl
          simp only [Act.put, List.setIfInBounds_toArray, List.set_cons_succ, List.set_cons_zero]
          refine sv_new ⟨_, rfl⟩ rfl (fun W L vs hvs hL hj hd => ?_) ?_
          · simp only [List.length_append, List.length_cons, List.length_nil, Nat.zero_add, Nat.reduceAdd] at hL ⊢
            exact opOK_val (v := .agg #[.int .i64 (tu : Int), .int .i64 sc, .int .i64 le]) (w' := W) (by simp [go_sem, execOp]) ⟨rfl, hj.oth (by decide) (by decide) (by decide) (by decide) (by decide)⟩
          rintro _ rfl
          simp only [Act.put, List.setIfInBounds_toArray, List.set_cons_succ, List.set_cons_zero]
          refine sv_new ⟨_, 0, rfl⟩ rfl (fun W L vs hvs hL hj hd => ?_) ?_
          · simp only [List.length_append, List.length_cons, List.length_nil, Nat.zero_add, Nat.reduceAdd] at hL ⊢
            have h6 : L 17 = false := by
              cases e : L 17 with
              | false => rfl
              | true => rw [(hj.base.d6 e).2] at hL; cases hL
            exact opOK_val (v := .slice (some ⟨W.heap.size, 0, none⟩) 1 1) (w' := W.alloc (.cells #[.int .i64 (tu : Int), .int .i64 sc, .int .i64 le] 83)) (by simp [go_sem, execOp]) ⟨⟨_, rfl⟩, hj.low (by decide) h6 (hj.base.lit5 (aB _ _) (fun j u hu => by rw [cell_of_heap (World.alloc_heap_new _ _), Nat.zero_add]; rw [HRW.out] at hu; simpa using hu) (by decide) (by decide) (by decide))⟩
          rintro _ ⟨q5, rfl⟩
          simp only [Act.put, List.setIfInBounds_toArray, List.set_cons_succ, List.set_cons_zero]
          refine sv_new ⟨_, (none, 0), rfl⟩ rfl (fun W L vs hvs hL hj hd => ?_) ?_
          · simp only [List.length_append, List.length_cons, List.length_nil, Nat.zero_add, Nat.reduceAdd] at hL ⊢
            have hL3 := hd ⟨3, .data⟩ (by simp) rfl
            have hL5 := hd ⟨16, .data⟩ (by simp) rfl
            have e3 := hvs 3 (.slice xt j yt) (by simp)
            have e5 := hvs 16 (.slice (some ⟨q5, 0, none⟩) 1 1) (by simp)
            have ht := hj.base.told hL3 hL
            obtain ⟨q', e5', hq'⟩ := hj.base.lit hL5 hL
            rw [e5] at e5'
            cases e5'
            have ht2 := ht
            rw [e3] at ht2
            refine opOK_mono (opOK_appendN_at (.tmp 117) (.tmp 130) 53 rfl wz.heap.size 83 (.agg #[.int .i64 0, .int .i64 0, .int .i64 0]) 3 24 Tryz.underlying53 info_rp rfl (by decide) (.slice xt j yt) j ((list.map rpRow).flatten) rfl ht2 q5 0 1 1 (rpRow r) rfl rfl hq' (rpRow_one r) (by omega) (by decide) hj.base.below.size) ?_
            rintro v' w' ⟨h1, h2, h3⟩
            obtain ⟨xa, y, rfl⟩ := owns_form h1
            exact ⟨⟨(xa, y), rfl⟩, hj.low (by decide) hL (hj.base.app6 hL3 hL5 hL (by rw [e3]; exact h2) h1 (by decide) (by decide) (by decide))⟩
          rintro _ ⟨⟨xp, yp⟩, rfl⟩
          simp only [Act.put, List.setIfInBounds_toArray, List.set_cons_succ, List.set_cons_zero]
          refine sv_new ⟨_, (0, 0, 0), rfl⟩ rfl (fun W L vs hvs hL hj hd => ?_) ?_
          · simp only [List.length_append, List.length_cons, List.length_nil, Nat.zero_add, Nat.reduceAdd] at hL ⊢
            have hL1 := hd ⟨1, .data⟩ (by simp) rfl
            have hL6 := hd ⟨17, .data⟩ (by simp) rfl
            have e1 := hvs 1 (.agg #[.int .i64 l.start, .int .i64 l.gin, .int .i64 l.gout, .slice xo nb yo, .int .i64 l.players, .int .i64 l.turns, .bool l.won]) (by simp)
            have e6 := hvs 17 (.slice xp (j + 1) yp) (by simp)
            obtain ⟨xa, y, e1', hs4⟩ := hj.base.own hL1
            rw [e1] at e1'
            cases e1'
            have ha := hj.base.app hL6
            rw [e6] at ha
            refine opOK_call (f := 25) (args := #[.agg #[.int .i64 l.start, .int .i64 l.gin, .int .i64 l.gout, .slice xo nb yo, .int .i64 l.players, .int .i64 l.turns, .bool l.won], .slice xp (j + 1) yp]) (by simp [go_sem]) ?_
            refine (htruth W xo yo (.slice xp (j + 1) yp) _ _ hs4 ha).mono ?_
            rintro e w' ⟨g1, g2, g3, rfl, hb3, k1, k2, k3⟩
            exact ⟨_, rfl, ⟨(g1, g2, g3), rfl⟩, hj.at_ (k0 := 0) hb3 (by decide) (by decide) (by decide) (by decide) (by decide) hL6 (fun _ => ⟨g1, g2, g3, rfl, k1, k2, k3⟩) (fun h => absurd h (by decide))⟩
          rintro _ ⟨⟨ta, tb, tc⟩, rfl⟩
          simp only [Act.put, List.setIfInBounds_toArray, List.set_cons_succ, List.set_cons_zero]
          refine sv_new ⟨_, (0, 0, 0), rfl⟩ rfl (fun W L vs hvs hL hj hd => ?_) ?_
          · simp only [List.length_append, List.length_cons, List.length_nil, Nat.zero_add, Nat.reduceAdd] at hL ⊢
            have hL7 := hd ⟨18, .data⟩ (by simp) rfl
            obtain ⟨g1, g2, g3, e1, k1, k2, k3⟩ := hj.t7 0 (by decide) hL7
            have e2 := hvs 18 (tupT n ta tb tc) (by simp)
            rw [show 18 + 0 = 18 from rfl, e2] at e1
            simp only [tupT, slT, Value.tuple.injEq, Array.mk.injEq, List.cons.injEq, Value.slice.injEq, Option.some.injEq, Addr.mk.injEq, and_true] at e1
            obtain ⟨rfl, rfl, rfl⟩ := e1
            exact opOK_val (v := tupT n ta tb tc) (w' := W) (by simp [go_sem, execOp, tupT, slT]) ⟨⟨(ta, tb, tc), rfl⟩, hj.at_ (k0 := 1) (Below.refl _ _) (by decide) (by decide) (by decide) (by decide) (by decide) (hj.d7 0 (by decide) hL7) (fun _ => ⟨ta, tb, tc, rfl, k1, k2, k3⟩) (fun h => absurd h (by decide))⟩
          rintro _ ⟨⟨tp, tq, tr⟩, rfl⟩
          simp only [Act.put, List.setIfInBounds_toArray, List.set_cons_succ, List.set_cons_zero]
          refine sv_new ⟨_, 0, rfl⟩ rfl (fun W L vs hvs hL hj hd => ?_) ?_
          · simp only [List.length_append, List.length_cons, List.length_nil, Nat.zero_add, Nat.reduceAdd] at hL ⊢
            have hL7 := hd ⟨19, .data⟩ (by simp) rfl
            obtain ⟨g1, g2, g3, e1, k1, k2, k3⟩ := hj.t7 1 (by decide) hL7
            have e2 := hvs 19 (tupT n tp tq tr) (by simp)
            rw [show 18 + 1 = 19 from rfl, e2] at e1
            simp only [tupT, slT, Value.tuple.injEq, Array.mk.injEq, List.cons.injEq, Value.slice.injEq, Option.some.injEq, Addr.mk.injEq, and_true] at e1
            obtain ⟨rfl, rfl, rfl⟩ := e1
            exact opOK_val (v := slT n tp) (w' := W) (by simp [go_sem, execOp, tupT, slT]) ⟨⟨tp, rfl⟩, hj.at_ (k0 := 2) (Below.refl _ _) (by decide) (by decide) (by decide) (by decide) (by decide) (hj.d7 1 (by decide) hL7) (fun h => absurd h (by decide)) (fun _ _ _ => ⟨tp, rfl, k1⟩)⟩
          rintro _ ⟨y2, rfl⟩
          simp only [Act.put, List.setIfInBounds_toArray, List.set_cons_succ, List.set_cons_zero]
          refine sv_new ⟨_, 0, rfl⟩ rfl (fun W L vs hvs hL hj hd => ?_) ?_
          · simp only [List.length_append, List.length_cons, List.length_nil, Nat.zero_add, Nat.reduceAdd] at hL ⊢
            have hL7 := hd ⟨19, .data⟩ (by simp) rfl
            obtain ⟨g1, g2, g3, e1, k1, k2, k3⟩ := hj.t7 1 (by decide) hL7
            have e2 := hvs 19 (tupT n tp tq tr) (by simp)
            rw [show 18 + 1 = 19 from rfl, e2] at e1
            simp only [tupT, slT, Value.tuple.injEq, Array.mk.injEq, List.cons.injEq, Value.slice.injEq, Option.some.injEq, Addr.mk.injEq, and_true] at e1
            obtain ⟨rfl, rfl, rfl⟩ := e1
            exact opOK_val (v := slT n tq) (w' := W) (by simp [go_sem, execOp, tupT, slT]) ⟨⟨tq, rfl⟩, hj.at_ (k0 := 3) (Below.refl _ _) (by decide) (by decide) (by decide) (by decide) (by decide) (hj.d7 1 (by decide) hL7) (fun h => absurd h (by decide)) (fun _ _ _ => ⟨tq, rfl, k2⟩)⟩
          rintro _ ⟨y3, rfl⟩
          simp only [Act.put, List.setIfInBounds_toArray, List.set_cons_succ, List.set_cons_zero]
          refine sv_new ⟨_, 0, rfl⟩ rfl (fun W L vs hvs hL hj hd => ?_) ?_
          · simp only [List.length_append, List.length_cons, List.length_nil, Nat.zero_add, Nat.reduceAdd] at hL ⊢
            have hL7 := hd ⟨19, .data⟩ (by simp) rfl
            obtain ⟨g1, g2, g3, e1, k1, k2, k3⟩ := hj.t7 1 (by decide) hL7
            have e2 := hvs 19 (tupT n tp tq tr) (by simp)
            rw [show 18 + 1 = 19 from rfl, e2] at e1
            simp only [tupT, slT, Value.tuple.injEq, Array.mk.injEq, List.cons.injEq, Value.slice.injEq, Option.some.injEq, Addr.mk.injEq, and_true] at e1
            obtain ⟨rfl, rfl, rfl⟩ := e1
            exact opOK_val (v := slT n tr) (w' := W) (by simp [go_sem, execOp, tupT, slT]) ⟨⟨tr, rfl⟩, hj.at_ (k0 := 4) (Below.refl _ _) (by decide) (by decide) (by decide) (by decide) (by decide) (hj.d7 1 (by decide) hL7) (fun h => absurd h (by decide)) (fun _ _ _ => ⟨tr, rfl, k3⟩)⟩
          rintro _ ⟨y4, rfl⟩
          simp only [Act.put, List.setIfInBounds_toArray, List.set_cons_succ, List.set_cons_zero]
          refine sv_new ⟨_, rfl⟩ rfl (fun W L vs hvs hL hj hd => ?_) ?_
          · simp only [List.length_append, List.length_cons, List.length_nil, Nat.zero_add, Nat.reduceAdd] at hL ⊢
            have hL7 := hd ⟨19, .data⟩ (by simp) rfl
            exact opOK_val (v := .int .i64 0) (w' := W) (by simp [go_sem, execOp, tupT]) ⟨rfl, hj.at_ (k0 := 5) (Below.refl _ _) (by decide) (by decide) (by decide) (by decide) (by decide) (hj.d7 1 (by decide) hL7) (fun h => absurd h (by decide)) (fun _ _ _ => by contradiction)⟩
          rintro _ rfl
          simp only [Act.put, List.setIfInBounds_toArray, List.set_cons_succ, List.set_cons_zero]
          refine sv_new ⟨_, 0, rfl⟩ rfl (fun W L vs hvs hL hj hd => ?_) ?_
          · simp only [List.length_append, List.length_cons, List.length_nil, Nat.zero_add, Nat.reduceAdd] at hL ⊢
            have hL7 := hd ⟨20, .data⟩ (by simp) rfl
            obtain ⟨g, e1, k1⟩ := hj.sp 2 (by decide) (by decide) (by decide) (by decide) hL7
            have e2 := hvs 20 (slT n y2) (by simp)
            rw [show 18 + 2 = 20 from rfl, e2] at e1
            simp only [slT, Value.slice.injEq, Option.some.injEq, Addr.mk.injEq, and_true] at e1
            subst e1
            exact opOK_val (v := slT n y2) (w' := W) (by simp [go_sem, execOp, slT]) ⟨⟨y2, rfl⟩, hj.at_ (k0 := 6) (Below.refl _ _) (by decide) (by decide) (by decide) (by decide) (by decide) (hj.d7 2 (by decide) hL7) (fun h => absurd h (by decide)) (fun _ _ _ => ⟨y2, rfl, k1⟩)⟩
          rintro _ ⟨s6, rfl⟩
          simp only [Act.put, List.setIfInBounds_toArray, List.set_cons_succ, List.set_cons_zero]
          refine sv_new ⟨_, 0, rfl⟩ rfl (fun W L vs hvs hL hj hd => ?_) ?_
          · simp only [List.length_append, List.length_cons, List.length_nil, Nat.zero_add, Nat.reduceAdd] at hL ⊢
            have hL7 := hd ⟨21, .data⟩ (by simp) rfl
            obtain ⟨g, e1, k1⟩ := hj.sp 3 (by decide) (by decide) (by decide) (by decide) hL7
            have e2 := hvs 21 (slT n y3) (by simp)
            rw [show 18 + 3 = 21 from rfl, e2] at e1
            simp only [slT, Value.slice.injEq, Option.some.injEq, Addr.mk.injEq, and_true] at e1
            subst e1
            exact opOK_val (v := slT n y3) (w' := W) (by simp [go_sem, execOp, slT]) ⟨⟨y3, rfl⟩, hj.at_ (k0 := 7) (Below.refl _ _) (by decide) (by decide) (by decide) (by decide) (by decide) (hj.d7 3 (by decide) hL7) (fun h => absurd h (by decide)) (fun _ _ _ => ⟨y3, rfl, k1⟩)⟩
          rintro _ ⟨s7, rfl⟩
          simp only [Act.put, List.setIfInBounds_toArray, List.set_cons_succ, List.set_cons_zero]
          refine sv_new ⟨_, 0, rfl⟩ rfl (fun W L vs hvs hL hj hd => ?_) ?_
          · simp only [List.length_append, List.length_cons, List.length_nil, Nat.zero_add, Nat.reduceAdd] at hL ⊢
            have hL7 := hd ⟨22, .data⟩ (by simp) rfl
            obtain ⟨g, e1, k1⟩ := hj.sp 4 (by decide) (by decide) (by decide) (by decide) hL7
            have e2 := hvs 22 (slT n y4) (by simp)
            rw [show 18 + 4 = 22 from rfl, e2] at e1
            simp only [slT, Value.slice.injEq, Option.some.injEq, Addr.mk.injEq, and_true] at e1
            subst e1
            exact opOK_val (v := slT n y4) (w' := W) (by simp [go_sem, execOp, slT]) ⟨⟨y4, rfl⟩, hj.at_ (k0 := 8) (Below.refl _ _) (by decide) (by decide) (by decide) (by decide) (by decide) (hj.d7 4 (by decide) hL7) (fun h => absurd h (by decide)) (fun _ _ _ => ⟨y4, rfl, k1⟩)⟩
          rintro _ ⟨s8, rfl⟩
          simp only [Act.put, List.setIfInBounds_toArray, List.set_cons_succ, List.set_cons_zero]
          refine sv_new ⟨_, rfl⟩ rfl (fun W L vs hvs hL hj hd => ?_) ?_
          · simp only [List.length_append, List.length_cons, List.length_nil, Nat.zero_add, Nat.reduceAdd] at hL ⊢
            have hL7 := hd ⟨23, .data⟩ (by simp) rfl
            exact opOK_val (v := .int .i64 0) (w' := W) (by simp [go_sem, execOp, tupT]) ⟨rfl, hj.at_ (k0 := 9) (Below.refl _ _) (by decide) (by decide) (by decide) (by decide) (by decide) (hj.d7 5 (by decide) hL7) (fun h => absurd h (by decide)) (fun _ _ _ => by contradiction)⟩
          rintro _ rfl
          simp only [Act.put, List.setIfInBounds_toArray, List.set_cons_succ, List.set_cons_zero]
          refine sv_end fun vs wy hvs hj => ?_
          simp only [List.drop_succ_cons, List.drop_zero]
          obtain ⟨gg, e1, k1⟩ := hj.sp 6 (by decide) (by decide) (by decide) (by decide) (by decide)
          have e2 := hvs 24 (slT n s6) (by simp)
          rw [show 18 + 6 = 24 from rfl, e2] at e1
          simp only [slT, Value.slice.injEq, Option.some.injEq, Addr.mk.injEq, and_true] at e1
          subst e1
          obtain ⟨gg, e1, l1⟩ := hj.sp 7 (by decide) (by decide) (by decide) (by decide) (by decide)
          have e2 := hvs 25 (slT n s7) (by simp)
          rw [show 18 + 7 = 25 from rfl, e2] at e1
          simp only [slT, Value.slice.injEq, Option.some.injEq, Addr.mk.injEq, and_true] at e1
          subst e1
          obtain ⟨gg, e1, m1⟩ := hj.sp 8 (by decide) (by decide) (by decide) (by decide) (by decide)
          have e2 := hvs 26 (slT n s8) (by simp)
          rw [show 18 + 8 = 26 from rfl, e2] at e1
          simp only [slT, Value.slice.injEq, Option.some.injEq, Addr.mk.injEq, and_true] at e1
          subst e1
          have HS8 : Hid (SpansAt wy s8 n (daF l (list ++ [r]))) := Lib.hid m1
          clear m1
          have HS6 : Hid (SpansAt wy s6 n (scF l (list ++ [r]))) := Lib.hid k1
          have HS7 : Hid (SpansAt wy s7 n (leF l (list ++ [r]))) := Lib.hid l1
          have hbz := hj.base.below
          clear hvs hj k1 l1 e2 hown htold htruth
          simp only [slT]
          have HSP1 := HS6
          have HSP2 := HS7
          have HSP3 := HS8
          have HOy := Lib.hid (HOa.out.below hbz)
          have HTy := Lib.hid (HTa.out.below hbz)
          have HBy := Lib.hid (bThen HBa.out hbz)
          have HG1 := Lib.hid (HG1.out.below hbz)
          have HG2 := Lib.hid (HG2.out.below hbz)
          have HG3 := Lib.hid (HG3.out.below hbz)
          have HF1 := Lib.hid (HF1.out.below hbz)
          have HF2 := Lib.hid (HF2.out.below hbz)
          have HF3 := Lib.hid (HF3.out.below hbz)
          clear hbz p0 p1 c0 c1 c2 c3 c4 c5 c6 HBSz HRz HBSa HRa HOa HTa HBa
          go_wp2_with fail
          have hcall := holds_any F.out n HNN.out _ _ _ HIN2.out (.slice (some ⟨ob, ofx, none⟩) n oc) s6 s7 s8 wy HOy.out HS6.out HS7.out HS8.out
          refine hcall.mono ?_
          rintro e wb ⟨rfl, hbb⟩
          clear hcall
          have HS1 := Lib.hid (HSP1.out.below hbb)
          have HS2 := Lib.hid (HSP2.out.below hbb)
          have HS3 := Lib.hid (HSP3.out.below hbb)
          have HG1 := Lib.hid (HG1.out.below hbb)
          have HG2 := Lib.hid (HG2.out.below hbb)
          have HG3 := Lib.hid (HG3.out.below hbb)
          have HF1 := Lib.hid (HF1.out.below hbb)
          have HF2 := Lib.hid (HF2.out.below hbb)
          have HF3 := Lib.hid (HF3.out.below hbb)
          have HTb := Lib.hid (HTy.out.below hbb)
          have HBb := Lib.hid (bThen HBy.out hbb)
          clear hbb HSP1 HSP2 HSP3 HS6 HS7 HS8 HTy HBy HOy
          go_wp2_with fail
          go_loopw [25] (fun iv wr => ∃ i : Nat, i ≤ n ∧ iv = .int .i64 (i : Int) ∧ Hid (Below wb.heap.size wb wr)) (fun iv _ => n - (intOf iv).toNat)
          case atStart => exact ⟨0, by omega, by go_num, Lib.hid (Below.refl _ _)⟩
          case round =>
            obtain ⟨i, hi, rfl, HBr⟩ := hrel
            obtain ⟨wo, rfl⟩ : ∃ wo : World, wo = wr := ⟨_, rfl⟩
            by_cases hlt : i < n
            · have hit : i < l.turns.toNat := by rw [HTN.out]; omega
              have hml := more_less HBD.out.1 HBD.out.2.1 HTR2.out hit
              obtain ⟨u1, u2⟩ := (HG1.out.below HBr.out).cells hlt
              obtain ⟨u3, u4⟩ := (HG2.out.below HBr.out).cells hlt
              obtain ⟨u5, u6⟩ := (HG3.out.below HBr.out).cells hlt
              obtain ⟨v1, v2⟩ := (HF1.out.below HBr.out).cells hlt
              obtain ⟨v3, v4⟩ := (HF2.out.below HBr.out).cells hlt
              obtain ⟨v5, v6⟩ := (HF3.out.below HBr.out).cells hlt
              obtain ⟨y1, y2⟩ := (HS1.out.below HBr.out).cells hlt
              obtain ⟨y3, y4⟩ := (HS2.out.below HBr.out).cells hlt
              obtain ⟨y5, y6⟩ := (HS3.out.below HBr.out).cells hlt
              obtain ⟨A1, a1⟩ : ∃ z, (scF l list i).1 = z := ⟨_, rfl⟩
              obtain ⟨A2, a2⟩ : ∃ z, (scF l list i).2 = z := ⟨_, rfl⟩
              obtain ⟨A3, a3⟩ : ∃ z, (leF l list i).1 = z := ⟨_, rfl⟩
              obtain ⟨A4, a4⟩ : ∃ z, (leF l list i).2 = z := ⟨_, rfl⟩
              obtain ⟨A5, a5⟩ : ∃ z, (daF l list i).1 = z := ⟨_, rfl⟩
              obtain ⟨A6, a6⟩ : ∃ z, (daF l list i).2 = z := ⟨_, rfl⟩
              obtain ⟨B1, b1⟩ : ∃ z, (scF l (list ++ [r]) i).1 = z := ⟨_, rfl⟩
              obtain ⟨B2, b2⟩ : ∃ z, (scF l (list ++ [r]) i).2 = z := ⟨_, rfl⟩
              obtain ⟨B3, b3⟩ : ∃ z, (leF l (list ++ [r]) i).1 = z := ⟨_, rfl⟩
              obtain ⟨B4, b4⟩ : ∃ z, (leF l (list ++ [r]) i).2 = z := ⟨_, rfl⟩
              obtain ⟨B5, b5⟩ : ∃ z, (daF l (list ++ [r]) i).1 = z := ⟨_, rfl⟩
              obtain ⟨B6, b6⟩ : ∃ z, (daF l (list ++ [r]) i).2 = z := ⟨_, rfl⟩
              rw [a1, a2, a3, a4, a5, a6, b1, b2, b3, b4, b5, b6] at hml
              rw [a1] at u1 v1
              rw [a2] at u2 v2
              rw [a3] at u3 v3
              rw [a4] at u4 v4
              rw [a5] at u5 v5
              rw [a6] at u6 v6
              rw [b1] at y1
              rw [b2] at y2
              rw [b3] at y3
              rw [b4] at y4
              rw [b5] at y5
              rw [b6] at y6
              have t1 : decide (B1 < A1) = false := decide_eq_false (by omega)
              have t2 : decide (A2 < B2) = false := decide_eq_false (by omega)
              have t3 : decide (B3 < A3) = false := decide_eq_false (by omega)
              have t4 : decide (A4 < B4) = false := decide_eq_false (by omega)
              have t5 : decide (B5 < A5) = false := decide_eq_false (by omega)
              have t6 : decide (A6 < B6) = false := decide_eq_false (by omega)
              have hli : (i : Int) < (n : Int) := by omega
              have hwi : IntKind.i64.wrap ((i : Int) + 1) = (i : Int) + 1 := wrap_small _ (by omega) (by omega)
              clear hit hml a1 a2 a3 a4 a5 a6 b1 b2 b3 b4 b5 b6
              go_upto_region 22 with fail
              refine wp_region_seqW (.is (.slice (some ⟨g1, 0, none⟩) n n) :: .is (.int .i64 (i : Int)) :: .is (.pointer (some ⟨g1, i * 2, none⟩)) :: .is (.agg #[.int .i64 A1, .int .i64 A2]) :: .is (.slice (some ⟨f1, 0, none⟩) n n) :: .is (.int .i64 (i : Int)) :: .is (.pointer (some ⟨f1, i * 2, none⟩)) :: .is (.agg #[.int .i64 A1, .int .i64 A2]) :: .is (.bool false) :: .is (.bool false) :: .is (.slice (some ⟨g2x, 0, none⟩) n n) :: .is (.int .i64 (i : Int)) :: .is (.pointer (some ⟨g2x, i * 2, none⟩)) :: .is (.agg #[.int .i64 A3, .int .i64 A4]) :: .is (.slice (some ⟨f2, 0, none⟩) n n) :: .is (.int .i64 (i : Int)) :: .is (.pointer (some ⟨f2, i * 2, none⟩)) :: .is (.agg #[.int .i64 A3, .int .i64 A4]) :: .is (.bool false) :: .is (.bool false) :: .is (.bool false) :: .is (.slice (some ⟨g3, 0, none⟩) n n) :: .is (.int .i64 (i : Int)) :: .is (.pointer (some ⟨g3, i * 2, none⟩)) :: .is (.agg #[.int .i64 A5, .int .i64 A6]) :: .is (.slice (some ⟨f3, 0, none⟩) n n) :: .is (.int .i64 (i : Int)) :: .is (.pointer (some ⟨f3, i * 2, none⟩)) :: .is (.agg #[.int .i64 A5, .int .i64 A6]) :: .is (.bool false) :: .is (.bool false) :: .is (.bool false) :: .is (.slice (some ⟨s6, 0, none⟩) n n) :: .is (.int .i64 (i : Int)) :: .is (.pointer (some ⟨s6, i * 2, none⟩)) :: .is (.pointer (some ⟨s6, i * 2, none⟩)) :: .is (.int .i64 B1) :: .is (.slice (some ⟨g1, 0, none⟩) n n) :: .is (.int .i64 (i : Int)) :: .is (.pointer (some ⟨g1, i * 2, none⟩)) :: .is (.pointer (some ⟨g1, i * 2, none⟩)) :: .is (.int .i64 A1) :: .is (.bool false) :: .is (.bool false) :: .is (.bool false) :: .is (.slice (some ⟨s6, 0, none⟩) n n) :: .is (.int .i64 (i : Int)) :: .is (.pointer (some ⟨s6, i * 2, none⟩)) :: .is (.pointer (some ⟨s6, i * 2 + 1, none⟩)) :: .is (.int .i64 B2) :: .is (.slice (some ⟨g1, 0, none⟩) n n) :: .is (.int .i64 (i : Int)) :: .is (.pointer (some ⟨g1, i * 2, none⟩)) :: .is (.pointer (some ⟨g1, i * 2 + 1, none⟩)) :: .is (.int .i64 A2) :: .is (.bool false) :: .is (.bool false) :: .is (.bool false) :: .is (.slice (some ⟨s7, 0, none⟩) n n) :: .is (.int .i64 (i : Int)) :: .is (.pointer (some ⟨s7, i * 2, none⟩)) :: .is (.pointer (some ⟨s7, i * 2, none⟩)) :: .is (.int .i64 B3) :: .is (.slice (some ⟨g2x, 0, none⟩) n n) :: .is (.int .i64 (i : Int)) :: .is (.pointer (some ⟨g2x, i * 2, none⟩)) :: .is (.pointer (some ⟨g2x, i * 2, none⟩)) :: .is (.int .i64 A3) :: .is (.bool false) :: .is (.bool false) :: .is (.bool false) :: .is (.slice (some ⟨s7, 0, none⟩) n n) :: .is (.int .i64 (i : Int)) :: .is (.pointer (some ⟨s7, i * 2, none⟩)) :: .is (.pointer (some ⟨s7, i * 2 + 1, none⟩)) :: .is (.int .i64 B4) :: .is (.slice (some ⟨g2x, 0, none⟩) n n) :: .is (.int .i64 (i : Int)) :: .is (.pointer (some ⟨g2x, i * 2, none⟩)) :: .is (.pointer (some ⟨g2x, i * 2 + 1, none⟩)) :: .is (.int .i64 A4) :: .is (.bool false) :: .is (.bool false) :: .is (.bool false) :: .is (.slice (some ⟨s8, 0, none⟩) n n) :: .is (.int .i64 (i : Int)) :: .is (.pointer (some ⟨s8, i * 2, none⟩)) :: .is (.pointer (some ⟨s8, i * 2, none⟩)) :: .is (.int .i64 B5) :: .is (.slice (some ⟨g3, 0, none⟩) n n) :: .is (.int .i64 (i : Int)) :: .is (.pointer (some ⟨g3, i * 2, none⟩)) :: .is (.pointer (some ⟨g3, i * 2, none⟩)) :: .is (.int .i64 A5) :: .is (.bool false) :: .is (.bool false) :: .is (.bool false) :: .is (.slice (some ⟨s8, 0, none⟩) n n) :: .is (.int .i64 (i : Int)) :: .is (.pointer (some ⟨s8, i * 2, none⟩)) :: .is (.pointer (some ⟨s8, i * 2 + 1, none⟩)) :: .is (.int .i64 B6) :: .is (.slice (some ⟨g3, 0, none⟩) n n) :: .is (.int .i64 (i : Int)) :: .is (.pointer (some ⟨g3, i * 2, none⟩)) :: .is (.pointer (some ⟨g3, i * 2 + 1, none⟩)) :: .is (.int .i64 A6) :: .is (.bool false) :: .is (.bool false) :: []) rfl mix (by kernel_rfl) (by kernel_rfl) ?_
              iterate 10
                refine seq_on (by rfl) (fun w4 hb4 _ => ?_) ?_
                · have u1' := bAt hb4 u1
                  have u2' := bAt hb4 u2
                  have v1' := bAt hb4 v1
                  have v2' := bAt hb4 v2
                  simp [opOK, go_sem, u1', u2', v1', v2', hli, Below.refl]
                  try exact rfl
                simp only [Act.put, List.setIfInBounds_toArray, List.set_cons_succ, List.set_cons_zero]
              iterate 11
                refine seq_on (by rfl) (fun w4 hb4 _ => ?_) ?_
                · have u3' := bAt hb4 u3
                  have u4' := bAt hb4 u4
                  have v3' := bAt hb4 v3
                  have v4' := bAt hb4 v4
                  simp [opOK, go_sem, u3', u4', v3', v4', hli, Below.refl]
                  try exact rfl
                simp only [Act.put, List.setIfInBounds_toArray, List.set_cons_succ, List.set_cons_zero]
              iterate 11
                refine seq_on (by rfl) (fun w4 hb4 _ => ?_) ?_
                · have u5' := bAt hb4 u5
                  have u6' := bAt hb4 u6
                  have v5' := bAt hb4 v5
                  have v6' := bAt hb4 v6
                  simp [opOK, go_sem, u5', u6', v5', v6', hli, Below.refl]
                  try exact rfl
                simp only [Act.put, List.setIfInBounds_toArray, List.set_cons_succ, List.set_cons_zero]
              iterate 13
                refine seq_on (by rfl) (fun w4 hb4 _ => ?_) ?_
                · have u1' := bAt hb4 u1
                  have y1' := bAt hb4 y1
                  simp [opOK, go_sem, u1', y1', t1, hli, Below.refl]
                  try exact rfl
                simp only [Act.put, List.setIfInBounds_toArray, List.set_cons_succ, List.set_cons_zero]
              iterate 13
                refine seq_on (by rfl) (fun w4 hb4 _ => ?_) ?_
                · have u2' := bAt hb4 u2
                  have y2' := bAt hb4 y2
                  simp [opOK, go_sem, u2', y2', t2, hli, Below.refl]
                  try exact rfl
                simp only [Act.put, List.setIfInBounds_toArray, List.set_cons_succ, List.set_cons_zero]
              iterate 13
                refine seq_on (by rfl) (fun w4 hb4 _ => ?_) ?_
                · have u3' := bAt hb4 u3
                  have y3' := bAt hb4 y3
                  simp [opOK, go_sem, u3', y3', t3, hli, Below.refl]
                  try exact rfl
                simp only [Act.put, List.setIfInBounds_toArray, List.set_cons_succ, List.set_cons_zero]
              iterate 13
                refine seq_on (by rfl) (fun w4 hb4 _ => ?_) ?_
                · have u4' := bAt hb4 u4
                  have y4' := bAt hb4 y4
                  simp [opOK, go_sem, u4', y4', t4, hli, Below.refl]
                  try exact rfl
                simp only [Act.put, List.setIfInBounds_toArray, List.set_cons_succ, List.set_cons_zero]
              iterate 13
                refine seq_on (by rfl) (fun w4 hb4 _ => ?_) ?_
                · have u5' := bAt hb4 u5
                  have y5' := bAt hb4 y5
                  simp [opOK, go_sem, u5', y5', t5, hli, Below.refl]
                  try exact rfl
                simp only [Act.put, List.setIfInBounds_toArray, List.set_cons_succ, List.set_cons_zero]
              iterate 12
                refine seq_on (by rfl) (fun w4 hb4 _ => ?_) ?_
                · have u6' := bAt hb4 u6
                  have y6' := bAt hb4 y6
                  simp [opOK, go_sem, u6', y6', t6, hli, Below.refl]
                  try exact rfl
                simp only [Act.put, List.setIfInBounds_toArray, List.set_cons_succ, List.set_cons_zero]
              refine seq_end fun w4 hb4 hH => ?_
              have HB4 := Lib.hid (bThen HBr.out hb4)
              clear hH hb4 u1 u2 u3 u4 u5 u6 v1 v2 v3 v4 v5 v6 y1 y2 y3 y4 y5 y6
              go_wp2_with fail
              go_roundw
              case rel => exact ⟨i + 1, by omega, by go_num, HB4⟩
              case measure => simp [intOf]; omega
            · obtain rfl : i = n := by omega
              go_wp2_with fail
              refine (known_any wo (HTb.out.below HBr.out)).mono ?_
              rintro e wz ⟨rfl, hbz⟩
              have HBZ := Lib.hid (bThen (bThen HBb.out HBr.out) hbz)
              clear hbz
              go_wp2
              go_returns
              exact ⟨rfl, HBZ.out⟩
end Go.Proofs.YtpfpjbglpibdoaaGreatDoor
