/- The texts SH, SI, SJ, SK, in build order. -/
import Derived.Test.YtpfpjbglpibdoaaGreatDoorZav

/- Chapter 5: the smallest sets with some property. -/
namespace Go.Proofs.YtpfpjbglpibdoaaGreatDoor
open Go Go.RowKit Go.Oche Go.Proofs

theorem info_sl5 : (Tryz.prog.info? 35).map (fun i => (i.zero, i.size, i.bytes)) = some (some (.slice none 0 0), 1, 24) := by kernel_rfl
structure PredOk (l : Lg) (w0 : World) (gb hb kb n fn : Nat) (lb : Array Value) (isN : Nat → Bool) : Prop where
  enters : Enters Tryz.prog fn
  run : ∀ (F : Nat → Prop) (s : Nat) (W : World), s < 2 ^ n → GameAt l F W gb hb kb → Chg (fun q => q = kb) w0 W → (∀ q, F q → q < W.heap.size) →
    Calls Tryz.prog fn (#[.int .u64 (s : Int)] ++ lb) W fun e W' => e = .returned (.bool (isN s)) ∧ GameAt l F W' gb hb kb ∧ Chg (fun q => q = kb) W W'
structure SmSt (l : Lg) (w0 : World) (gb hb kb n : Nat) (F0 : Nat → Prop) (isN : Nat → Bool) (k least : Nat) (ss : List Nat) (V : Int → Value) (v : Value) (F : Nat → Prop) (W : World) : Prop where
  inv : LeastInv n isN k least ss
  row : SetsRow w0.heap.size V ss v W
  game : GameAt l F W gb hb kb
  chg : Chg (fun q => q = kb) w0 W
  sub : ∀ q, F0 q → F q
  lt : ∀ q, F q → q < W.heap.size
  own : ∀ g, v.ownBlock = some g → F g
set_option maxRecDepth 100000 in
set_option maxHeartbeats 2000000 in
theorem smallest_any {F0 : Nat → Prop} {gb hb kb : Nat} (l : Lg) (n fn : Nat) (lb : Array Value) (isN : Nat → Bool) (hn : n ≤ 5) (w : World) (hp : PredOk l w gb hb kb n fn lb isN) (hG : GameAt l F0 w gb hb kb) (hF0 : ∀ q, F0 q → q < w.heap.size) (hT : Tab5 w) (hk1 : kb ≠ 1) :
    Calls Tryz.prog 66 #[.int .i64 (n : Int), .func (.func fn) #[] lb] w fun e w' => ∃ v out, e = .returned v ∧ IsMin n isN (2 ^ n) out ∧ SlSl (fun q => w.heap.size ≤ q) w' v (out.map nInts) ∧ GameAt l F0 w' gb hb kb ∧ Chg (fun q => q = kb) w w' := by
  obtain ⟨m, hm⟩ : ∃ m, 2 ^ n = m := ⟨_, rfl⟩
  have hm32 : 1 ≤ m ∧ m ≤ 32 := ⟨by rw [← hm]; exact Nat.one_le_two_pow, by rw [← hm]; exact Nat.le_trans (Nat.pow_le_pow_right (by decide) hn) (by decide)⟩
  have hall := all_any n (by omega) w
  rw [hm] at hall
  have hma : IntKind.u64.wrap (((m - 1 : Nat) : Int) + 1) = (m : Int) := by rw [IntKind.wrap_u64]; omega
  have hkl := hG.lt
  have HS0 : Hid (SmSt l w gb hb kb n F0 isN 0 n [] (fun _ => undef) (.slice none 0 0) F0 w) := Lib.hid
    ⟨LeastInv.start, SetsRow.zero _ _ _, hG, Chg.refl, fun _ h => h, hF0, fun g h => by simp [Value.ownBlock] at h⟩
  have HM := Lib.hid hm
  have HP := Lib.hid hp
  have HF0 := Lib.hid hF0
  have HT := Lib.hid hT
  have HFF : Hid (F0 gb ∧ F0 hb ∧ F0 kb) := Lib.hid ⟨hG.fg, hG.fh, hG.fk⟩
  clear hm hp hF0 hT hG
  go_enter Tryz.func66, Tryz.ntmps66
  go_wp2_with fail
  refine hall.mono ?_
  rintro e w1 ⟨rfl, rfl⟩
  clear hall
  go_wp2
  go_loopw [4, 5, 12] (fun v lv sv wr => ∃ (k least : Nat) (ss : List Nat) (V : Int → Value) (F : Nat → Prop), lv = .int .i64 least ∧ sv = .int .u64 k ∧ k ≤ m ∧ Hid (SmSt l w1 gb hb kb n F0 isN k least ss V v F wr)) (fun _ _ sv _ => m - (intOf sv).toNat)
  case atStart => exact ⟨0, n, [], fun _ => undef, F0, rfl, rfl, by omega, HS0⟩
  case round =>
    clear HS0
    obtain ⟨k, least, ss, V, F, rfl, rfl, hk, HS⟩ := hrel
    obtain ⟨wo, rfl⟩ : ∃ wo : World, wo = wr := ⟨_, rfl⟩
    obtain ⟨va, vc, rfl⟩ := owns_form HS.out.row.row
    have hle := HS.out.inv.le
    by_cases hlt : k < m
    · have hbn := bits_few ⟨n, by omega⟩ ⟨k, by omega⟩ (by simp only; rw [HM.out]; exact hlt)
      simp only at hbn
      have hones := ones_any k (by omega) wo
      rw [hbn] at hones
      obtain ⟨c, hc⟩ : ∃ c, (bitsN n k).length = c := ⟨_, rfl⟩
      rw [hc] at hones
      have hcn : c ≤ n := by rw [← hc]; exact bits_len n k
      have HC := Lib.hid hc
      have HBN := Lib.hid hbn
      have hwk : IntKind.u64.wrap ((k : Int) + 1) = (k : Int) + 1 := by rw [IntKind.wrap_u64]; omega
      clear hc hbn
      go_wp2_with fail
      refine hones.mono ?_
      rintro e w2 ⟨rfl, rfl⟩
      clear hones
      by_cases hgt : least < c
      · have HS2 : Hid (SmSt l w1 gb hb kb n F0 isN (k + 1) least ss V (.slice va ss.length vc) F w2) := Lib.hid
          ⟨HS.out.inv.skip (.inl (by rw [HC.out]; exact hgt)), HS.out.row, HS.out.game, HS.out.chg, HS.out.sub, HS.out.lt, HS.out.own⟩
        have d1 : decide (least < c) = true := decide_eq_true hgt
        have d1i : decide ((least : Int) < (c : Int)) = true := decide_eq_true (by omega)
        clear HS
        go_wp2
        go_roundw
        case rel => exact ⟨k + 1, least, ss, V, F, rfl, by go_num, by omega, HS2⟩
        case measure => simp [intOf]; omega
      · have d1 : decide (least < c) = false := decide_eq_false hgt
        have d1i : decide ((least : Int) < (c : Int)) = false := decide_eq_false (by omega)
        have hen := HP.out.enters
        unfold Enters at hen
        have hrun := HP.out.run F k w2 (by rw [HM.out]; exact hlt) HS.out.game HS.out.chg HS.out.lt
        go_wp2_with fail
        refine hrun.mono ?_
        rintro e w3 ⟨rfl, hG3, hC3⟩
        have HROW := Lib.hid (HS.out.row.chg hC3 fun q e => by rw [e]; exact hkl.2.2)
        have HG3 := Lib.hid hG3
        have HC3 := Lib.hid (HS.out.chg.trans hC3)
        have HT3 := Lib.hid (HT.out.chg HC3.out (fun e => hk1 e.symm))
        have hsz3 := HC3.out.size
        have hsz23 := hC3.size
        clear hen hrun hG3 hC3
        cases his : isN k
        · have HS3 : Hid (SmSt l w1 gb hb kb n F0 isN (k + 1) least ss V (.slice va ss.length vc) F w3) := Lib.hid
            ⟨HS.out.inv.skip (.inr his), HROW.out, HG3.out, HC3.out, HS.out.sub, fun q hq => by have := HS.out.lt q hq; omega, HS.out.own⟩
          go_wp2
          go_roundw
          case rel => exact ⟨k + 1, least, ss, V, F, rfl, by go_num, by omega, HS3⟩
          case measure => simp [intOf]; omega
        · have HIS := Lib.hid his
          clear his
          by_cases hnew : c < least
          · have d2 : decide (c < least) = true := decide_eq_true hnew
            have d2i : decide ((c : Int) < (least : Int)) = true := decide_eq_true (by omega)
            have hk' : ∀ s ∈ ([] : List Nat), s < k := fun s hs => by cases hs
            have hsl : ([] : List Nat).length ≤ 10 := by decide
            have HR3 := Lib.hid (SetsRow.zero w1.heap.size V w3)
            have HKK := Lib.hid hk'
            clear hk'
            have hnum := numbers_any k (by omega) w3 (HT3.out)
            go_wp2_with fail
            refine hnum.mono ?_
            rintro e w4 ⟨u, rfl, hb4, ho4⟩
            obtain ⟨ua, uc, rfl⟩ := owns_form ho4
            have HR4 := Lib.hid (HR3.out.below hb4)
            have HU4 := Lib.hid (SetsRow.apart HR4.out ho4 hsz3)
            have HG4 := Lib.hid (HG3.out.below hb4)
            have HC4 := Lib.hid (HC3.out.thenB hb4)
            have hsz4 := hb4.size
            clear hnum hb4 ho4 HR3
            go_wp2_with (at_builtin; refine wpList_append1 rfl (.tmp 30) (.tmp 33) 66 rfl w1.heap.size 35 (.slice none 0 0) 24 Tryz.underlying66 info_sl5 rfl (.slice none 0 0) 0 _ rfl (HR4.out.row.alloc _) w4.heap.size 0 1 (.slice ua (bitsN 10 k).length uc) rfl (cell_new _ _ _) rfl (by omega) (by decide) (by simp; omega) ?_)
            intro g' c' w5 ho5 hg5 hat5
            have hba := aB w4 (.cells #[.slice ua (bitsN 10 k).length uc] 35)
            have hR5 := (HR4.out.below hba).add (g := g') (c := c') (k := k) HKK.out (by omega) ((HU4.out.below hba).mono fun q hq => ⟨hq.1, hq.2.1, by have := hba.size; omega⟩) ho5 hg5 (hat5.elim .inl fun e => .inr (by rw [e]; simp))
            have hgl := hR5.row.lt g' (by simp [Value.ownBlock])
            have HS5 : Hid (SmSt l w1 gb hb kb n F0 isN (k + 1) c ([] ++ [k]) (fun x => if x = kS k then .slice ua (bitsN 10 k).length uc else V x) (.slice (some ⟨g', 0, none⟩) (0 + 1) c') (fun q => F q ∨ q = g') w5) := Lib.hid
              ⟨by have := HS.out.inv.new HIS.out (by rw [HC.out]; exact hnew); rw [HC.out] at this; exact this, hR5, ((HG4.out.below hba).more (F' := fun q => F q ∨ q = g') (fun q hq => hq.elim .inl fun e => by
                  rcases hat5 with z | z
                  · left; rw [e]; cases z
                  · right; rw [e, z]; simp) (fun q hq => .inl hq)).grown hg5 (fun x hx => by
                  have h1 := (HR4.out.row.lt x hx).1
                  exact ⟨by omega, by omega, by omega, .inl (.inl (by cases hx))⟩),
                (HC4.out.thenB hba).thenG hg5 (fun x hx hlt => by have := (HR4.out.row.lt x hx).1; omega), fun q hq => .inl (HS.out.sub q hq), fun q hq => by
                  rcases hq with hq | hq
                  · have h1 := HS.out.lt q hq; have h2 := hg5.size; have h3 := hba.size; omega
                  · rw [hq]; exact hgl.2, fun g hg => .inr (by simpa [Value.ownBlock] using hg.symm)⟩
            clear hba hR5 hgl ho5 hg5 hat5 HR4 HU4 HG4 HC4
            go_wp2
            go_roundw
            case rel => exact ⟨k + 1, c, [] ++ [k], _, _, rfl, by go_num, by omega, HS5⟩
            case measure => simp [intOf]; omega
          · have d2 : decide (c < least) = false := decide_eq_false hnew
            have d2i : decide ((c : Int) < (least : Int)) = false := decide_eq_false (by omega)
            have hk' : ∀ s ∈ (ss : List Nat), s < k := fun s hs => ((HS.out.inv.mem s).1 hs).1
            have hsl : (ss : List Nat).length ≤ 10 := by have := HS.out.inv.few hn (by rw [HM.out]; omega); omega
            have HR3 := Lib.hid (HROW.out)
            have HKK := Lib.hid hk'
            clear hk'
            have hnum := numbers_any k (by omega) w3 (HT3.out)
            go_wp2_with fail
            refine hnum.mono ?_
            rintro e w4 ⟨u, rfl, hb4, ho4⟩
            obtain ⟨ua, uc, rfl⟩ := owns_form ho4
            have HR4 := Lib.hid (HR3.out.below hb4)
            have HU4 := Lib.hid (SetsRow.apart HR4.out ho4 hsz3)
            have HG4 := Lib.hid (HG3.out.below hb4)
            have HC4 := Lib.hid (HC3.out.thenB hb4)
            have hsz4 := hb4.size
            clear hnum hb4 ho4 HR3
            go_wp2_with (at_builtin; refine wpList_append1 rfl (.tmp 30) (.tmp 33) 66 rfl w1.heap.size 35 (.slice none 0 0) 24 Tryz.underlying66 info_sl5 rfl (.slice va ss.length vc) ss.length _ rfl (HR4.out.row.alloc _) w4.heap.size 0 1 (.slice ua (bitsN 10 k).length uc) rfl (cell_new _ _ _) rfl (by omega) (by decide) (by simp; omega) ?_)
            intro g' c' w5 ho5 hg5 hat5
            have hba := aB w4 (.cells #[.slice ua (bitsN 10 k).length uc] 35)
            have hR5 := (HR4.out.below hba).add (g := g') (c := c') (k := k) HKK.out (by omega) ((HU4.out.below hba).mono fun q hq => ⟨hq.1, hq.2.1, by have := hba.size; omega⟩) (by rw [List.map_map]; exact ho5) hg5 (hat5.elim .inl fun e => .inr (by rw [e]; simp))
            have hgl := hR5.row.lt g' (by simp [Value.ownBlock])
            have HS5 : Hid (SmSt l w1 gb hb kb n F0 isN (k + 1) least (ss ++ [k]) (fun x => if x = kS k then .slice ua (bitsN 10 k).length uc else V x) (.slice (some ⟨g', 0, none⟩) (ss.length + 1) c') (fun q => F q ∨ q = g') w5) := Lib.hid
              ⟨HS.out.inv.more HIS.out (by rw [HC.out]; omega), hR5, ((HG4.out.below hba).more (F' := fun q => F q ∨ q = g') (fun q hq => hq.elim .inl fun e => by
                  rcases hat5 with z | z
                  · left; rw [e]; exact HS.out.own g' z
                  · right; rw [e, z]; simp) (fun q hq => .inl hq)).grown hg5 (fun x hx => by
                  have h1 := (HR4.out.row.lt x hx).1
                  exact ⟨by omega, by omega, by omega, .inl (.inl (HS.out.own x hx))⟩),
                (HC4.out.thenB hba).thenG hg5 (fun x hx hlt => by have := (HR4.out.row.lt x hx).1; omega), fun q hq => .inl (HS.out.sub q hq), fun q hq => by
                  rcases hq with hq | hq
                  · have h1 := HS.out.lt q hq; have h2 := hg5.size; have h3 := hba.size; omega
                  · rw [hq]; exact hgl.2, fun g hg => .inr (by simpa [Value.ownBlock] using hg.symm)⟩
            clear hba hR5 hgl ho5 hg5 hat5 HR4 HU4 HG4 HC4
            go_wp2
            go_roundw
            case rel => exact ⟨k + 1, least, ss ++ [k], _, _, rfl, by go_num, by omega, HS5⟩
            case measure => simp [intOf]; omega
    · obtain rfl : k = m := by omega
      have hfew := HS.out.inv.few hn (by rw [HM.out]; exact Nat.le_refl _)
      have hinv := HS.out.inv
      rw [← HM.out] at hinv
      have HINV := Lib.hid hinv
      have hss : ∀ s ∈ ss, s < 32 ∧ s < 2 ^ n := fun s hs => by have := ((hinv.mem s).1 hs).1; rw [HM.out] at this ⊢; omega
      have HSS := Lib.hid hss
      clear hinv hss
      rcases HS.out.row.row.2 with ⟨hnil, h0⟩ | ⟨g, cap, cur, hsome, -⟩
      · simp only [Value.slice.injEq] at hnil
        obtain ⟨rfl, h00, rfl⟩ := hnil
        have hss0 : ss = [] := List.eq_nil_of_length_eq_zero h00
        subst hss0
        have HMIN : Hid (IsMin n isN (2 ^ n) []) := Lib.hid (HINV.out.done hn (ys := []) (by simp) (fun p q h1 h2 => by simp at h2; omega))
        have hsort := sortK0_any wo
        go_wp2_with fail
        refine hsort.mono ?_
        rintro e w2 ⟨rfl, rfl⟩
        go_wp2
        go_returns
        exact ⟨_, [], rfl, HMIN.out, ⟨[], Sl.nil _ _, rfl, fun i hi => by simp at hi⟩, HS.out.game.less HS.out.sub HFF.out.1 HFF.out.2.1 HFF.out.2.2, HS.out.chg⟩
      · cases hsome
        have hsort := sortK_any V decS5 w1.heap.size g vc ss.length (ss.map kS) wo (fun x hx => by
            obtain ⟨s, hs, rfl⟩ := List.mem_map.1 hx
            have h1 := HS.out.row.reads s hs
            unfold decS5
            rw [show iS (kS s) = s from iS_all ⟨s, (HSS.out s hs).1⟩]
            exact h1.mono fun q hq e => hq.2 (by rw [e]; rfl)) (fun x hx y hy => by
            obtain ⟨s, hs, rfl⟩ := List.mem_map.1 hx
            obtain ⟨t, ht, rfl⟩ := List.mem_map.1 hy
            have b1 := bits_few ⟨n, by omega⟩ ⟨s, by have := (HSS.out s hs).1; omega⟩ (HSS.out s hs).2
            have b2 := bits_few ⟨n, by omega⟩ ⟨t, by have := (HSS.out t ht).1; omega⟩ (HSS.out t ht).2
            simp only at b1 b2
            exact cmpS_all ⟨s, (HSS.out s hs).1⟩ ⟨t, (HSS.out t ht).1⟩ (by simp only; rw [b1, b2, ((HINV.out.mem s).1 hs).2.2, ((HINV.out.mem t).1 ht).2.2])) HS.out.row.row (by omega)
        go_wp2_with fail
        refine hsort.mono ?_
        rintro e w2 ⟨rfl, ys, ho2, hg2, hseg⟩
        have hyl : ys.length = ss.length := by have := hseg.perm.length_eq; simpa using this
        have HMIN := Lib.hid (HINV.out.done hn (ys := ys) hseg.perm hseg.asc)
        have HSL : Hid (SlSl (fun q => w1.heap.size ≤ q) w2 (.slice (some ⟨g, 0, none⟩) ss.length vc) ((ys.map fun y => bitsN n (iS y)).map nInts)) := Lib.hid (by
          refine ⟨ys.map V, Sl.of_owns ho2, by simp, fun i hi => ?_⟩
          simp only [List.length_map] at hi
          obtain ⟨s, hs, e1⟩ := List.mem_map.1 (hseg.perm.mem_iff.1 (List.getElem_mem hi))
          refine ⟨V ys[i], by simp [hi], ?_⟩
          have h1 := HS.out.row.reads s hs
          have b1 := bits_few ⟨n, by omega⟩ ⟨s, by have := (HSS.out s hs).1; omega⟩ (HSS.out s hs).2
          simp only at b1
          simp only [List.getElem_map]
          rw [← e1, show iS (kS s) = s from iS_all ⟨s, (HSS.out s hs).1⟩, ← b1]
          refine (h1.cells fun b o hb hs2 => ?_).mono fun q hq => hq.1
          obtain ⟨x, hx⟩ := Option.isSome_iff_exists.1 hs2
          exact World.cell?_of_block (w := wo) (hg2.block b (World.block_lt_of_cell? wo _ hx) fun e => hb.2 e.symm))
        have HG2 : Hid (GameAt l F0 w2 gb hb kb) := Lib.hid ((HS.out.game.grown hg2 (fun x hx => by
          cases hx
          have h1 := (HS.out.row.row.lt g rfl).1
          exact ⟨by omega, by omega, by omega, .inl (HS.out.own g rfl)⟩)).less HS.out.sub HFF.out.1 HFF.out.2.1 HFF.out.2.2)
        have HC2 : Hid (Chg (fun q => q = kb) w1 w2) := Lib.hid (HS.out.chg.thenG hg2 fun x hx hlt => by cases hx; have h1 := (HS.out.row.row.lt g rfl).1; omega)
        clear hsort ho2 hg2 hseg
        go_wp2
        go_returns
        exact ⟨_, _, rfl, HMIN.out, HSL.out, HG2.out, HC2.out⟩
end Go.Proofs.YtpfpjbglpibdoaaGreatDoor

/- Chapter 5: the properties of sets of reports; Blame. -/
namespace Go.Proofs.YtpfpjbglpibdoaaGreatDoor
open Go Go.RowKit Go.Oche Go.Proofs

set_option maxRecDepth 100000 in
set_option maxHeartbeats 2000000 in
theorem blame1_ok {S : Nat → Prop} {gb hb kb : Nat} (l : Lg) (hv : Valid l) (list : List Rp) (lv : Value) (r : Nat) (w0 : World) (hl : SlN 3 S w0 lv (list.map rpRow)) (hS : ¬ S kb) (hlen : list.length ≤ 5)
    (hr : w0.heap[r]? = some (.cells #[.pointer (some ⟨gb, 0, none⟩), lv] 126 (0, 0))) (hrk : r ≠ kb) : PredOk l w0 gb hb kb list.length 67 #[.pointer (some ⟨r, 0, none⟩)] (isBlame l list) := by
  refine ⟨enters_of Tryz.func67 (by kernel_rfl) rfl, fun F s W hs hG hC hF => ?_⟩
  obtain ⟨a, cap, rfl, h2, h3⟩ := hl.form
  simp only [List.length_map] at *
  unfold maxLen at h3
  obtain ⟨n, hn⟩ : ∃ n, list.length = n := ⟨_, rfl⟩
  have hlW : SlN 3 S W (.slice a list.length cap) (list.map rpRow) := hl.chg hC fun q hq e => hS (by rw [← e]; exact hq)
  have hs10 : s < 1024 := Nat.lt_of_lt_of_le hs (Nat.le_trans (Nat.pow_le_pow_right (by decide) hlen) (by decide))
  have hcan := can_any l hv list (.slice a list.length cap) s hs10 (by omega) W hlW hS hG hF
  obtain ⟨res, hres⟩ : ∃ b, canL l list (fun i => s.testBit i) = b := ⟨_, rfl⟩
  have hib : isBlame l list s = !res := by unfold isBlame; rw [hres]
  rw [hib]
  rw [hres] at hcan
  have hk := (hC.block r (Array.getElem?_eq_some_iff.1 hr).1 hrk).trans hr
  rw [hn] at hk hcan
  have b0 : W.cell? ⟨r, 0, none⟩ = some (.pointer (some ⟨gb, 0, none⟩)) := by rw [cell_of_heap hk]; rfl
  have b1 : W.cell? ⟨r, 1, none⟩ = some (.slice a n cap) := by rw [cell_of_heap hk]; rfl
  clear hl hlW hr hk hG hC hF hib hres hn hs h2
  show Calls Tryz.prog 67 #[.int .u64 (s : Int), .pointer (some ⟨r, 0, none⟩)] W _
  go_enter Tryz.func67, Tryz.ntmps67
  go_wp2_with fail
  refine hcan.mono ?_
  rintro e w' ⟨rfl, hG, hC⟩
  have HG := Lib.hid hG
  have HC := Lib.hid hC
  clear hG hC hcan b0 b1
  go_wp2
  go_returns
  exact ⟨rfl, HG.out, HC.out⟩
def blameE (l : Lg) (list : List Rp) : Int := checkR l list 10
set_option maxRecDepth 100000 in
set_option maxHeartbeats 2000000 in
theorem blame_any {S S' : Nat → Prop} (l : Lg) (bv lv : Value) (list : List Rp) (w : World) (hs : Sl S w bv (ints l.beds)) (hbd : BedsIn l) (hl : SlN 3 S' w lv (list.map rpRow)) (hlen : list.length ≤ 5 ∨ 10 < list.length) (hT : Tab5 w) :
    Calls Tryz.prog 29 #[legV l bv, lv] w fun e w' => ∃ v out, e = .returned (.tuple #[v, .int .i64 (blameE l list)]) ∧ Below w.heap.size w w' ∧
      (blameE l list ≠ 0 → v = .slice none 0 0) ∧ (blameE l list = 0 → Blames l list out ∧ SlSl (fun q => w.heap.size ≤ q) w' v (out.map nInts)) := by
  obtain ⟨a, cap, rfl, h2, h3⟩ := hs.form
  obtain ⟨a', cap', rfl, h2', h3'⟩ := hl.form
  simp only [ints_length, List.length_map] at *
  unfold maxLen at h3 h3'
  obtain ⟨n, hn⟩ : ∃ n, list.length = n := ⟨_, rfl⟩
  rw [hn] at h2' hl ⊢
  obtain ⟨w1, hw1⟩ : ∃ x, w.alloc (.cells #[.int .i64 l.start, .int .i64 l.gin, .int .i64 l.gout, .slice a l.beds.length cap, .int .i64 l.players, .int .i64 l.turns, .bool l.won] 27) = x := ⟨_, rfl⟩
  have hb1 : Below w.heap.size w w1 := by rw [← hw1]; exact aB _ _
  have k : w1.heap[w.heap.size]? = some (.cells #[.int .i64 l.start, .int .i64 l.gin, .int .i64 l.gout, .slice a l.beds.length cap, .int .i64 l.players, .int .i64 l.turns, .bool l.won] 27 (0, 0)) := by rw [← hw1]; exact World.alloc_heap_new _ _
  have c0 : w1.cell? ⟨w.heap.size, 0, none⟩ = some (.int .i64 l.start) := by rw [cell_of_heap k]; rfl
  have c1 : w1.cell? ⟨w.heap.size, 1, none⟩ = some (.int .i64 l.gin) := by rw [cell_of_heap k]; rfl
  have c2 : w1.cell? ⟨w.heap.size, 2, none⟩ = some (.int .i64 l.gout) := by rw [cell_of_heap k]; rfl
  have c3 : w1.cell? ⟨w.heap.size, 3, none⟩ = some (.slice a l.beds.length cap) := by rw [cell_of_heap k]; rfl
  have c4 : w1.cell? ⟨w.heap.size, 4, none⟩ = some (.int .i64 l.players) := by rw [cell_of_heap k]; rfl
  have c5 : w1.cell? ⟨w.heap.size, 5, none⟩ = some (.int .i64 l.turns) := by rw [cell_of_heap k]; rfl
  have c6 : w1.cell? ⟨w.heap.size, 6, none⟩ = some (.bool l.won) := by rw [cell_of_heap k]; rfl
  obtain ⟨ec, hec⟩ : ∃ e, checkR l list 10 = e := ⟨_, rfl⟩
  have HEC := Lib.hid hec
  rw [show blameE l list = ec from hec]
  have HN := Lib.hid hn
  have HW := Lib.hid hw1
  have HB := Lib.hid hb1
  have HS := Lib.hid (hs.below hb1)
  have HL := Lib.hid ((hl.lt (by decide)).below hb1)
  have HBD := Lib.hid hbd
  have HT := Lib.hid hT
  have HLEN := Lib.hid hlen
  have hsz1 := hb1.size
  clear hw1 hb1 k hs hl hbd hec hn hT hlen
  unfold legV legA
  go_enter Tryz.func29, Tryz.ntmps29
  go_upto_region 1 with fail
  rw [HW.out]
  go_wp2_with fail
  have hca := checkR_any l (.slice a l.beds.length cap) (.slice a' n cap') list 10 w1 HS.out HBD.out HL.out
  unfold legV legA at hca
  rw [HEC.out] at hca
  refine hca.mono ?_
  rintro e w2 ⟨rfl, hb2⟩
  have HB2 := Lib.hid (bThen HB.out hb2)
  have HS2 := Lib.hid (HS.out.below hb2)
  have HL2 := Lib.hid (HL.out.below hb2)
  have c0 := bAt hb2 c0
  have c1 := bAt hb2 c1
  have c2 := bAt hb2 c2
  have c3 := bAt hb2 c3
  have c4 := bAt hb2 c4
  have c5 := bAt hb2 c5
  have c6 := bAt hb2 c6
  have hsz2 := hb2.size
  clear hb2 hca
  obtain ⟨z, hz⟩ : ∃ z, (ec != 0) = z := ⟨_, rfl⟩
  have HZ := Lib.hid hz
  cases z
  · have he : ec = 0 := by simpa using HZ.out
    have hck : checkL l = 0 := by
      have := HEC.out
      unfold checkR at this
      by_cases c : checkL l = 0
      · exact c
      · rw [if_pos c, he] at this; exact (c this).elim
    have hl10 : list.length ≤ 10 := by
      have := HEC.out
      unfold checkR at this
      rw [if_neg (by simp [hck]), he] at this
      by_cases c : (10 : Int) < (list.length : Int)
      · rw [if_pos (decide_eq_true c)] at this; cases this
      · omega
    have hv := valid_of hck
    have hl5 : list.length ≤ 5 := HLEN.out.elim id fun h => by omega
    have hn5 : n ≤ 5 := by rw [← HN.out]; exact hl5
    have HV := Lib.hid hv
    subst he
    clear hv hck hz
    go_wp2_with fail
    have hng := newGame_any l (.slice a l.beds.length cap) w2 HV.out HS2.out HBD.out
    unfold legV legA at hng
    refine hng.mono ?_
    rintro e w3 ⟨gb, hb, kb, rfl, hb3, hG3, hg1, hg2, hg3⟩
    have HB3 := Lib.hid (bThen HB2.out hb3)
    have HL3 := Lib.hid (HL2.out.below hb3)
    have HG3 := Lib.hid hG3
    have hsz3 := hb3.size
    clear hng hb3 hG3 c0 c1 c2 c3 c4 c5 c6 HS2
    obtain ⟨w4, hw4⟩ : ∃ x, w3.alloc (.cells #[.pointer (some ⟨gb, 0, none⟩), .slice a' n cap'] 126) = x := ⟨_, rfl⟩
    have hb4 : Below w3.heap.size w3 w4 := by rw [← hw4]; exact aB _ _
    obtain ⟨R, hR⟩ : ∃ R, w3.heap.size = R := ⟨_, rfl⟩
    have k4 : w4.heap[R]? = some (.cells #[.pointer (some ⟨gb, 0, none⟩), .slice a' n cap'] 126 (0, 0)) := by rw [← hw4, ← hR]; exact World.alloc_heap_new _ _
    have HB4 := Lib.hid (bThen HB3.out hb4)
    have HG4 := Lib.hid (HG3.out.below hb4)
    have HW4 := Lib.hid hw4
    have hltG := HG3.out.lt
    have hszw := HT.out.lt
    have hp := blame1_ok (hb := hb) (kb := kb) l HV.out list (.slice a' n cap') R w4 (HL3.out.below hb4) (fun h => by have := h.2; omega) hl5 k4 (by omega)
    rw [HN.out] at hp
    have hsm := smallest_any (F0 := fun q => q = gb ∨ q = hb ∨ q = kb) l n _ _ _ hn5 w4 hp (HG4.out.less (fun q h => h) (.inl rfl) (.inr (.inl rfl)) (.inr (.inr rfl))) (fun q hq => by have h1 := HG4.out.lt; rcases hq with rfl | rfl | rfl <;> omega) (HT.out.below HB4.out) (by omega)
    clear hw4 hb4 k4 HG3 HL3 hp HG4
    go_upto_region 5 with fail
    rw [HW4.out]
    go_wp2_with fail
    refine hsm.mono ?_
    rintro e w5 ⟨v, out, rfl, hmin, hsl, hG5, hC5⟩
    have HMIN : Hid (Blames l list out) := Lib.hid (by unfold Blames; rw [HN.out]; exact hmin)
    have hsz4 := HB4.out.size
    have hsz34 : w3.heap.size ≤ w4.heap.size := by rw [← HW4.out]; simp
    have HSL := Lib.hid (hsl.mono (S' := fun q => w.heap.size ≤ q) fun q hq => by omega)
    have HB5 : Hid (Below w.heap.size w w5) := Lib.hid (HB4.out.trans (hC5.mono (O' := fun q => w.heap.size ≤ q) (fun q hq e => by omega) |> fun h => ⟨h.os, h.tape, h.output, h.size, fun q hq => h.block q (by omega) (by omega)⟩))
    clear hsm hmin hsl hG5 hC5
    go_wp2
    go_returns
    exact ⟨v, rfl, HB5.out, out, HMIN.out, HSL.out⟩
  · have HNE : Hid (ec ≠ 0) := Lib.hid (by simpa using HZ.out)
    clear c0 c1 c2 c3 c4 c5 c6
    go_wp2
    go_returns
    exact ⟨_, [], rfl, HB2.out, fun _ => rfl, fun e => (HNE.out e).elim⟩
end Go.Proofs.YtpfpjbglpibdoaaGreatDoor

/- Chapter 5: without which reports all others can be right; Drop. -/
namespace Go.Proofs.YtpfpjbglpibdoaaGreatDoor
open Go Go.RowKit Go.Oche Go.Proofs

theorem andNot_all : ∀ n : Fin 6, ∀ s : Fin 32, s.val < 2 ^ n.val → ∃ d : Fin 32, bits BinOp.andNot IntKind.u64 ((2 ^ n.val - 1 : Nat) : Int) ((s.val : Nat) : Int) = ((d.val : Nat) : Int) ∧ d.val < 2 ^ n.val ∧ ∀ i : Fin 6, i.val < n.val → d.val.testBit i.val = !s.val.testBit i.val := by decide +kernel
structure JC (w0 : World) (kb i : Nat) (Q : World → Prop) (L : Nat → Bool) (W : World) : Prop where
  chg : Chg (fun q => q = kb) w0 W
  pre : L i = false → Below w0.heap.size w0 W
  post : L i = true → Q W
section
variable {w0 W W' : World} {kb i : Nat} {Q : World → Prop} {L : Nat → Bool}
theorem JC.start : JC w0 kb i Q (fun _ => false) w0.drew := ⟨⟨rfl, rfl, rfl, Nat.le_refl _, fun _ _ _ => rfl⟩, fun _ => ⟨rfl, rfl, rfl, Nat.le_refl _, fun _ _ => rfl⟩, fun h => (by cases h)⟩
theorem JC.read (h : JC w0 kb i Q L W) {k : Nat} (hn : i ≠ k) : JC w0 kb i Q (setB L k) W := ⟨h.chg, by rw [setB_ne hn]; exact h.pre, by rw [setB_ne hn]; exact h.post⟩
theorem JC.cell (h : JC w0 kb i Q L W) {q o : Nat} {x : Value} (hv : w0.cell? ⟨q, o, none⟩ = some x) (hq : q ≠ kb) : W.cell? ⟨q, o, none⟩ = some x :=
  (World.cell?_of_block (w := w0) (h.chg.block q (World.block_lt_of_cell? w0 _ hv) hq)).trans hv
theorem JC.call (h : JC w0 kb i Q L W) (hc : Chg (fun q => q = kb) W W') (hq : Q W') : JC w0 kb i Q (setB L i) W' :=
  ⟨h.chg.trans hc, fun e => (by rw [setB_eq] at e; cases e), fun _ => hq⟩
end
set_option maxRecDepth 100000 in
set_option maxHeartbeats 2000000 in
theorem drop1_ok {S : Nat → Prop} {gb hb kb : Nat} (l : Lg) (hv : Valid l) (list : List Rp) (lv : Value) (r x : Nat) (w0 : World) (hl : SlN 3 S w0 lv (list.map rpRow)) (hS : ¬ S kb) (hlen : list.length ≤ 5)
    (hr : w0.heap[r]? = some (.cells #[.pointer (some ⟨gb, 0, none⟩), lv] 126 (0, 0))) (hrk : r ≠ kb) (hx : w0.cell? ⟨x, 0, none⟩ = some lv) (hxk : x ≠ kb) :
    PredOk l w0 gb hb kb list.length 69 #[.pointer (some ⟨r, 0, none⟩), .pointer (some ⟨x, 0, none⟩)] (isDrop l list) := by
  refine ⟨enters_of Tryz.func69 (by kernel_rfl) rfl, fun F s W hs hG hC hF => ?_⟩
  obtain ⟨a, cap, rfl, h2, h3⟩ := hl.form
  simp only [List.length_map] at *
  unfold maxLen at h3
  have hlW : SlN 3 S W (.slice a list.length cap) (list.map rpRow) := hl.chg hC fun q hq e => hS (by rw [← e]; exact hq)
  have hs32 : s < 32 := Nat.lt_of_lt_of_le hs (Nat.le_trans (Nat.pow_le_pow_right (by decide) hlen) (by decide))
  obtain ⟨⟨d, hd⟩, e1, e2, e3⟩ := andNot_all ⟨list.length, by omega⟩ ⟨s, hs32⟩ hs
  simp only at e1 e2 e3
  have hd10 : d < 1024 := by omega
  have hcan : ∀ W', Below W.heap.size W W' → Calls Tryz.prog 68 #[.agg #[.pointer (some ⟨gb, 0, none⟩), .slice a list.length cap], .int .u64 (d : Int)] W' fun e w' => e = .returned (.bool (canL l list fun i => d.testBit i)) ∧ GameAt l F w' gb hb kb ∧ Chg (fun q => q = kb) W' w' :=
    fun W' hb' => can_any l hv list (.slice a list.length cap) d hd10 (by omega) W' (hlW.below hb') hS (hG.below hb') (fun q hq => Nat.lt_of_lt_of_le (hF q hq) hb'.size)
  have hcc : canL l list (fun i => d.testBit i) = isDrop l list s := can_congr fun i hi => e3 ⟨i, by omega⟩ hi
  rw [hcc] at hcan
  have hall := all_any list.length (by omega)
  obtain ⟨res, hres⟩ : ∃ b, isDrop l list s = b := ⟨_, rfl⟩
  rw [hres] at hcan ⊢
  obtain ⟨m, hm⟩ : ∃ m, 2 ^ list.length - 1 = m := ⟨_, rfl⟩
  rw [hm] at hall e1
  obtain ⟨n, hn⟩ : ∃ n, list.length = n := ⟨_, rfl⟩
  rw [hn] at hcan hall
  have hk := (hC.block r (Array.getElem?_eq_some_iff.1 hr).1 hrk).trans hr
  have hkx : W.cell? ⟨x, 0, none⟩ = some (.slice a list.length cap) := (World.cell?_of_block (w := w0) (hC.block x (World.block_lt_of_cell? w0 _ hx) hxk)).trans hx
  rw [hn] at hk hkx
  have b0 : W.cell? ⟨r, 0, none⟩ = some (.pointer (some ⟨gb, 0, none⟩)) := by rw [cell_of_heap hk]; rfl
  have b1 : W.cell? ⟨r, 1, none⟩ = some (.slice a n cap) := by rw [cell_of_heap hk]; rfl
  have HCAN := Lib.hid hcan
  have HALL := Lib.hid hall
  have HE1 := Lib.hid e1
  clear hl hlW hr hk hG hC hF hres hn hs h2 hcan hall hm e1 e2 e3 hcc hx
  show Calls Tryz.prog 69 #[.int .u64 (s : Int), .pointer (some ⟨r, 0, none⟩), .pointer (some ⟨x, 0, none⟩)] W _
  go_enter Tryz.func69, Tryz.ntmps69
  go_upto_region 1 with fail
  refine wp_region_seqV 8 ((fun v => v = .agg #[.pointer (some ⟨gb, 0, none⟩), .slice a n cap]) :: (fun v => v = .slice a n cap) :: (fun v => v = .int .i64 (n : Int)) :: (fun v => v = .int .u64 (m : Int)) :: (fun v => v = .int .u64 (s : Int)) :: (fun v => v = .int .u64 (d : Int)) :: (fun v => v = .bool res) :: (fun v => v = .bool res) :: []) (fun L _ W' => JC W kb 6 (fun w' => GameAt l F w' gb hb kb) L W') rfl mix (by kernel_rfl) (by kernel_rfl) (fun _ _ _ _ _ h => h) (fun _ => JC.start) ?_
  simp only [List.take_succ_cons, List.take_zero]
  iterate 3
    refine sv_rd rfl (fun _ _ _ h => h.read (by simp)) (fun W' L vs hvs hL hj => ?_) ?_
    · have b0' := hj.cell b0 hrk
      have b1' := hj.cell b1 hrk
      have bx' := hj.cell hkx hxk
      simp [opOK, go_sem, b0', b1', bx']
      try exact rfl
    simp only [Act.put, List.setIfInBounds_toArray, List.set_cons_succ, List.set_cons_zero]
  refine sv_rd rfl (fun _ _ _ h => h.read (by simp)) (fun W' L vs hvs hL hj => ?_) ?_
  · refine opOK_call (f := 70) (args := #[.int .i64 (n : Int)]) (by simp [go_sem]) ?_
    refine (HALL.out W').mono ?_
    rintro e w' ⟨rfl, rfl⟩
    exact ⟨_, rfl, rfl, rfl⟩
  simp only [Act.put, List.setIfInBounds_toArray, List.set_cons_succ, List.set_cons_zero]
  iterate 2
    refine sv_rd rfl (fun _ _ _ h => h.read (by simp)) (fun W' L vs hvs hL hj => ?_) ?_
    · simp [opOK, go_sem, HE1.out]
      try exact rfl
    simp only [Act.put, List.setIfInBounds_toArray, List.set_cons_succ, List.set_cons_zero]
  refine sv_new ⟨_, rfl⟩ rfl (fun W' L vs hvs hL hj hd => ?_) ?_
  · simp only [List.length_append, List.length_cons, List.length_nil, Nat.zero_add, Nat.reduceAdd] at hL ⊢
    refine opOK_call (f := 68) (args := #[.agg #[.pointer (some ⟨gb, 0, none⟩), .slice a n cap], .int .u64 (d : Int)]) (by simp [go_sem]) ?_
    refine (HCAN.out W' (hj.pre hL)).mono ?_
    rintro e w' ⟨rfl, hG, hC⟩
    exact ⟨_, rfl, rfl, hj.call hC hG⟩
  rintro _ rfl
  simp only [Act.put, List.setIfInBounds_toArray, List.set_cons_succ, List.set_cons_zero]
  refine sv_rd rfl (fun _ _ _ h => h.read (by simp)) (fun W' L vs hvs hL hj => ?_) ?_
  · simp [opOK, go_sem]
    try exact rfl
  simp only [Act.put, List.setIfInBounds_toArray, List.set_cons_succ, List.set_cons_zero]
  refine sv_end fun vs w' hvs hj => ?_
  simp only [List.drop_succ_cons, List.drop_zero]
  have HG := Lib.hid (hj.post (by decide))
  have HC := Lib.hid hj.chg
  clear hj b0 b1 hkx
  go_wp2
  go_returns
  exact ⟨rfl, HG.out, HC.out⟩
end Go.Proofs.YtpfpjbglpibdoaaGreatDoor

/- Chapter 5: Drop. -/
namespace Go.Proofs.YtpfpjbglpibdoaaGreatDoor
open Go Go.RowKit Go.Oche Go.Proofs

theorem GameAt.fence {l : Lg} {F : Nat → Prop} {W : World} {gb hb kb R : Nat} (h : GameAt l F W gb hb kb) (hR : ∀ es c, W.heap[R]? ≠ some (.map es c)) : GameAt l (fun q => F q ∨ q = R) W gb hb kb := by
  refine ⟨h.box, h.hits, ?_, .inl h.fg, .inl h.fh, .inl h.fk, h.hk, h.gk⟩
  obtain ⟨L, h1, h2, h3⟩ := h.known
  refine ⟨L, h1, h2, fun p hp => ?_⟩
  obtain ⟨b, hb1, hb2, hb3⟩ := h3 p hp
  refine ⟨b, hb1, fun hf => hf.elim hb2 fun e => ?_, hb3⟩
  obtain ⟨es, c, ho⟩ := holdsM_obj hb3
  exact hR es c (by rw [← e]; exact ho)
structure JD (l : Lg) (w0 : World) (sl : Value) (L : Nat → Bool) (vs : Nat → Value) (W : World) : Prop where
  below : Below w0.heap.size w0 W
  game : L 1 = true → ∃ gb hb kb, vs 1 = .pointer (some ⟨gb, 0, none⟩) ∧ GameAt l (fun q => q = gb ∨ q = hb ∨ q = kb) W gb hb kb ∧ w0.heap.size ≤ gb ∧ w0.heap.size ≤ hb ∧ w0.heap.size ≤ kb
  bld : L 3 = true → L 1 = true ∧ vs 3 = .agg #[vs 1, sl]
  box : L 4 = true → ∃ R, vs 4 = .pointer (some ⟨R, 0, none⟩) ∧ w0.heap.size ≤ R ∧ W.heap[R]? = some (.cells #[.pointer none, .slice none 0 0] 126 (0, 0))
section
variable {l : Lg} {w0 W W' : World} {sl : Value} {L : Nat → Bool} {vs vs' : Nat → Value}
theorem JD.congr (hc : ∀ j, L j = true → vs j = vs' j) (h : JD l w0 sl L vs W) : JD l w0 sl L vs' W :=
  ⟨h.below, fun e => by rw [← hc _ e]; exact h.game e, fun e => ⟨(h.bld e).1, by rw [← hc _ e, ← hc _ (h.bld e).1]; exact (h.bld e).2⟩, fun e => by rw [← hc _ e]; exact h.box e⟩
theorem JD.start (vs : Nat → Value) : JD l w0 sl (fun _ => false) vs w0.drew := ⟨⟨rfl, rfl, rfl, Nat.le_refl _, fun _ _ => rfl⟩, fun h => (by cases h), fun h => (by cases h), fun h => (by cases h)⟩
theorem JD.grow (h : JD l w0 sl L vs W) (hb : Below W.heap.size W W') : JD l w0 sl L vs W' :=
  ⟨bThen h.below hb, fun e => let ⟨g, b, k, e1, e2, e3⟩ := h.game e; ⟨g, b, k, e1, e2.below hb, e3⟩, h.bld, fun e => let ⟨R, e1, e2, e3⟩ := h.box e; ⟨R, e1, e2, (hb.block R (Array.getElem?_eq_some_iff.1 e3).1).trans e3⟩⟩
theorem JD.set (h : JD l w0 sl L vs W) {i : Nat} {v : Value} (h1 : i = 1 → ∃ gb hb kb, v = .pointer (some ⟨gb, 0, none⟩) ∧ GameAt l (fun q => q = gb ∨ q = hb ∨ q = kb) W gb hb kb ∧ w0.heap.size ≤ gb ∧ w0.heap.size ≤ hb ∧ w0.heap.size ≤ kb)
    (h3 : i = 3 → L 1 = true ∧ v = .agg #[vs 1, sl]) (h4 : i = 4 → ∃ R, v = .pointer (some ⟨R, 0, none⟩) ∧ w0.heap.size ≤ R ∧ W.heap[R]? = some (.cells #[.pointer none, .slice none 0 0] 126 (0, 0))) (hL : L i = false) : JD l w0 sl (setB L i) (updV vs i v) W := by
  refine ⟨h.below, fun e => ?_, fun e => ?_, fun e => ?_⟩
  · by_cases c : i = 1
    · subst c; rw [updV_eq]; exact h1 rfl
    · have c' : 1 ≠ i := fun e => c e.symm
      rw [setB_ne c'] at e; rw [updV_ne c']; exact h.game e
  · by_cases c : i = 3
    · subst c; rw [updV_eq, setB_ne (by decide), updV_ne (by decide)]; exact h3 rfl
    · have c' : 3 ≠ i := fun e => c e.symm
      rw [setB_ne c'] at e
      obtain ⟨e1, e2⟩ := h.bld e
      have c1 : 1 ≠ i := fun q => by rw [q] at e1; rw [e1] at hL; cases hL
      rw [setB_ne c1, updV_ne c1, updV_ne c']; exact ⟨e1, e2⟩
  · by_cases c : i = 4
    · subst c; rw [updV_eq]; exact h4 rfl
    · have c' : 4 ≠ i := fun e => c e.symm
      rw [setB_ne c'] at e; rw [updV_ne c']; exact h.box e
end
def dropE (l : Lg) (list : List Rp) : Int := if checkR l list 10 = 0 then (if canL l list (fun _ => false) = true then 0 else 9) else checkR l list 10
set_option maxRecDepth 100000 in
set_option maxHeartbeats 2000000 in
theorem drop_any {S S' : Nat → Prop} (l : Lg) (bv lv : Value) (list : List Rp) (w : World) (hs : Sl S w bv (ints l.beds)) (hbd : BedsIn l) (hl : SlN 3 S' w lv (list.map rpRow)) (hlen : list.length ≤ 5 ∨ 10 < list.length) (hT : Tab5 w) :
    Calls Tryz.prog 30 #[legV l bv, lv] w fun e w' => ∃ v out, e = .returned (.tuple #[v, .int .i64 (dropE l list)]) ∧ Below w.heap.size w w' ∧
      (dropE l list ≠ 0 → v = .slice none 0 0) ∧ (dropE l list = 0 → Drops l list out ∧ SlSl (fun q => w.heap.size ≤ q) w' v (out.map nInts)) := by
  obtain ⟨a, cap, rfl, h2, h3⟩ := hs.form
  obtain ⟨a', cap', rfl, h2', h3'⟩ := hl.form
  simp only [ints_length, List.length_map] at *
  unfold maxLen at h3 h3'
  obtain ⟨n, hn⟩ : ∃ n, list.length = n := ⟨_, rfl⟩
  rw [hn] at h2' hl ⊢
  obtain ⟨w1, hw1⟩ : ∃ x, (w.alloc (.cells #[.int .i64 l.start, .int .i64 l.gin, .int .i64 l.gout, .slice a l.beds.length cap, .int .i64 l.players, .int .i64 l.turns, .bool l.won] 27)).alloc (.cells #[.slice a' n cap'] 53) = x := ⟨_, rfl⟩
  have hb1 : Below w.heap.size w w1 := by rw [← hw1]; exact (aB _ _).alloc (by simp) _
  have k : w1.heap[w.heap.size]? = some (.cells #[.int .i64 l.start, .int .i64 l.gin, .int .i64 l.gout, .slice a l.beds.length cap, .int .i64 l.players, .int .i64 l.turns, .bool l.won] 27 (0, 0)) := by rw [← hw1]; exact (Below.heap_alloc _ _ _ (by simp)).trans (World.alloc_heap_new _ _)
  have kx : w1.heap[w.heap.size + 1]? = some (.cells #[.slice a' n cap'] 53 (0, 0)) := by rw [← hw1, show w.heap.size + 1 = (w.alloc (.cells #[.int .i64 l.start, .int .i64 l.gin, .int .i64 l.gout, .slice a l.beds.length cap, .int .i64 l.players, .int .i64 l.turns, .bool l.won] 27)).heap.size by simp]; exact World.alloc_heap_new _ _
  have hs1 : w1.heap.size = w.heap.size + 2 := by rw [← hw1]; simp
  have c7 : w1.cell? ⟨w.heap.size + 1, 0, none⟩ = some (.slice a' n cap') := by rw [cell_of_heap kx]; rfl
  have c0 : w1.cell? ⟨w.heap.size, 0, none⟩ = some (.int .i64 l.start) := by rw [cell_of_heap k]; rfl
  have c1 : w1.cell? ⟨w.heap.size, 1, none⟩ = some (.int .i64 l.gin) := by rw [cell_of_heap k]; rfl
  have c2 : w1.cell? ⟨w.heap.size, 2, none⟩ = some (.int .i64 l.gout) := by rw [cell_of_heap k]; rfl
  have c3 : w1.cell? ⟨w.heap.size, 3, none⟩ = some (.slice a l.beds.length cap) := by rw [cell_of_heap k]; rfl
  have c4 : w1.cell? ⟨w.heap.size, 4, none⟩ = some (.int .i64 l.players) := by rw [cell_of_heap k]; rfl
  have c5 : w1.cell? ⟨w.heap.size, 5, none⟩ = some (.int .i64 l.turns) := by rw [cell_of_heap k]; rfl
  have c6 : w1.cell? ⟨w.heap.size, 6, none⟩ = some (.bool l.won) := by rw [cell_of_heap k]; rfl
  obtain ⟨ec, hec⟩ : ∃ e, checkR l list 10 = e := ⟨_, rfl⟩
  have HEC := Lib.hid hec
  obtain ⟨de, hde⟩ : ∃ e, dropE l list = e := ⟨_, rfl⟩
  rw [hde]
  have HDE : Hid (de = if ec = 0 then (if canL l list (fun _ => false) = true then 0 else 9) else ec) := Lib.hid (by rw [← hde, ← hec]; rfl)
  clear hde
  have HN := Lib.hid hn
  have HW := Lib.hid hw1
  have HB := Lib.hid hb1
  have HS := Lib.hid (hs.below hb1)
  have HL := Lib.hid ((hl.lt (by decide)).below hb1)
  have HBD := Lib.hid hbd
  have HT := Lib.hid hT
  have HLEN := Lib.hid hlen
  have hsz1 := hb1.size
  clear hw1 hb1 k kx hs hl hbd hec hn hT hlen
  unfold legV legA
  go_enter Tryz.func30, Tryz.ntmps30
  go_upto_region 1 with fail
  rw [HW.out]
  go_wp2_with fail
  have hca := checkR_any l (.slice a l.beds.length cap) (.slice a' n cap') list 10 w1 HS.out HBD.out HL.out
  unfold legV legA at hca
  rw [HEC.out] at hca
  refine hca.mono ?_
  rintro e w2 ⟨rfl, hb2⟩
  have HB2 := Lib.hid (bThen HB.out hb2)
  have HS2 := Lib.hid (HS.out.below hb2)
  have HL2 := Lib.hid (HL.out.below hb2)
  have c0 := bAt hb2 c0
  have c1 := bAt hb2 c1
  have c2 := bAt hb2 c2
  have c3 := bAt hb2 c3
  have c4 := bAt hb2 c4
  have c5 := bAt hb2 c5
  have c6 := bAt hb2 c6
  have c7 := bAt hb2 c7
  have hsz2 := hb2.size
  clear hb2 hca
  obtain ⟨z, hz⟩ : ∃ z, (ec != 0) = z := ⟨_, rfl⟩
  have HZ := Lib.hid hz
  cases z
  · have he : ec = 0 := by simpa using HZ.out
    have hck : checkL l = 0 := by
      have := HEC.out
      unfold checkR at this
      by_cases c : checkL l = 0
      · exact c
      · rw [if_pos c, he] at this; exact (c this).elim
    have hl10 : list.length ≤ 10 := by
      have := HEC.out
      unfold checkR at this
      rw [if_neg (by simp [hck]), he] at this
      by_cases c : (10 : Int) < (list.length : Int)
      · rw [if_pos (decide_eq_true c)] at this; cases this
      · omega
    have hv := valid_of hck
    have hl5 : list.length ≤ 5 := HLEN.out.elim id fun h => by omega
    have hn5 : n ≤ 5 := by rw [← HN.out]; exact hl5
    have HV := Lib.hid hv
    subst he
    clear hv hck hz
    go_upto_region 4 with fail
    have hng : ∀ W, Below w2.heap.size w2 W → Calls Tryz.prog 59 #[.agg #[.int .i64 l.start, .int .i64 l.gin, .int .i64 l.gout, .slice a l.beds.length cap, .int .i64 l.players, .int .i64 l.turns, .bool l.won]] W fun e w' => ∃ gb hb kb, e = .returned (.pointer (some ⟨gb, 0, none⟩)) ∧ Below W.heap.size W w' ∧ GameAt l (fun q => q = gb ∨ q = hb ∨ q = kb) w' gb hb kb ∧ W.heap.size ≤ gb ∧ W.heap.size ≤ hb ∧ W.heap.size ≤ kb := fun W hW =>
      newGame_any l (.slice a l.beds.length cap) W HV.out (HS2.out.below hW) HBD.out
    refine wp_region_seqV 5 ((fun v => v = .agg #[.int .i64 l.start, .int .i64 l.gin, .int .i64 l.gout, .slice a l.beds.length cap, .int .i64 l.players, .int .i64 l.turns, .bool l.won]) :: (fun v => ∃ g, v = .pointer (some ⟨g, 0, none⟩)) :: (fun v => v = .slice a' n cap') :: (fun v => ∃ g, v = .agg #[.pointer (some ⟨g, 0, none⟩), .slice a' n cap']) :: (fun v => ∃ g, v = .pointer (some ⟨g, 0, none⟩)) :: []) (JD l w2 (.slice a' n cap')) rfl mix (by kernel_rfl) (by kernel_rfl) (fun _ _ _ _ hc h => h.congr hc) (fun vs => JD.start vs) ?_
    simp only [List.take_succ_cons, List.take_zero]
    refine sv_new ⟨_, rfl⟩ rfl (fun W L vs hvs hL hj hd => ?_) ?_
    · simp only [List.length_nil] at hL ⊢
      have q0 := bAt hj.below c0
      have q1 := bAt hj.below c1
      have q2 := bAt hj.below c2
      have q3 := bAt hj.below c3
      have q4 := bAt hj.below c4
      have q5 := bAt hj.below c5
      have q6 := bAt hj.below c6
      exact opOK_val (v := .agg #[.int .i64 l.start, .int .i64 l.gin, .int .i64 l.gout, .slice a l.beds.length cap, .int .i64 l.players, .int .i64 l.turns, .bool l.won]) (w' := W) (by simp [go_sem, execOp, q0, q1, q2, q3, q4, q5, q6]) ⟨rfl, hj.set (fun e => by cases e) (fun e => by cases e) (fun e => by cases e) hL⟩
    rintro _ rfl
    simp only [Act.put, List.setIfInBounds_toArray, List.set_cons_succ, List.set_cons_zero]
    refine sv_new ⟨_, 0, rfl⟩ rfl (fun W L vs hvs hL hj hd => ?_) ?_
    · simp only [List.length_append, List.length_cons, List.length_nil, Nat.zero_add] at hL ⊢
      refine opOK_call (f := 59) (args := #[.agg #[.int .i64 l.start, .int .i64 l.gin, .int .i64 l.gout, .slice a l.beds.length cap, .int .i64 l.players, .int .i64 l.turns, .bool l.won]]) (by simp [go_sem]) ?_
      refine (hng W hj.below).mono ?_
      rintro e w' ⟨gb, hb, kb, rfl, hb3, hG3, hg1, hg2, hg3⟩
      have := hj.below.size
      exact ⟨_, rfl, ⟨gb, rfl⟩, (hj.grow hb3).set (fun _ => ⟨gb, hb, kb, rfl, hG3, by omega, by omega, by omega⟩) (fun e => by cases e) (fun e => by cases e) hL⟩
    rintro _ ⟨gv, rfl⟩
    simp only [Act.put, List.setIfInBounds_toArray, List.set_cons_succ, List.set_cons_zero]
    refine sv_new ⟨_, rfl⟩ rfl (fun W L vs hvs hL hj hd => ?_) ?_
    · simp only [List.length_append, List.length_cons, List.length_nil, Nat.zero_add, Nat.reduceAdd] at hL ⊢
      have q7 := bAt hj.below c7
      exact opOK_val (v := .slice a' n cap') (w' := W) (by simp [go_sem, execOp, q7]) ⟨rfl, hj.set (fun e => by cases e) (fun e => by cases e) (fun e => by cases e) hL⟩
    rintro _ rfl
    simp only [Act.put, List.setIfInBounds_toArray, List.set_cons_succ, List.set_cons_zero]
    refine sv_new ⟨_, 0, rfl⟩ rfl (fun W L vs hvs hL hj hd => ?_) ?_
    · simp only [List.length_append, List.length_cons, List.length_nil, Nat.zero_add, Nat.reduceAdd] at hL ⊢
      exact opOK_val (v := .agg #[.pointer (some ⟨gv, 0, none⟩), .slice a' n cap']) (w' := W) (by simp [go_sem, execOp]) ⟨⟨_, rfl⟩, hj.set (fun e => by cases e) (fun _ => ⟨hd ⟨1, .data⟩ (by simp) rfl, by rw [hvs 1 (.pointer (some ⟨gv, 0, none⟩)) (by simp)]⟩) (fun e => by cases e) hL⟩
    rintro _ ⟨gw, rfl⟩
    simp only [Act.put, List.setIfInBounds_toArray, List.set_cons_succ, List.set_cons_zero]
    refine sv_new ⟨_, 0, rfl⟩ rfl (fun W L vs hvs hL hj hd => ?_) ?_
    · simp only [List.length_append, List.length_cons, List.length_nil, Nat.zero_add, Nat.reduceAdd] at hL ⊢
      exact opOK_val (v := .pointer (some ⟨W.heap.size, 0, none⟩)) (w' := W.alloc (.cells #[.pointer none, .slice none 0 0] 126)) (by simp [go_sem, execOp]) ⟨⟨_, rfl⟩, (hj.grow (aB W _)).set (fun e => by cases e) (fun e => by cases e) (fun _ => ⟨_, rfl, hj.below.size, World.alloc_heap_new _ _⟩) hL⟩
    rintro _ ⟨R, rfl⟩
    simp only [Act.put, List.setIfInBounds_toArray, List.set_cons_succ, List.set_cons_zero]
    refine sv_end fun vs w3 hvs hj => ?_
    simp only [List.drop_succ_cons, List.drop_zero]
    have e1 := hvs 1 (.pointer (some ⟨gv, 0, none⟩)) (by simp)
    obtain ⟨-, e3⟩ := hj.bld (by decide)
    rw [hvs 3 (.agg #[.pointer (some ⟨gw, 0, none⟩), .slice a' n cap']) (by simp), e1] at e3
    cases e3
    obtain ⟨gb, hb, kb, e4, hG3, hg1, hg2, hg3⟩ := hj.game (by decide)
    rw [e1] at e4
    cases e4
    obtain ⟨R', e5, hRn, hRk⟩ := hj.box (by decide)
    rw [hvs 4 (.pointer (some ⟨R, 0, none⟩)) (by simp)] at e5
    cases e5
    have HB3 := Lib.hid (bThen HB2.out hj.below)
    have HL3 := Lib.hid (HL2.out.below hj.below)
    have c7 := bAt hj.below c7
    have hRm : ∀ es c, w3.heap[R]? ≠ some (.map es c) := fun es c e => by rw [hRk] at e; cases e
    have hgne : R ≠ gv := fun e => by
      obtain ⟨bv, hbx⟩ := hG3.box
      rw [← e, hRk] at hbx
      cases hbx
    have hhne : R ≠ hb := fun e => by obtain ⟨es, c, ho⟩ := holdsM_obj hG3.hits; exact hRm es c (by rw [e]; exact ho)
    have hkne : R ≠ kb := fun e => by obtain ⟨L, ⟨es, c, ho, _⟩, _⟩ := hG3.known; exact hRm es c (by rw [e]; exact ho)
    have hsz3 := hj.below.size
    have HG3 := Lib.hid (hG3.fence hRm)
    have r0 : w3.cell? ⟨R, 0, none⟩ = some (.pointer none) := by rw [cell_of_heap hRk]; rfl
    have r1 : w3.cell? ⟨R, 1, none⟩ = some (.slice none 0 0) := by rw [cell_of_heap hRk]; rfl
    have fz0 : w3.frozen? ⟨R, 0, none⟩ = false := frozen_of_heap hRk
    have fz1 : w3.frozen? ⟨R, 1, none⟩ = false := frozen_of_heap hRk
    obtain ⟨w4, hw4⟩ : ∃ y, (w3.setCell ⟨R, 0, none⟩ (.pointer (some ⟨gv, 0, none⟩))).setCell ⟨R, 1, none⟩ (.slice a' n cap') = y := ⟨_, rfl⟩
    have hk4 : w4.heap[R]? = some (.cells #[.pointer (some ⟨gv, 0, none⟩), .slice a' n cap'] 126 (0, 0)) := by rw [← hw4]; exact heap_setCell_at (heap_setCell_at hRk _) _
    have hg4 : w3.grownBy w4 (some R) := by
      rw [← hw4]
      refine ⟨rfl, rfl, rfl, by simp, fun q hq hn => ?_⟩
      have hne : q ≠ R := fun e => hn (by rw [e])
      rw [Below.heap_setCell _ _ _ _ hne, Below.heap_setCell _ _ _ _ hne]
    have HG4 : Hid (GameAt l (fun q => q = gv ∨ q = hb ∨ q = kb) w4 gv hb kb) := Lib.hid ((HG3.out.grown hg4 (fun x hx => by cases hx; exact ⟨hkne, hgne, hhne, .inl (.inr rfl)⟩)).less (fun q h => .inl h) (.inl rfl) (.inr (.inl rfl)) (.inr (.inr rfl)))
    have HB4 : Hid (Below w.heap.size w w4) := Lib.hid (HB3.out.trans (below_grownBy hg4 HB3.out.size fun x hx => by cases hx; omega))
    have HL4 : Hid (SlN 3 (fun q => S' q ∧ q < w.heap.size) w4 (.slice a' n cap') (list.map rpRow)) := Lib.hid (HL3.out.grown hg4 fun q hq e => by cases e; have := hq.2; omega)
    have c8 : w4.cell? ⟨w.heap.size + 1, 0, none⟩ = some (.slice a' n cap') := (World.cell?_of_block (w := w3) (hg4.block _ (World.block_lt_of_cell? w3 _ c7) fun e => by have e2 : w.heap.size + 1 = R := Option.some.inj e; omega)).trans c7
    have b0 : w4.cell? ⟨R, 0, none⟩ = some (.pointer (some ⟨gv, 0, none⟩)) := by rw [cell_of_heap hk4]; rfl
    have b1 : w4.cell? ⟨R, 1, none⟩ = some (.slice a' n cap') := by rw [cell_of_heap hk4]; rfl
    have HK4 := Lib.hid hk4
    have HW4 := Lib.hid hw4
    have hlt4 := HG4.out.lt
    have hsz4 := hg4.size
    have hcan := can_any (F0 := fun q => q = gv ∨ q = hb ∨ q = kb) l HV.out list (.slice a' n cap') 0 (by decide) (by omega) w4 HL4.out (fun h => by have := h.2; omega) HG4.out (fun q hq => by rcases hq with rfl | rfl | rfl <;> omega)
    have hc0 : canL l list (fun i => (0 : Nat).testBit i) = canL l list (fun _ => false) := can_congr fun i _ => Nat.zero_testBit i
    rw [hc0] at hcan
    obtain ⟨res, hres⟩ : ∃ b, canL l list (fun _ => false) = b := ⟨_, rfl⟩
    rw [hres] at hcan
    have HRES := Lib.hid hres
    clear hng hvs hj e1 hG3 hRk hRm hk4 hg4 hw4 HG3 HL3 HS2 c0 c1 c2 c3 c4 c5 c6 c7 hc0 hres
    go_upto_region 5 with fail
    rw [HW4.out]
    clear r0 r1 fz0 fz1
    go_wp2_with fail
    refine hcan.mono ?_
    rintro e w5 ⟨rfl, hG5, hC5⟩
    have HG5 := Lib.hid hG5
    have hsz5 := hC5.size
    have HL5 : Hid (SlN 3 (fun q => S' q ∧ q < w.heap.size) w5 (.slice a' n cap') (list.map rpRow)) := Lib.hid (HL4.out.chg hC5 fun q hq e => by have := hq.2; omega)
    have hk5 := (hC5.block R (Array.getElem?_eq_some_iff.1 HK4.out).1 hkne).trans HK4.out
    have c9 : w5.cell? ⟨w.heap.size + 1, 0, none⟩ = some (.slice a' n cap') := (World.cell?_of_block (w := w4) (hC5.block _ (World.block_lt_of_cell? w4 _ c8) (show ¬ w.heap.size + 1 = kb by omega))).trans c8
    have HB5 : Hid (Below w.heap.size w w5) := Lib.hid (HB4.out.trans ⟨hC5.os, hC5.tape, hC5.output, hC5.size, fun q hq => hC5.block q (by omega) (by omega)⟩)
    clear hcan hG5 hC5 b0 b1 c8
    cases res
    · have hde : de = 9 := by rw [HDE.out]; simp [HRES.out]
      have HDE9 := Lib.hid hde
      clear HDE
      subst hde
      go_wp2
      go_returns
      exact ⟨_, [], rfl, HB5.out, fun _ => rfl, fun e => by cases e⟩
    · have hde : de = 0 := by rw [HDE.out]; simp [HRES.out]
      clear HDE
      subst hde
      have hlt5 := HG5.out.lt
      have hp := drop1_ok (gb := gv) (hb := hb) (kb := kb) l HV.out list (.slice a' n cap') R (w.heap.size + 1) w5 HL5.out (fun h => by have := h.2; omega) hl5 hk5 hkne c9 (by omega)
      rw [HN.out] at hp
      have hszw := HT.out.lt
      have hsm := smallest_any (F0 := fun q => q = gv ∨ q = hb ∨ q = kb) l n _ _ _ hn5 w5 hp HG5.out (fun q hq => by rcases hq with rfl | rfl | rfl <;> omega) (HT.out.below HB5.out) (by omega)
      clear hp hk5
      go_wp2_with fail
      refine hsm.mono ?_
      rintro e w6 ⟨v, out, rfl, hmin, hsl, hG6, hC6⟩
      have HMIN : Hid (Drops l list out) := Lib.hid (by unfold Drops; rw [HN.out]; exact hmin)
      have HSL := Lib.hid (hsl.mono (S' := fun q => w.heap.size ≤ q) fun q hq => by omega)
      have HB6 : Hid (Below w.heap.size w w6) := Lib.hid (HB5.out.trans ⟨hC6.os, hC6.tape, hC6.output, hC6.size, fun q hq => hC6.block q (by omega) (by omega)⟩)
      clear hsm hmin hsl hG6 hC6
      go_wp2
      go_returns
      exact ⟨v, rfl, HB6.out, out, HMIN.out, HSL.out⟩
  · have HNE : Hid (ec ≠ 0) := Lib.hid (by simpa using HZ.out)
    have hde : de = ec := by rw [HDE.out, if_neg HNE.out]
    clear HDE c0 c1 c2 c3 c4 c5 c6 c7
    subst hde
    go_wp2
    go_returns
    exact ⟨_, [], rfl, HB2.out, fun _ => rfl, fun e => (HNE.out e).elim⟩
end Go.Proofs.YtpfpjbglpibdoaaGreatDoor
