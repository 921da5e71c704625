/- The texts QC, in build order. -/
import Derived.Test.YtpfpjbglpibdoaaGreatDoorZat
import Derived.Laws.CopyRow
import Derived.Deep.MidRow
import Derived.Deep.DeepCutAuto
import Derived.Deep.CutRange
import Derived.Deep.CutBlock
import Derived.Laws.BitsLemmas

/- Chapter 5: play, the walk: what truly happened in each visit. -/
namespace Go.Proofs.YtpfpjbglpibdoaaGreatDoor
open Go Go.RowKit Go.Oche Go.Proofs

structure ThrOk (x : Thr) : Prop where
  st : 0 ≤ x.st ∧ x.st < 256
  inn : 0 ≤ x.inn ∧ x.inn < 256
  out : 0 ≤ x.out ∧ x.out < 256
  pl : 0 ≤ x.pl ∧ x.pl < 256
  which : x.which < 65536
  darts : Bytes x.darts
  said : Bytes x.said
theorem bit_at {W k : Nat} (h : W < 65536) : (bits BinOp.and IntKind.u16 ((W : Int) / 2 ^ k) 1 == 1) = W.testBit k := by
  obtain ⟨q, hq⟩ : ∃ q, W / 2 ^ k = q := ⟨_, rfl⟩
  have h1 : q < 65536 := by rw [← hq]; exact Nat.lt_of_le_of_lt (Nat.div_le_self _ _) h
  have h3 : (W : Int) / 2 ^ k = (q : Int) := by rw [← hq, Int.natCast_ediv, Int.natCast_pow]; rfl
  have p16 : (2 : Int) ^ 16 = 65536 := by decide
  have h4 := bits_mask .u16 16 (by decide) (fun n h₀ h₁ => by rw [p16] at h₁; rw [IntKind.wrap_u16]; omega) 1 (by decide) (q : Int) (by omega) (by rw [p16]; omega)
  have e : ((2 : Int) ^ 1 - 1) = 1 := by decide
  have e2 : ((2 : Int) ^ 1) = 2 := by decide
  rw [e, e2] at h4
  rw [h3, h4, Nat.testBit_eq_decide_div_mod_eq, hq, Bool.eq_iff_iff, beq_iff_eq, decide_eq_true_eq]
  omega
set_option maxRecDepth 100000 in
set_option maxHeartbeats 4000000 in
theorem play_any {S S' : Nat → Prop} (x : Thr) (hx : ThrOk x) (dv sv : Value) (most : Nat) (hm : most ≤ 8) (w : World) (hd : Sl S w dv (u8s x.darts)) (hs : Sl S' w sv (u8s x.said)) :
    Calls Tryz.prog 34 #[thrV x dv sv, .int .i64 (most : Int)] w fun e w' => ∃ bv ov, e = .returned (.tuple #[legV (legT x most) bv, ov]) ∧ Below w.heap.size w w' ∧
      w'.ownsRow w.heap.size 95 1 bv (bedsOf x.which).length (ints (bedsOf x.which)) ∧ w'.ownsRow w.heap.size 86 3 ov (playX x most).out.length (((playX x most).out.map visRw).flatten) := by
  obtain ⟨a, cap, rfl, h2, h3⟩ := hd.form
  obtain ⟨a', cap', rfl, -, -⟩ := hs.form
  have hdl : (u8s x.darts).length = x.darts.length := List.length_map ..
  have hsl : (u8s x.said).length = x.said.length := List.length_map ..
  rw [hdl] at h2 hd ⊢
  rw [hsl] at hs ⊢
  unfold maxLen at h3
  obtain ⟨dl, hdl2⟩ : ∃ n, x.darts.length = n := ⟨_, rfl⟩
  obtain ⟨sl, hsl2⟩ : ∃ n, x.said.length = n := ⟨_, rfl⟩
  rw [hdl2] at h2 hd ⊢
  rw [hsl2]
  clear hs hdl hsl
  obtain ⟨N, hN⟩ : ∃ N, w.heap.size = N := ⟨_, rfl⟩
  obtain ⟨st, hst⟩ : ∃ z, x.st = z := ⟨_, rfl⟩
  obtain ⟨inn, hinn⟩ : ∃ z, x.inn = z := ⟨_, rfl⟩
  obtain ⟨out, hout⟩ : ∃ z, x.out = z := ⟨_, rfl⟩
  obtain ⟨pl, hpl⟩ : ∃ z, x.pl = z := ⟨_, rfl⟩
  obtain ⟨W, hW⟩ : ∃ z, x.which = z := ⟨_, rfl⟩
  obtain ⟨l, hl⟩ : ∃ l, legB x = l := ⟨_, rfl⟩
  obtain ⟨w1, hw1⟩ : ∃ y, (w.alloc (.cells #[.int .u8 st, .int .u8 inn, .int .u8 out, .int .u8 pl, .int .u16 (W : Int), .slice a dl cap, .slice a' sl cap'] 76)).alloc (.cells #[.int .i64 0, .int .i64 0, .int .i64 0, .slice none 0 0, .int .i64 0, .int .i64 0, .bool false] 27) = y := ⟨_, rfl⟩
  have hb1 : Below w.heap.size w w1 := by rw [← hw1]; exact (aB _ _).alloc (by simp) _
  have k : w1.heap[N]? = some (.cells #[.int .u8 st, .int .u8 inn, .int .u8 out, .int .u8 pl, .int .u16 (W : Int), .slice a dl cap, .slice a' sl cap'] 76 (0, 0)) := by rw [← hw1, ← hN]; exact (Below.heap_alloc _ _ _ (by simp)).trans (World.alloc_heap_new _ _)
  have kz : w1.heap[N + 1]? = some (.cells #[.int .i64 0, .int .i64 0, .int .i64 0, .slice none 0 0, .int .i64 0, .int .i64 0, .bool false] 27 (0, 0)) := by
    rw [← hw1, ← hN]
    have := World.alloc_heap_new (w.alloc (.cells #[.int .u8 st, .int .u8 inn, .int .u8 out, .int .u8 pl, .int .u16 (W : Int), .slice a dl cap, .slice a' sl cap'] 76)) (.cells #[.int .i64 0, .int .i64 0, .int .i64 0, .slice none 0 0, .int .i64 0, .int .i64 0, .bool false] 27)
    simp only [World.size_alloc] at this
    exact this
  have hz1 : w1.heap.size = N + 2 := by rw [← hw1]; simp; omega
  have x0 : w1.cell? ⟨N, 0, none⟩ = some (.int .u8 st) := by rw [cell_of_heap k]; rfl
  have x1 : w1.cell? ⟨N, 1, none⟩ = some (.int .u8 inn) := by rw [cell_of_heap k]; rfl
  have x2 : w1.cell? ⟨N, 2, none⟩ = some (.int .u8 out) := by rw [cell_of_heap k]; rfl
  have x3 : w1.cell? ⟨N, 3, none⟩ = some (.int .u8 pl) := by rw [cell_of_heap k]; rfl
  have x4 : w1.cell? ⟨N, 4, none⟩ = some (.int .u16 (W : Int)) := by rw [cell_of_heap k]; rfl
  have x5 : w1.cell? ⟨N, 5, none⟩ = some (.slice a dl cap) := by rw [cell_of_heap k]; rfl
  obtain ⟨sz, hsz⟩ : ∃ z : Int, 2 + st.tmod 20 = z := ⟨_, rfl⟩
  obtain ⟨gi, hgi⟩ : ∃ z : Int, inn.tmod 3 = z := ⟨_, rfl⟩
  obtain ⟨go, hgo⟩ : ∃ z : Int, out.tmod 3 = z := ⟨_, rfl⟩
  obtain ⟨P, hP⟩ : ∃ z : Nat, 1 + pl.tmod 3 = (z : Int) := ⟨(1 + pl.tmod 3).toNat, by have := Int.tmod_nonneg 3 (a := pl) (by rw [← hpl]; exact hx.pl.1); omega⟩
  have hst2 := hst ▸ hx.st
  have hinn2 := hinn ▸ hx.inn
  have hout2 := hout ▸ hx.out
  have hpl2 := hpl ▸ hx.pl
  have m1 : st.tmod 20 = st % 20 := Int.tmod_eq_emod_of_nonneg hst2.1
  have m2 : inn.tmod 3 = inn % 3 := Int.tmod_eq_emod_of_nonneg hinn2.1
  have m3 : out.tmod 3 = out % 3 := Int.tmod_eq_emod_of_nonneg hout2.1
  have m4 : pl.tmod 3 = pl % 3 := Int.tmod_eq_emod_of_nonneg hpl2.1
  have HL : Hid (l = { start := sz, gin := gi, gout := go, beds := bedsOf W, players := (P : Int), turns := 0, won := false }) := Lib.hid (by
    rw [← hl]
    unfold legB
    rw [hst, hinn, hout, hpl, hW, ← hsz, ← hgi, ← hgo, ← hP, m1, m2, m3, m4])
  have HBD : Hid (2 ≤ sz ∧ sz ≤ 21 ∧ 0 ≤ gi ∧ gi ≤ 2 ∧ 0 ≤ go ∧ go ≤ 2 ∧ 1 ≤ P ∧ P ≤ 3) := Lib.hid (by omega)
  have v1 : wrap64 st = st := by unfold wrap64; omega
  have v2 : wrap64 pl = pl := by unfold wrap64; omega
  have v3 : wrap64 (2 + st.tmod 20) = sz := by rw [hsz]; unfold wrap64; omega
  have v4 : wrap64 (1 + pl.tmod 3) = (P : Int) := by rw [hP]; unfold wrap64; omega
  have v5 : wrap64 gi = gi := by unfold wrap64; omega
  have v6 : wrap64 go = go := by unfold wrap64; omega
  have HD := Lib.hid (hd.below hb1)
  have HB := Lib.hid hb1
  have HW := Lib.hid hw1
  have HN := Lib.hid hN
  have HZ1 := Lib.hid hz1
  have HX := Lib.hid hx
  have HWW := Lib.hid hW
  have HL0 := Lib.hid hl
  have HKZ := Lib.hid kz
  unfold thrV
  rw [hst, hinn, hout, hpl, hW]
  clear hN hd hb1 hw1 hz1 hx hl k kz hst hinn hout hpl hW hsz hP m1 m2 m3 m4 hst2 hinn2 hout2 hpl2 hdl2 hsl2 h3
  go_enter Tryz.func34, Tryz.ntmps34
  go_upto_region 1 with fail
  rw [HW.out, HN.out]
  go_wp2_with fail
  obtain ⟨w2, hw2⟩ : ∃ y, w1.alloc (.cells #[.int .i64 sz, .int .i64 gi, .int .i64 go, .slice none 0 0, .int .i64 (P : Int), .int .i64 0, .bool false] 27) = y := ⟨_, rfl⟩
  have k2 : w2.heap[N + 2]? = some (.cells #[.int .i64 sz, .int .i64 gi, .int .i64 go, .slice none 0 0, .int .i64 (P : Int), .int .i64 0, .bool false] 27 (0, 0)) := by rw [← hw2, ← HZ1.out]; exact World.alloc_heap_new _ _
  have hb2 : Below (N + 2) w1 w2 := by rw [← hw2, ← HZ1.out]; exact aB _ _
  have hz2 : w2.heap.size = N + 3 := by rw [← hw2]; simp [HZ1.out]
  rw [hw2]
  refine (beds_any w2).mono ?_
  rintro e w3 ⟨g, rfl, hb3, hg3, hk3⟩
  obtain ⟨M, hM⟩ : ∃ M, w3.heap.size = M := ⟨_, rfl⟩
  have HLT : Hid (N + 2 < g ∧ g < M) := Lib.hid ⟨by omega, by rw [← hM]; exact (Array.getElem?_eq_some_iff.1 hk3).1⟩
  have HK3 : Hid (w3.heap[N + 2]? = some (.cells #[.int .i64 sz, .int .i64 gi, .int .i64 go, .slice none 0 0, .int .i64 (P : Int), .int .i64 0, .bool false] 27 (0, 0))) := Lib.hid ((hb3.block (N + 2) (by omega)).trans k2)
  have HG3 := Lib.hid hk3
  have HB3 : Hid (Below (N + 2) w1 w3) := Lib.hid (hb2.trans (hb3.mono (by omega)))
  have HM3 : Hid (w3.heap.size = M) := Lib.hid hM
  have HO3 : Hid (w3.ownsRow M 95 1 (.slice none 0 0) (bedsP W 0).length (ints (bedsP W 0))) := Lib.hid (World.ownsRow_nil _ _ _ _)
  have HWB : Hid (W < 65536) := Lib.hid (by rw [← HWW.out]; exact HX.out.which)
  have HMZ : Hid (M ≤ w3.heap.size) := Lib.hid (Nat.le_of_eq hM.symm)
  clear hw2 k2 hb2 hb3 hg3 hk3 hM hz2
  rw [HZ1.out]
  go_upto_block 0 with fail
  go_cut [8] from 43 to 74 (fun _ wc => ∃ bV, Hid (wc.heap[N + 2]? = some (.cells #[.int .i64 sz, .int .i64 gi, .int .i64 go, bV, .int .i64 (P : Int), .int .i64 0, .bool false] 27 (0, 0))) ∧ Hid (wc.ownsRow M 95 1 bV (bedsOf W).length (ints (bedsOf W))) ∧ Hid (M ≤ wc.heap.size) ∧ Hid (Below (N + 2) w1 wc))
  case first =>
    as_aux_lemma =>
    go_wp2_with fail
    go_loopw [8] (fun kv wr => ∃ (k : Nat) (bV : Value), k ≤ 12 ∧ kv = .int .i64 (k : Int) ∧ Hid ((bedsP W k).length ≤ 6) ∧ Hid (wr.heap[N + 2]? = some (.cells #[.int .i64 sz, .int .i64 gi, .int .i64 go, bV, .int .i64 (P : Int), .int .i64 0, .bool false] 27 (0, 0))) ∧ Hid (wr.ownsRow M 95 1 bV (bedsP W k).length (ints (bedsP W k))) ∧ Hid (wr.heap[g]? = some (.cells (ints beds12).toArray 95 (0, 0))) ∧ Hid (M ≤ wr.heap.size) ∧ Hid (Below (N + 2) w1 wr)) (fun kv _ => 12 - (intOf kv).toNat)
    case atStart => exact ⟨0, _, by omega, by go_num, Lib.hid (by simp [bedsP]), HK3, HO3, HG3, HMZ, HB3⟩
    case round =>
      clear HK3 HO3 HG3 HB3 HMZ
      obtain ⟨k, bV, hk12, rfl, HLE, HK, HO, HG, HMor, HBr⟩ := hrel
      obtain ⟨wo, rfl⟩ : ∃ wo : World, wo = wr := ⟨_, rfl⟩
      obtain ⟨ba, bc, rfl⟩ := owns_form HO.out
      have x4 := bAt (W := w1) (W' := wo) (by rw [HZ1.out]; exact HBr.out) x4
      have c3 : wo.cell? ⟨N + 2, 3, none⟩ = some (.slice ba (bedsP W k).length bc) := by rw [cell_of_heap HK.out]; rfl
      have f3 : wo.frozen? ⟨N + 2, 3, none⟩ = false := frozen_of_heap HK.out
      obtain ⟨nb, hnb⟩ : ∃ n, (bedsP W k).length = n := ⟨_, rfl⟩
      have hnb6 : nb ≤ 6 := by rw [← hnb]; exact HLE.out
      have HNB := Lib.hid hnb
      rw [hnb] at c3 HK HO
      clear hnb HLE
      by_cases hlt : k < 12
      · by_cases h6 : nb < 6
        · have hwi : IntKind.i64.wrap ((k : Int) + 1) = (k : Int) + 1 := wrap_small _ (by omega) (by omega)
          obtain ⟨c, hc⟩ : ∃ c, W.testBit k = c := ⟨_, rfl⟩
          have hbit : (bits BinOp.and IntKind.u16 ((W : Int) / 2 ^ k) 1 == 1) = c := by rw [← hc]; exact bit_at HWB.out
          have HC := Lib.hid hc
          obtain ⟨bd, hbd⟩ : ∃ b, beds12.getD k 0 = b := ⟨_, rfl⟩
          have HBDD := Lib.hid hbd
          have g3 : wo.cell? ⟨g, k, none⟩ = some (.int .i64 bd) := by
            rw [cell_of_heap HG.out, ← hbd]
            have hl : k < beds12.length := by simpa [beds12] using hlt
            simp [ints, List.getD_eq_getElem?_getD, hl]
          have HMo := HMor
          have hlti : (k : Int) < 12 := by omega
          clear hc hbd
          cases c
          · by_cases h5 : k = 5
            · have HIS : Hid (bedIs W k = true) := Lib.hid (by unfold bedIs; rw [h5]; simp)
              have d5 : ((k : Int) == 5) = true := beq_iff_eq.2 (by omega)
              clear h5
              go_upto_region 7 with fail
              refine wp_region_seq 7 [.is (.pointer (some ⟨N + 2, 3, none⟩)), .is (.slice ba nb bc), .is (.slice (some ⟨g, 0, none⟩) 12 12), .is (.int .i64 (k : Int)), .is (.pointer (some ⟨g, k, none⟩)), .is (.int .i64 bd), kMk M 95 #[.int .i64 bd] 1] rfl mix (by kernel_rfl) (by kernel_rfl) ?_
              simp only [List.take_succ_cons, List.take_zero]
              iterate 6
                refine seq_on (by rfl) (fun w4 hb4 _ => ?_) ?_
                · have c3' := bAt hb4 c3
                  have g3' := bAt hb4 g3
                  simp [opOK, go_sem, c3', g3', hlti, Below.refl]
                  try exact rfl
                simp only [Act.put, List.setIfInBounds_toArray, List.set_cons_succ, List.set_cons_zero]
              refine seq_new ⟨_, 0, rfl⟩ (by rfl) (fun w4 hb4 hH => ?_) ?_
              · exact opOK_val (v := .slice (some ⟨w4.heap.size, 0, none⟩) 1 1) (w' := w4.alloc (.cells #[.int .i64 bd] 95)) (by simp [go_sem, execOp]) ⟨aB _ _, ⟨_, rfl⟩, _, rfl, Nat.le_trans HMo.out hb4.size, World.alloc_heap_new _ _⟩
              rintro _ ⟨q, rfl⟩
              simp only [Act.put, List.setIfInBounds_toArray, List.set_cons_succ, List.set_cons_zero]
              refine seq_end fun w4 hb4 hH => ?_
              simp only [List.drop_succ_cons, List.drop_zero]
              have hq := hH 6 (by decide)
              simp only [addH, kMk] at hq
              simp at hq
              have HQ := Lib.hid hq
              have HO4 := Lib.hid (ownsN_below HO.out hb4)
              have HK4 := Lib.hid ((hb4.block (N + 2) (by have := HMo.out; have := HLT.out; omega)).trans HK.out)
              have HG4 := Lib.hid ((hb4.block g (by have := HMo.out; have := HLT.out; omega)).trans HG.out)
              have HM4 : Hid (M ≤ w4.heap.size) := Lib.hid (Nat.le_trans HMo.out hb4.size)
              have HB4 : Hid (Below (N + 2) w1 w4) := Lib.hid (HBr.out.trans (hb4.mono (by have := HMo.out; have := HLT.out; omega)))
              clear hlti hq hH hb4 c3 f3 g3 x4 HMo HBr HG HK HO
              go_wp2_with (at_builtin; refine wpList_append1 rfl (.tmp 67) (.tmp 72) 25 rfl M 95 (.int .i64 0) 8 Tryz.underlying25 info_bd5 rfl (.slice ba nb bc) nb _ rfl HO4.out q 0 1 (.int .i64 bd) rfl (by rw [cell_of_heap HQ.out.2]; rfl) rfl (by omega) (by decide) HM4.out ?_)
              intro g5 c5 w5 ho5 hg5 hat5
              have hk5 := blk_kept hg5 HK4.out (ownsN_ne_blk HO4.out HK4.out (by decide))
              have hgk5 : w5.heap[g]? = some (.cells (ints beds12).toArray 95 (0, 0)) := blk_kept hg5 HG4.out (.inr fun e => by have := (HO4.out.lt _ e).1; have := HLT.out; omega)
              have hb5 : Below (N + 2) w1 w5 := HB4.out.trans (below_grownBy hg5 (by have := HM4.out; have := HLT.out; omega) (fun q hq => by have := (HO4.out.lt _ hq).1; have := HLT.out; omega))
              have hown := ho5
              have HO5 : Hid (w5.ownsRow M 95 1 (.slice (some ⟨g5, 0, none⟩) (nb + 1) c5) (nb + 1) (ints (bedsP W k ++ [bd]))) := Lib.hid (by rw [ints_append]; exact ho5)
              have HK5 := Lib.hid hk5
              have HG5 := Lib.hid hgk5
              have HB5 := Lib.hid hb5
              have c3 : w5.cell? ⟨N + 2, 3, none⟩ = some (.slice ba nb bc) := by rw [cell_of_heap HK5.out]; rfl
              have f3 : w5.frozen? ⟨N + 2, 3, none⟩ = false := frozen_of_heap HK5.out
              obtain ⟨w6, hw6⟩ : ∃ y, w5.setCell ⟨N + 2, 3, none⟩ (.slice (some ⟨g5, 0, none⟩) (nb + 1) c5) = y := ⟨_, rfl⟩
              have hk6 : w6.heap[N + 2]? = some (.cells #[.int .i64 sz, .int .i64 gi, .int .i64 go, .slice (some ⟨g5, 0, none⟩) (nb + 1) c5, .int .i64 (P : Int), .int .i64 0, .bool false] 27 (0, 0)) := by rw [← hw6]; exact heap_setCell_at HK5.out _
              have oth : ∀ q, q ≠ N + 2 → w6.heap[q]? = w5.heap[q]? := fun q hq => by rw [← hw6, Below.heap_setCell _ _ _ _ (by simpa using hq)]
              have HO6 : Hid (w6.ownsRow M 95 1 (.slice (some ⟨g5, 0, none⟩) (nb + 1) c5) (bedsP W (k + 1)).length (ints (bedsP W (k + 1)))) := Lib.hid (by
                have e : bedsP W (k + 1) = bedsP W k ++ [bd] := by rw [bedsP_succ, if_pos HIS.out, HBDD.out]
                rw [e, List.length_append, HNB.out]
                exact ownsN_kept HO5.out fun q hq => oth q (by have := (HO5.out.lt _ hq).1; have := HLT.out; omega))
              have HG6 : Hid (w6.heap[g]? = some (.cells (ints beds12).toArray 95 (0, 0))) := Lib.hid (by rw [oth g (by have := HLT.out; omega)]; exact HG5.out)
              have HK6 := Lib.hid hk6
              have HB6 : Hid (Below (N + 2) w1 w6) := Lib.hid (by rw [← hw6]; exact HB5.out.setCell (Nat.le_refl _) _)
              have HLE6 : Hid ((bedsP W (k + 1)).length ≤ 6) := Lib.hid (by rw [bedsP_succ, if_pos HIS.out, List.length_append, HNB.out]; simp; omega)
              have HM6 : Hid (M ≤ w6.heap.size) := Lib.hid (by rw [← hw6]; have := HM4.out; have := hg5.size; simp; omega)
              have HW6 := Lib.hid hw6
              clear ho5 hg5 hat5 hk5 hgk5 hb5 hown hw6 hk6 oth HO4 HK4 HG4 HB4 HM4
              go_wp2_with fail
              rw [HW6.out]
              go_roundw
              case rel => exact ⟨k + 1, _, by omega, by go_num, HLE6, HK6, HO6, HG6, HM6, HB6⟩
              case measure => simp [intOf]; omega
            · have HIS : Hid (bedsP W (k + 1) = bedsP W k) := Lib.hid (by
                have e : ¬ bedIs W k = true := by unfold bedIs; rw [HC.out]; simpa using h5
                rw [bedsP_succ, if_neg e, List.append_nil])
              have d5 : ((k : Int) == 5) = false := beq_eq_false_iff_ne.2 (by omega)
              have HO6 : Hid (wo.ownsRow M 95 1 (.slice ba nb bc) (bedsP W (k + 1)).length (ints (bedsP W (k + 1)))) := Lib.hid (by rw [HIS.out, HNB.out]; exact HO.out)
              have HLE6 : Hid ((bedsP W (k + 1)).length ≤ 6) := Lib.hid (by rw [HIS.out, HNB.out]; omega)
              clear h5 HO
              go_wp2_with fail
              go_roundw
              case rel => exact ⟨k + 1, _, by omega, by go_num, HLE6, HK, HO6, HG, HMor, HBr⟩
              case measure => simp [intOf]; omega
          · have HIS : Hid (bedIs W k = true) := Lib.hid (by unfold bedIs; rw [HC.out]; rfl)
            go_upto_region 7 with fail
            refine wp_region_seq 7 [.is (.pointer (some ⟨N + 2, 3, none⟩)), .is (.slice ba nb bc), .is (.slice (some ⟨g, 0, none⟩) 12 12), .is (.int .i64 (k : Int)), .is (.pointer (some ⟨g, k, none⟩)), .is (.int .i64 bd), kMk M 95 #[.int .i64 bd] 1] rfl mix (by kernel_rfl) (by kernel_rfl) ?_
            simp only [List.take_succ_cons, List.take_zero]
            iterate 6
              refine seq_on (by rfl) (fun w4 hb4 _ => ?_) ?_
              · have c3' := bAt hb4 c3
                have g3' := bAt hb4 g3
                simp [opOK, go_sem, c3', g3', hlti, Below.refl]
                try exact rfl
              simp only [Act.put, List.setIfInBounds_toArray, List.set_cons_succ, List.set_cons_zero]
            refine seq_new ⟨_, 0, rfl⟩ (by rfl) (fun w4 hb4 hH => ?_) ?_
            · exact opOK_val (v := .slice (some ⟨w4.heap.size, 0, none⟩) 1 1) (w' := w4.alloc (.cells #[.int .i64 bd] 95)) (by simp [go_sem, execOp]) ⟨aB _ _, ⟨_, rfl⟩, _, rfl, Nat.le_trans HMo.out hb4.size, World.alloc_heap_new _ _⟩
            rintro _ ⟨q, rfl⟩
            simp only [Act.put, List.setIfInBounds_toArray, List.set_cons_succ, List.set_cons_zero]
            refine seq_end fun w4 hb4 hH => ?_
            simp only [List.drop_succ_cons, List.drop_zero]
            have hq := hH 6 (by decide)
            simp only [addH, kMk] at hq
            simp at hq
            have HQ := Lib.hid hq
            have HO4 := Lib.hid (ownsN_below HO.out hb4)
            have HK4 := Lib.hid ((hb4.block (N + 2) (by have := HMo.out; have := HLT.out; omega)).trans HK.out)
            have HG4 := Lib.hid ((hb4.block g (by have := HMo.out; have := HLT.out; omega)).trans HG.out)
            have HM4 : Hid (M ≤ w4.heap.size) := Lib.hid (Nat.le_trans HMo.out hb4.size)
            have HB4 : Hid (Below (N + 2) w1 w4) := Lib.hid (HBr.out.trans (hb4.mono (by have := HMo.out; have := HLT.out; omega)))
            clear hlti hq hH hb4 c3 f3 g3 x4 HMo HBr HG HK HO
            go_wp2_with (at_builtin; refine wpList_append1 rfl (.tmp 67) (.tmp 72) 25 rfl M 95 (.int .i64 0) 8 Tryz.underlying25 info_bd5 rfl (.slice ba nb bc) nb _ rfl HO4.out q 0 1 (.int .i64 bd) rfl (by rw [cell_of_heap HQ.out.2]; rfl) rfl (by omega) (by decide) HM4.out ?_)
            intro g5 c5 w5 ho5 hg5 hat5
            have hk5 := blk_kept hg5 HK4.out (ownsN_ne_blk HO4.out HK4.out (by decide))
            have hgk5 : w5.heap[g]? = some (.cells (ints beds12).toArray 95 (0, 0)) := blk_kept hg5 HG4.out (.inr fun e => by have := (HO4.out.lt _ e).1; have := HLT.out; omega)
            have hb5 : Below (N + 2) w1 w5 := HB4.out.trans (below_grownBy hg5 (by have := HM4.out; have := HLT.out; omega) (fun q hq => by have := (HO4.out.lt _ hq).1; have := HLT.out; omega))
            have hown := ho5
            have HO5 : Hid (w5.ownsRow M 95 1 (.slice (some ⟨g5, 0, none⟩) (nb + 1) c5) (nb + 1) (ints (bedsP W k ++ [bd]))) := Lib.hid (by rw [ints_append]; exact ho5)
            have HK5 := Lib.hid hk5
            have HG5 := Lib.hid hgk5
            have HB5 := Lib.hid hb5
            have c3 : w5.cell? ⟨N + 2, 3, none⟩ = some (.slice ba nb bc) := by rw [cell_of_heap HK5.out]; rfl
            have f3 : w5.frozen? ⟨N + 2, 3, none⟩ = false := frozen_of_heap HK5.out
            obtain ⟨w6, hw6⟩ : ∃ y, w5.setCell ⟨N + 2, 3, none⟩ (.slice (some ⟨g5, 0, none⟩) (nb + 1) c5) = y := ⟨_, rfl⟩
            have hk6 : w6.heap[N + 2]? = some (.cells #[.int .i64 sz, .int .i64 gi, .int .i64 go, .slice (some ⟨g5, 0, none⟩) (nb + 1) c5, .int .i64 (P : Int), .int .i64 0, .bool false] 27 (0, 0)) := by rw [← hw6]; exact heap_setCell_at HK5.out _
            have oth : ∀ q, q ≠ N + 2 → w6.heap[q]? = w5.heap[q]? := fun q hq => by rw [← hw6, Below.heap_setCell _ _ _ _ (by simpa using hq)]
            have HO6 : Hid (w6.ownsRow M 95 1 (.slice (some ⟨g5, 0, none⟩) (nb + 1) c5) (bedsP W (k + 1)).length (ints (bedsP W (k + 1)))) := Lib.hid (by
              have e : bedsP W (k + 1) = bedsP W k ++ [bd] := by rw [bedsP_succ, if_pos HIS.out, HBDD.out]
              rw [e, List.length_append, HNB.out]
              exact ownsN_kept HO5.out fun q hq => oth q (by have := (HO5.out.lt _ hq).1; have := HLT.out; omega))
            have HG6 : Hid (w6.heap[g]? = some (.cells (ints beds12).toArray 95 (0, 0))) := Lib.hid (by rw [oth g (by have := HLT.out; omega)]; exact HG5.out)
            have HK6 := Lib.hid hk6
            have HB6 : Hid (Below (N + 2) w1 w6) := Lib.hid (by rw [← hw6]; exact HB5.out.setCell (Nat.le_refl _) _)
            have HLE6 : Hid ((bedsP W (k + 1)).length ≤ 6) := Lib.hid (by rw [bedsP_succ, if_pos HIS.out, List.length_append, HNB.out]; simp; omega)
            have HM6 : Hid (M ≤ w6.heap.size) := Lib.hid (by rw [← hw6]; have := HM4.out; have := hg5.size; simp; omega)
            have HW6 := Lib.hid hw6
            clear ho5 hg5 hat5 hk5 hgk5 hb5 hown hw6 hk6 oth HO4 HK4 HG4 HB4 HM4
            go_wp2_with fail
            rw [HW6.out]
            go_roundw
            case rel => exact ⟨k + 1, _, by omega, by go_num, HLE6, HK6, HO6, HG6, HM6, HB6⟩
            case measure => simp [intOf]; omega
        · skip
          have HD1 : Hid (bedsP W k = bedsOf W) := Lib.hid (bedsP_done hk12 (by rw [HNB.out]; exact hnb6) (by rw [HNB.out]; omega))
          go_wp2
          go_meet
          case rel => exact ⟨_, HK, Lib.hid (by have h := HO.out; rw [← HNB.out, HD1.out] at h; rw [← HD1.out, HNB.out] at *; exact HO.out), HMor, HBr⟩
      · skip
        have HD1 : Hid (bedsP W k = bedsOf W) := Lib.hid (bedsP_done hk12 (by rw [HNB.out]; exact hnb6) (by rw [HNB.out]; omega))
        go_wp2
        go_meet
        case rel => exact ⟨_, HK, Lib.hid (by have h := HO.out; rw [← HNB.out, HD1.out] at h; rw [← HD1.out, HNB.out] at *; exact HO.out), HMor, HBr⟩
  case rest =>
    obtain ⟨bV, HK4, HO4, HM4, HB4⟩ := hcut
    obtain ⟨w4, rfl⟩ : ∃ y : World, y = wc := ⟨_, rfl⟩
    have c2 : w4.cell? ⟨N + 2, 2, none⟩ = some (.int .i64 go) := by rw [cell_of_heap HK4.out]; rfl
    clear HK3 HO3 HG3 HB3 HMZ x0 x1 x2 x3 x4
    go_upto_if 78 with fail
    go_cut [9] from 75 to 78 (fun lv wx => lv = .int .i64 (low5 go) ∧ wx = w4)
    case first =>
      by_cases hg0 : go = 0
      · have d0 : (go == 0) = true := beq_iff_eq.2 hg0
        have HL5 : Hid (low5 go = 1) := Lib.hid (by unfold low5; rw [if_pos hg0])
        clear hg0
        rw [d0]
        go_wp2
        go_meet
        case rel => exact ⟨by rw [HL5.out], rfl⟩
      · have d0 : (go == 0) = false := beq_eq_false_iff_ne.2 hg0
        have HL5 : Hid (low5 go = 2) := Lib.hid (by unfold low5; rw [if_neg hg0])
        clear hg0
        rw [d0]
        go_wp2
        go_meet
        case rel => exact ⟨by rw [HL5.out], rfl⟩
    case rest =>
    obtain ⟨rfl, rfl⟩ := hcut
    obtain ⟨lw, hlw⟩ : ∃ z, low5 go = z := ⟨_, rfl⟩
    have HLW := Lib.hid hlw
    rw [hlw]
    obtain ⟨gb, hgb⟩ : ∃ b, (gi == 0) = b := ⟨_, rfl⟩
    have HST5 : Hid (start5 l = ⟨sz, gb⟩) := Lib.hid (by rw [HL.out, ← hgb]; rfl)
    clear c2 hlw
    go_upto_block 2 with fail
    obtain ⟨K, hK⟩ : ∃ K, wc.heap.size = K := ⟨_, rfl⟩
    obtain ⟨w5, hw5⟩ : ∃ y, ((wc.alloc (.cells #[] 3)).alloc (.cells #[] 4)).alloc (.cells #[] 86) = y := ⟨_, rfl⟩
    have hb5 : Below wc.heap.size wc w5 := by rw [← hw5]; exact ((aB _ _).alloc (by simp) _).alloc (by simp; omega) _
    have k0 : w5.heap[K]? = some (.cells #[] 3 (0, 0)) := by rw [← hw5, ← hK]; exact (Below.heap_alloc _ _ _ (by simp; omega)).trans ((Below.heap_alloc _ _ _ (by simp)).trans (World.alloc_heap_new _ _))
    have k1 : w5.heap[K + 1]? = some (.cells #[] 4 (0, 0)) := by
      rw [← hw5, ← hK]
      have := World.alloc_heap_new (wc.alloc (.cells #[] 3)) (.cells #[] 4)
      simp only [World.size_alloc] at this
      exact (Below.heap_alloc _ _ _ (by simp)).trans this
    have k2 : w5.heap[K + 1 + 1]? = some (.cells #[] 86 (0, 0)) := by
      rw [← hw5, ← hK]
      have := World.alloc_heap_new ((wc.alloc (.cells #[] 3)).alloc (.cells #[] 4)) (.cells #[] 86)
      simp only [World.size_alloc] at this
      exact this
    have hz5 : w5.heap.size = K + 3 := by rw [← hw5, ← hK]; simp
    have HMK : Hid (M ≤ K) := Lib.hid (by rw [← hK]; exact HM4.out)
    have HPL5 : Hid (PlSt M w5 (.slice (some ⟨K, 0, none⟩) 0 0) (.slice (some ⟨K + 1, 0, none⟩) 0 0) (.slice (some ⟨K + 1 + 1, 0, none⟩) 0 0) bV (List.replicate 0 sz) (List.replicate 0 gb) [] (bedsOf W)) := Lib.hid ⟨own_empty k0 HMK.out, own_empty k1 (by have := HMK.out; omega), own_empty k2 (by have := HMK.out; omega), ownsN_below HO4.out hb5⟩
    have HLK : Hid (N + 2 < M) := Lib.hid (by have := HLT.out; omega)
    have HK5 : Hid (w5.heap[N + 2]? = some (.cells #[.int .i64 sz, .int .i64 gi, .int .i64 go, bV, .int .i64 (P : Int), .int .i64 0, .bool false] 27 (0, 0))) := Lib.hid ((hb5.block (N + 2) (by have := HM4.out; have := HLK.out; omega)).trans HK4.out)
    have HM5 : Hid (M ≤ w5.heap.size) := Lib.hid (by have := HMK.out; omega)
    have HB5 : Hid (Below (N + 2) w1 w5) := Lib.hid (HB4.out.trans (hb5.mono (by have := HM4.out; have := HLK.out; omega)))
    rw [hw5, hK]
    clear hw5 hK hb5 k0 k1 k2 hz5 HK4 HO4 HM4 HB4
    go_wp2_with fail
    go_loopw [10, 11, 14] (fun lv iv pv wr => ∃ (p : Nat) (lV iV : Value), lV = lv ∧ iV = iv ∧ p ≤ P ∧ pv = .int .i64 (p : Int) ∧ Hid (PlSt M wr lV iV (.slice (some ⟨K + 1 + 1, 0, none⟩) 0 0) bV (List.replicate p sz) (List.replicate p gb) [] (bedsOf W)) ∧ Hid (wr.heap[N + 2]? = some (.cells #[.int .i64 sz, .int .i64 gi, .int .i64 go, bV, .int .i64 (P : Int), .int .i64 0, .bool false] 27 (0, 0))) ∧ Hid (M ≤ wr.heap.size) ∧ Hid (Below (N + 2) w1 wr)) (fun _ _ pv _ => P - (intOf pv).toNat)
    case atStart => exact ⟨0, _, _, rfl, rfl, by omega, by go_num, HPL5, HK5, HM5, HB5⟩
    case round =>
      clear HPL5 HK5 HM5 HB5
      obtain ⟨p, lV, iV, rfl, rfl, hpP, rfl, HPL, HK, HMo, HBr⟩ := hrel
      obtain ⟨wo, rfl⟩ : ∃ wo : World, wo = wr := ⟨_, rfl⟩
      obtain ⟨la, lc, hlv⟩ := owns_form HPL.out.left
      obtain ⟨ia, ic, hiv⟩ := owns_form HPL.out.inn
      rw [List.length_replicate] at hlv hiv
      subst hlv hiv
      have c0 : wo.cell? ⟨N + 2, 0, none⟩ = some (.int .i64 sz) := by rw [cell_of_heap HK.out]; rfl
      have c1 : wo.cell? ⟨N + 2, 1, none⟩ = some (.int .i64 gi) := by rw [cell_of_heap HK.out]; rfl
      have c4 : wo.cell? ⟨N + 2, 4, none⟩ = some (.int .i64 (P : Int)) := by rw [cell_of_heap HK.out]; rfl
      by_cases hlt : p < P
      · have HO1 : Hid (wo.ownsRow M 3 1 (.slice la p lc) p (ints (List.replicate p sz))) := Lib.hid (by have h := HPL.out.left; rw [List.length_replicate] at h; exact h)
        have HO2 : Hid (wo.ownsRow M 4 1 (.slice ia p ic) p (bools (List.replicate p gb))) := Lib.hid (by have h := HPL.out.inn; rw [List.length_replicate] at h; exact h)
        have hP3 : P ≤ 3 := HBD.out.2.2.2.2.2.2.2
        have HNE := Lib.hid (ownsN_ne HO1.out HO2.out (by decide))
        clear c0 c1
        go_upto_region 15 with fail
        refine wp_region_seqV 13 ((fun v => v = .slice la p lc) :: (fun v => v = .pointer (some ⟨N + 2, 0, none⟩)) :: (fun v => v = .pointer (some ⟨N + 2, 0, none⟩)) :: (fun v => v = .int .i64 sz) :: (fun v => ∃ q, v = .slice (some ⟨q, 0, none⟩) 1 1) :: (fun v => ∃ g c, v = .slice (some ⟨g, 0, none⟩) (p + 1) c) :: (fun v => v = .slice ia p ic) :: (fun v => v = .pointer (some ⟨N + 2, 0, none⟩)) :: (fun v => v = .pointer (some ⟨N + 2, 1, none⟩)) :: (fun v => v = .int .i64 gi) :: (fun v => v = .bool gb) :: (fun v => ∃ q, v = .slice (some ⟨q, 0, none⟩) 1 1) :: (fun v => ∃ g c, v = .slice (some ⟨g, 0, none⟩) (p + 1) c) :: []) (JTwoV wo (.slice la p lc) (.slice ia p ic) 4 5 11 12 M 3 4 p p (ints (List.replicate p sz)) (bools (List.replicate p gb)) (.int .i64 sz) (.bool gb)) rfl mix (by kernel_rfl) (by kernel_rfl) (fun _ _ _ _ hc h => h.congr hc) (fun _ => JTwoV.start) ?_
        simp only [List.take_succ_cons, List.take_zero]
        refine sv_rd rfl (fun _ _ _ h => h.read (by simp) (by simp) (by simp) (by simp)) (fun u1 L1 vs1 hvs1 hL1 hJ1 => ?_) ?_
        · skip
          simp [opOK, go_sem]
        simp only [Act.put, List.setIfInBounds_toArray, List.set_cons_succ, List.set_cons_zero, List.nil_append]
        refine sv_rd rfl (fun _ _ _ h => h.read (by simp) (by simp) (by simp) (by simp)) (fun u1 L1 vs1 hvs1 hL1 hJ1 => ?_) ?_
        · skip
          simp [opOK, go_sem]
        simp only [Act.put, List.setIfInBounds_toArray, List.set_cons_succ, List.set_cons_zero, List.nil_append, List.cons_append]
        refine sv_rd rfl (fun _ _ _ h => h.read (by simp) (by simp) (by simp) (by simp)) (fun u1 L1 vs1 hvs1 hL1 hJ1 => ?_) ?_
        · skip
          simp [opOK, go_sem]
        simp only [Act.put, List.setIfInBounds_toArray, List.set_cons_succ, List.set_cons_zero, List.nil_append, List.cons_append]
        refine sv_rd rfl (fun _ _ _ h => h.read (by simp) (by simp) (by simp) (by simp)) (fun u1 L1 vs1 hvs1 hL1 hJ1 => ?_) ?_
        · skip
          have hbx := hJ1.b.heap HK.out (fun e => by have := (HO1.out.lt _ e).1; have := HLK.out; omega) (fun e => by have := (HO2.out.lt _ e).1; have := HLK.out; omega)
          have z0 : u1.cell? ⟨N + 2, 0, none⟩ = some (.int .i64 sz) := by rw [cell_of_heap hbx]; rfl
          simp [opOK, go_sem, z0]
        simp only [Act.put, List.setIfInBounds_toArray, List.set_cons_succ, List.set_cons_zero, List.nil_append, List.cons_append]
        refine sv_new ⟨.slice (some ⟨0, 0, none⟩) 1 1, 0, rfl⟩ rfl (fun u1 L1 vs1 hvs1 hL1 hJ1 hd => ?_) ?_
        · simp [opOK, go_sem]
          exact hJ1.swapLit (aB _ _) hJ1.b.size (by rw [cell_of_heap (World.alloc_heap_new _ _)]; rfl) (by decide) (by decide) (by decide)
        rintro _ ⟨b92, rfl⟩
        simp only [Act.put, List.setIfInBounds_toArray, List.set_cons_succ, List.set_cons_zero, List.nil_append, List.cons_append]
        refine sv_new ⟨.slice (some ⟨0, 0, none⟩) (p + 1) 0, 0, 0, rfl⟩ rfl (fun u1 L1 vs1 hvs1 hL1 hJ1 hd => ?_) ?_
        · obtain ⟨bq, eq, hbq, hcq⟩ := hJ1.lit1 (hd ⟨4, .data⟩ (by simp) rfl)
          rw [hvs1 4 (.slice (some ⟨b92, 0, none⟩) 1 1) (by simp)] at eq
          cases eq
          have hown := hJ1.b.own1 HO1.out hL1 HNE.out
          refine opOK_mono (opOK_append1_at (.tmp 88) (.tmp 92) 35 rfl M 3 (.int .i64 0) 8 Tryz.underlying35 info_int5 rfl (.slice la p lc) p _ rfl hown b92 0 1 _ rfl hcq rfl (by omega) (by decide) (by have := HMo.out; have := hJ1.b.size; omega)) ?_
          rintro v' w' ⟨g, c, rfl, h1, h2, h3⟩
          exact ⟨⟨g, c, rfl⟩, hJ1.app1 hL1 h2 (fun q hq => (HO1.out.lt q hq).2) h1 (h3.elim (fun e => .inl e.symm) (fun e => .inr ⟨g, rfl, by rw [e]; exact hJ1.b.size⟩)) (by decide) (by decide) (by decide)⟩
        rintro _ ⟨g5, c5, rfl⟩
        simp only [Act.put, List.setIfInBounds_toArray, List.set_cons_succ, List.set_cons_zero, List.nil_append, List.cons_append]
        refine sv_rd rfl (fun _ _ _ h => h.read (by simp) (by simp) (by simp) (by simp)) (fun u1 L1 vs1 hvs1 hL1 hJ1 => ?_) ?_
        · skip
          simp [opOK, go_sem]
        simp only [Act.put, List.setIfInBounds_toArray, List.set_cons_succ, List.set_cons_zero, List.nil_append, List.cons_append]
        refine sv_rd rfl (fun _ _ _ h => h.read (by simp) (by simp) (by simp) (by simp)) (fun u1 L1 vs1 hvs1 hL1 hJ1 => ?_) ?_
        · skip
          simp [opOK, go_sem]
        simp only [Act.put, List.setIfInBounds_toArray, List.set_cons_succ, List.set_cons_zero, List.nil_append, List.cons_append]
        refine sv_rd rfl (fun _ _ _ h => h.read (by simp) (by simp) (by simp) (by simp)) (fun u1 L1 vs1 hvs1 hL1 hJ1 => ?_) ?_
        · skip
          simp [opOK, go_sem]
        simp only [Act.put, List.setIfInBounds_toArray, List.set_cons_succ, List.set_cons_zero, List.nil_append, List.cons_append]
        refine sv_rd rfl (fun _ _ _ h => h.read (by simp) (by simp) (by simp) (by simp)) (fun u1 L1 vs1 hvs1 hL1 hJ1 => ?_) ?_
        · skip
          have hbx := hJ1.b.heap HK.out (fun e => by have := (HO1.out.lt _ e).1; have := HLK.out; omega) (fun e => by have := (HO2.out.lt _ e).1; have := HLK.out; omega)
          have z1 : u1.cell? ⟨N + 2, 1, none⟩ = some (.int .i64 gi) := by rw [cell_of_heap hbx]; rfl
          simp [opOK, go_sem, z1]
        simp only [Act.put, List.setIfInBounds_toArray, List.set_cons_succ, List.set_cons_zero, List.nil_append, List.cons_append]
        refine sv_rd rfl (fun _ _ _ h => h.read (by simp) (by simp) (by simp) (by simp)) (fun u1 L1 vs1 hvs1 hL1 hJ1 => ?_) ?_
        · skip
          simp [opOK, go_sem, hgb]
        simp only [Act.put, List.setIfInBounds_toArray, List.set_cons_succ, List.set_cons_zero, List.nil_append, List.cons_append]
        refine sv_new ⟨.slice (some ⟨0, 0, none⟩) 1 1, 0, rfl⟩ rfl (fun u1 L1 vs1 hvs1 hL1 hJ1 hd => ?_) ?_
        · simp [opOK, go_sem]
          exact hJ1.mkLit2 (aB _ _) hJ1.b.size (by rw [cell_of_heap (World.alloc_heap_new _ _)]; rfl) (by decide) (by decide) (by decide)
        rintro _ ⟨b99, rfl⟩
        simp only [Act.put, List.setIfInBounds_toArray, List.set_cons_succ, List.set_cons_zero, List.nil_append, List.cons_append]
        refine sv_new ⟨.slice (some ⟨0, 0, none⟩) (p + 1) 0, 0, 0, rfl⟩ rfl (fun u1 L1 vs1 hvs1 hL1 hJ1 hd => ?_) ?_
        · obtain ⟨bq, eq, hbq, hcq⟩ := hJ1.lit2 (hd ⟨11, .data⟩ (by simp) rfl)
          simp only [List.length_cons, List.length_nil, Nat.zero_add, Nat.reduceAdd] at hL1 ⊢
          rw [hvs1 11 (.slice (some ⟨b99, 0, none⟩) 1 1) (by simp)] at eq
          cases eq
          have hown := hJ1.b.own2 HO2.out hL1 HNE.out
          refine opOK_mono (opOK_append1_at (.tmp 94) (.tmp 99) 72 rfl M 4 (.bool false) 1 Tryz.underlying72 info_bool5 rfl (.slice ia p ic) p _ rfl hown b99 0 1 _ rfl hcq rfl (by omega) (by decide) (by have := HMo.out; have := hJ1.b.size; omega)) ?_
          rintro v' w' ⟨g, c, rfl, h1, h2, h3⟩
          exact ⟨⟨g, c, rfl⟩, hJ1.app2 (hd ⟨5, .chain⟩ (by simp) rfl) h2 (fun q hq => (HO2.out.lt q hq).2) HNE.out h1 rfl h3 (by decide) (by decide) (by decide)⟩
        rintro _ ⟨g12, c12, rfl⟩
        simp only [Act.put, List.setIfInBounds_toArray, List.set_cons_succ, List.set_cons_zero, List.nil_append, List.cons_append]
        refine sv_end fun vs6 w6 hvs6 hJ6 => ?_
        simp only [List.drop_succ_cons, List.drop_zero]
        have h5 := hJ6.row1 (by decide)
        have h12 := hJ6.row2 (by decide)
        rw [hvs6 5 (.slice (some ⟨g5, 0, none⟩) (p + 1) c5) (by simp)] at h5
        rw [hvs6 12 (.slice (some ⟨g12, 0, none⟩) (p + 1) c12) (by simp)] at h12
        have nek : ∀ {v : Value} {q : Nat} {r : Option Nat}, (v.ownBlock = none ∨ v.ownBlock ≠ r) → v.ownBlock = some q → r ≠ some q := fun h hq e => h.elim (fun h => by rw [hq] at h; cases h) fun h => h (hq.trans e.symm)
        have HP6 : Hid (PlSt M w6 (.slice (some ⟨g5, 0, none⟩) (p + 1) c5) (.slice (some ⟨g12, 0, none⟩) (p + 1) c12) (.slice (some ⟨K + 1 + 1, 0, none⟩) 0 0) bV (List.replicate (p + 1) sz) (List.replicate (p + 1) gb) [] (bedsOf W)) := Lib.hid (by
          refine ⟨?_, ?_, ?_, ?_⟩
          · rw [List.length_replicate, List.replicate_succ', ints_append]; exact h5.1
          · rw [List.length_replicate, List.replicate_succ', show bools (List.replicate p gb ++ [gb]) = bools (List.replicate p gb) ++ [.bool gb] from List.map_append ..]; exact h12.1
          · exact ownsN_kept HPL.out.out fun q hq => hJ6.b.block q (HPL.out.out.lt q hq).2 (.inr (nek (ownsN_ne HPL.out.out HO1.out (by decide)) hq)) (.inr (nek (ownsN_ne HPL.out.out HO2.out (by decide)) hq))
          · exact ownsN_kept HPL.out.bed fun q hq => hJ6.b.block q (HPL.out.bed.lt q hq).2 (.inr (nek (ownsN_ne HPL.out.bed HO1.out (by decide)) hq)) (.inr (nek (ownsN_ne HPL.out.bed HO2.out (by decide)) hq)))
        have HK6 := Lib.hid (hJ6.b.heap HK.out (fun e => by have := (HO1.out.lt _ e).1; have := HLK.out; omega) (fun e => by have := (HO2.out.lt _ e).1; have := HLK.out; omega))
        have HM6 : Hid (M ≤ w6.heap.size) := Lib.hid (Nat.le_trans HMo.out hJ6.b.size)
        have HB6 : Hid (Below (N + 2) w1 w6) := Lib.hid (HBr.out.trans ⟨hJ6.b.os, hJ6.b.tape, hJ6.b.output, hJ6.b.size, fun k hk => hJ6.b.block k (by have := HMo.out; have := HLK.out; omega) (.inr fun e => by have := (HO1.out.lt _ e).1; have := HLK.out; omega) (.inr fun e => by have := (HO2.out.lt _ e).1; have := HLK.out; omega)⟩)
        have hwi : IntKind.i64.wrap ((p : Int) + 1) = (p : Int) + 1 := wrap_small _ (by omega) (by omega)
        clear hJ6 hvs6 h5 h12 nek c4 HPL HK HMo HBr HO1 HO2 HNE hP3
        go_wp2
        go_roundw
        case rel => exact ⟨p + 1, _, _, rfl, rfl, by omega, by go_num, HP6, HK6, HM6, HB6⟩
        case measure => simp [intOf]; omega
      · obtain rfl : p = P := by omega
        have hp1 : 1 ≤ p := HBD.out.2.2.2.2.2.2.1
        have HO1 := HPL.out.left
        have HO2 := HPL.out.inn
        rw [List.length_replicate] at HO1 HO2
        obtain ⟨gB, cB, hbv⟩ := own_pos HPL.out.bed (List.length_pos_iff.2 (bedsOf_ne W))
        obtain ⟨nb, hnb⟩ : ∃ n, (bedsOf W).length = n := ⟨_, rfl⟩
        rw [hnb] at hbv
        subst hbv
        have HNB := Lib.hid hnb
        have HN6 : Hid (1 ≤ nb ∧ nb ≤ 6) := Lib.hid ⟨by rw [← hnb]; exact List.length_pos_iff.2 (bedsOf_ne W), by rw [← hnb]; exact bedsOf_len W⟩
        clear hnb
        obtain ⟨gL, lc', hla⟩ := own_pos HO1 (by omega)
        obtain ⟨gI, ic', hia⟩ := own_pos HO2 (by omega)
        have hgL := HO1.lt gL (by rw [hla]; rfl)
        have hgI := HO2.lt gI (by rw [hia]; rfl)
        cases hla
        cases hia
        have HST0 : Hid (PlSt M wo (.slice (some ⟨gL, 0, none⟩) p lc) (.slice (some ⟨gI, 0, none⟩) p ic) (.slice (some ⟨K + 1 + 1, 0, none⟩) 0 0) (.slice (some ⟨gB, 0, none⟩) nb cB) ((begin5 l).sts.map (·.left)) ((begin5 l).sts.map (·.inn)) (begin5 l).out (bedsOf W)) := Lib.hid (by
          have e : (begin5 l).sts = List.replicate p ⟨sz, gb⟩ := by unfold begin5; simp only; rw [HST5.out, HL.out]; rfl
          rw [e, List.map_replicate, List.map_replicate]
          exact HPL.out)
        have HGL : Hid (M ≤ gL ∧ M ≤ gI) := Lib.hid ⟨hgL.1, hgI.1⟩
        obtain ⟨F, hF⟩ : ∃ F, playX x most = F := ⟨_, rfl⟩
        have HPA0 : Hid (PlAt l x.D most F (begin5 l)) := Lib.hid (by
          have h := PlAt.start (l := l) (D := x.D) (most := most) (by rw [HL.out]; have := HBD.out.1; simp only; omega)
          rw [← HL0.out] at h ⊢
          rw [← hF]; exact h)
        have HFF := Lib.hid hF
        have HPP : Hid (l.players.toNat = p) := Lib.hid (by rw [HL.out]; rfl)
        have HP3 : Hid (1 ≤ p ∧ p ≤ 3) := Lib.hid ⟨hp1, HBD.out.2.2.2.2.2.2.2⟩
        clear c0 c1 HPL HO1 HO2 hgL hgI hF HST5 HMK hp1
        go_upto_block 4 with fail
        clear c4
        go_cut [12, 13, 15, 16, 17, 18, 19, 20, 21] from 101 to 224 (fun ov _ _ _ _ _ _ _ _ wx => Hid (PlSt M wx (.slice (some ⟨gL, 0, none⟩) p lc) (.slice (some ⟨gI, 0, none⟩) p ic) ov (.slice (some ⟨gB, 0, none⟩) nb cB) (F.sts.map (·.left)) (F.sts.map (·.inn)) F.out (bedsOf W)) ∧ Hid (wx.heap[N + 2]? = some (.cells #[.int .i64 sz, .int .i64 gi, .int .i64 go, .slice (some ⟨gB, 0, none⟩) nb cB, .int .i64 (p : Int), .int .i64 0, .bool F.won] 27 (0, 0))) ∧ Hid (M ≤ wx.heap.size) ∧ Hid (Below (N + 2) w1 wx))
        case first =>
          as_aux_lemma =>
          go_wp2_with fail
          go_loopw [12, 13] (fun ov av wr => ∃ (X : Pl5) (oV : Value), oV = ov ∧ av = .int .i64 (X.at_ : Int) ∧ Hid (PlAt l x.D most F X) ∧ Hid (PlSt M wr (.slice (some ⟨gL, 0, none⟩) p lc) (.slice (some ⟨gI, 0, none⟩) p ic) oV (.slice (some ⟨gB, 0, none⟩) nb cB) (X.sts.map (·.left)) (X.sts.map (·.inn)) X.out (bedsOf W)) ∧ Hid (wr.heap[N + 2]? = some (.cells #[.int .i64 sz, .int .i64 gi, .int .i64 go, .slice (some ⟨gB, 0, none⟩) nb cB, .int .i64 (p : Int), .int .i64 0, .bool X.won] 27 (0, 0))) ∧ Hid (M ≤ wr.heap.size) ∧ Hid (Below (N + 2) w1 wr)) (fun ov _ _ => most - (match ov with | .slice _ n _ => n | _ => 0))
          case atStart => exact ⟨begin5 l, _, rfl, by go_num, HPA0, HST0, HK, HMo, HBr⟩
          case round =>
            clear HPA0 HST0 HK HMo HBr
            obtain ⟨X, oV, rfl, rfl, HPA, HPL, HK, HMo, HBr⟩ := hrel
            obtain ⟨wo, rfl⟩ : ∃ wo : World, wo = wr := ⟨_, rfl⟩
            obtain ⟨oa, oc, hov⟩ := owns_form HPL.out.out
            subst hov
            obtain ⟨m, hmm⟩ : ∃ m, X.out.length = m := ⟨_, rfl⟩
            obtain ⟨q, hq⟩ : ∃ q, X.at_ = q := ⟨_, rfl⟩
            obtain ⟨wn, hwn⟩ : ∃ b, X.won = b := ⟨_, rfl⟩
            have hmle : m ≤ most := by rw [← hmm]; exact HPA.out.len
            have hq3 : q ≤ 3 * m := by rw [← hmm, ← hq]; exact HPA.out.at_
            have HWN := Lib.hid hwn
            have HMM := Lib.hid hmm
            have HQQ := Lib.hid hq
            rw [hwn] at HK
            rw [hmm] at HPL
            rw [hmm, hq]
            clear hmm hq hwn
            have c4 : wo.cell? ⟨N + 2, 4, none⟩ = some (.int .i64 (p : Int)) := by rw [cell_of_heap HK.out]; rfl
            have c6 : wo.cell? ⟨N + 2, 6, none⟩ = some (.bool wn) := by rw [cell_of_heap HK.out]; rfl
            by_cases hlt : m < most
            · cases wn
              · skip
                obtain ⟨pp, hpp⟩ : ∃ r, m % p = r := ⟨_, rfl⟩
                have hppl : pp < p := by rw [← hpp]; exact Nat.mod_lt _ (by have := HP3.out; omega)
                have tm : ((m : Int)).tmod (p : Int) = (pp : Int) := by rw [tmodN, hpp]
                have dz0 : ((p : Int) == 0) = false := beq_eq_false_iff_ne.2 (by have := HP3.out; omega)
                have dz1 : ¬ (p : Int) = 0 := by have := HP3.out; omega
                have dz2 : ¬ p = 0 := by have := HP3.out; omega
                have hsl : X.sts.length = p := by rw [HPA.out.sts, HPP.out]
                have hsx : pp < X.sts.length := by rw [hsl]; exact hppl
                obtain ⟨⟨sl0, si0⟩, hss⟩ : ∃ s, X.sts[pp] = s := ⟨_, rfl⟩
                have hsa : X.sts[pp]? = some ⟨sl0, si0⟩ := by rw [List.getElem?_eq_getElem hsx, hss]
                have hla : (X.sts.map (·.left))[pp]? = some sl0 := by rw [List.getElem?_map, hsa]; rfl
                have hia : (X.sts.map (·.inn))[pp]? = some si0 := by rw [List.getElem?_map, hsa]; rfl
                have HSB : Hid (0 ≤ sl0 ∧ sl0 ≤ sz) := Lib.hid (by have := HPA.out.bd _ (List.mem_of_getElem? hsa); rw [HL.out] at this; exact this)
                have HSA := Lib.hid hsa
                have HSL := Lib.hid hsl
                obtain ⟨LL, hLL⟩ : ∃ y, X.sts.map (·.left) = y := ⟨_, rfl⟩
                obtain ⟨II, hII⟩ : ∃ y, X.sts.map (·.inn) = y := ⟨_, rfl⟩
                rw [hLL] at HPL hla
                rw [hII] at HPL hia
                have HLL := Lib.hid hLL
                have HII := Lib.hid hII
                have hLn : LL.length = p := by rw [← hLL, List.length_map, hsl]
                have hIn : II.length = p := by rw [← hII, List.length_map, hsl]
                have HLA := Lib.hid hla
                have HIA := Lib.hid hia
                have HLN := Lib.hid hLn
                have HIN := Lib.hid hIn
                have l0 : wo.cell? ⟨gL, pp, none⟩ = some (.int .i64 sl0) := (own_cell (n := LL.length) (by have h := HPL.out.left; rw [hLn] at h ⊢; exact h) (show (ints LL)[pp]? = _ by unfold ints; rw [List.getElem?_map, hla]; rfl)).1
                have i0 : wo.cell? ⟨gI, pp, none⟩ = some (.bool si0) := (own_cell (n := II.length) (by have h := HPL.out.inn; rw [hIn] at h ⊢; exact h) (show (bools II)[pp]? = _ by unfold bools; rw [List.getElem?_map, hia]; rfl)).1
                have hpl : (pp : Int) < (p : Int) := by omega
                have HPL2 : Hid (pp < p) := Lib.hid hppl
                have HMP := Lib.hid hpp
                clear hsl hsx hss hsa hla hia hLL hII hLn hIn hpp
                go_upto_region 18 with fail
                clear c4 c6 tm dz0 dz1 dz2
                refine wp_region_seq 12 [.is (.slice (some ⟨gL, 0, none⟩) p lc), .is (.int .i64 (pp : Int)), .is (.pointer (some ⟨gL, pp, none⟩)), .is (.int .i64 sl0), .is (.slice (some ⟨gI, 0, none⟩) p ic), .is (.int .i64 (pp : Int)), .is (.pointer (some ⟨gI, pp, none⟩)), .is (.bool si0), .is (.agg #[.int .i64 0, .int .i64 0, .int .i64 0]), kBox wo.heap.size 86 #[.int .i64 0, .int .i64 0, .int .i64 0], .is (.int .i64 sl0), .is (.bool si0)] rfl mix (by kernel_rfl) (by kernel_rfl) ?_
                simp only [List.take_succ_cons, List.take_zero]
                iterate 9
                  refine seq_on (by rfl) (fun w3 hb3 _ => ?_) ?_
                  · have l0' := bAt hb3 l0
                    have i0' := bAt hb3 i0
                    simp [opOK, go_sem, l0', i0', hpl, Below.refl]
                    try exact rfl
                  simp only [Act.put, List.setIfInBounds_toArray, List.set_cons_succ, List.set_cons_zero]
                refine seq_new ⟨_, 0, rfl⟩ (by rfl) (fun w3 hb3 _ => ?_) ?_
                · exact opOK_alloc (by kernel_rfl) hb3.size
                rintro _ ⟨D, rfl⟩
                simp only [Act.put, List.setIfInBounds_toArray, List.set_cons_succ, List.set_cons_zero]
                iterate 2
                  refine seq_on (by rfl) (fun w3 hb3 _ => ?_) ?_
                  · simp [opOK, go_sem, Below.refl]
                    try exact rfl
                  simp only [Act.put, List.setIfInBounds_toArray, List.set_cons_succ, List.set_cons_zero]
                refine seq_end fun w3 hb3 hH => ?_
                have hbx : (kBox wo.heap.size 86 #[.int .i64 0, .int .i64 0, .int .i64 0]).p (.pointer (some ⟨D, 0, none⟩)) w3 := by
                  have := hH 9 (by omega)
                  simpa [addH] using this
                obtain ⟨D', eD, hD3, hp3⟩ := hbx
                cases eD
                simp only [List.drop_succ_cons, List.drop_zero]
                refine wpList_opOK rfl (opOK_store_row (R := fun _ w' => w' = w3.setRow D #[.int .i64 0, .int .i64 0, .int .i64 0]) 86 (.tmp 18) (.tmp 123) rfl D #[.int .i64 0, .int .i64 0, .int .i64 0] rfl rfl 86 _ hp3 (by kernel_rfl) rfl (by simp [Value.oneCell']) rfl) ?_
                rintro _ _ rfl
                simp only [Act.put]
                rw [setRow_self _ _ _ _ _ hp3]
                have HPL3 := Lib.hid (HPL.out.below hb3)
                have HK3 := Lib.hid ((hb3.block (N + 2) (by have := HMo.out; have := HLK.out; omega)).trans HK.out)
                have HM3 : Hid (M ≤ w3.heap.size) := Lib.hid (Nat.le_trans HMo.out hb3.size)
                have HB3 : Hid (Below (N + 2) w1 w3) := Lib.hid (HBr.out.trans (hb3.mono (by have := HMo.out; have := HLK.out; omega)))
                have HD3 : Hid (w3.heap[D]? = some (.cells #[.int .i64 0, .int .i64 0, .int .i64 (0 : Nat)] 86 (0, 0))) := Lib.hid hp3
                have HDO : Hid ((Value.slice oa m oc).ownBlock ≠ some D) := Lib.hid fun e => by have := (HPL.out.out.lt D e).2; omega
                have HDM : Hid (M ≤ D) := Lib.hid (by have := HMo.out; omega)
                clear hb3 hH hp3 hD3 l0 i0 hpl HPL HK HMo HBr
                have HPL3' : Hid (PlSt M w3 (.slice (some ⟨gL, 0, none⟩) p lc) (.slice (some ⟨gI, 0, none⟩) p ic) (.slice oa m oc) (.slice (some ⟨gB, 0, none⟩) nb cB) (LL.set pp sl0) (II.set pp si0) X.out (bedsOf W)) := Lib.hid (by rw [setSelf HLA.out, setSelf HIA.out]; exact HPL3.out)
                clear HPL3
                go_upto_block 6 with fail
                go_cut [13, 19, 20, 21] from 124 to 208 (fun av _ _ _ wx => ∃ (d q' : Nat) (c : Std) (b : Bool), d ≤ 3 ∧ Hid (q' = q + d) ∧ av = .int .i64 (q' : Int) ∧ Hid (VisEnd (visT l x.D ⟨sl0, si0⟩ q) ⟨sl0, si0⟩ d c b) ∧ Hid (0 ≤ c.left ∧ c.left ≤ sz) ∧ Hid (PlSt M wx (.slice (some ⟨gL, 0, none⟩) p lc) (.slice (some ⟨gI, 0, none⟩) p ic) (.slice oa m oc) (.slice (some ⟨gB, 0, none⟩) nb cB) (LL.set pp c.left) (II.set pp c.inn) X.out (bedsOf W)) ∧ Hid (wx.heap[N + 2]? = some (.cells #[.int .i64 sz, .int .i64 gi, .int .i64 go, .slice (some ⟨gB, 0, none⟩) nb cB, .int .i64 (p : Int), .int .i64 0, .bool b] 27 (0, 0))) ∧ Hid (wx.heap[D]? = some (.cells #[.int .i64 0, .int .i64 0, .int .i64 (d : Int)] 86 (0, 0))) ∧ Hid (M ≤ wx.heap.size) ∧ Hid (Below (N + 2) w1 wx))
                case first =>
                  as_aux_lemma =>
                  go_wp2_with fail
                  go_loopw [13] (fun av wr => ∃ (d q' : Nat) (c : Std) (b : Bool), d ≤ 3 ∧ Hid (q' = q + d) ∧ av = .int .i64 (q' : Int) ∧ Hid (VisAt l x.D (thr5 l x.D 3 ⟨sl0, si0⟩ q) q d c b) ∧ Hid (0 ≤ c.left ∧ c.left ≤ sz) ∧ Hid (PlSt M wr (.slice (some ⟨gL, 0, none⟩) p lc) (.slice (some ⟨gI, 0, none⟩) p ic) (.slice oa m oc) (.slice (some ⟨gB, 0, none⟩) nb cB) (LL.set pp c.left) (II.set pp c.inn) X.out (bedsOf W)) ∧ Hid (wr.heap[N + 2]? = some (.cells #[.int .i64 sz, .int .i64 gi, .int .i64 go, .slice (some ⟨gB, 0, none⟩) nb cB, .int .i64 (p : Int), .int .i64 0, .bool b] 27 (0, 0))) ∧ Hid (wr.heap[D]? = some (.cells #[.int .i64 0, .int .i64 0, .int .i64 (d : Int)] 86 (0, 0))) ∧ Hid (M ≤ wr.heap.size) ∧ Hid (Below (N + 2) w1 wr)) (fun av _ => q + 3 - (intOf av).toNat)
                  case atStart => exact ⟨0, q, ⟨sl0, si0⟩, false, by omega, Lib.hid rfl, by go_num, Lib.hid (VisAt.start _ _ _ _), HSB, HPL3', HK3, HD3, HM3, HB3⟩
                  case round =>
                    clear HPL3' HK3 HD3 HM3 HB3
                    obtain ⟨d, q', ⟨cl, ci⟩, b, hd3, HQ', rfl, HVA, HCB, HPL, HK, HDD, HMo, HBr⟩ := hrel
                    obtain ⟨wo, rfl⟩ : ∃ wo : World, wo = wr := ⟨_, rfl⟩
                    simp only at HPL HCB
                    have c6 : wo.cell? ⟨N + 2, 6, none⟩ = some (.bool b) := by rw [cell_of_heap HK.out]; rfl
                    have v2 : wo.cell? ⟨D, 2, none⟩ = some (.int .i64 (d : Int)) := by rw [cell_of_heap HDD.out]; rfl
                    by_cases hlt3 : d < 3
                    · cases b
                      · skip
                        obtain ⟨z, hz⟩ : ∃ z, byteL x.darts q' = z := ⟨_, rfl⟩
                        have hzb : 0 ≤ z ∧ z < 256 := by rw [← hz]; exact byteL_bd HX.out.darts q'
                        obtain ⟨j, hj⟩ : ∃ j, z.toNat % (nb + 1) = j := ⟨_, rfl⟩
                        have hjl : j < nb + 1 := by rw [← hj]; exact Nat.mod_lt _ (by omega)
                        have tj : z.tmod ((nb : Int) + 1) = (j : Int) := by rw [← hj, ← tmodN z.toNat (nb + 1)]; congr 1; omega
                        have HJ : Hid (x.D (q + d) % (l.beds.length + 1) = j) := Lib.hid (by
                          have e : l.beds.length = nb := by rw [HL.out]; exact HNB.out
                          rw [e, ← hj, ← hz, ← HQ'.out]; rfl)
                        have HZ := Lib.hid hz
                        have wz : IntKind.i64.wrap z = z := wrap_small _ (by omega) (by omega)
                        have wnb : IntKind.i64.wrap ((nb : Int) + 1) = (nb : Int) + 1 := wrap_small _ (by have := HN6.out; omega) (by have := HN6.out; omega)
                        have y5 := bAt (W := w1) (W' := wo) (by rw [HZ1.out]; exact HBr.out) x5
                        have c3 : wo.cell? ⟨N + 2, 3, none⟩ = some (.slice (some ⟨gB, 0, none⟩) nb cB) := by rw [cell_of_heap HK.out]; rfl
                        have HDS := Lib.hid (HD.out.below (by rw [HZ1.out]; exact HBr.out))
                        have hn0 : ¬ (nb : Int) + 1 = 0 := by omega
                        have hn1 : ((nb : Int) + 1 == 0) = false := beq_eq_false_iff_ne.2 hn0
                        clear hz hj hzb
                        go_upto_region 20 with fail
                        clear v2 c6
                        refine wp_region_seqW (.is (.pointer (some ⟨N, 5, none⟩)) :: .is (.slice a dl cap) :: .is (.int .i64 (q' : Int)) :: .is (.int .u8 z) :: .is (.int .i64 z) :: .is (.pointer (some ⟨N + 2, 3, none⟩)) :: .is (.slice (some ⟨gB, 0, none⟩) nb cB) :: .is (.int .i64 (nb : Int)) :: .is (.int .i64 ((nb : Int) + 1)) :: .is (.int .i64 (j : Int)) :: .is (.int .i64 (j : Int)) :: []) rfl mix (by kernel_rfl) (by kernel_rfl) ?_
                        iterate 3
                          refine seq_on (by rfl) (fun w4 hb4 _ => ?_) ?_
                          · have y5' := bAt hb4 y5
                            simp [opOK, go_sem, y5', Below.refl]
                            try exact rfl
                          simp only [Act.put, List.setIfInBounds_toArray, List.set_cons_succ, List.set_cons_zero]
                        refine seq_on (by rfl) (fun w4 hb4 _ => ?_) ?_
                        · refine opOK_call (f := 73) (args := #[.slice a dl cap, .int .i64 (q' : Int)]) (by simp [go_sem]) ?_
                          refine (byteOf_any x.darts (.slice a dl cap) q' w4 (HDS.out.below hb4)).mono ?_
                          rintro e w' ⟨rfl, rfl⟩
                          exact ⟨_, rfl, by rw [HZ.out], Below.refl _ _⟩
                        simp only [Act.put, List.setIfInBounds_toArray, List.set_cons_succ, List.set_cons_zero]
                        iterate 7
                          refine seq_on (by rfl) (fun w4 hb4 _ => ?_) ?_
                          · have c3' := bAt hb4 c3
                            simp [opOK, go_sem, c3', wz, wnb, tj, hn0, Below.refl]
                            try exact rfl
                          simp only [Act.put, List.setIfInBounds_toArray, List.set_cons_succ, List.set_cons_zero]
                        refine seq_end fun w4 hb4 hH => ?_
                        have HPL4 := Lib.hid (HPL.out.below hb4)
                        have HK4 := Lib.hid ((hb4.block (N + 2) (by have := HMo.out; have := HLK.out; omega)).trans HK.out)
                        have HD4 := Lib.hid ((hb4.block D (Array.getElem?_eq_some_iff.1 HDD.out).1).trans HDD.out)
                        have HM4 : Hid (M ≤ w4.heap.size) := Lib.hid (Nat.le_trans HMo.out hb4.size)
                        have HB4 : Hid (Below (N + 2) w1 w4) := Lib.hid (HBr.out.trans (hb4.mono (by have := HMo.out; have := HLK.out; omega)))
                        have v2 : w4.cell? ⟨D, 2, none⟩ = some (.int .i64 (d : Int)) := by rw [cell_of_heap HD4.out]; rfl
                        have fv2 : w4.frozen? ⟨D, 2, none⟩ = false := frozen_of_heap HD4.out
                        have wd : IntKind.i64.wrap ((d : Int) + 1) = (d : Int) + 1 := wrap_small _ (by omega) (by omega)
                        have wq : IntKind.i64.wrap ((q' : Int) + 1) = (q' : Int) + 1 := wrap_small _ (by have := HQ'.out; omega) (by have := HQ'.out; omega)
                        clear hb4 hH y5 c3 wz wnb tj hn0 hn1 HDS HPL HK HDD HMo HBr
                        go_upto_region 23 with fail
                        obtain ⟨w5, hw5⟩ : ∃ y, w4.setCell ⟨D, 2, none⟩ (.int .i64 ((d : Int) + 1)) = y := ⟨_, rfl⟩
                        rw [hw5]
                        have hg5 := grown_set w4 D 2 (.int .i64 ((d : Int) + 1))
                        rw [hw5] at hg5
                        have HPL5 := Lib.hid (HPL4.out.blk HD4.out (by decide) (by decide) (by decide) (.inr HDO.out) hg5)
                        have HK5 := Lib.hid ((hg5.block (N + 2) (by have := HM4.out; have := HLK.out; omega) (by have := HDM.out; have := HLK.out; exact fun e => by have := Option.some.inj e; omega)).trans HK4.out)
                        have HD5 : Hid (w5.heap[D]? = some (.cells #[.int .i64 0, .int .i64 0, .int .i64 ((d + 1 : Nat) : Int)] 86 (0, 0))) := Lib.hid (by rw [← hw5]; exact heap_setCell_at HD4.out _)
                        have HM5 : Hid (M ≤ w5.heap.size) := Lib.hid (Nat.le_trans HM4.out hg5.size)
                        have HB5 : Hid (Below (N + 2) w1 w5) := Lib.hid (by rw [← hw5]; exact HB4.out.setCell (p := ⟨D, 2, none⟩) (Nat.le_trans (Nat.le_of_lt HLK.out) HDM.out) _)
                        have c3 : w5.cell? ⟨N + 2, 3, none⟩ = some (.slice (some ⟨gB, 0, none⟩) nb cB) := by rw [cell_of_heap HK5.out]; rfl
                        clear hw5 hg5 v2 fv2 wd HPL4 HK4 HD4 HM4 HB4
                        by_cases hjn : j = nb
                        · skip
                          have HVN : Hid (VisAt l x.D (thr5 l x.D 3 ⟨sl0, si0⟩ q) q (d + 1) ⟨cl, ci⟩ false) := Lib.hid (HVA.out.next hlt3 HJ.out (hitK_miss (by rw [HL.out]; show j = (bedsOf W).length; rw [HNB.out]; exact hjn)))
                          have dj : ((j : Int) == (nb : Int)) = true := beq_iff_eq.2 (by omega)
                          clear hjn
                          have HCB9 := HCB
                          have HPL9 := HPL5
                          have HK9 := HK5
                          have HD9 := HD5
                          have HM9 := HM5
                          have HB9 := HB5
                          go_wp2_with fail
                          go_roundw
                          case rel => exact ⟨d + 1, q' + 1, ⟨cl, ci⟩, false, by omega, Lib.hid (by have := HQ'.out; omega), by go_num, HVN, HCB9, HPL9, HK9, HD9, HM9, HB9⟩
                          case measure => have := HQ'.out; simp [intOf]; omega
                        · have dj : ((j : Int) == (nb : Int)) = false := beq_eq_false_iff_ne.2 (by omega)
                          have hjb : j < nb := by omega
                          have hji : (j : Int) < (nb : Int) := by omega
                          obtain ⟨bd, hbd⟩ : ∃ b, (bedsOf W)[j]? = some b := ⟨_, List.getElem?_eq_getElem (by rw [HNB.out]; exact hjb)⟩
                          have HBDK : Hid (hitK l j = hitB5 l bd) := Lib.hid (hitK_bed (by rw [HL.out]; exact hbd))
                          have HOK := Lib.hid (bedsOf_ok (List.mem_of_getElem? hbd))
                          have b0 : w5.cell? ⟨gB, j, none⟩ = some (.int .i64 bd) := (own_cell (n := (bedsOf W).length) (by have h := HPL5.out.bed; rw [HNB.out] at h ⊢; exact h) (show (ints (bedsOf W))[j]? = _ by unfold ints; rw [List.getElem?_map, hbd]; rfl)).1
                          have i0 : w5.cell? ⟨gI, pp, none⟩ = some (.bool ci) := (own_cell (n := II.length) (by have h := HPL5.out.inn; rw [List.length_set, HIN.out] at h; rw [HIN.out]; exact h) (show (bools (II.set pp ci))[pp]? = _ by unfold bools; rw [List.getElem?_map, setAt HIA.out]; rfl)).1
                          have fi0 : w5.frozen? ⟨gI, pp, none⟩ = false := (own_cell (n := II.length) (by have h := HPL5.out.inn; rw [List.length_set, HIN.out] at h; rw [HIN.out]; exact h) (show (bools (II.set pp ci))[pp]? = _ by unfold bools; rw [List.getElem?_map, setAt HIA.out]; rfl)).2
                          have c1 : w5.cell? ⟨N + 2, 1, none⟩ = some (.int .i64 gi) := by rw [cell_of_heap HK5.out]; rfl
                          have hppl := HPL2.out
                          have hppi : (pp : Int) < (p : Int) := by omega
                          obtain ⟨oi, hoi⟩ : ∃ b, opens5 bd gi = b := ⟨_, rfl⟩
                          have hcall := opensL_any bd gi HOK.out.2.2.2 (by have := HBD.out; omega) w5
                          rw [hoi] at hcall
                          have HOI := Lib.hid hoi
                          clear hjn hbd hoi
                          cases ci
                          · skip
                            go_wp2_with fail
                            refine hcall.mono ?_
                            rintro e w' ⟨rfl, hw'⟩
                            subst hw'
                            clear hcall
                            cases oi
                            · have HVN : Hid (VisAt l x.D (thr5 l x.D 3 ⟨sl0, si0⟩ q) q (d + 1) ⟨cl, false⟩ false) := Lib.hid (HVA.out.next hlt3 HJ.out (x := ⟨cl, false, false, false⟩) (by rw [HBDK.out]; exact dart_out rfl (by rw [HL.out]; exact HOI.out)))
                              clear b0 i0 fi0 c1 c3
                              have HCB9 := HCB
                              have HPL9 := HPL5
                              have HK9 := HK5
                              have HD9 := HD5
                              have HM9 := HM5
                              have HB9 := HB5
                              go_wp2_with fail
                              go_roundw
                              case rel => exact ⟨d + 1, q' + 1, ⟨cl, false⟩, false, by omega, Lib.hid (by have := HQ'.out; omega), by go_num, HVN, HCB9, HPL9, HK9, HD9, HM9, HB9⟩
                              case measure => have := HQ'.out; simp [intOf]; omega
                            · skip
                              obtain ⟨w6, hw6⟩ : ∃ y, w5.setCell ⟨gI, pp, none⟩ (.bool true) = y := ⟨_, rfl⟩
                              have hst := HPL5.out.setI (by rw [List.length_set, HIN.out]) pp true
                              rw [List.set_set] at hst
                              rw [hw6] at hst
                              have hgr := hst.2
                              have HPL6 := Lib.hid hst.1
                              have HK6 := Lib.hid ((hgr.block (N + 2) (by have := HM5.out; have := HLK.out; omega) (by have := HGL.out; have := HLK.out; exact fun e => by have := Option.some.inj e; omega)).trans HK5.out)
                              have hne := ownsN_ne_blk HPL5.out.inn HD5.out (by decide)
                              have HD6 := Lib.hid (blk_kept hgr HD5.out hne)
                              clear hne
                              have HM6 : Hid (M ≤ w6.heap.size) := Lib.hid (Nat.le_trans HM5.out hgr.size)
                              have hle6 : N + 2 ≤ gI := Nat.le_trans (Nat.le_of_lt HLK.out) HGL.out.2
                              have hbb := HB5.out.setCell (p := ⟨gI, pp, none⟩) hle6 (.bool true)
                              have HB6 : Hid (Below (N + 2) w1 w6) := Lib.hid (hw6 ▸ hbb)
                              have HWT := Lib.hid hw6
                              clear hst hgr hw6 hbb hle6
                              go_upto_region 27 with fail
                              rw [HWT.out]
                              clear b0 i0 fi0 c1 c3
                              have l0 : w6.cell? ⟨gL, pp, none⟩ = some (.int .i64 cl) := (own_cell (n := LL.length) (by have h := HPL6.out.left; rw [List.length_set, HLN.out] at h; rw [HLN.out]; exact h) (show (ints (LL.set pp cl))[pp]? = _ by unfold ints; rw [List.getElem?_map, setAt HLA.out]; rfl)).1
                              obtain ⟨pts, hpts⟩ : ∃ z, bd.tdiv 100 * bd.tmod 100 = z := ⟨_, rfl⟩
                              have hpb : 1 ≤ pts ∧ pts ≤ 80 := by rw [← hpts]; exact ⟨HOK.out.2.1, HOK.out.2.2.1⟩
                              have HPT := Lib.hid hpts
                              obtain ⟨rs, hrs⟩ : ∃ z, cl - pts = z := ⟨_, rfl⟩
                              have wr : IntKind.i64.wrap (cl - pts) = rs := by rw [hrs]; have := HCB.out; have := HBD.out; exact wrap_small _ (by omega) (by omega)
                              have HRS := Lib.hid hrs
                              clear hpts hrs
                              refine wp_region_seqW (.is (.slice (some ⟨gL, 0, none⟩) p lc) :: .is (.int .i64 (pp : Int)) :: .is (.pointer (some ⟨gL, pp, none⟩)) :: .is (.int .i64 cl) :: .is (.int .i64 bd) :: .is (.int .i64 pts) :: .is (.int .i64 rs) :: .is (.int .i64 rs) :: []) rfl mix (by kernel_rfl) (by kernel_rfl) ?_
                              iterate 5
                                refine seq_on (by rfl) (fun w7 hb7 _ => ?_) ?_
                                · have l0' := bAt hb7 l0
                                  simp [opOK, go_sem, l0', hppi, Below.refl]
                                  try exact rfl
                                simp only [Act.put, List.setIfInBounds_toArray, List.set_cons_succ, List.set_cons_zero]
                              refine seq_on (by rfl) (fun w7 hb7 _ => ?_) ?_
                              · refine opOK_call (f := 75) (args := #[.int .i64 bd]) (by simp [go_sem]) ?_
                                refine (points_any bd HOK.out.2.2.2 w7).mono ?_
                                rintro e w' ⟨rfl, rfl⟩
                                exact ⟨_, rfl, by rw [HPT.out], Below.refl _ _⟩
                              simp only [Act.put, List.setIfInBounds_toArray, List.set_cons_succ, List.set_cons_zero]
                              iterate 2
                                refine seq_on (by rfl) (fun w7 hb7 _ => ?_) ?_
                                · simp [opOK, go_sem, wr, Below.refl]
                                  try exact rfl
                                simp only [Act.put, List.setIfInBounds_toArray, List.set_cons_succ, List.set_cons_zero]
                              refine seq_end fun w7 hb7 hH => ?_
                              have HPL7 := Lib.hid (HPL6.out.below hb7)
                              have HK7 := Lib.hid ((hb7.block (N + 2) (by have := HM6.out; have := HLK.out; omega)).trans HK6.out)
                              have HD7 := Lib.hid ((hb7.block D (Array.getElem?_eq_some_iff.1 HD6.out).1).trans HD6.out)
                              have HM7 : Hid (M ≤ w7.heap.size) := Lib.hid (Nat.le_trans HM6.out hb7.size)
                              have HB7 : Hid (Below (N + 2) w1 w7) := Lib.hid (HB6.out.trans (hb7.mono (by have := HM6.out; have := HLK.out; omega)))
                              have l0 : w7.cell? ⟨gL, pp, none⟩ = some (.int .i64 cl) := bAt hb7 l0
                              have fl0 : w7.frozen? ⟨gL, pp, none⟩ = false := (own_cell (n := LL.length) (by have h := HPL7.out.left; rw [List.length_set, HLN.out] at h; rw [HLN.out]; exact h) (show (ints (LL.set pp cl))[pp]? = _ by unfold ints; rw [List.getElem?_map, setAt HLA.out]; rfl)).2
                              have i7 : w7.cell? ⟨gI, pp, none⟩ = some (.bool true) := (own_cell (n := II.length) (by have h := HPL7.out.inn; rw [List.length_set, HIN.out] at h; rw [HIN.out]; exact h) (show (bools (II.set pp true))[pp]? = _ by unfold bools; rw [List.getElem?_map, setAt HIA.out]; rfl)).1
                              have fi7 : w7.frozen? ⟨gI, pp, none⟩ = false := (own_cell (n := II.length) (by have h := HPL7.out.inn; rw [List.length_set, HIN.out] at h; rw [HIN.out]; exact h) (show (bools (II.set pp true))[pp]? = _ by unfold bools; rw [List.getElem?_map, setAt HIA.out]; rfl)).2
                              have c2 : w7.cell? ⟨N + 2, 2, none⟩ = some (.int .i64 go) := by rw [cell_of_heap HK7.out]; rfl
                              clear hb7 hH wr HPL6 HK6 HD6 HM6 HB6 HWT HPL5 HK5 HD5 HM5 HB5
                              obtain ⟨og, hog⟩ : ∃ b, opens5 bd go = b := ⟨_, rfl⟩
                              have hcall := opensL_any bd go HOK.out.2.2.2 (by have := HBD.out; omega) w7
                              rw [hog] at hcall
                              have HOG := Lib.hid hog
                              clear hog
                              by_cases hr0 : rs = 0
                              · have dr : (rs == 0) = true := beq_iff_eq.2 hr0
                                have HR0 := Lib.hid hr0
                                clear hr0
                                go_wp2_with fail
                                refine hcall.mono ?_
                                rintro e w' ⟨rfl, hw'⟩
                                subst hw'
                                clear hcall
                                cases og
                                · have hlr : ¬ lw ≤ rs := by rw [HR0.out, ← HLW.out]; unfold low5; split <;> omega
                                  have HDB : Hid (dart5 l ⟨cl, false⟩ (hitB5 l bd) = (⟨0, false, true, false⟩, false)) := Lib.hid (dart_bust (.inr (by rw [HL.out]; exact HOI.out)) (by rw [HPT.out]; omega) (fun h => by have h2 := h.2; rw [HL.out] at h2; rw [show opens5 bd go = true from h2] at HOG; cases HOG.out) (by rw [HPT.out]; show cl - pts < low5 l.gout; rw [HRS.out, HL.out]; show rs < low5 go; rw [HLW.out]; omega))
                                  obtain ⟨w8, hst0⟩ : ∃ y, w7.setCell ⟨gL, pp, none⟩ (.int .i64 sl0) = y := ⟨_, rfl⟩
                                  have hst := HPL7.out.setL (by rw [List.length_set, HLN.out]) pp sl0
                                  rw [List.set_set] at hst
                                  rw [hst0] at hst
                                  have hgr := hst.2
                                  have HPL8 := Lib.hid hst.1
                                  have HK8 := Lib.hid ((hgr.block (N + 2) (by have := HM7.out; have := HLK.out; omega) (by have := HGL.out; have := HLK.out; exact fun e => by have := Option.some.inj e; omega)).trans HK7.out)
                                  have hne := ownsN_ne_blk HPL7.out.left HD7.out (by decide)
                                  have HD8 := Lib.hid (blk_kept hgr HD7.out hne)
                                  clear hne
                                  have HM8 : Hid (M ≤ w8.heap.size) := Lib.hid (Nat.le_trans HM7.out hgr.size)
                                  have HB8 : Hid (Below (N + 2) w1 w8) := Lib.hid (by rw [← hst0]; exact HB7.out.setCell (p := ⟨gL, pp, none⟩) (Nat.le_trans (Nat.le_of_lt HLK.out) HGL.out.1) _)
                                  have HW8 := Lib.hid hst0
                                  clear hst hgr hst0
                                  have i8 : w8.cell? ⟨gI, pp, none⟩ = some (.bool true) := (own_cell (n := II.length) (by have h := HPL8.out.inn; rw [List.length_set, HIN.out] at h; rw [HIN.out]; exact h) (show (bools (II.set pp true))[pp]? = _ by unfold bools; rw [List.getElem?_map, setAt HIA.out]; rfl)).1
                                  have fi8 : w8.frozen? ⟨gI, pp, none⟩ = false := (own_cell (n := II.length) (by have h := HPL8.out.inn; rw [List.length_set, HIN.out] at h; rw [HIN.out]; exact h) (show (bools (II.set pp true))[pp]? = _ by unfold bools; rw [List.getElem?_map, setAt HIA.out]; rfl)).2
                                  obtain ⟨w9, hw9⟩ : ∃ y, w8.setCell ⟨gI, pp, none⟩ (.bool si0) = y := ⟨_, rfl⟩
                                  have hst := HPL8.out.setI (by rw [List.length_set, HIN.out]) pp si0
                                  rw [List.set_set] at hst
                                  rw [hw9] at hst
                                  have hgr := hst.2
                                  have HPL9 := Lib.hid hst.1
                                  have HK9 := Lib.hid ((hgr.block (N + 2) (by have := HM8.out; have := HLK.out; omega) (by have := HGL.out; have := HLK.out; exact fun e => by have := Option.some.inj e; omega)).trans HK8.out)
                                  have hne := ownsN_ne_blk HPL8.out.inn HD8.out (by decide)
                                  have HD9 := Lib.hid (blk_kept hgr HD8.out hne)
                                  clear hne
                                  have HM9 : Hid (M ≤ w9.heap.size) := Lib.hid (Nat.le_trans HM8.out hgr.size)
                                  have HB9 : Hid (Below (N + 2) w1 w9) := Lib.hid (by rw [← hw9]; exact HB8.out.setCell (p := ⟨gI, pp, none⟩) (Nat.le_trans (Nat.le_of_lt HLK.out) HGL.out.2) _)
                                  have HW9 := Lib.hid (show (w7.setCell ⟨gL, pp, none⟩ (.int .i64 sl0)).setCell ⟨gI, pp, none⟩ (.bool si0) = w9 by rw [HW8.out]; exact hw9)
                                  have i8' : (w7.setCell ⟨gL, pp, none⟩ (.int .i64 sl0)).cell? ⟨gI, pp, none⟩ = some (.bool true) := by rw [HW8.out]; exact i8
                                  have fi8' : (w7.setCell ⟨gL, pp, none⟩ (.int .i64 sl0)).frozen? ⟨gI, pp, none⟩ = false := by rw [HW8.out]; exact fi8
                                  have HVE : Hid (VisEnd (visT l x.D ⟨sl0, si0⟩ q) ⟨sl0, si0⟩ (d + 1) ⟨sl0, si0⟩ false) := Lib.hid (HVA.out.bust hlt3 HJ.out (by rw [HBDK.out]; exact HDB.out))
                                  clear hst hgr hw9 i8 fi8 i7 fi7 c2
                                  go_wp2_with fail
                                  rw [HW9.out]
                                  go_meet
                                  case rel => exact ⟨d + 1, q' + 1, ⟨sl0, si0⟩, false, by omega, Lib.hid (by have := HQ'.out; omega), by go_num, HVE, HSB, HPL9, HK9, HD9, HM9, HB9⟩
                                · have HDW : Hid (dart5 l ⟨cl, false⟩ (hitB5 l bd) = (⟨0, true, false, true⟩, false)) := Lib.hid (dart_win (.inr (by rw [HL.out]; exact HOI.out)) (by rw [HPT.out]; omega) (by rw [HPT.out]; show cl - pts = 0; rw [HRS.out]; exact HR0.out) (by rw [HL.out]; exact HOG.out))
                                  obtain ⟨w8, hst0⟩ : ∃ y, w7.setCell ⟨gL, pp, none⟩ (.int .i64 0) = y := ⟨_, rfl⟩
                                  have hst := HPL7.out.setL (by rw [List.length_set, HLN.out]) pp 0
                                  rw [List.set_set] at hst
                                  rw [hst0] at hst
                                  have hgr := hst.2
                                  have HPL8 := Lib.hid hst.1
                                  have HK8 := Lib.hid ((hgr.block (N + 2) (by have := HM7.out; have := HLK.out; omega) (by have := HGL.out; have := HLK.out; exact fun e => by have := Option.some.inj e; omega)).trans HK7.out)
                                  have hne := ownsN_ne_blk HPL7.out.left HD7.out (by decide)
                                  have HD8 := Lib.hid (blk_kept hgr HD7.out hne)
                                  clear hne
                                  have HM8 : Hid (M ≤ w8.heap.size) := Lib.hid (Nat.le_trans HM7.out hgr.size)
                                  have HB8 : Hid (Below (N + 2) w1 w8) := Lib.hid (by rw [← hst0]; exact HB7.out.setCell (p := ⟨gL, pp, none⟩) (Nat.le_trans (Nat.le_of_lt HLK.out) HGL.out.1) _)
                                  have HW8 := Lib.hid hst0
                                  clear hst hgr hst0
                                  have c6 : w8.cell? ⟨N + 2, 6, none⟩ = some (.bool false) := by rw [cell_of_heap HK8.out]; rfl
                                  have fc6 : w8.frozen? ⟨N + 2, 6, none⟩ = false := frozen_of_heap HK8.out
                                  obtain ⟨w9, hw9⟩ : ∃ y, w8.setCell ⟨N + 2, 6, none⟩ (.bool true) = y := ⟨_, rfl⟩
                                  have hgr := grown_set w8 (N + 2) 6 (.bool true)
                                  rw [hw9] at hgr
                                  have HPL9 := Lib.hid (HPL8.out.blk HK8.out (by decide) (by decide) (by decide) (.inl (by decide)) hgr)
                                  have HK9 : Hid (w9.heap[N + 2]? = some (.cells #[.int .i64 sz, .int .i64 gi, .int .i64 go, .slice (some ⟨gB, 0, none⟩) nb cB, .int .i64 (p : Int), .int .i64 0, .bool true] 27 (0, 0))) := Lib.hid (by rw [← hw9]; exact heap_setCell_at HK8.out _)
                                  have HD9 := Lib.hid (blk_kept hgr HD8.out (.inr (by have := HDM.out; have := HLK.out; exact fun e => by have := Option.some.inj e; omega)))
                                  have HM9 : Hid (M ≤ w9.heap.size) := Lib.hid (Nat.le_trans HM8.out hgr.size)
                                  have HB9 : Hid (Below (N + 2) w1 w9) := Lib.hid (by rw [← hw9]; exact HB8.out.setCell (p := ⟨N + 2, 6, none⟩) (Nat.le_refl _) _)
                                  have HW9 := Lib.hid (show (w7.setCell ⟨gL, pp, none⟩ (.int .i64 0)).setCell ⟨N + 2, 6, none⟩ (.bool true) = w9 by rw [HW8.out]; exact hw9)
                                  have c6' : (w7.setCell ⟨gL, pp, none⟩ (.int .i64 0)).cell? ⟨N + 2, 6, none⟩ = some (.bool false) := by rw [HW8.out]; exact c6
                                  have fc6' : (w7.setCell ⟨gL, pp, none⟩ (.int .i64 0)).frozen? ⟨N + 2, 6, none⟩ = false := by rw [HW8.out]; exact fc6
                                  have HVN : Hid (VisAt l x.D (thr5 l x.D 3 ⟨sl0, si0⟩ q) q (d + 1) ⟨0, true⟩ true) := Lib.hid (HVA.out.win hlt3 HJ.out (by rw [HBDK.out]; exact HDW.out))
                                  have HCB9 : Hid ((0 : Int) ≤ 0 ∧ 0 ≤ sz) := Lib.hid ⟨Int.le_refl _, by have := HBD.out; omega⟩
                                  clear hgr hw9 c6 fc6 i7 fi7 c2
                                  go_wp2_with fail
                                  rw [HW9.out]
                                  go_roundw
                                  case rel => exact ⟨d + 1, q' + 1, ⟨0, true⟩, true, by omega, Lib.hid (by have := HQ'.out; omega), by go_num, HVN, HCB9, HPL9, HK9, HD9, HM9, HB9⟩
                                  case measure => have := HQ'.out; simp [intOf]; omega
                              · have dr : (rs == 0) = false := beq_eq_false_iff_ne.2 hr0
                                clear hcall
                                by_cases hlr : lw ≤ rs
                                · have HDR : Hid (dart5 l ⟨cl, false⟩ (hitB5 l bd) = (⟨rs, true, false, false⟩, true)) := Lib.hid (by
                                    have h := dart_rest (l := l) (s := ⟨cl, false⟩) (b := bd) (.inr (by rw [HL.out]; exact HOI.out)) (by rw [HPT.out]; omega) (fun h => hr0 (by have h1 := h.1; rw [HPT.out] at h1; rw [← HRS.out]; exact h1)) (by rw [HPT.out]; show low5 l.gout ≤ cl - pts; rw [HRS.out, HL.out]; show low5 go ≤ rs; rw [HLW.out]; exact hlr)
                                    rw [HPT.out] at h
                                    rw [h]; show ((⟨cl - pts, true, false, false⟩ : En), true) = _; rw [HRS.out])
                                  clear hr0
                                  obtain ⟨w8, hst0⟩ : ∃ y, w7.setCell ⟨gL, pp, none⟩ (.int .i64 rs) = y := ⟨_, rfl⟩
                                  have hst := HPL7.out.setL (by rw [List.length_set, HLN.out]) pp rs
                                  rw [List.set_set] at hst
                                  rw [hst0] at hst
                                  have hgr := hst.2
                                  have HPL8 := Lib.hid hst.1
                                  have HK8 := Lib.hid ((hgr.block (N + 2) (by have := HM7.out; have := HLK.out; omega) (by have := HGL.out; have := HLK.out; exact fun e => by have := Option.some.inj e; omega)).trans HK7.out)
                                  have hne := ownsN_ne_blk HPL7.out.left HD7.out (by decide)
                                  have HD8 := Lib.hid (blk_kept hgr HD7.out hne)
                                  clear hne
                                  have HM8 : Hid (M ≤ w8.heap.size) := Lib.hid (Nat.le_trans HM7.out hgr.size)
                                  have HB8 : Hid (Below (N + 2) w1 w8) := Lib.hid (by rw [← hst0]; exact HB7.out.setCell (p := ⟨gL, pp, none⟩) (Nat.le_trans (Nat.le_of_lt HLK.out) HGL.out.1) _)
                                  have HW8 := Lib.hid hst0
                                  clear hst hgr hst0
                                  have HVN : Hid (VisAt l x.D (thr5 l x.D 3 ⟨sl0, si0⟩ q) q (d + 1) ⟨rs, true⟩ false) := Lib.hid (HVA.out.next hlt3 HJ.out (x := ⟨rs, true, false, false⟩) (by rw [HBDK.out]; exact HDR.out))
                                  have HCB9 : Hid (0 ≤ rs ∧ rs ≤ sz) := Lib.hid (by have h1 := HRS.out; have h2 := HCB.out; have h3 := HLW.out; unfold low5 at h3; split at h3 <;> omega)
                                  have HPL9 := HPL8
                                  have HK9 := HK8
                                  have HD9 := HD8
                                  have HM9 := HM8
                                  have HB9 := HB8
                                  clear i7 fi7 c2
                                  go_wp2_with fail
                                  rw [HW8.out]
                                  go_roundw
                                  case rel => exact ⟨d + 1, q' + 1, ⟨rs, true⟩, false, by omega, Lib.hid (by have := HQ'.out; omega), by go_num, HVN, HCB9, HPL9, HK9, HD9, HM9, HB9⟩
                                  case measure => have := HQ'.out; simp [intOf]; omega
                                · have HDB : Hid (dart5 l ⟨cl, false⟩ (hitB5 l bd) = (⟨0, false, true, false⟩, false)) := Lib.hid (dart_bust (.inr (by rw [HL.out]; exact HOI.out)) (by rw [HPT.out]; omega) (fun h => hr0 (by have h1 := h.1; rw [HPT.out] at h1; rw [← HRS.out]; exact h1)) (by rw [HPT.out]; show cl - pts < low5 l.gout; rw [HRS.out, HL.out]; show rs < low5 go; rw [HLW.out]; omega))
                                  clear hr0
                                  obtain ⟨w8, hst0⟩ : ∃ y, w7.setCell ⟨gL, pp, none⟩ (.int .i64 sl0) = y := ⟨_, rfl⟩
                                  have hst := HPL7.out.setL (by rw [List.length_set, HLN.out]) pp sl0
                                  rw [List.set_set] at hst
                                  rw [hst0] at hst
                                  have hgr := hst.2
                                  have HPL8 := Lib.hid hst.1
                                  have HK8 := Lib.hid ((hgr.block (N + 2) (by have := HM7.out; have := HLK.out; omega) (by have := HGL.out; have := HLK.out; exact fun e => by have := Option.some.inj e; omega)).trans HK7.out)
                                  have hne := ownsN_ne_blk HPL7.out.left HD7.out (by decide)
                                  have HD8 := Lib.hid (blk_kept hgr HD7.out hne)
                                  clear hne
                                  have HM8 : Hid (M ≤ w8.heap.size) := Lib.hid (Nat.le_trans HM7.out hgr.size)
                                  have HB8 : Hid (Below (N + 2) w1 w8) := Lib.hid (by rw [← hst0]; exact HB7.out.setCell (p := ⟨gL, pp, none⟩) (Nat.le_trans (Nat.le_of_lt HLK.out) HGL.out.1) _)
                                  have HW8 := Lib.hid hst0
                                  clear hst hgr hst0
                                  have i8 : w8.cell? ⟨gI, pp, none⟩ = some (.bool true) := (own_cell (n := II.length) (by have h := HPL8.out.inn; rw [List.length_set, HIN.out] at h; rw [HIN.out]; exact h) (show (bools (II.set pp true))[pp]? = _ by unfold bools; rw [List.getElem?_map, setAt HIA.out]; rfl)).1
                                  have fi8 : w8.frozen? ⟨gI, pp, none⟩ = false := (own_cell (n := II.length) (by have h := HPL8.out.inn; rw [List.length_set, HIN.out] at h; rw [HIN.out]; exact h) (show (bools (II.set pp true))[pp]? = _ by unfold bools; rw [List.getElem?_map, setAt HIA.out]; rfl)).2
                                  obtain ⟨w9, hw9⟩ : ∃ y, w8.setCell ⟨gI, pp, none⟩ (.bool si0) = y := ⟨_, rfl⟩
                                  have hst := HPL8.out.setI (by rw [List.length_set, HIN.out]) pp si0
                                  rw [List.set_set] at hst
                                  rw [hw9] at hst
                                  have hgr := hst.2
                                  have HPL9 := Lib.hid hst.1
                                  have HK9 := Lib.hid ((hgr.block (N + 2) (by have := HM8.out; have := HLK.out; omega) (by have := HGL.out; have := HLK.out; exact fun e => by have := Option.some.inj e; omega)).trans HK8.out)
                                  have hne := ownsN_ne_blk HPL8.out.inn HD8.out (by decide)
                                  have HD9 := Lib.hid (blk_kept hgr HD8.out hne)
                                  clear hne
                                  have HM9 : Hid (M ≤ w9.heap.size) := Lib.hid (Nat.le_trans HM8.out hgr.size)
                                  have HB9 : Hid (Below (N + 2) w1 w9) := Lib.hid (by rw [← hw9]; exact HB8.out.setCell (p := ⟨gI, pp, none⟩) (Nat.le_trans (Nat.le_of_lt HLK.out) HGL.out.2) _)
                                  have HW9 := Lib.hid (show (w7.setCell ⟨gL, pp, none⟩ (.int .i64 sl0)).setCell ⟨gI, pp, none⟩ (.bool si0) = w9 by rw [HW8.out]; exact hw9)
                                  have i8' : (w7.setCell ⟨gL, pp, none⟩ (.int .i64 sl0)).cell? ⟨gI, pp, none⟩ = some (.bool true) := by rw [HW8.out]; exact i8
                                  have fi8' : (w7.setCell ⟨gL, pp, none⟩ (.int .i64 sl0)).frozen? ⟨gI, pp, none⟩ = false := by rw [HW8.out]; exact fi8
                                  have HVE : Hid (VisEnd (visT l x.D ⟨sl0, si0⟩ q) ⟨sl0, si0⟩ (d + 1) ⟨sl0, si0⟩ false) := Lib.hid (HVA.out.bust hlt3 HJ.out (by rw [HBDK.out]; exact HDB.out))
                                  clear hst hgr hw9 i8 fi8 i7 fi7 c2
                                  go_wp2_with fail
                                  rw [HW9.out]
                                  go_meet
                                  case rel => exact ⟨d + 1, q' + 1, ⟨sl0, si0⟩, false, by omega, Lib.hid (by have := HQ'.out; omega), by go_num, HVE, HSB, HPL9, HK9, HD9, HM9, HB9⟩
                          · clear hcall
                            obtain ⟨w6, hw6⟩ : ∃ y, w5.setCell ⟨gI, pp, none⟩ (.bool true) = y := ⟨_, rfl⟩
                            have hst := HPL5.out.setI (by rw [List.length_set, HIN.out]) pp true
                            rw [List.set_set] at hst
                            rw [hw6] at hst
                            have hgr := hst.2
                            have HPL6 := Lib.hid hst.1
                            have HK6 := Lib.hid ((hgr.block (N + 2) (by have := HM5.out; have := HLK.out; omega) (by have := HGL.out; have := HLK.out; exact fun e => by have := Option.some.inj e; omega)).trans HK5.out)
                            have hne := ownsN_ne_blk HPL5.out.inn HD5.out (by decide)
                            have HD6 := Lib.hid (blk_kept hgr HD5.out hne)
                            clear hne
                            have HM6 : Hid (M ≤ w6.heap.size) := Lib.hid (Nat.le_trans HM5.out hgr.size)
                            have hle6 : N + 2 ≤ gI := Nat.le_trans (Nat.le_of_lt HLK.out) HGL.out.2
                            have hbb := HB5.out.setCell (p := ⟨gI, pp, none⟩) hle6 (.bool true)
                            have HB6 : Hid (Below (N + 2) w1 w6) := Lib.hid (hw6 ▸ hbb)
                            have HWT := Lib.hid hw6
                            clear hst hgr hw6 hbb hle6
                            go_upto_region 27 with fail
                            rw [HWT.out]
                            clear b0 i0 fi0 c1 c3
                            have l0 : w6.cell? ⟨gL, pp, none⟩ = some (.int .i64 cl) := (own_cell (n := LL.length) (by have h := HPL6.out.left; rw [List.length_set, HLN.out] at h; rw [HLN.out]; exact h) (show (ints (LL.set pp cl))[pp]? = _ by unfold ints; rw [List.getElem?_map, setAt HLA.out]; rfl)).1
                            obtain ⟨pts, hpts⟩ : ∃ z, bd.tdiv 100 * bd.tmod 100 = z := ⟨_, rfl⟩
                            have hpb : 1 ≤ pts ∧ pts ≤ 80 := by rw [← hpts]; exact ⟨HOK.out.2.1, HOK.out.2.2.1⟩
                            have HPT := Lib.hid hpts
                            obtain ⟨rs, hrs⟩ : ∃ z, cl - pts = z := ⟨_, rfl⟩
                            have wr : IntKind.i64.wrap (cl - pts) = rs := by rw [hrs]; have := HCB.out; have := HBD.out; exact wrap_small _ (by omega) (by omega)
                            have HRS := Lib.hid hrs
                            clear hpts hrs
                            refine wp_region_seqW (.is (.slice (some ⟨gL, 0, none⟩) p lc) :: .is (.int .i64 (pp : Int)) :: .is (.pointer (some ⟨gL, pp, none⟩)) :: .is (.int .i64 cl) :: .is (.int .i64 bd) :: .is (.int .i64 pts) :: .is (.int .i64 rs) :: .is (.int .i64 rs) :: []) rfl mix (by kernel_rfl) (by kernel_rfl) ?_
                            iterate 5
                              refine seq_on (by rfl) (fun w7 hb7 _ => ?_) ?_
                              · have l0' := bAt hb7 l0
                                simp [opOK, go_sem, l0', hppi, Below.refl]
                                try exact rfl
                              simp only [Act.put, List.setIfInBounds_toArray, List.set_cons_succ, List.set_cons_zero]
                            refine seq_on (by rfl) (fun w7 hb7 _ => ?_) ?_
                            · refine opOK_call (f := 75) (args := #[.int .i64 bd]) (by simp [go_sem]) ?_
                              refine (points_any bd HOK.out.2.2.2 w7).mono ?_
                              rintro e w' ⟨rfl, rfl⟩
                              exact ⟨_, rfl, by rw [HPT.out], Below.refl _ _⟩
                            simp only [Act.put, List.setIfInBounds_toArray, List.set_cons_succ, List.set_cons_zero]
                            iterate 2
                              refine seq_on (by rfl) (fun w7 hb7 _ => ?_) ?_
                              · simp [opOK, go_sem, wr, Below.refl]
                                try exact rfl
                              simp only [Act.put, List.setIfInBounds_toArray, List.set_cons_succ, List.set_cons_zero]
                            refine seq_end fun w7 hb7 hH => ?_
                            have HPL7 := Lib.hid (HPL6.out.below hb7)
                            have HK7 := Lib.hid ((hb7.block (N + 2) (by have := HM6.out; have := HLK.out; omega)).trans HK6.out)
                            have HD7 := Lib.hid ((hb7.block D (Array.getElem?_eq_some_iff.1 HD6.out).1).trans HD6.out)
                            have HM7 : Hid (M ≤ w7.heap.size) := Lib.hid (Nat.le_trans HM6.out hb7.size)
                            have HB7 : Hid (Below (N + 2) w1 w7) := Lib.hid (HB6.out.trans (hb7.mono (by have := HM6.out; have := HLK.out; omega)))
                            have l0 : w7.cell? ⟨gL, pp, none⟩ = some (.int .i64 cl) := bAt hb7 l0
                            have fl0 : w7.frozen? ⟨gL, pp, none⟩ = false := (own_cell (n := LL.length) (by have h := HPL7.out.left; rw [List.length_set, HLN.out] at h; rw [HLN.out]; exact h) (show (ints (LL.set pp cl))[pp]? = _ by unfold ints; rw [List.getElem?_map, setAt HLA.out]; rfl)).2
                            have i7 : w7.cell? ⟨gI, pp, none⟩ = some (.bool true) := (own_cell (n := II.length) (by have h := HPL7.out.inn; rw [List.length_set, HIN.out] at h; rw [HIN.out]; exact h) (show (bools (II.set pp true))[pp]? = _ by unfold bools; rw [List.getElem?_map, setAt HIA.out]; rfl)).1
                            have fi7 : w7.frozen? ⟨gI, pp, none⟩ = false := (own_cell (n := II.length) (by have h := HPL7.out.inn; rw [List.length_set, HIN.out] at h; rw [HIN.out]; exact h) (show (bools (II.set pp true))[pp]? = _ by unfold bools; rw [List.getElem?_map, setAt HIA.out]; rfl)).2
                            have c2 : w7.cell? ⟨N + 2, 2, none⟩ = some (.int .i64 go) := by rw [cell_of_heap HK7.out]; rfl
                            clear hb7 hH wr HPL6 HK6 HD6 HM6 HB6 HWT HPL5 HK5 HD5 HM5 HB5
                            obtain ⟨og, hog⟩ : ∃ b, opens5 bd go = b := ⟨_, rfl⟩
                            have hcall := opensL_any bd go HOK.out.2.2.2 (by have := HBD.out; omega) w7
                            rw [hog] at hcall
                            have HOG := Lib.hid hog
                            clear hog
                            by_cases hr0 : rs = 0
                            · have dr : (rs == 0) = true := beq_iff_eq.2 hr0
                              have HR0 := Lib.hid hr0
                              clear hr0
                              go_wp2_with fail
                              refine hcall.mono ?_
                              rintro e w' ⟨rfl, hw'⟩
                              subst hw'
                              clear hcall
                              cases og
                              · have hlr : ¬ lw ≤ rs := by rw [HR0.out, ← HLW.out]; unfold low5; split <;> omega
                                have HDB : Hid (dart5 l ⟨cl, true⟩ (hitB5 l bd) = (⟨0, false, true, false⟩, false)) := Lib.hid (dart_bust (.inl rfl) (by rw [HPT.out]; omega) (fun h => by have h2 := h.2; rw [HL.out] at h2; rw [show opens5 bd go = true from h2] at HOG; cases HOG.out) (by rw [HPT.out]; show cl - pts < low5 l.gout; rw [HRS.out, HL.out]; show rs < low5 go; rw [HLW.out]; omega))
                                obtain ⟨w8, hst0⟩ : ∃ y, w7.setCell ⟨gL, pp, none⟩ (.int .i64 sl0) = y := ⟨_, rfl⟩
                                have hst := HPL7.out.setL (by rw [List.length_set, HLN.out]) pp sl0
                                rw [List.set_set] at hst
                                rw [hst0] at hst
                                have hgr := hst.2
                                have HPL8 := Lib.hid hst.1
                                have HK8 := Lib.hid ((hgr.block (N + 2) (by have := HM7.out; have := HLK.out; omega) (by have := HGL.out; have := HLK.out; exact fun e => by have := Option.some.inj e; omega)).trans HK7.out)
                                have hne := ownsN_ne_blk HPL7.out.left HD7.out (by decide)
                                have HD8 := Lib.hid (blk_kept hgr HD7.out hne)
                                clear hne
                                have HM8 : Hid (M ≤ w8.heap.size) := Lib.hid (Nat.le_trans HM7.out hgr.size)
                                have HB8 : Hid (Below (N + 2) w1 w8) := Lib.hid (by rw [← hst0]; exact HB7.out.setCell (p := ⟨gL, pp, none⟩) (Nat.le_trans (Nat.le_of_lt HLK.out) HGL.out.1) _)
                                have HW8 := Lib.hid hst0
                                clear hst hgr hst0
                                have i8 : w8.cell? ⟨gI, pp, none⟩ = some (.bool true) := (own_cell (n := II.length) (by have h := HPL8.out.inn; rw [List.length_set, HIN.out] at h; rw [HIN.out]; exact h) (show (bools (II.set pp true))[pp]? = _ by unfold bools; rw [List.getElem?_map, setAt HIA.out]; rfl)).1
                                have fi8 : w8.frozen? ⟨gI, pp, none⟩ = false := (own_cell (n := II.length) (by have h := HPL8.out.inn; rw [List.length_set, HIN.out] at h; rw [HIN.out]; exact h) (show (bools (II.set pp true))[pp]? = _ by unfold bools; rw [List.getElem?_map, setAt HIA.out]; rfl)).2
                                obtain ⟨w9, hw9⟩ : ∃ y, w8.setCell ⟨gI, pp, none⟩ (.bool si0) = y := ⟨_, rfl⟩
                                have hst := HPL8.out.setI (by rw [List.length_set, HIN.out]) pp si0
                                rw [List.set_set] at hst
                                rw [hw9] at hst
                                have hgr := hst.2
                                have HPL9 := Lib.hid hst.1
                                have HK9 := Lib.hid ((hgr.block (N + 2) (by have := HM8.out; have := HLK.out; omega) (by have := HGL.out; have := HLK.out; exact fun e => by have := Option.some.inj e; omega)).trans HK8.out)
                                have hne := ownsN_ne_blk HPL8.out.inn HD8.out (by decide)
                                have HD9 := Lib.hid (blk_kept hgr HD8.out hne)
                                clear hne
                                have HM9 : Hid (M ≤ w9.heap.size) := Lib.hid (Nat.le_trans HM8.out hgr.size)
                                have HB9 : Hid (Below (N + 2) w1 w9) := Lib.hid (by rw [← hw9]; exact HB8.out.setCell (p := ⟨gI, pp, none⟩) (Nat.le_trans (Nat.le_of_lt HLK.out) HGL.out.2) _)
                                have HW9 := Lib.hid (show (w7.setCell ⟨gL, pp, none⟩ (.int .i64 sl0)).setCell ⟨gI, pp, none⟩ (.bool si0) = w9 by rw [HW8.out]; exact hw9)
                                have i8' : (w7.setCell ⟨gL, pp, none⟩ (.int .i64 sl0)).cell? ⟨gI, pp, none⟩ = some (.bool true) := by rw [HW8.out]; exact i8
                                have fi8' : (w7.setCell ⟨gL, pp, none⟩ (.int .i64 sl0)).frozen? ⟨gI, pp, none⟩ = false := by rw [HW8.out]; exact fi8
                                have HVE : Hid (VisEnd (visT l x.D ⟨sl0, si0⟩ q) ⟨sl0, si0⟩ (d + 1) ⟨sl0, si0⟩ false) := Lib.hid (HVA.out.bust hlt3 HJ.out (by rw [HBDK.out]; exact HDB.out))
                                clear hst hgr hw9 i8 fi8 i7 fi7 c2
                                go_wp2_with fail
                                rw [HW9.out]
                                go_meet
                                case rel => exact ⟨d + 1, q' + 1, ⟨sl0, si0⟩, false, by omega, Lib.hid (by have := HQ'.out; omega), by go_num, HVE, HSB, HPL9, HK9, HD9, HM9, HB9⟩
                              · have HDW : Hid (dart5 l ⟨cl, true⟩ (hitB5 l bd) = (⟨0, true, false, true⟩, false)) := Lib.hid (dart_win (.inl rfl) (by rw [HPT.out]; omega) (by rw [HPT.out]; show cl - pts = 0; rw [HRS.out]; exact HR0.out) (by rw [HL.out]; exact HOG.out))
                                obtain ⟨w8, hst0⟩ : ∃ y, w7.setCell ⟨gL, pp, none⟩ (.int .i64 0) = y := ⟨_, rfl⟩
                                have hst := HPL7.out.setL (by rw [List.length_set, HLN.out]) pp 0
                                rw [List.set_set] at hst
                                rw [hst0] at hst
                                have hgr := hst.2
                                have HPL8 := Lib.hid hst.1
                                have HK8 := Lib.hid ((hgr.block (N + 2) (by have := HM7.out; have := HLK.out; omega) (by have := HGL.out; have := HLK.out; exact fun e => by have := Option.some.inj e; omega)).trans HK7.out)
                                have hne := ownsN_ne_blk HPL7.out.left HD7.out (by decide)
                                have HD8 := Lib.hid (blk_kept hgr HD7.out hne)
                                clear hne
                                have HM8 : Hid (M ≤ w8.heap.size) := Lib.hid (Nat.le_trans HM7.out hgr.size)
                                have HB8 : Hid (Below (N + 2) w1 w8) := Lib.hid (by rw [← hst0]; exact HB7.out.setCell (p := ⟨gL, pp, none⟩) (Nat.le_trans (Nat.le_of_lt HLK.out) HGL.out.1) _)
                                have HW8 := Lib.hid hst0
                                clear hst hgr hst0
                                have c6 : w8.cell? ⟨N + 2, 6, none⟩ = some (.bool false) := by rw [cell_of_heap HK8.out]; rfl
                                have fc6 : w8.frozen? ⟨N + 2, 6, none⟩ = false := frozen_of_heap HK8.out
                                obtain ⟨w9, hw9⟩ : ∃ y, w8.setCell ⟨N + 2, 6, none⟩ (.bool true) = y := ⟨_, rfl⟩
                                have hgr := grown_set w8 (N + 2) 6 (.bool true)
                                rw [hw9] at hgr
                                have HPL9 := Lib.hid (HPL8.out.blk HK8.out (by decide) (by decide) (by decide) (.inl (by decide)) hgr)
                                have HK9 : Hid (w9.heap[N + 2]? = some (.cells #[.int .i64 sz, .int .i64 gi, .int .i64 go, .slice (some ⟨gB, 0, none⟩) nb cB, .int .i64 (p : Int), .int .i64 0, .bool true] 27 (0, 0))) := Lib.hid (by rw [← hw9]; exact heap_setCell_at HK8.out _)
                                have HD9 := Lib.hid (blk_kept hgr HD8.out (.inr (by have := HDM.out; have := HLK.out; exact fun e => by have := Option.some.inj e; omega)))
                                have HM9 : Hid (M ≤ w9.heap.size) := Lib.hid (Nat.le_trans HM8.out hgr.size)
                                have HB9 : Hid (Below (N + 2) w1 w9) := Lib.hid (by rw [← hw9]; exact HB8.out.setCell (p := ⟨N + 2, 6, none⟩) (Nat.le_refl _) _)
                                have HW9 := Lib.hid (show (w7.setCell ⟨gL, pp, none⟩ (.int .i64 0)).setCell ⟨N + 2, 6, none⟩ (.bool true) = w9 by rw [HW8.out]; exact hw9)
                                have c6' : (w7.setCell ⟨gL, pp, none⟩ (.int .i64 0)).cell? ⟨N + 2, 6, none⟩ = some (.bool false) := by rw [HW8.out]; exact c6
                                have fc6' : (w7.setCell ⟨gL, pp, none⟩ (.int .i64 0)).frozen? ⟨N + 2, 6, none⟩ = false := by rw [HW8.out]; exact fc6
                                have HVN : Hid (VisAt l x.D (thr5 l x.D 3 ⟨sl0, si0⟩ q) q (d + 1) ⟨0, true⟩ true) := Lib.hid (HVA.out.win hlt3 HJ.out (by rw [HBDK.out]; exact HDW.out))
                                have HCB9 : Hid ((0 : Int) ≤ 0 ∧ 0 ≤ sz) := Lib.hid ⟨Int.le_refl _, by have := HBD.out; omega⟩
                                clear hgr hw9 c6 fc6 i7 fi7 c2
                                go_wp2_with fail
                                rw [HW9.out]
                                go_roundw
                                case rel => exact ⟨d + 1, q' + 1, ⟨0, true⟩, true, by omega, Lib.hid (by have := HQ'.out; omega), by go_num, HVN, HCB9, HPL9, HK9, HD9, HM9, HB9⟩
                                case measure => have := HQ'.out; simp [intOf]; omega
                            · have dr : (rs == 0) = false := beq_eq_false_iff_ne.2 hr0
                              clear hcall
                              by_cases hlr : lw ≤ rs
                              · have HDR : Hid (dart5 l ⟨cl, true⟩ (hitB5 l bd) = (⟨rs, true, false, false⟩, true)) := Lib.hid (by
                                  have h := dart_rest (l := l) (s := ⟨cl, true⟩) (b := bd) (.inl rfl) (by rw [HPT.out]; omega) (fun h => hr0 (by have h1 := h.1; rw [HPT.out] at h1; rw [← HRS.out]; exact h1)) (by rw [HPT.out]; show low5 l.gout ≤ cl - pts; rw [HRS.out, HL.out]; show low5 go ≤ rs; rw [HLW.out]; exact hlr)
                                  rw [HPT.out] at h
                                  rw [h]; show ((⟨cl - pts, true, false, false⟩ : En), true) = _; rw [HRS.out])
                                clear hr0
                                obtain ⟨w8, hst0⟩ : ∃ y, w7.setCell ⟨gL, pp, none⟩ (.int .i64 rs) = y := ⟨_, rfl⟩
                                have hst := HPL7.out.setL (by rw [List.length_set, HLN.out]) pp rs
                                rw [List.set_set] at hst
                                rw [hst0] at hst
                                have hgr := hst.2
                                have HPL8 := Lib.hid hst.1
                                have HK8 := Lib.hid ((hgr.block (N + 2) (by have := HM7.out; have := HLK.out; omega) (by have := HGL.out; have := HLK.out; exact fun e => by have := Option.some.inj e; omega)).trans HK7.out)
                                have hne := ownsN_ne_blk HPL7.out.left HD7.out (by decide)
                                have HD8 := Lib.hid (blk_kept hgr HD7.out hne)
                                clear hne
                                have HM8 : Hid (M ≤ w8.heap.size) := Lib.hid (Nat.le_trans HM7.out hgr.size)
                                have HB8 : Hid (Below (N + 2) w1 w8) := Lib.hid (by rw [← hst0]; exact HB7.out.setCell (p := ⟨gL, pp, none⟩) (Nat.le_trans (Nat.le_of_lt HLK.out) HGL.out.1) _)
                                have HW8 := Lib.hid hst0
                                clear hst hgr hst0
                                have HVN : Hid (VisAt l x.D (thr5 l x.D 3 ⟨sl0, si0⟩ q) q (d + 1) ⟨rs, true⟩ false) := Lib.hid (HVA.out.next hlt3 HJ.out (x := ⟨rs, true, false, false⟩) (by rw [HBDK.out]; exact HDR.out))
                                have HCB9 : Hid (0 ≤ rs ∧ rs ≤ sz) := Lib.hid (by have h1 := HRS.out; have h2 := HCB.out; have h3 := HLW.out; unfold low5 at h3; split at h3 <;> omega)
                                have HPL9 := HPL8
                                have HK9 := HK8
                                have HD9 := HD8
                                have HM9 := HM8
                                have HB9 := HB8
                                clear i7 fi7 c2
                                go_wp2_with fail
                                rw [HW8.out]
                                go_roundw
                                case rel => exact ⟨d + 1, q' + 1, ⟨rs, true⟩, false, by omega, Lib.hid (by have := HQ'.out; omega), by go_num, HVN, HCB9, HPL9, HK9, HD9, HM9, HB9⟩
                                case measure => have := HQ'.out; simp [intOf]; omega
                              · have HDB : Hid (dart5 l ⟨cl, true⟩ (hitB5 l bd) = (⟨0, false, true, false⟩, false)) := Lib.hid (dart_bust (.inl rfl) (by rw [HPT.out]; omega) (fun h => hr0 (by have h1 := h.1; rw [HPT.out] at h1; rw [← HRS.out]; exact h1)) (by rw [HPT.out]; show cl - pts < low5 l.gout; rw [HRS.out, HL.out]; show rs < low5 go; rw [HLW.out]; omega))
                                clear hr0
                                obtain ⟨w8, hst0⟩ : ∃ y, w7.setCell ⟨gL, pp, none⟩ (.int .i64 sl0) = y := ⟨_, rfl⟩
                                have hst := HPL7.out.setL (by rw [List.length_set, HLN.out]) pp sl0
                                rw [List.set_set] at hst
                                rw [hst0] at hst
                                have hgr := hst.2
                                have HPL8 := Lib.hid hst.1
                                have HK8 := Lib.hid ((hgr.block (N + 2) (by have := HM7.out; have := HLK.out; omega) (by have := HGL.out; have := HLK.out; exact fun e => by have := Option.some.inj e; omega)).trans HK7.out)
                                have hne := ownsN_ne_blk HPL7.out.left HD7.out (by decide)
                                have HD8 := Lib.hid (blk_kept hgr HD7.out hne)
                                clear hne
                                have HM8 : Hid (M ≤ w8.heap.size) := Lib.hid (Nat.le_trans HM7.out hgr.size)
                                have HB8 : Hid (Below (N + 2) w1 w8) := Lib.hid (by rw [← hst0]; exact HB7.out.setCell (p := ⟨gL, pp, none⟩) (Nat.le_trans (Nat.le_of_lt HLK.out) HGL.out.1) _)
                                have HW8 := Lib.hid hst0
                                clear hst hgr hst0
                                have i8 : w8.cell? ⟨gI, pp, none⟩ = some (.bool true) := (own_cell (n := II.length) (by have h := HPL8.out.inn; rw [List.length_set, HIN.out] at h; rw [HIN.out]; exact h) (show (bools (II.set pp true))[pp]? = _ by unfold bools; rw [List.getElem?_map, setAt HIA.out]; rfl)).1
                                have fi8 : w8.frozen? ⟨gI, pp, none⟩ = false := (own_cell (n := II.length) (by have h := HPL8.out.inn; rw [List.length_set, HIN.out] at h; rw [HIN.out]; exact h) (show (bools (II.set pp true))[pp]? = _ by unfold bools; rw [List.getElem?_map, setAt HIA.out]; rfl)).2
                                obtain ⟨w9, hw9⟩ : ∃ y, w8.setCell ⟨gI, pp, none⟩ (.bool si0) = y := ⟨_, rfl⟩
                                have hst := HPL8.out.setI (by rw [List.length_set, HIN.out]) pp si0
                                rw [List.set_set] at hst
                                rw [hw9] at hst
                                have hgr := hst.2
                                have HPL9 := Lib.hid hst.1
                                have HK9 := Lib.hid ((hgr.block (N + 2) (by have := HM8.out; have := HLK.out; omega) (by have := HGL.out; have := HLK.out; exact fun e => by have := Option.some.inj e; omega)).trans HK8.out)
                                have hne := ownsN_ne_blk HPL8.out.inn HD8.out (by decide)
                                have HD9 := Lib.hid (blk_kept hgr HD8.out hne)
                                clear hne
                                have HM9 : Hid (M ≤ w9.heap.size) := Lib.hid (Nat.le_trans HM8.out hgr.size)
                                have HB9 : Hid (Below (N + 2) w1 w9) := Lib.hid (by rw [← hw9]; exact HB8.out.setCell (p := ⟨gI, pp, none⟩) (Nat.le_trans (Nat.le_of_lt HLK.out) HGL.out.2) _)
                                have HW9 := Lib.hid (show (w7.setCell ⟨gL, pp, none⟩ (.int .i64 sl0)).setCell ⟨gI, pp, none⟩ (.bool si0) = w9 by rw [HW8.out]; exact hw9)
                                have i8' : (w7.setCell ⟨gL, pp, none⟩ (.int .i64 sl0)).cell? ⟨gI, pp, none⟩ = some (.bool true) := by rw [HW8.out]; exact i8
                                have fi8' : (w7.setCell ⟨gL, pp, none⟩ (.int .i64 sl0)).frozen? ⟨gI, pp, none⟩ = false := by rw [HW8.out]; exact fi8
                                have HVE : Hid (VisEnd (visT l x.D ⟨sl0, si0⟩ q) ⟨sl0, si0⟩ (d + 1) ⟨sl0, si0⟩ false) := Lib.hid (HVA.out.bust hlt3 HJ.out (by rw [HBDK.out]; exact HDB.out))
                                clear hst hgr hw9 i8 fi8 i7 fi7 c2
                                go_wp2_with fail
                                rw [HW9.out]
                                go_meet
                                case rel => exact ⟨d + 1, q' + 1, ⟨sl0, si0⟩, false, by omega, Lib.hid (by have := HQ'.out; omega), by go_num, HVE, HSB, HPL9, HK9, HD9, HM9, HB9⟩
                      · go_wp2
                        go_meet
                        case rel => exact ⟨d, q', ⟨cl, ci⟩, true, hd3, HQ', rfl, Lib.hid (HVA.out.done (.inr rfl)), HCB, HPL, HK, HDD, HMo, HBr⟩
                    · have HVE := Lib.hid (HVA.out.done (.inl (by omega)))
                      go_wp2
                      go_meet
                      case rel => exact ⟨d, q', ⟨cl, ci⟩, b, hd3, HQ', rfl, HVE, HCB, HPL, HK, HDD, HMo, HBr⟩
                case rest =>
                  obtain ⟨d, q', ⟨cl, ci⟩, b, hd3, HQ', rfl, HVE, HCB, HPL, HK, HDD, HMo, HBr⟩ := hcut
                  obtain ⟨w4, rfl⟩ : ∃ y : World, y = wc := ⟨_, rfl⟩
                  simp only at HPL HCB
                  clear HPL3' HK3 HD3 HM3 HB3
                  have l0 : w4.cell? ⟨gL, pp, none⟩ = some (.int .i64 cl) := (own_cell (n := LL.length) (by have h := HPL.out.left; rw [List.length_set, HLN.out] at h; rw [HLN.out]; exact h) (show (ints (LL.set pp cl))[pp]? = _ by unfold ints; rw [List.getElem?_map, setAt HLA.out]; rfl)).1
                  have hneD : gL ≠ D := by
                    have h := ownsN_ne_blk HPL.out.left HDD.out (by decide)
                    rcases h with h | h
                    · cases h
                    · exact fun e => h (by rw [e]; rfl)
                  obtain ⟨sc, hsc⟩ : ∃ z, sl0 - cl = z := ⟨_, rfl⟩
                  have wsc : IntKind.i64.wrap (sl0 - cl) = sc := by rw [hsc]; have h1 := HCB.out; have h2 := HSB.out; have h3 := HBD.out; exact wrap_small _ (by omega) (by omega)
                  have HSC := Lib.hid hsc
                  have hppl := HPL2.out
                  have hppi : (pp : Int) < (p : Int) := by omega
                  clear hsc
                  go_upto_region 33 with fail
                  obtain ⟨A, hA⟩ : ∃ A : (Nat → Bool) → Array Value, A = fun L => #[(if L 11 = true then (.int .i64 sc) else (.int .i64 0)), (if L 13 = true then (.int .i64 cl) else (.int .i64 0)), .int .i64 (d : Int)] := ⟨_, rfl⟩
                  refine wp_region_seqC 14 [.int .i64 sl0, .slice (some ⟨gL, 0, none⟩) p lc, .int .i64 (pp : Int), .pointer (some ⟨gL, pp, none⟩), .int .i64 cl, .int .i64 sc, .slice (some ⟨gL, 0, none⟩) p lc, .int .i64 (pp : Int), .pointer (some ⟨gL, pp, none⟩), .int .i64 cl, .pointer (some ⟨D, 0, none⟩), undef, .pointer (some ⟨D, 1, none⟩), undef] (JArr w4.drew D 86 A) rfl mix (by kernel_rfl) (by kernel_rfl) (JArr.start (by rw [hA]; exact HDD.out)) ?_
                  simp only [List.take_succ_cons, List.take_zero]
                  iterate 11
                    refine sc_on (by rfl) (fun _ _ _ h => h.read (by rw [hA]; rfl)) (fun w5 L hL hJ => ?_) ?_
                    · have l0' := hJ.cell l0 hneD
                      simp [opOK, go_sem, l0', hppi, wsc]
                      try exact rfl
                    simp only [Act.put, List.setIfInBounds_toArray, List.set_cons_succ, List.set_cons_zero]
                  refine sc_is rfl (fun w5 L hL hJ hd => ?_) ?_
                  · have hf := hJ.free 0
                    have hc := hJ.own (o := 0) (x := _) (by rw [hA]; rfl)
                    simp [opOK, go_sem, hf, hc]
                    exact hJ.store (i := 11) (o := 0) (v := .int .i64 sc) (by rw [hA]; simp [setB])
                  simp only [Act.put]
                  refine sc_on (by rfl) (fun _ _ _ h => h.read (by rw [hA]; rfl)) (fun w5 L hL hJ => ?_) ?_
                  · simp [opOK, go_sem]
                    try exact rfl
                  simp only [Act.put, List.setIfInBounds_toArray, List.set_cons_succ, List.set_cons_zero]
                  refine sc_is rfl (fun w5 L hL hJ hd => ?_) ?_
                  · have hf := hJ.free 1
                    have hc := hJ.own (o := 1) (x := _) (by rw [hA]; rfl)
                    simp [opOK, go_sem, hf, hc]
                    exact hJ.store (i := 13) (o := 1) (v := .int .i64 cl) (by rw [hA]; simp [setB])
                  simp only [Act.put]
                  refine sc_end fun w5 hJ => ?_
                  simp only [List.drop_succ_cons, List.drop_zero]
                  have hd5 : w5.heap[D]? = some (.cells #[.int .i64 sc, .int .i64 cl, .int .i64 (d : Int)] 86 (0, 0)) := by have := hJ.at_; rw [hA] at this; exact this
                  have hg5 : w4.grownBy w5 (some D) := ⟨hJ.os, hJ.tape, hJ.output, Nat.le_of_eq hJ.size.symm, fun k _ hne => hJ.same k fun e => hne (by rw [e])⟩
                  have HPL5 := Lib.hid (HPL.out.blk HDD.out (by decide) (by decide) (by decide) (.inr HDO.out) hg5)
                  have HK5 := Lib.hid (blk_kept hg5 HK.out (.inr (fun e => by have := Option.some.inj e; have := HDM.out; have := HLK.out; omega)))
                  have HD5 := Lib.hid hd5
                  have HM5 : Hid (M ≤ w5.heap.size) := Lib.hid (Nat.le_trans HMo.out hg5.size)
                  have HB5 : Hid (Below (N + 2) w1 w5) := Lib.hid (HBr.out.trans ⟨hg5.os, hg5.tape, hg5.output, hg5.size, fun k hk => hg5.block k (by have := HMo.out; have := HLK.out; omega) (fun e => by have := Option.some.inj e; have := HDM.out; have := HLK.out; omega)⟩)
                  clear hd5 hg5 hJ hA l0 wsc HPL HK HDD HMo HBr
                  have d0 : w5.cell? ⟨D, 0, none⟩ = some (.int .i64 sc) := by rw [cell_of_heap HD5.out]; rfl
                  have d1 : w5.cell? ⟨D, 1, none⟩ = some (.int .i64 cl) := by rw [cell_of_heap HD5.out]; rfl
                  have d2 : w5.cell? ⟨D, 2, none⟩ = some (.int .i64 (d : Int)) := by rw [cell_of_heap HD5.out]; rfl
                  obtain ⟨V, hV⟩ : ∃ V, visT l x.D ⟨sl0, si0⟩ q = V := ⟨_, rfl⟩
                  rw [hV] at HVE
                  have HVV := Lib.hid hV
                  have hrw : visRw V = [.int .i64 sc, .int .i64 cl, .int .i64 (d : Int)] := by
                    unfold visRw Sp.score
                    rw [HVE.out.bef, HVE.out.left, HVE.out.darts]
                    show [Value.int .i64 (sl0 - cl), _, _] = _
                    rw [HSC.out]
                  have HRW := Lib.hid hrw
                  have HPO : Hid (w5.ownsRow M 86 3 (.slice oa m oc) m ((X.out.map visRw).flatten)) := Lib.hid (by have h := HPL5.out.out; rw [HMM.out] at h; exact h)
                  have hm9 : m + 1 ≤ 100000 := by omega
                  clear hV hrw
                  go_wp2_with (at_builtin; refine wpList_appendN rfl (.tmp 221) (.tmp 223) 77 rfl M 86 (.agg #[.int .i64 0, .int .i64 0, .int .i64 0]) 3 24 Tryz.underlying77 info_visit5 rfl (by decide) (.slice oa m oc) m ((X.out.map visRw).flatten) rfl (HPO.out.alloc _) w5.heap.size 0 1 1 (visRw V) rfl (by rw [HRW.out]; rfl) (fun j u hj => by rw [cell_of_heap (World.alloc_heap_new _ _), Nat.zero_add]; rw [HRW.out] at hj; simpa using hj) (visRw_one V) hm9 (by decide) (by have := HM5.out; simp; omega) ?_)
                  intro v6 w6 ho6 hg6 hat6
                  obtain ⟨oa6, oc6, hv6⟩ := owns_form ho6
                  subst hv6
                  have hst := HPA.out.step (s := ⟨sl0, si0⟩) (by rw [HL.out]; exact fun b hb => by have := (bedsOf_ok (show b ∈ bedsOf W from hb)).2.1; omega) (by rw [HMM.out]; exact hlt) HWN.out (by rw [HMM.out, HSL.out, HMP.out]; exact HSA.out)
                  rw [HMM.out, HSL.out, HMP.out, HQQ.out, HVV.out] at hst
                  have hb6 : Below w5.heap.size w5 (w5.alloc (.cells #[.int .i64 sc, .int .i64 cl, .int .i64 (d : Int)] 86)) := aB _ _
                  have HST := Lib.hid hst
                  have HPLa := Lib.hid (HPL5.out.below hb6)
                  have HPLn : Hid (PlSt M w6 (.slice (some ⟨gL, 0, none⟩) p lc) (.slice (some ⟨gI, 0, none⟩) p ic) (.slice oa6 (m + 1) oc6) (.slice (some ⟨gB, 0, none⟩) nb cB) ((step5 l x.D X).sts.map (·.left)) ((step5 l x.D X).sts.map (·.inn)) (step5 l x.D X).out (bedsOf W)) := Lib.hid (by
                    have h := HPLa.out.pushO hg6 (x := V) (by rw [HMM.out]; exact ho6)
                    rw [HST.out.1]
                    have e1 : (X.sts.set pp V.aft).map (·.left) = LL.set pp cl := by rw [List.map_set, HLL.out]; show LL.set pp V.en.left = _; rw [HVE.out.left]
                    have e2 : (X.sts.set pp V.aft).map (·.inn) = II.set pp ci := by rw [List.map_set, HII.out]; show II.set pp V.en.inn = _; rw [HVE.out.inn]
                    show PlSt M w6 _ _ _ _ ((X.sts.set pp V.aft).map (·.left)) ((X.sts.set pp V.aft).map (·.inn)) (X.out ++ [V]) _
                    rw [e1, e2]; exact h)
                  have HKn : Hid (w6.heap[N + 2]? = some (.cells #[.int .i64 sz, .int .i64 gi, .int .i64 go, .slice (some ⟨gB, 0, none⟩) nb cB, .int .i64 (p : Int), .int .i64 0, .bool (step5 l x.D X).won] 27 (0, 0))) := Lib.hid (by
                    rw [HST.out.1]
                    show w6.heap[N + 2]? = some (.cells #[.int .i64 sz, .int .i64 gi, .int .i64 go, .slice (some ⟨gB, 0, none⟩) nb cB, .int .i64 (p : Int), .int .i64 0, .bool V.en.won] 27 (0, 0))
                    rw [HVE.out.won]
                    exact blk_kept hg6 ((hb6.block (N + 2) (Array.getElem?_eq_some_iff.1 HK5.out).1).trans HK5.out) (ownsN_ne_blk HPLa.out.out ((hb6.block (N + 2) (Array.getElem?_eq_some_iff.1 HK5.out).1).trans HK5.out) (by decide)))
                  have HMn : Hid (M ≤ w6.heap.size) := Lib.hid (Nat.le_trans HM5.out (Nat.le_trans hb6.size hg6.size))
                  have HBn : Hid (Below (N + 2) w1 w6) := Lib.hid ((HB5.out.trans (hb6.mono (by have := HM5.out; have := HLK.out; omega))).trans (below_grownBy hg6 (by have := HM5.out; have := HLK.out; have := hb6.size; omega) (fun q hq => by have := (HPO.out.lt _ hq).1; have := HLK.out; omega)))
                  have HAT : Hid ((step5 l x.D X).at_ = q') := Lib.hid (by rw [HST.out.1, HQ'.out]; show q + V.darts = q + d; rw [HVE.out.darts])
                  clear ho6 hg6 hat6 hst hb6 d0 d1 d2 HPO HPLa HPL5 HK5 HD5 HM5 HB5
                  go_wp2_with fail
                  go_roundw
                  case rel => exact ⟨step5 l x.D X, _, rfl, by rw [HAT.out], Lib.hid HST.out.2, HPLn, HKn, HMn, HBn⟩
                  case measure => simp; omega
              · skip
                have HE := Lib.hid (HPA.out.done (.inr HWN.out))
                have HS9 := HPL
                have HK9 : Hid (wo.heap[N + 2]? = some (.cells #[.int .i64 sz, .int .i64 gi, .int .i64 go, .slice (some ⟨gB, 0, none⟩) nb cB, .int .i64 (p : Int), .int .i64 0, .bool F.won] 27 (0, 0))) := Lib.hid (by rw [← HE.out, HWN.out]; exact HK.out)
                clear HPL
                go_wp2
                go_meet
                case rel => exact ⟨by rw [← HE.out]; exact HS9, HK9, HMo, HBr⟩
            · have HE := Lib.hid (HPA.out.done (.inl (by rw [HMM.out]; omega)))
              have HS9 := HPL
              have HK9 : Hid (wo.heap[N + 2]? = some (.cells #[.int .i64 sz, .int .i64 gi, .int .i64 go, .slice (some ⟨gB, 0, none⟩) nb cB, .int .i64 (p : Int), .int .i64 0, .bool F.won] 27 (0, 0))) := Lib.hid (by rw [← HE.out, HWN.out]; exact HK.out)
              clear HPL
              go_wp2
              go_meet
              case rel => exact ⟨by rw [← HE.out]; exact HS9, HK9, HMo, HBr⟩
        case rest =>
          obtain ⟨HPL, HK9, HM9, HB9⟩ := hcut
          obtain ⟨w4, rfl⟩ : ∃ y : World, y = wc := ⟨_, rfl⟩
          clear HPA0 HST0 HK HMo HBr
          obtain ⟨oa, oc, hov⟩ := owns_form HPL.out.out
          subst hov
          obtain ⟨m, hmm⟩ : ∃ m, F.out.length = m := ⟨_, rfl⟩
          obtain ⟨fw, hfw⟩ : ∃ b, F.won = b := ⟨_, rfl⟩
          have HMM := Lib.hid hmm
          have HFW := Lib.hid hfw
          rw [hfw] at HK9
          rw [hmm] at HPL ⊢
          clear hmm hfw
          have c5 : w4.cell? ⟨N + 2, 5, none⟩ = some (.int .i64 0) := by rw [cell_of_heap HK9.out]; rfl
          have fc5 : w4.frozen? ⟨N + 2, 5, none⟩ = false := frozen_of_heap HK9.out
          obtain ⟨w5, hw5⟩ : ∃ y, w4.setCell ⟨N + 2, 5, none⟩ (.int .i64 (m : Int)) = y := ⟨_, rfl⟩
          have hg5 := grown_set w4 (N + 2) 5 (.int .i64 (m : Int))
          rw [hw5] at hg5
          have hk5 : w5.heap[N + 2]? = some (.cells #[.int .i64 sz, .int .i64 gi, .int .i64 go, .slice (some ⟨gB, 0, none⟩) nb cB, .int .i64 (p : Int), .int .i64 (m : Int), .bool fw] 27 (0, 0)) := by rw [← hw5]; exact heap_setCell_at HK9.out _
          have hz5 : w5.heap[N + 1]? = some (.cells #[.int .i64 0, .int .i64 0, .int .i64 0, .slice none 0 0, .int .i64 0, .int .i64 0, .bool false] 27 (0, 0)) := by
            rw [← hw5, Below.heap_setCell _ _ _ _ (show N + 1 ≠ N + 2 by omega), HB9.out.block (N + 1) (by omega)]; exact HKZ.out
          have HPL5 := Lib.hid (HPL.out.blk HK9.out (by decide) (by decide) (by decide) (.inl (by decide)) hg5)
          have HB5 : Hid (Below (N + 2) w1 w5) := Lib.hid (by rw [← hw5]; exact HB9.out.setCell (p := ⟨N + 2, 5, none⟩) (Nat.le_refl _) _)
          have l0 : w5.cell? ⟨N + 2, 0, none⟩ = some (.int .i64 sz) := by rw [cell_of_heap hk5]; rfl
          have z0 : w5.cell? ⟨N + 1, 0, none⟩ = some (.int .i64 0) := by rw [cell_of_heap hz5]; rfl
          have fz0 : w5.frozen? ⟨N + 1, 0, none⟩ = false := frozen_of_heap hz5
          have l1 : w5.cell? ⟨N + 2, 1, none⟩ = some (.int .i64 gi) := by rw [cell_of_heap hk5]; rfl
          have z1 : w5.cell? ⟨N + 1, 1, none⟩ = some (.int .i64 0) := by rw [cell_of_heap hz5]; rfl
          have fz1 : w5.frozen? ⟨N + 1, 1, none⟩ = false := frozen_of_heap hz5
          have l2 : w5.cell? ⟨N + 2, 2, none⟩ = some (.int .i64 go) := by rw [cell_of_heap hk5]; rfl
          have z2 : w5.cell? ⟨N + 1, 2, none⟩ = some (.int .i64 0) := by rw [cell_of_heap hz5]; rfl
          have fz2 : w5.frozen? ⟨N + 1, 2, none⟩ = false := frozen_of_heap hz5
          have l3 : w5.cell? ⟨N + 2, 3, none⟩ = some (.slice (some ⟨gB, 0, none⟩) nb cB) := by rw [cell_of_heap hk5]; rfl
          have z3 : w5.cell? ⟨N + 1, 3, none⟩ = some (.slice none 0 0) := by rw [cell_of_heap hz5]; rfl
          have fz3 : w5.frozen? ⟨N + 1, 3, none⟩ = false := frozen_of_heap hz5
          have l4 : w5.cell? ⟨N + 2, 4, none⟩ = some (.int .i64 (p : Int)) := by rw [cell_of_heap hk5]; rfl
          have z4 : w5.cell? ⟨N + 1, 4, none⟩ = some (.int .i64 0) := by rw [cell_of_heap hz5]; rfl
          have fz4 : w5.frozen? ⟨N + 1, 4, none⟩ = false := frozen_of_heap hz5
          have l5 : w5.cell? ⟨N + 2, 5, none⟩ = some (.int .i64 (m : Int)) := by rw [cell_of_heap hk5]; rfl
          have z5 : w5.cell? ⟨N + 1, 5, none⟩ = some (.int .i64 0) := by rw [cell_of_heap hz5]; rfl
          have fz5 : w5.frozen? ⟨N + 1, 5, none⟩ = false := frozen_of_heap hz5
          have l6 : w5.cell? ⟨N + 2, 6, none⟩ = some (.bool fw) := by rw [cell_of_heap hk5]; rfl
          have z6 : w5.cell? ⟨N + 1, 6, none⟩ = some (.bool false) := by rw [cell_of_heap hz5]; rfl
          have fz6 : w5.frozen? ⟨N + 1, 6, none⟩ = false := frozen_of_heap hz5
          obtain ⟨w6, hw6⟩ : ∃ y, ((((((w5.setCell ⟨N + 1, 0, none⟩ (.int .i64 sz)).setCell ⟨N + 1, 1, none⟩ (.int .i64 gi)).setCell ⟨N + 1, 2, none⟩ (.int .i64 go)).setCell ⟨N + 1, 3, none⟩ (.slice (some ⟨gB, 0, none⟩) nb cB)).setCell ⟨N + 1, 4, none⟩ (.int .i64 (p : Int))).setCell ⟨N + 1, 5, none⟩ (.int .i64 (m : Int))).setCell ⟨N + 1, 6, none⟩ (.bool fw) = y := ⟨_, rfl⟩
          have hk6 : w6.heap[N + 1]? = some (.cells #[.int .i64 sz, .int .i64 gi, .int .i64 go, .slice (some ⟨gB, 0, none⟩) nb cB, .int .i64 (p : Int), .int .i64 (m : Int), .bool fw] 27 (0, 0)) := by
            rw [← hw6]
            exact heap_setCell_at (heap_setCell_at (heap_setCell_at (heap_setCell_at (heap_setCell_at (heap_setCell_at (heap_setCell_at hz5 _) _) _) _) _) _) _
          have oth : ∀ q, q ≠ N + 1 → w6.heap[q]? = w5.heap[q]? := fun q hq => by
            rw [← hw6, Below.heap_setCell _ _ _ _ (by simpa using hq), Below.heap_setCell _ _ _ _ (by simpa using hq), Below.heap_setCell _ _ _ _ (by simpa using hq), Below.heap_setCell _ _ _ _ (by simpa using hq), Below.heap_setCell _ _ _ _ (by simpa using hq), Below.heap_setCell _ _ _ _ (by simpa using hq), Below.heap_setCell _ _ _ _ (by simpa using hq)]
          have r0 : w6.cell? ⟨N + 1, 0, none⟩ = some (.int .i64 sz) := by rw [cell_of_heap hk6]; rfl
          have r1 : w6.cell? ⟨N + 1, 1, none⟩ = some (.int .i64 gi) := by rw [cell_of_heap hk6]; rfl
          have r2 : w6.cell? ⟨N + 1, 2, none⟩ = some (.int .i64 go) := by rw [cell_of_heap hk6]; rfl
          have r3 : w6.cell? ⟨N + 1, 3, none⟩ = some (.slice (some ⟨gB, 0, none⟩) nb cB) := by rw [cell_of_heap hk6]; rfl
          have r4 : w6.cell? ⟨N + 1, 4, none⟩ = some (.int .i64 (p : Int)) := by rw [cell_of_heap hk6]; rfl
          have r5 : w6.cell? ⟨N + 1, 5, none⟩ = some (.int .i64 (m : Int)) := by rw [cell_of_heap hk6]; rfl
          have r6 : w6.cell? ⟨N + 1, 6, none⟩ = some (.bool fw) := by rw [cell_of_heap hk6]; rfl
          have HOB : Hid (w6.ownsRow w.heap.size 95 1 (.slice (some ⟨gB, 0, none⟩) nb cB) (bedsOf W).length (ints (bedsOf W))) := Lib.hid (by
            have h := ownsN_kept HPL5.out.bed fun q hq => oth q (by have := (HPL5.out.bed.lt _ hq).1; have := HLK.out; omega)
            exact own_mono h (by have := HN.out; have := HLK.out; omega))
          have HOO : Hid (w6.ownsRow w.heap.size 86 3 (.slice oa m oc) (playX x most).out.length (((playX x most).out.map visRw).flatten)) := Lib.hid (by
            have h := ownsN_kept HPL5.out.out fun q hq => oth q (by have := (HPL5.out.out.lt _ hq).1; have := HLK.out; omega)
            rw [HFF.out]; exact own_mono h (by have := HN.out; have := HLK.out; omega))
          have HB6 : Hid (Below w.heap.size w w6) := Lib.hid (by
            have h : Below w.heap.size w w5 := HB.out.trans (HB5.out.mono (by have := HN.out; omega))
            have hle : w.heap.size ≤ N + 1 := by rw [HN.out]; omega
            rw [← hw6]
            exact (((((((h.setCell (p := ⟨N + 1, 0, none⟩) hle _).setCell (p := ⟨N + 1, 1, none⟩) hle _).setCell (p := ⟨N + 1, 2, none⟩) hle _).setCell (p := ⟨N + 1, 3, none⟩) hle _).setCell (p := ⟨N + 1, 4, none⟩) hle _).setCell (p := ⟨N + 1, 5, none⟩) hle _).setCell (p := ⟨N + 1, 6, none⟩) hle _))
          have HW5 := Lib.hid hw5
          have HW6 := Lib.hid hw6
          have HLG : Hid (legV (legT x most) (.slice (some ⟨gB, 0, none⟩) nb cB) = .agg #[.int .i64 sz, .int .i64 gi, .int .i64 go, .slice (some ⟨gB, 0, none⟩) nb cB, .int .i64 (p : Int), .int .i64 (m : Int), .bool fw]) := Lib.hid (by
            unfold legT leg5 legV legA
            rw [HFF.out, HL0.out, HMM.out, HFW.out, HL.out])
          clear hw5 hw6 hg5 hk5 hz5 hk6 oth HPL HK9 HPL5
          go_upto_region 36 with fail
          rw [HW5.out]
          clear c5 fc5
          go_wp2
          rw [HW6.out]
          refine bodyPost_ret (v := .tuple #[.agg #[.int .i64 sz, .int .i64 gi, .int .i64 go, .slice (some ⟨gB, 0, none⟩) nb cB, .int .i64 (p : Int), .int .i64 (m : Int), .bool fw], .slice oa m oc]) (by simp [results, Tryz.results34, go_sem, r0, r1, r2, r3, r4, r5, r6]) rfl ?_
          exact ⟨.slice (some ⟨gB, 0, none⟩) nb cB, .slice oa m oc, by rw [HLG.out], HB6.out, HOB.out, HOO.out⟩
end Go.Proofs.YtpfpjbglpibdoaaGreatDoor
