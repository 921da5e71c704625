/- The texts WE, OpA, OB, in build order. -/
import Derived.Test.YtagfcodpgochjaaZaq
import Derived.Lib.MinMax
import Derived.Deep.CutBlock
import Derived.Deep.QuietTactic
import Derived.BigQuiet

/- Chapter 12: PurseFewest. -/
namespace Go.Proofs.Ytagfcodpgochjaa
open Go.RowKit Go.Oche Go.Proofs

def w16x2 (x : Int × Int) : List Value := [.int .u16 x.1, .int .u16 x.2]
theorem coin_one (l : List (Int × Int)) : ∀ r ∈ l.map coinRow, ∀ u ∈ r, u.oneCell' = true := by
  intro r hr u hu
  obtain ⟨t, _, rfl⟩ := List.mem_map.1 hr
  simp only [coinRow, List.mem_cons, List.not_mem_nil, or_false] at hu
  rcases hu with rfl | rfl <;> rfl
theorem cellV {S : Nat → Prop} {w : World} {a : Option Addr} {n cap : Nat} {xs : List Value} (h : Sl S w (.slice a n cap) xs) {k : Nat} (hk : k < xs.length) : ∃ b off, a = some ⟨b, off, none⟩ ∧ S b ∧ w.cell? ⟨b, off + k, none⟩ = some xs[k] := by
  obtain ⟨a', cap', e, _, _, h4⟩ := h
  cases e
  exact h4 k _ (List.getElem?_eq_getElem hk)
/-- The coins so far; ns of each are taken. -/
structure FewI (l : List (Int × Int)) (ns : List Nat) (A m i : Nat) : Prop where
  tin : TinOk l
  fit : Fits l ns
  amt : A = worthN l ns
  cnt : m = ns.sum
  top : A ≤ 20000
  len : l.length ≤ i
  many : m ≤ 19 * l.length
theorem FewI.skip {l : List (Int × Int)} {ns : List Nat} {A m i : Nat} (h : FewI l ns A m i) : FewI l ns A m (i + 1) := ⟨h.tin, h.fit, h.amt, h.cnt, h.top, by have := h.len; omega, h.many⟩
theorem FewI.more {l : List (Int × Int)} {ns : List Nat} {A m i W C n : Nat} (h : FewI l ns A m i) (hW : 1 ≤ W ∧ W ≤ 2000) (hC : C ≤ 19) (hd : (l.any fun c => c.1 == (W : Int)) = false) (hn : n ≤ C) (ht : A + n * W ≤ 20000) : FewI (l ++ [((W : Int), (C : Int))]) (ns ++ [n]) (A + n * W) (m + n) (i + 1) := by
  refine ⟨h.tin.snoc (by simp only; omega) fun d hd' => ?_, h.fit.snoc (by simpa using hn), ?_, ?_, ht, ?_, ?_⟩
  · have := List.any_eq_false.1 hd d hd'
    simpa using this
  · rw [worthN_snoc _ _ h.fit, h.amt, Int.toNat_natCast]
  · rw [List.sum_append, h.cnt]; simp
  · have := h.len; simp; omega
  · have := h.many; simp; omega
def dupTo (l : List (Int × Int)) (W : Int) (k : Nat) : Bool := (l.take k).any fun c => c.1 == W
theorem dupTo_succ {l : List (Int × Int)} {W : Int} {k : Nat} (h : k < l.length) : dupTo l W (k + 1) = (dupTo l W k || (l[k].1 == W)) := by
  unfold dupTo; rw [List.take_succ_eq_append_getElem h, List.any_append]; simp
def cellW (b : Bool) (W : Nat) : Int := if b = true then 0 else W
set_option maxRecDepth 100000 in
set_option maxHeartbeats 8000000 in
theorem purseFewest_any {S S' : Nat → Prop} (TS : List (Int × Int)) (BY : List Int) (v vb : Value) (w : World) (hs : SlN 2 S w v (TS.map w16x2)) (hb : Sl S' w vb (BY.map (Value.int .u8)))
    (hT : ∀ t ∈ TS, (0 ≤ t.1 ∧ t.1 ≤ 65535) ∧ 0 ≤ t.2 ∧ t.2 ≤ 65535) (hB : ∀ x ∈ BY, 0 ≤ x ∧ x ≤ 255) :
    Calls Try.prog 10 #[v, vb] w fun e w' => e = .returned (.bool true) ∧ Below w.heap.size w w' := by
  obtain ⟨a, cap, rfl, h2, h3⟩ := hs.form
  obtain ⟨al, capl, rfl, h2l, h3l⟩ := hb.form
  simp only [List.length_map] at *
  unfold maxLen at h3 h3l
  have HS := Lib.hid hs
  have HY := Lib.hid hb
  have HT := Lib.hid hT
  have HYB := Lib.hid hB
  clear hs hb hT hB
  obtain ⟨N, hN⟩ : ∃ N, w.heap.size = N := ⟨_, rfl⟩
  obtain ⟨w0, hw0⟩ : ∃ w0, w.alloc (.cells #[] 66) = w0 := ⟨_, rfl⟩
  have hb0 : Below w.heap.size w w0 := by rw [← hw0]; exact aB _ _
  have ho0 : w0.ownsRow N 66 2 (.slice (some ⟨N, 0, none⟩) 0 0) 0 [] := by
    rw [← hw0, ← hN]
    exact World.ownsRow_made (e := 66) (size := 2) (base := w.heap.size) w #[] 0 (Nat.le_refl _) (Nat.zero_le _) rfl
  have HNW : Hid (w0.heap.size = N + 1) := Lib.hid (by rw [← hw0, ← hN]; simp)
  obtain ⟨M, hM⟩ : ∃ M, min TS.length 12 = M := ⟨_, rfl⟩
  have hM1 : M ≤ 12 ∧ M ≤ TS.length ∧ (M < 12 → TS.length ≤ M) := by rw [← hM]; omega
  have HN := Lib.hid hN
  have HB0 : Hid (Below N w w0) := Lib.hid (by rw [← hN]; exact hb0)
  have HO0 := Lib.hid ho0
  have HW0 := Lib.hid hw0
  have HM1 := Lib.hid hM1
  clear hb0 ho0 hw0 hM hM1 hN
  go_enter Try.func10, Try.ntmps10
  go_upto_block 0 with fail
  rw [HW0.out, HN.out]
  go_cut [5, 6, 7, 8, 9, 10, 11] from 19 to 243 (fun lv av mv _ _ _ _ wc => ∃ (l : List (Int × Int)) (ns : List Nat) (A m : Nat), av = .int .i64 (A : Int) ∧ mv = .int .i64 (m : Int) ∧ Hid (FewI l ns A m M) ∧ Hid (wc.ownsRow N 66 2 lv l.length (coinsFlat l)) ∧ Hid (Below N w wc))
  case first =>
    as_aux_lemma =>
    go_wp2_with fail
    go_loopw [5, 6, 7, 8] (fun lv av mv iv wr => ∃ (i A m : Nat) (l : List (Int × Int)) (ns : List Nat) (u : Value), u = lv ∧ av = .int .i64 (A : Int) ∧ mv = .int .i64 (m : Int) ∧ iv = .int .i64 (i : Int) ∧ i ≤ M ∧ Hid (FewI l ns A m i) ∧ Hid (wr.ownsRow N 66 2 u l.length (coinsFlat l)) ∧ Hid (Below N w wr) ∧ Hid (N + 1 ≤ wr.heap.size)) (fun _ _ _ iv _ => M - (intOf iv).toNat)
    case atStart => exact ⟨0, 0, 0, [], [], _, rfl, rfl, rfl, rfl, Nat.zero_le _, Lib.hid ⟨TinOk.nil, trivial, rfl, rfl, Nat.zero_le _, Nat.zero_le _, Nat.zero_le _⟩, HO0, HB0, Lib.hid (by rw [HNW.out]; exact Nat.le_refl _)⟩
    case round =>
      obtain ⟨i, A, m, l, ns, u, hu, rfl, rfl, rfl, hi, HF, HO, HBr, HSr⟩ := hrel
      subst hu
      obtain ⟨wo, rfl⟩ : ∃ wo : World, wo = wr := ⟨_, rfl⟩
      clear HO0 HB0 HW0
      by_cases hlt : i < M
      · as_aux_lemma =>
        have hil : i < TS.length := by have := HM1.out; omega
        have hi12 : i < 12 := by have := HM1.out; omega
        have d1 : decide ((i : Int) < (TS.length : Int)) = true := decide_eq_true (by omega)
        have d1n : decide (i < TS.length) = true := decide_eq_true hil
        have d2 : decide ((i : Int) < (12 : Int)) = true := decide_eq_true (by omega)
        have d2n : decide (i < 12) = true := decide_eq_true hi12
        obtain ⟨x, hx⟩ : ∃ x, TS[i] = x := ⟨_, rfl⟩
        obtain ⟨x1, x2⟩ := x
        have hbd := HT.out TS[i] (List.getElem_mem hil)
        rw [hx] at hbd
        simp only at hbd
        obtain ⟨b0, off, hal, _, _, hc⟩ := (HS.out.below (by rw [HN.out]; exact HBr.out : Below w.heap.size w wo)).cell (i := i) (by simpa using hil)
        simp only [List.getElem_map, hx, w16x2] at hc
        have y0 := hc 0 _ rfl
        have y1 := hc 1 _ rfl
        simp only [Nat.add_zero] at y0
        cases hal
        obtain ⟨W, hW⟩ : ∃ W : Nat, 1 + x1 % 2000 = W := ⟨(1 + x1 % 2000).toNat, by omega⟩
        obtain ⟨C, hC⟩ : ∃ C : Nat, x2 % 20 = C := ⟨(x2 % 20).toNat, by omega⟩
        have hWb : 1 ≤ W ∧ W ≤ 2000 := by omega
        have hCb : C ≤ 19 := by omega
        obtain ⟨W', hW'⟩ : ∃ W' : Int, x1 % 2000 = W' := ⟨_, rfl⟩
        have hm1 : x1.tmod 2000 = W' := by rw [Int.tmod_eq_emod_of_nonneg hbd.1.1]; exact hW'
        have hm2 : x2.tmod 20 = (C : Int) := by rw [Int.tmod_eq_emod_of_nonneg hbd.2.1]; exact hC
        have hwx1 : IntKind.i64.wrap x1 = x1 := wrap_small _ (by omega) (by omega)
        have hwx2 : IntKind.i64.wrap x2 = x2 := wrap_small _ (by omega) (by omega)
        have hww : IntKind.i64.wrap W' = W' := wrap_small _ (by omega) (by omega)
        have hwW1 : IntKind.i64.wrap (1 + W') = (W : Int) := by rw [wrap_small _ (by omega) (by omega)]; omega
        have hwC : IntKind.i64.wrap (C : Int) = (C : Int) := wrap_small _ (by omega) (by omega)
        have HWB := Lib.hid hWb
        have HCB := Lib.hid hCb
        clear hc hx hbd hW hC hW' hWb hCb
        go_wp2_with fail
        refine wp_region_seq 17 (.is ?_ :: .is ?_ :: .is ?_ :: .is ?_ :: .is ?_ :: .is ?_ :: .is ?_ :: .is ?_ :: .is ?_ :: .is ?_ :: .is ?_ :: .is ?_ :: .is ?_ :: .is ?_ :: .is ?_ :: .is (.agg #[.int .i64 W, .int .i64 C]) :: kBox wo.heap.size 66 #[.int .i64 0, .int .i64 0] :: []) rfl mix (by kernel_rfl) (by kernel_rfl) ?_
        rotate_left 15
        simp only [List.take_succ_cons, List.take_zero]
        iterate 16
          refine seq_is rfl (fun u1 hb1 _ => ?_) ?_
          · have y0' := bAt hb1 y0
            have y1' := bAt hb1 y1
            simp [opOK, go_sem, y0', y1', hil, hwx1, hwx2, hwW1, hm1, hm2, Below.refl]
            try exact rfl
          simp only [Act.put, List.setIfInBounds_toArray, List.set_cons_succ, List.set_cons_zero]
        refine seq_new ⟨_, 0, rfl⟩ (by rfl) (fun u1 hb1 _ => ?_) ?_
        · exact opOK_alloc (by kernel_rfl) hb1.size
        rintro v9 ⟨b, rfl⟩
        simp only [Act.put, List.setIfInBounds_toArray, List.set_cons_succ, List.set_cons_zero]
        refine seq_end fun w6 hb6 hH => ?_
        have hbx : (kBox wo.heap.size 66 #[.int .i64 0, .int .i64 0]).p (.pointer (some ⟨b, 0, none⟩)) w6 := by
          have := hH 16 (by omega)
          simpa only [addH, if_true] using this
        obtain ⟨b', eb, hb6k, hp6⟩ := hbx
        cases eb
        simp only [List.drop_succ_cons, List.drop_zero]
        refine wpList_opOK rfl (opOK_store_row (R := fun _ w' => w' = w6.setRow b #[.int .i64 W, .int .i64 C]) 66 (.tmp 9) (.tmp 45) rfl b #[.int .i64 W, .int .i64 C] rfl rfl 66 _ hp6 (by kernel_rfl) rfl (by simp [Value.oneCell']) rfl) ?_
        rintro _ _ rfl
        have hby : Below wo.heap.size wo (w6.setRow b #[.int .i64 W, .int .i64 C]) := below_setRow hb6 hb6k _
        have hpy := setRow_heap w6 b _ #[.int .i64 W, .int .i64 C] _ _ hp6
        obtain ⟨wy, hwy⟩ : ∃ wy, w6.setRow b #[.int .i64 W, .int .i64 C] = wy := ⟨_, rfl⟩
        rw [hwy] at hby hpy ⊢
        have HBY := Lib.hid hby
        have HPY := Lib.hid hpy
        have HBK := Lib.hid hb6k
        clear hb6 hH hp6 hby hpy hwy hb6k y0 y1 hwx1 hwx2 hww hwW1 hwC hm1 hm2
        obtain ⟨au, cu, rfl⟩ := owns_form HO.out
        have hl12 : l.length ≤ 12 := by have := HF.out.len; omega
        go_wp2_with fail
        go_loopw [10] (fun kv wr => ∃ (k : Nat), kv = .int .i64 (k : Int) ∧ k ≤ l.length ∧ Hid (wr.heap[b]? = some (.cells #[.int .i64 (cellW (dupTo l W k) W), .int .i64 C] 66 (0, 0))) ∧ Hid (Below wo.heap.size wo wr)) (fun kv _ => l.length - (intOf kv).toNat)
        case atStart => exact ⟨0, rfl, Nat.zero_le _, HPY, HBY⟩
        case round =>
          obtain ⟨k, rfl, hk, HP, HBi⟩ := hrel
          obtain ⟨wi, rfl⟩ : ∃ wi : World, wi = wr := ⟨_, rfl⟩
          clear HPY HBY
          have z0 : wi.cell? ⟨b, 0, none⟩ = some (.int .i64 (cellW (dupTo l W k) W)) := by rw [cell_of_heap HP.out]; rfl
          have z1 : wi.cell? ⟨b, 1, none⟩ = some (.int .i64 C) := by rw [cell_of_heap HP.out]; rfl
          have zf : wi.frozen? ⟨b, 0, none⟩ = false := frozen_of_heap HP.out
          have HOi := Lib.hid (ownsN_below HO.out HBi.out)
          have HBn : Hid (Below N w wi) := Lib.hid (HBr.out.trans (HBi.out.mono (by have := HSr.out; omega)))
          by_cases hkl : k < l.length
          · obtain ⟨c, hc⟩ : ∃ c, l[k] = c := ⟨_, rfl⟩
            obtain ⟨c1, c2⟩ := c
            have hcb := (HF.out.tin.rng l[k] (List.getElem_mem hkl)).1
            rw [hc] at hcb
            simp only at hcb
            obtain ⟨bl, ol, hal, hbl, _, hcl⟩ := (SlN.of_ownsN (rows := l.map coinRow) (by simpa [coinsFlat] using HOi.out) (fun r hr => by obtain ⟨t, _, rfl⟩ := List.mem_map.1 hr; rfl)).cell (i := k) (by simpa using hkl)
            simp only [List.getElem_map, hc, coinRow] at hcl
            have q0 := hcl 0 _ rfl
            simp only [Nat.add_zero] at q0
            cases hal
            have hki : (k : Int) < (l.length : Int) := by omega
            have hk0 : (0 : Int) ≤ (k : Int) := by omega
            have hds : Hid (dupTo l W (k + 1) = (dupTo l W k || (c1 == (W : Int)))) := Lib.hid (by rw [dupTo_succ hkl, hc])
            have hwk : IntKind.i64.wrap ((k : Int) + 1) = (k : Int) + 1 := wrap_small _ (by omega) (by omega)
            obtain ⟨dp, hdp⟩ : ∃ dp, dupTo l W k = dp := ⟨_, rfl⟩
            rw [hdp] at z0
            have HDS : Hid (dupTo l W (k + 1) = (dp || (c1 == (W : Int)))) := Lib.hid (by rw [hds.out, hdp])
            obtain ⟨cw, hcw⟩ : ∃ cw, cellW dp W = cw := ⟨_, rfl⟩
            rw [hcw] at z0
            have hPB : wi.heap[b]? = some (.cells #[.int .i64 cw, .int .i64 C] 66 (0, 0)) := by rw [← hcw, ← hdp]; exact HP.out
            have HPB := Lib.hid hPB
            obtain ⟨eb, heb⟩ : ∃ eb, (c1 == cw) = eb := ⟨_, rfl⟩
            have HEB : Hid (cellW (dp || (c1 == (W : Int))) W = if eb = true then 0 else cw) := Lib.hid (by
              rw [← heb, ← hcw]
              cases dp with
              | true =>
                have : (c1 == cellW true W) = false := by
                  simp only [cellW, if_true, beq_eq_false_iff_ne]; omega
                rw [this]; rfl
              | false =>
                simp only [Bool.false_or, cellW, Bool.false_eq_true, if_false])
            clear hc hcl hcb hds hdp hcw hPB HP
            cases eb
            · go_wp2
              go_quiet (fail)
              go_wp2
              go_roundw
              case rel => exact ⟨k + 1, by go_num, by omega, Lib.hid (by rw [HDS.out, HEB.out]; exact HPB.out), Lib.hid (bThen HBi.out (bDrew _ _))⟩
              case measure => simp [intOf]; omega
            · go_wp2
              go_quiet (fail)
              go_wp2
              go_roundw
              case rel => exact ⟨k + 1, by go_num, by omega, Lib.hid (by
                rw [HDS.out, HEB.out, heap_setCell_at (W := wi.drewN _) HPB.out]; rfl), Lib.hid ((bThen HBi.out (bDrew _ _)).setCell (by show wo.heap.size ≤ b; exact HBK.out) _)⟩
              case measure => simp [intOf]; omega
          · obtain rfl : k = l.length := by omega
            have hdall : dupTo l W l.length = l.any fun c => c.1 == (W : Int) := by unfold dupTo; rw [List.take_length]
            obtain ⟨dp, hdp⟩ : ∃ dp, dupTo l W l.length = dp := ⟨_, rfl⟩
            rw [hdp] at z0 hdall
            have HDA := Lib.hid hdall
            have HPB : Hid (wi.heap[b]? = some (.cells #[.int .i64 (cellW dp W), .int .i64 C] 66 (0, 0))) := Lib.hid (by rw [← hdp]; exact HP.out)
            clear hdall hdp HP
            have hWB := HWB.out
            have hwi : IntKind.i64.wrap ((i : Int) + 1) = (i : Int) + 1 := wrap_small _ (by omega) (by omega)
            cases dp
            · have ec : cellW false W = (W : Int) := rfl
              rw [ec] at z0 HPB
              clear ec
              have t1 : ((W : Int) == 0) = false := beq_eq_false_iff_ne.2 (by omega)
              have t1n : (W == 0) = false := beq_eq_false_iff_ne.2 (by omega)
              obtain ⟨Z, hZ⟩ : ∃ Z, wi.heap.size = Z := ⟨_, rfl⟩
              obtain ⟨wa, hwa⟩ : ∃ wa, wi.alloc (.cells #[.int .i64 W, .int .i64 C] 66) = wa := ⟨_, rfl⟩
              have hba : Below wi.heap.size wi wa := by rw [← hwa]; exact aB _ _
              have hpa : wa.heap[Z]? = some (.cells #[.int .i64 W, .int .i64 C] 66 (0, 0)) := by rw [← hwa, ← hZ]; exact World.alloc_heap_new _ _
              have HBA := Lib.hid hba
              have HPA := Lib.hid hpa
              have HWA := Lib.hid hwa
              have HOA := Lib.hid (ownsN_below HOi.out hba)
              have HPBa := Lib.hid ((hba.block b (Array.getElem?_eq_some_iff.1 HPB.out).1).trans HPB.out)
              have HNA : Hid (N ≤ wa.heap.size) := Lib.hid (by have := HSr.out; have := HBi.out.size; have := hba.size; omega)
              have hgt : ∀ g, (Value.slice au l.length cu).ownBlock = some g → N ≤ g ∧ g < wo.heap.size := fun g hg => HO.out.lt g hg
              have HGT := Lib.hid hgt
              clear hwa hba hpa hgt
              go_wp2_with (at_builtin; rw [HWA.out]; refine wpList_appendN rfl (.tmp 64) (.tmp 66) 63 rfl N 66 (.agg #[.int .i64 0, .int .i64 0]) 2 16 Try.underlying63 info66 rfl (by decide) _ l.length _ rfl HOA.out Z 0 1 1 (coinRow ((W : Int), (C : Int))) rfl rfl (fun j u hj => by rw [cell_of_heap HPA.out, Nat.zero_add]; simpa [coinRow] using hj) (fun u hu => by simp [coinRow] at hu; rcases hu with rfl | rfl <;> rfl) (by omega) (by decide) HNA.out ?_)
              intro v5 w5 hown hgr hat
              have HP5 : Hid (w5.heap[b]? = some (.cells #[.int .i64 W, .int .i64 C] 66 (0, 0))) := Lib.hid ((hgr.block b (Array.getElem?_eq_some_iff.1 HPBa.out).1 (fun e => by
                have := (HGT.out b e.symm).2; have := HBK.out; omega)).trans HPBa.out)
              have HO5 : Hid (w5.ownsRow N 66 2 v5 (l.length + 1) (coinsFlat (l ++ [((W : Int), (C : Int))]))) := Lib.hid (by rw [coinsFlat_snoc]; exact hown)
              have HB5 : Hid (Below N w w5) := Lib.hid ((HBn.out.trans (HBA.out.mono (by have := HSr.out; have := HBi.out.size; omega))).trans (below_grownBy hgr HNA.out fun g hg => (HGT.out g hg).1))
              have HS5 : Hid (N + 1 ≤ w5.heap.size) := Lib.hid (by have := HSr.out; have := HBi.out.size; have := HBA.out.size; have := hgr.size; omega)
              clear hown hgr hat z0 z1 zf hZ
              have z0 : w5.cell? ⟨b, 0, none⟩ = some (.int .i64 W) := by rw [cell_of_heap HP5.out]; rfl
              have z1 : w5.cell? ⟨b, 1, none⟩ = some (.int .i64 C) := by rw [cell_of_heap HP5.out]; rfl
              have HF' := HF.out
              have hA : A ≤ 20000 := HF'.top
              have hmm : m ≤ 228 := by have := HF'.many; omega
              have hCB := HCB.out
              clear HF'
              by_cases hBY : BY.length = 0
              · have t2 : decide ((0 : Int) < (BY.length : Int)) = false := decide_eq_false (by omega)
                have t2n : decide (0 < BY.length) = false := decide_eq_false (by omega)
                have t3 : decide ((A : Int) ≤ 20000) = true := decide_eq_true (by omega)
                have t3n : decide (A ≤ 20000) = true := decide_eq_true (by omega)
                have HFf : Hid (FewI (l ++ [((W : Int), (C : Int))]) (ns ++ [0]) A m (i + 1)) := Lib.hid (by
                  have := HF.out.more (n := 0) HWB.out HCB.out HDA.out.symm (Nat.zero_le _) (by rw [Nat.zero_mul]; exact hA)
                  rwa [Nat.zero_mul, Nat.add_zero, Nat.add_zero] at this)
                go_wp2
                go_roundw
                case rel => exact ⟨i + 1, A, m, _, _, _, rfl, by go_num, by go_num, by go_num, by omega, HFf, Lib.hid (by simpa using HO5.out), HB5, HS5⟩
                case measure => simp [intOf]; omega
              · have t2 : decide ((0 : Int) < (BY.length : Int)) = true := decide_eq_true (by omega)
                have t2n : decide (0 < BY.length) = true := decide_eq_true (by omega)
                have hbi : i % BY.length < BY.length := Nat.mod_lt _ (by omega)
                obtain ⟨bi, hbie⟩ : ∃ bi, i % BY.length = bi := ⟨_, rfl⟩
                rw [hbie] at hbi
                obtain ⟨y, hy⟩ : ∃ y, BY[bi] = y := ⟨_, rfl⟩
                have hyb := HYB.out BY[bi] (List.getElem_mem hbi)
                rw [hy] at hyb
                obtain ⟨bb, ob, rfl, _, hcb⟩ := cellV (HY.out.below (by rw [HN.out]; exact HB5.out : Below w.heap.size w w5)) (k := bi) (by simpa using hbi)
                simp only [List.getElem_map, hy] at hcb
                have tm1 : (i : Int).tmod (BY.length : Int) = (bi : Int) := by rw [Int.tmod_eq_emod_of_nonneg (by omega), ← hbie]; omega
                have wbi : IntKind.i64.wrap (bi : Int) = (bi : Int) := wrap_small _ (by omega) (by omega)
                obtain ⟨n, hn⟩ : ∃ n : Nat, y % ((C : Int) + 1) = n := ⟨(y % ((C : Int) + 1)).toNat, by have := Int.emod_nonneg y (show (C : Int) + 1 ≠ 0 by omega); omega⟩
                have hnC : n ≤ C := by have := Int.emod_lt_of_pos y (show (0 : Int) < (C : Int) + 1 by omega); omega
                have tm2 : y.tmod ((C : Int) + 1) = (n : Int) := by rw [Int.tmod_eq_emod_of_nonneg hyb.1]; exact hn
                have wy1 : IntKind.i64.wrap y = y := wrap_small _ (by omega) (by omega)
                have wc1 : IntKind.i64.wrap ((C : Int) + 1) = (C : Int) + 1 := wrap_small _ (by omega) (by omega)
                have wn1 : IntKind.i64.wrap (n : Int) = (n : Int) := wrap_small _ (by omega) (by omega)
                have nz1 : ¬ (BY.length : Int) = 0 := by omega
                have nz2 : ¬ (C : Int) + 1 = 0 := by omega
                have bil : (bi : Int) < (BY.length : Int) := by omega
                have bi0 : (0 : Int) ≤ (bi : Int) := by omega
                clear hbie hy hyb hn
                go_wp2_with fail
                go_quiet (fail)
                clear tm1 tm2 wy1 wc1 wn1 nz1 nz2 wbi
                obtain ⟨qn, hq⟩ : ∃ qn : Nat, n * W = qn := ⟨_, rfl⟩
                have hqb : qn ≤ 19 * 2000 := by rw [← hq]; exact Nat.mul_le_mul (by omega) (by omega)
                have hq2 : (n : Int) * (W : Int) = (qn : Int) := by rw [← hq]; simp
                have wq : IntKind.i64.wrap (qn : Int) = (qn : Int) := wrap_small _ (by omega) (by omega)
                have waq : IntKind.i64.wrap ((A : Int) + (qn : Int)) = (A : Int) + (qn : Int) := wrap_small _ (by omega) (by omega)
                have HQ := Lib.hid hq
                clear hq
                by_cases h20 : A + qn ≤ 20000
                · have t3 : decide ((A : Int) + (qn : Int) ≤ 20000) = true := decide_eq_true (by omega)
                  have HFf : Hid (FewI (l ++ [((W : Int), (C : Int))]) (ns ++ [n]) (A + qn) (m + n) (i + 1)) := Lib.hid (by
                    have := HF.out.more (n := n) HWB.out HCB.out HDA.out.symm hnC (by rw [HQ.out]; exact h20)
                    rwa [HQ.out] at this)
                  go_wp2
                  go_roundw
                  case rel => exact ⟨i + 1, A + qn, m + n, _, _, _, rfl, by go_num, by go_num, by go_num, by omega, HFf, Lib.hid (by simpa using ownsN_below HO5.out (bDrew _ _)), Lib.hid (HB5.out.trans ((bDrew _ _).mono (by have := HS5.out; omega))), HS5⟩
                  case measure => simp [intOf]; omega
                · have t3 : decide ((A : Int) + (qn : Int) ≤ 20000) = false := decide_eq_false (by omega)
                  have HFf : Hid (FewI (l ++ [((W : Int), (C : Int))]) (ns ++ [0]) A m (i + 1)) := Lib.hid (by
                    have := HF.out.more (n := 0) HWB.out HCB.out HDA.out.symm (Nat.zero_le _) (by rw [Nat.zero_mul]; exact hA)
                    rwa [Nat.zero_mul, Nat.add_zero, Nat.add_zero] at this)
                  go_wp2
                  go_roundw
                  case rel => exact ⟨i + 1, A, m, _, _, _, rfl, by go_num, by go_num, by go_num, by omega, HFf, Lib.hid (by simpa using ownsN_below HO5.out (bDrew _ _)), Lib.hid (HB5.out.trans ((bDrew _ _).mono (by have := HS5.out; omega))), HS5⟩
                  case measure => simp [intOf]; omega
            · have ec : cellW true W = 0 := rfl
              rw [ec] at z0
              clear ec
              go_wp2
              go_roundw
              case rel => exact ⟨i + 1, A, m, l, ns, _, rfl, rfl, rfl, by go_num, by omega, Lib.hid HF.out.skip, HOi, HBn, Lib.hid (by have := HSr.out; have := HBi.out.size; omega)⟩
              case measure => simp [intOf]; omega
      · obtain rfl : i = M := by omega
        have hex : decide ((i : Int) < (TS.length : Int)) = false ∧ decide (i < TS.length) = false ∨ decide ((i : Int) < (TS.length : Int)) = true ∧ decide (i < TS.length) = true ∧ decide ((i : Int) < (12 : Int)) = false ∧ decide (i < 12) = false := by
          have := HM1.out
          by_cases h : i < TS.length
          · exact .inr ⟨decide_eq_true (by omega), decide_eq_true h, decide_eq_false (by omega), decide_eq_false (by omega)⟩
          · exact .inl ⟨decide_eq_false (by omega), decide_eq_false h⟩
        rcases hex with ⟨d1, d2⟩ | ⟨d1, d2, d3, d4⟩
        all_goals
          go_wp2_with fail
          go_meet
          case rel => exact ⟨l, ns, A, m, rfl, rfl, HF, HO, HBr⟩
  case rest =>
    as_aux_lemma =>
    obtain ⟨l, ns, A, m, rfl, rfl, HF, HO, HBr⟩ := hcut
    obtain ⟨w1, rfl⟩ : ∃ w1, w1 = wc := ⟨_, rfl⟩
    have HSz : Hid (N ≤ w1.heap.size) := Lib.hid (by have := HBr.out.size; have := HN.out; omega)
    obtain ⟨au, cu, rfl⟩ := owns_form HO.out
    have hl12 : l.length ≤ 12 := by have := HF.out.len; have := HM1.out; omega
    have HSl : Hid (SlN 2 (fun q => N ≤ q) w1 (.slice au l.length cu) (l.map coinRow)) := Lib.hid (SlN.of_ownsN (rows := l.map coinRow) (by simpa [coinsFlat] using HO.out) (fun r hr => by obtain ⟨t, _, rfl⟩ := List.mem_map.1 hr; rfl))
    have hA : A ≤ 20000 := HF.out.top
    have hm : m ≤ 228 := by have := HF.out.many; omega
    obtain ⟨e1, ms, hck, hfew⟩ := coins_law HF.out.tin hl12 HF.out.fit (by rw [← HF.out.amt]; exact hA) (by rw [← HF.out.cnt]; omega)
    rw [← HF.out.amt] at e1 hck
    rw [← HF.out.cnt] at hfew
    have hms : ms.length = l.length := hck.2.1.len
    have HE1 := Lib.hid e1
    have HCK := Lib.hid hck
    have HFW := Lib.hid hfew
    have HMS := Lib.hid hms
    clear e1 hck hfew hms HO HO0 HB0
    go_wp2_with (at_builtin; refine wpList_copy rfl (.tmp 101) (.tmp 102) 63 rfl 66 (.agg #[.int .i64 0, .int .i64 0]) 2 16 Try.underlying63 info66 rfl (by decide) rfl _ (l.map coinRow) rfl HSl.out (coin_one l) (by simp; omega) (by decide) ?_)
    intro v2 w2 hb2 hs2
    have HB2 := Lib.hid hb2
    have HC2 := Lib.hid hs2
    clear hb2 hs2
    go_wp2_with fail
    refine (coins_any (A : Int) l _ w2 HC2.out).mono ?_
    rintro e w3 ⟨r3, rfl, hb3, hs3⟩
    rw [HE1.out]
    rw [HCK.out.1] at hs3
    obtain ⟨a3, c3, e3, _, _⟩ := hs3.form
    rw [ints_length, show (castL ms).length = l.length by rw [castL, List.length_map]; exact HMS.out] at e3
    subst e3
    have HR3 := Lib.hid hs3
    have HB3 := Lib.hid (bThen HB2.out hb3)
    have HS3 := Lib.hid (HSl.out.below HB3.out)
    clear hb3 hs3 HC2 HB2
    go_wp2_with fail
    go_loopw [14, 15, 16] (fun sv fv iv wr => ∃ i : Nat, iv = .int .i64 (i : Int) ∧ i ≤ l.length ∧ sv = .int .i64 (worthN (l.take i) (ms.take i) : Nat) ∧ fv = .int .i64 ((ms.take i).sum : Nat) ∧ Hid (Below w3.heap.size w3 wr)) (fun _ _ iv _ => l.length - (intOf iv).toNat)
    case atStart => exact ⟨0, rfl, Nat.zero_le _, by simp [worthN], by simp, Lib.hid (Below.refl _ _)⟩
    case round =>
      obtain ⟨i, rfl, hi, rfl, rfl, HBL⟩ := hrel
      obtain ⟨wr0, rfl⟩ : ∃ wr0 : World, wr0 = wr := ⟨_, rfl⟩
      by_cases hil : i < l.length
      · as_aux_lemma =>
        obtain ⟨cn, hcn⟩ : ∃ cn, ms[i]'(by rw [HMS.out]; exact hil) = cn := ⟨_, rfl⟩
        obtain ⟨b1, o1, rfl, _, k1⟩ := (HR3.out.below HBL.out).cell (k := i) (by rw [castL, List.length_map, HMS.out]; exact hil)
        have k1' : wr0.cell? ⟨b1, o1 + i, none⟩ = some (.int .i64 (cn : Int)) := by rw [k1, ← hcn]; simp [castL]
        obtain ⟨cc, hcc⟩ : ∃ cc, l[i] = cc := ⟨_, rfl⟩
        obtain ⟨c1, c2⟩ := cc
        have hrg := HF.out.tin.rng l[i] (List.getElem_mem hil)
        rw [hcc] at hrg
        simp only at hrg
        obtain ⟨Wn, rfl⟩ : ∃ n : Nat, c1 = n := ⟨c1.toNat, by omega⟩
        obtain ⟨Cn, rfl⟩ : ∃ n : Nat, c2 = n := ⟨c2.toNat, by omega⟩
        obtain ⟨bl, ol, hal, _, _, hcl⟩ := (HS3.out.below HBL.out).cell (i := i) (by simpa using hil)
        simp only [List.getElem_map, hcc, coinRow] at hcl
        have q0 := hcl 0 _ rfl
        have q1 := hcl 1 _ rfl
        simp only [Nat.add_zero] at q0
        cases hal
        have hfa := HCK.out.2.1.at i
        have hwt := worthN_take HCK.out.2.1 i hil
        have hmo := worthN_mono HCK.out.2.1 (i + 1)
        have e1 : ms.getD i 0 = cn := by rw [List.getD_eq_getElem?_getD, List.getElem?_eq_getElem (by rw [HMS.out]; exact hil), Option.getD_some, hcn]
        have e2 : l.getD i (0, 0) = ((Wn : Int), (Cn : Int)) := by rw [List.getD_eq_getElem?_getD, List.getElem?_eq_getElem hil, Option.getD_some, hcc]
        rw [e1, e2] at hfa hwt
        simp only [Int.toNat_natCast] at hfa hwt
        rw [HCK.out.2.2] at hmo
        obtain ⟨P, hP⟩ : ∃ P, cn * Wn = P := ⟨_, rfl⟩
        rw [hP] at hwt
        have hPi : (cn : Int) * (Wn : Int) = (P : Int) := by rw [← hP]; simp
        have d1 : decide ((cn : Int) < 0) = false := decide_eq_false (by omega)
        have d2 : decide ((Cn : Int) < (cn : Int)) = false := decide_eq_false (by omega)
        have d2n : decide (Cn < cn) = false := decide_eq_false (by omega)
        have hili : (i : Int) < (l.length : Int) := by omega
        have hi0 : (0 : Int) ≤ (i : Int) := by omega
        obtain ⟨s0, hs0⟩ : ∃ s, worthN (l.take i) (ms.take i) = s := ⟨_, rfl⟩
        rw [hs0] at hwt ⊢
        have wP : IntKind.i64.wrap (P : Int) = (P : Int) := wrap_small _ (by omega) (by omega)
        have wsP : IntKind.i64.wrap ((s0 : Int) + (P : Int)) = (s0 : Int) + (P : Int) := wrap_small _ (by omega) (by omega)
        have hst := sum_take_le ms (i + 1)
        have hst2 : (ms.take (i + 1)).sum = (ms.take i).sum + cn := by rw [List.take_succ_eq_append_getElem (by rw [HMS.out]; exact hil), List.sum_append, hcn]; simp
        have hfw := HFW.out
        obtain ⟨f0, hf0⟩ : ∃ s, (ms.take i).sum = s := ⟨_, rfl⟩
        rw [hf0] at hst2 ⊢
        have wsf : IntKind.i64.wrap ((f0 : Int) + (cn : Int)) = (f0 : Int) + (cn : Int) := wrap_small _ (by omega) (by omega)
        have HW1 : Hid (worthN (l.take (i + 1)) (ms.take (i + 1)) = s0 + P) := Lib.hid hwt
        have HF1 := Lib.hid hst2
        clear k1 hcn hcc hrg hcl hfa hwt hmo e1 e2 hP hs0 hst hst2 hfw hf0
        go_wp2_with fail
        go_quiet (fail)
        go_wp2_with fail
        go_quiet (fail)
        go_wp2
        go_roundw
        case rel => exact ⟨i + 1, by go_num, by omega, by rw [HW1.out]; go_num, by rw [HF1.out]; go_num, Lib.hid (bThen HBL.out (bDrew _ _))⟩
        case measure => simp [intOf]; omega
      · obtain rfl : i = l.length := by omega
        have hwl : worthN (l.take l.length) (ms.take l.length) = A := by
          rw [List.take_length, List.take_of_length_le (by rw [HMS.out]; exact Nat.le_refl _)]; exact HCK.out.2.2
        have hfl : (ms.take l.length).sum = ms.sum := by rw [List.take_of_length_le (by rw [HMS.out]; exact Nat.le_refl _)]
        rw [hwl, hfl]
        have hfw := HFW.out
        obtain ⟨f0, hf0⟩ : ∃ f0, ms.sum = f0 := ⟨_, rfl⟩
        rw [hf0] at hfw ⊢
        have d1 : decide (m < f0) = false := decide_eq_false (by omega)
        have d1i : decide ((m : Int) < (f0 : Int)) = false := decide_eq_false (by omega)
        obtain ⟨o, ho⟩ : ∃ o : Nat, (A + m + 1) % 20001 = o := ⟨_, rfl⟩
        have hot : ((A : Int) + (m : Int) + 1).tmod 20001 = (o : Int) := by rw [Int.tmod_eq_emod_of_nonneg (by omega)]; omega
        have hob : o ≤ 20000 := by omega
        have HSL : Hid (SlN 2 (fun q => N ≤ q) wr0 (.slice au l.length cu) (l.map coinRow)) := Lib.hid (HS3.out.below HBL.out)
        have HBX : Hid (Below N w wr0) := Lib.hid ((HBr.out.trans (HB3.out.mono (by have := HSz.out; omega))).trans (HBL.out.mono (by have := HSz.out; have := HB3.out.size; omega)))
        clear hwl hfl hf0 ho
        go_wp2_with (at_builtin; refine wpList_copy rfl (.tmp 172) (.tmp 173) 63 rfl 66 (.agg #[.int .i64 0, .int .i64 0]) 2 16 Try.underlying63 info66 rfl (by decide) rfl _ (l.map coinRow) rfl HSL.out (coin_one l) (by simp; omega) (by decide) ?_)
        intro v4 w4 hb4 hs4
        have HB4 := Lib.hid hb4
        have HC4 := Lib.hid hs4
        clear hb4 hs4 hot
        go_wp2_with fail
        refine (coins_any (o : Int) l _ w4 HC4.out).mono ?_
        rintro e w5 ⟨r5, rfl, hb5, hs5⟩
        have HB5 : Hid (Below wr0.heap.size wr0 w5) := Lib.hid (bThen HB4.out hb5)
        have HBY : Hid (Below N w w5) := Lib.hid (HBX.out.trans (HB5.out.mono (by have := HSz.out; have := HB3.out.size; have := HBL.out.size; omega)))
        clear hb5 HC4 HB4
        rcases coins_other HF.out.tin hl12 hob with ⟨e1, e2⟩ | ⟨e1, mt, hct⟩
        · rw [e1]
          rw [e2] at hs5
          obtain ⟨a5, c5, e5, _, _⟩ := hs5.form
          subst e5
          clear e1 e2 hs5
          go_wp2_with fail
          refine (known_any w5).mono ?_
          rintro e w6 ⟨rfl, hb6⟩
          have HBT : Hid (Below w.heap.size w w6) := Lib.hid (by rw [HN.out]; exact HBY.out.trans (hb6.mono (by have := HBY.out.size; have := HN.out; omega)))
          clear hb6
          go_wp2
          go_ret
          exact ⟨rfl, HBT.out⟩
        · rw [e1]
          have hmt : mt.length = l.length := hct.2.1.len
          rw [hct.1] at hs5
          obtain ⟨a5, c5, e5, _, _⟩ := hs5.form
          rw [ints_length, show (castL mt).length = l.length by rw [castL, List.length_map]; exact hmt] at e5
          subst e5
          have HR5 := Lib.hid hs5
          have HCT := Lib.hid hct
          have HMT := Lib.hid hmt
          have HS5 := Lib.hid (HSL.out.below HB5.out)
          have HSz5 : Hid (N ≤ w5.heap.size) := Lib.hid (by have := HBY.out.size; have := HN.out; omega)
          clear e1 hs5 hct hmt
          go_wp2_with fail
          go_loopw [14, 18] (fun sv iv wr => ∃ i : Nat, iv = .int .i64 (i : Int) ∧ i ≤ l.length ∧ sv = .int .i64 (worthN (l.take i) (mt.take i) : Nat) ∧ Hid (Below w5.heap.size w5 wr)) (fun _ iv _ => l.length - (intOf iv).toNat)
          case atStart => exact ⟨0, rfl, Nat.zero_le _, by simp [worthN], Lib.hid (Below.refl _ _)⟩
          case round =>
            clear HBL
            obtain ⟨i, rfl, hi, rfl, HBL⟩ := hrel
            obtain ⟨wr0, rfl⟩ : ∃ wr0 : World, wr0 = wr := ⟨_, rfl⟩
            by_cases hil : i < l.length
            · as_aux_lemma =>
              obtain ⟨cn, hcn⟩ : ∃ cn, mt[i]'(by rw [HMT.out]; exact hil) = cn := ⟨_, rfl⟩
              obtain ⟨b1, o1, rfl, _, k1⟩ := (HR5.out.below HBL.out).cell (k := i) (by rw [castL, List.length_map, HMT.out]; exact hil)
              have k1' : wr0.cell? ⟨b1, o1 + i, none⟩ = some (.int .i64 (cn : Int)) := by rw [k1, ← hcn]; simp [castL]
              obtain ⟨cc, hcc⟩ : ∃ cc, l[i] = cc := ⟨_, rfl⟩
              obtain ⟨c1, c2⟩ := cc
              have hrg := HF.out.tin.rng l[i] (List.getElem_mem hil)
              rw [hcc] at hrg
              simp only at hrg
              obtain ⟨Wn, rfl⟩ : ∃ n : Nat, c1 = n := ⟨c1.toNat, by omega⟩
              obtain ⟨Cn, rfl⟩ : ∃ n : Nat, c2 = n := ⟨c2.toNat, by omega⟩
              obtain ⟨bl, ol, hal, _, _, hcl⟩ := (HS5.out.below HBL.out).cell (i := i) (by simpa using hil)
              simp only [List.getElem_map, hcc, coinRow] at hcl
              have q0 := hcl 0 _ rfl
              have q1 := hcl 1 _ rfl
              simp only [Nat.add_zero] at q0
              cases hal
              have hfa := HCT.out.2.1.at i
              have hwt := worthN_take HCT.out.2.1 i hil
              have hmo := worthN_mono HCT.out.2.1 (i + 1)
              have e1 : mt.getD i 0 = cn := by rw [List.getD_eq_getElem?_getD, List.getElem?_eq_getElem (by rw [HMT.out]; exact hil), Option.getD_some, hcn]
              have e2 : l.getD i (0, 0) = ((Wn : Int), (Cn : Int)) := by rw [List.getD_eq_getElem?_getD, List.getElem?_eq_getElem hil, Option.getD_some, hcc]
              rw [e1, e2] at hfa hwt
              simp only [Int.toNat_natCast] at hfa hwt
              rw [HCT.out.2.2] at hmo
              obtain ⟨P, hP⟩ : ∃ P, cn * Wn = P := ⟨_, rfl⟩
              rw [hP] at hwt
              have hPi : (cn : Int) * (Wn : Int) = (P : Int) := by rw [← hP]; simp
              have d1 : decide ((cn : Int) < 0) = false := decide_eq_false (by omega)
              have d2 : decide ((Cn : Int) < (cn : Int)) = false := decide_eq_false (by omega)
              have d2n : decide (Cn < cn) = false := decide_eq_false (by omega)
              have hili : (i : Int) < (l.length : Int) := by omega
              have hi0 : (0 : Int) ≤ (i : Int) := by omega
              obtain ⟨s0, hs0⟩ : ∃ s, worthN (l.take i) (mt.take i) = s := ⟨_, rfl⟩
              rw [hs0] at hwt ⊢
              have wP : IntKind.i64.wrap (P : Int) = (P : Int) := wrap_small _ (by omega) (by omega)
              have wsP : IntKind.i64.wrap ((s0 : Int) + (P : Int)) = (s0 : Int) + (P : Int) := wrap_small _ (by omega) (by omega)

              have hli : decide ((i : Int) < (l.length : Int)) = true := decide_eq_true hili
              have hlin : decide (i < l.length) = true := decide_eq_true hil
              have HW1 : Hid (worthN (l.take (i + 1)) (mt.take (i + 1)) = s0 + P) := Lib.hid hwt
              clear k1 hcn hcc hrg hcl hfa hwt hmo e1 e2 hP hs0
              go_wp2_with fail
              go_quiet (fail)
              go_wp2_with fail
              go_quiet (fail)
              go_wp2
              go_roundw
              case rel => exact ⟨i + 1, by go_num, by omega, by rw [HW1.out]; go_num, Lib.hid (bThen HBL.out (bDrew _ _))⟩
              case measure => simp [intOf]; omega
            · obtain rfl : i = l.length := by omega
              have hwl : worthN (l.take l.length) (mt.take l.length) = o := by
                rw [List.take_length, List.take_of_length_le (by rw [HMT.out]; exact Nat.le_refl _)]; exact HCT.out.2.2
              rw [hwl]
              clear hwl
              go_wp2_with fail
              refine (known_any wr0).mono ?_
              rintro e w6 ⟨rfl, hb6⟩
              have HBT : Hid (Below w.heap.size w w6) := Lib.hid (by
                rw [HN.out]
                exact (HBY.out.trans (HBL.out.mono (by have := HSz5.out; omega))).trans (hb6.mono (by have := HSz5.out; have := HBL.out.size; omega)))
              clear hb6
              go_wp2
              go_ret
              exact ⟨rfl, HBT.out⟩
end Go.Proofs.Ytagfcodpgochjaa

/- What a law's arguments read as: arrays of numbers, slices of them. -/
namespace Go.Proofs.Ytagfcodpgochjaa
open Go.RowKit Go.Oche Go.Proofs Go.ChangeShapes Go.WideShapes Go.ChangeAt
def row2 (kd : IntKind) (x : Int × Int) : List Value := [.int kd x.1, .int kd x.2]
def row3 (kd : IntKind) (x : Int × Int × Int) : List Value := [.int kd x.1, .int kd x.2.1, .int kd x.2.2]
def row4 (kd : IntKind) (x : Int × Int × Int × Int) : List Value := [.int kd x.1, .int kd x.2.1, .int kd x.2.2.1, .int kd x.2.2.2]
section
variable {H : Type} {enc : TypeId × Value → H} {W : World} {base : Nat} {spare : Nat → Bool} {held : Bool}
theorem open_arr {kd : IntKind} {k : Nat} {t e : TypeId} (ht : Try.prog.underlying t = some (.array k e)) (he : Try.prog.underlying e = some (.int kd)) (hc : Try.prog.cellsOf t = k) (hce : Try.prog.cellsOf e = 1)
    {n : Nat} {cs : List Value} {y : DataW H × List MemPlace} (h : DataW.trod enc Try.prog W base spare held n t cs = some y) : ∃ zs : List Int, zs.length = k ∧ cs = zs.map (Value.int kd) ∧ ∀ z ∈ zs, (Lit.int kd z).wf = true := by
  obtain ⟨xs, m, _, _, hl, hx, hi⟩ := DataW.trod_array ht h
  rw [hc] at hl
  have hall : ∀ i, i < k → ∃ z, cs[i]? = some (.int kd z) ∧ (Lit.int kd z).wf = true := fun i hik => by
    have := hi i hik
    rw [hce, Nat.mul_one, List.getElem?_eq_getElem (by omega)] at this
    have e1 : (cs.drop i).take 1 = [cs[i]] := by
      rw [List.drop_eq_getElem_cons (by omega)]; rfl
    rw [e1] at this
    obtain ⟨z, hz, _, hw⟩ := DataW.trod_int he this
    simp only [List.cons.injEq, and_true] at hz
    exact ⟨z, by rw [List.getElem?_eq_getElem (by omega), hz], hw⟩
  obtain ⟨zs, h1, h2⟩ := choose_rows k hall
  refine ⟨zs, h1, List.ext_getElem? fun i => ?_, fun z hz => ?_⟩
  · by_cases hik : i < k
    · rw [List.getElem?_map, List.getElem?_eq_getElem (by omega : i < zs.length)]
      exact (h2 i zs[i] (List.getElem?_eq_getElem (by omega))).1
    · rw [List.getElem?_eq_none (by omega), List.getElem?_eq_none (by simp; omega)]
  · obtain ⟨i, hiz⟩ := List.getElem?_of_mem hz
    exact (h2 i z hiz).2
theorem open_arr2 {kd : IntKind} {t e : TypeId} (ht : Try.prog.underlying t = some (.array 2 e)) (he : Try.prog.underlying e = some (.int kd)) (hc : Try.prog.cellsOf t = 2) (hce : Try.prog.cellsOf e = 1)
    {n : Nat} {cs : List Value} {y : DataW H × List MemPlace} (h : DataW.trod enc Try.prog W base spare held n t cs = some y) : ∃ b : Int × Int, cs = row2 kd b ∧ (Lit.int kd b.1).wf = true ∧ (Lit.int kd b.2).wf = true := by
  obtain ⟨zs, h1, rfl, h2⟩ := open_arr ht he hc hce h
  obtain ⟨a, b, rfl⟩ := list_two h1
  exact ⟨(a, b), rfl, h2 a (by simp), h2 b (by simp)⟩
theorem open_arr3 {kd : IntKind} {t e : TypeId} (ht : Try.prog.underlying t = some (.array 3 e)) (he : Try.prog.underlying e = some (.int kd)) (hc : Try.prog.cellsOf t = 3) (hce : Try.prog.cellsOf e = 1)
    {n : Nat} {cs : List Value} {y : DataW H × List MemPlace} (h : DataW.trod enc Try.prog W base spare held n t cs = some y) : ∃ b : Int × Int × Int, cs = row3 kd b ∧ (Lit.int kd b.1).wf = true ∧ (Lit.int kd b.2.1).wf = true ∧ (Lit.int kd b.2.2).wf = true := by
  obtain ⟨zs, h1, rfl, h2⟩ := open_arr ht he hc hce h
  obtain ⟨a, b, c, rfl⟩ := list_three h1
  exact ⟨(a, b, c), rfl, h2 a (by simp), h2 b (by simp), h2 c (by simp)⟩
set_option maxRecDepth 100000 in
theorem open_arr4 {kd : IntKind} {t e : TypeId} (ht : Try.prog.underlying t = some (.array 4 e)) (he : Try.prog.underlying e = some (.int kd)) (hc : Try.prog.cellsOf t = 4) (hce : Try.prog.cellsOf e = 1)
    {n : Nat} {cs : List Value} {y : DataW H × List MemPlace} (h : DataW.trod enc Try.prog W base spare held n t cs = some y) : ∃ b : Int × Int × Int × Int, cs = row4 kd b ∧ (Lit.int kd b.1).wf = true ∧ (Lit.int kd b.2.1).wf = true ∧ (Lit.int kd b.2.2.1).wf = true ∧ (Lit.int kd b.2.2.2).wf = true := by
  obtain ⟨zs, h1, rfl, h2⟩ := open_arr ht he hc hce h
  obtain ⟨a, l, rfl⟩ : ∃ a l, zs = a :: l := by cases zs with
    | nil => simp at h1
    | cons a l => exact ⟨a, l, rfl⟩
  obtain ⟨b, c, d, rfl⟩ := list_three (cs := l) (by simpa using h1)
  exact ⟨(a, b, c, d), rfl, h2 a (by simp), h2 b (by simp), h2 c (by simp), h2 d (by simp)⟩
set_option maxRecDepth 100000 in
/-- Numbers of one kind. -/
theorem open_nums {kd : IntKind} {t e : TypeId} (ht : Try.prog.underlying t = some (.slice e)) (he : Try.prog.underlying e = some (.int kd)) (hce : Try.prog.cellsOf e = 1) {n : Nat} {v : Value} {x : DataW H × List MemPlace} (h : DataW.trod enc Try.prog W base spare held n t [v] = some x) :
    ∃ xs : List Int, Sl (fun _ => True) W v (xs.map (Value.int kd)) ∧ ∀ b ∈ xs, (Lit.int kd b).wf = true := by
  obtain ⟨xs, h1, h2⟩ := open_rowsN (fun z : Int => [.int kd z]) 1 (fun b => (Lit.int kd b).wf = true) ht hce (by decide) (fun n cs y hy => by
    obtain ⟨z, hz, _, hw⟩ := DataW.trod_int he hy
    exact ⟨z, hz, hw⟩) (fun b => rfl) h
  refine ⟨xs, SlN.to1 ?_, h2⟩
  have e : (xs.map (Value.int kd)).map (fun x => [x]) = xs.map (fun z => [.int kd z]) := by simp
  rw [e]; exact h1
set_option maxRecDepth 100000 in
/-- An array of numbers, by value. -/
theorem okWide_arr {k : Nat} {t e : TypeId} (ht : Try.prog.underlying t = some (.array k e)) (hc : Try.prog.cellsOf t = k) {r : Reach} {b0 : Nat} {v : Value} (h : Value.okWide Try.prog W r b0 t v) : ∃ xs : Array Value, v = .agg xs ∧ xs.size = k := by
  simp only [Value.okWide, ht] at h
  obtain ⟨cs, h1, h2, _⟩ := h
  exact ⟨cs, h1, by rw [h2, hc]⟩
end
end Go.Proofs.Ytagfcodpgochjaa

/- Chapter 12: arguments with arrays. -/
namespace Go.Proofs.Ytagfcodpgochjaa
open Go.RowKit Go.Oche Go.Proofs Go.ChangeShapes Go.WideShapes Go.ChangeAt
section
variable {H : Type} {enc : TypeId × Value → H} {W : World} {base : Nat} {spare : Nat → Bool} {held : Bool} {n : Nat} {v : Value} {x : DataW H × List MemPlace}
set_option maxRecDepth 100000 in
theorem open_a2u16s (h : DataW.trod enc Try.prog W base spare held n 62 [v] = some x) : ∃ xs : List (Int × Int), SlN 2 (fun _ => True) W v (xs.map w16x2) ∧ ∀ t ∈ xs, (0 ≤ t.1 ∧ t.1 ≤ 65535) ∧ 0 ≤ t.2 ∧ t.2 ≤ 65535 :=
  open_rowsN w16x2 2 (fun t => (0 ≤ t.1 ∧ t.1 ≤ 65535) ∧ 0 ≤ t.2 ∧ t.2 ≤ 65535) Try.underlying62 (by kernel_rfl) (by decide) (fun n cs y hy => by
    obtain ⟨b, e, w1, w2⟩ := open_arr2 Try.underlying64 Try.underlying49 (by kernel_rfl) (by kernel_rfl) hy
    exact ⟨b, e, wf_u16 w1, wf_u16 w2⟩) (fun b => rfl) h
theorem open_u8s (h : DataW.trod enc Try.prog W base spare held n 48 [v] = some x) : ∃ xs : List Int, Sl (fun _ => True) W v (xs.map (Value.int .u8)) ∧ ∀ b ∈ xs, 0 ≤ b ∧ b ≤ 255 := by
  obtain ⟨xs, h1, h2⟩ := open_nums Try.underlying48 Try.underlying5 (by kernel_rfl) h
  exact ⟨xs, h1, fun b hb => wf_u8 (h2 b hb)⟩
end
end Go.Proofs.Ytagfcodpgochjaa
