/- The texts RD, in build order. -/
import Derived.Test.YtpfpjbglpibdoaaGreatDoorZax
import Derived.Laws.NewBlocks
import Derived.Laws.CopyOwn
import Derived.Laws.Tables

/- Chapter 5, the reference: all visits from a stand. -/
namespace Go.Proofs.YtpfpjbglpibdoaaGreatDoor
open Go Go.RowKit Go.Oche Go.Proofs

def MoreC (l : Lg) (k : Nat) : Prop := ∀ (S : Nat → Prop) (bv : Value) (start now : Std) (d : Nat) (v : Value) (rows : List (List Value)) (base : Nat) (w : World), d + k = 3 → 0 ≤ now.left ∧ now.left ≤ 1001 → Sl S w bv (ints l.beds) → (∀ q, S q → q < base) →
    w.ownsRow base 44 4 v rows.length rows.flatten → base ≤ w.heap.size → rows.length + (newR l start d k now).length ≤ 1000 →
    Calls Tryz.prog 56 #[legV l bv, stV start, stV now, .int .i64 (d : Int), v] w fun e w' => ∃ v', e = .returned v' ∧ MoSt base w v v' (rows ++ newR l start d k now) w'
set_option maxRecDepth 100000 in
set_option maxHeartbeats 4000000 in
theorem more_step (l : Lg) (hv : Valid l) (h6 : l.beds.length ≤ 6) (k : Nat) (hk : k ≤ 3) (IH : ∀ k', k = k' + 1 → MoreC l k') : MoreC l k := by
  intro S bv start now d v rows base w hdk hnow hs hS hrow hbase hbd
  obtain ⟨a, cap, rfl, h2, h3⟩ := hs.form
  obtain ⟨va, vc, rfl⟩ := owns_form hrow
  obtain ⟨sl, si⟩ := start
  obtain ⟨nl, ni⟩ := now
  simp only [ints_length] at *
  unfold maxLen at h3
  obtain ⟨n, hn⟩ : ∃ n, l.beds.length = n := ⟨_, rfl⟩
  obtain ⟨m, hm⟩ : ∃ m, rows.length = m := ⟨_, rfl⟩
  rw [hn] at h2 hs h6 ⊢
  rw [hm] at hrow hbd ⊢
  obtain ⟨w1, hw1⟩ : ∃ x, ((w.alloc (.cells #[.int .i64 l.start, .int .i64 l.gin, .int .i64 l.gout, .slice a n cap, .int .i64 l.players, .int .i64 l.turns, .bool l.won] 27)).alloc (.cells #[.int .i64 sl, .bool si] 29)).alloc (.cells #[.int .i64 nl, .bool ni] 29) = x := ⟨_, rfl⟩
  have hb1 : Below w.heap.size w w1 := by rw [← hw1]; exact ((aB _ _).alloc (by simp) _).alloc (by simp; omega) _
  obtain ⟨N, hN⟩ : ∃ N, w.heap.size = N := ⟨_, rfl⟩
  have kl : w1.heap[N]? = some (.cells #[.int .i64 l.start, .int .i64 l.gin, .int .i64 l.gout, .slice a n cap, .int .i64 l.players, .int .i64 l.turns, .bool l.won] 27 (0, 0)) := by
    rw [← hw1, ← hN]; exact (Below.heap_alloc _ _ _ (by simp; omega)).trans ((Below.heap_alloc _ _ _ (by simp)).trans (World.alloc_heap_new _ _))
  have ks : w1.heap[N + 1]? = some (.cells #[.int .i64 sl, .bool si] 29 (0, 0)) := by
    rw [← hw1, ← hN]
    refine (Below.heap_alloc _ _ _ (by simp)).trans ?_
    have := World.alloc_heap_new (w.alloc (.cells #[.int .i64 l.start, .int .i64 l.gin, .int .i64 l.gout, .slice a n cap, .int .i64 l.players, .int .i64 l.turns, .bool l.won] 27)) (.cells #[.int .i64 sl, .bool si] 29)
    simp only [World.size_alloc] at this
    exact this
  have kn : w1.heap[N + 2]? = some (.cells #[.int .i64 nl, .bool ni] 29 (0, 0)) := by
    rw [← hw1, ← hN]
    have := World.alloc_heap_new ((w.alloc (.cells #[.int .i64 l.start, .int .i64 l.gin, .int .i64 l.gout, .slice a n cap, .int .i64 l.players, .int .i64 l.turns, .bool l.won] 27)).alloc (.cells #[.int .i64 sl, .bool si] 29)) (.cells #[.int .i64 nl, .bool ni] 29)
    simp only [World.size_alloc] at this
    exact this
  have hs1 : w1.heap.size = N + 3 := by rw [← hw1]; simp; omega
  have n0 : w1.cell? ⟨N + 2, 0, none⟩ = some (.int .i64 nl) := by rw [cell_of_heap kn]; rfl
  have n1 : w1.cell? ⟨N + 2, 1, none⟩ = some (.bool ni) := by rw [cell_of_heap kn]; rfl
  have hown : ∀ g, (Value.slice va m vc).ownBlock = some g → base ≤ g ∧ g < N := fun g hg => by rw [← hN]; exact hrow.lt g hg
  have HM1 : Hid (MoSt base w1 (.slice va m vc) (.slice va m vc) rows w1) := Lib.hid ⟨by rw [hm]; exact ownsN_below hrow hb1, ⟨rfl, rfl, rfl, Nat.le_refl _, fun _ _ _ => rfl⟩, fun g hg => .inl hg⟩
  have HB := Lib.hid hb1
  have HW := Lib.hid hw1
  have HN := Lib.hid hN
  have HLN := Lib.hid hn
  have HMN := Lib.hid hm
  have HS := Lib.hid (hs.below hb1)
  have HSB := Lib.hid hS
  have HOWN := Lib.hid hown
  have HKL := Lib.hid kl
  have HKS := Lib.hid ks
  have HKN := Lib.hid kn
  have HS1 := Lib.hid hs1
  have HIH := Lib.hid IH
  have HV := Lib.hid hv
  have HBD := Lib.hid hbd
  have hN2 : N + 2 < w1.heap.size := by omega
  have hbN : base ≤ N := by omega
  rw [hN] at hbase
  unfold legV legA stV
  simp only
  clear hw1 hb1 kl ks kn hs hn hm hS hown hs1 IH hv hrow hbd hN
  go_enter Tryz.func56, Tryz.ntmps56
  go_upto_region 1 with fail
  rw [HW.out, HN.out]
  cases k with
  | zero =>
    obtain rfl : d = 3 := by omega
    have hle : m ≤ 1000 := by have := HBD.out; omega
    have hb0 : base ≤ w1.heap.size + 1 := by omega
    have HA := Lib.hid (MoSt.below HM1.out (aB w1 (.cells #[.int .i64 nl, .bool ni, .bool false, .int .i64 3] 44)))
    have HRA : Hid ((w1.alloc (.cells #[.int .i64 nl, .bool ni, .bool false, .int .i64 3] 44)).ownsRow base 44 4 (.slice va m vc) m rows.flatten) := Lib.hid (by have := HA.out.row; rw [HMN.out] at this; exact this)
    go_wp2_with (at_builtin; refine wpList_appendN rfl (.tmp 17) (.tmp 20) 40 rfl base 44 (.agg #[.int .i64 0, .bool false, .bool false, .int .i64 0]) 4 32 Tryz.underlying40 info_vis5 rfl (by decide) (.slice va m vc) m rows.flatten rfl HRA.out w1.heap.size 0 1 1 (visRow ⟨nl, ni, false, false⟩ 3) rfl rfl (fun j u hj => by rw [cell_of_heap (World.alloc_heap_new _ _), Nat.zero_add]; simpa [visRow] using hj) (visRow_one _ _) (by omega) (by decide) (by simp; omega) ?_)
    intro v2 w2 ho2 hg2 hat2
    have HM2 := Lib.hid ((HM1.out.app (aB _ _) (by rw [HMN.out]; exact ho2) hg2 (by simpa using hat2)).enter HB.out)
    clear ho2 hg2 hat2 HA HRA
    go_wp2
    go_returns
    exact ⟨_, rfl, by rw [newR_zero]; exact HM2.out⟩
  | succ k =>
    have hd0 : ((d : Int) == 3) = false := beq_eq_false_iff_ne.2 (by omega)
    have hwd : IntKind.i64.wrap ((d : Int) + 1) = (d : Int) + 1 := wrap_small _ (by omega) (by omega)
    have hpz := preR_zero (l := l) (start := ⟨sl, si⟩) (d := d) (k := k) (now := ⟨nl, ni⟩)
    have hpl0 := preR_le (l := l) (start := ⟨sl, si⟩) (d := d) (k := k) (now := ⟨nl, ni⟩) (i := 0) (Nat.zero_le _)
    have hcall : Calls Tryz.prog 56 #[.agg #[.int .i64 l.start, .int .i64 l.gin, .int .i64 l.gout, .slice a n cap, .int .i64 l.players, .int .i64 l.turns, .bool l.won], .agg #[.int .i64 sl, .bool si], .agg #[.int .i64 nl, .bool ni], .int .i64 ((d : Int) + 1), .slice va m vc] w1 fun e w' => ∃ v', e = .returned v' ∧ MoSt base w1 (.slice va m vc) v' (rows ++ preR l ⟨sl, si⟩ d k ⟨nl, ni⟩ 0) w' := by
      rw [hpz]
      exact HIH.out k rfl S (.slice a n cap) ⟨sl, si⟩ ⟨nl, ni⟩ (d + 1) (.slice va m vc) rows base w1 (by omega) hnow HS.out HSB.out HM1.out.row (by omega) (by rw [HMN.out]; have := HBD.out; rw [hpz] at hpl0; omega)
    have HCALL := Lib.hid hcall
    have c0 : w1.cell? ⟨N, 0, none⟩ = some (.int .i64 l.start) := by rw [cell_of_heap HKL.out]; rfl
    have c1 : w1.cell? ⟨N, 1, none⟩ = some (.int .i64 l.gin) := by rw [cell_of_heap HKL.out]; rfl
    have c2 : w1.cell? ⟨N, 2, none⟩ = some (.int .i64 l.gout) := by rw [cell_of_heap HKL.out]; rfl
    have c3 : w1.cell? ⟨N, 3, none⟩ = some (.slice a n cap) := by rw [cell_of_heap HKL.out]; rfl
    have c4 : w1.cell? ⟨N, 4, none⟩ = some (.int .i64 l.players) := by rw [cell_of_heap HKL.out]; rfl
    have c5 : w1.cell? ⟨N, 5, none⟩ = some (.int .i64 l.turns) := by rw [cell_of_heap HKL.out]; rfl
    have c6 : w1.cell? ⟨N, 6, none⟩ = some (.bool l.won) := by rw [cell_of_heap HKL.out]; rfl
    have s0 : w1.cell? ⟨N + 1, 0, none⟩ = some (.int .i64 sl) := by rw [cell_of_heap HKS.out]; rfl
    have s1 : w1.cell? ⟨N + 1, 1, none⟩ = some (.bool si) := by rw [cell_of_heap HKS.out]; rfl
    clear hcall hpz hpl0
    go_wp2_with fail
    refine HCALL.out.mono ?_
    rintro e w2 ⟨v2, rfl, hm2⟩
    have HM2 := Lib.hid hm2
    clear hm2 HCALL c0 c1 c2 c3 c4 c5 c6 s0 s1 n0 n1
    go_wp2
    go_loopw [4, 11] (fun ov iv wr => ∃ i : Nat, i ≤ n ∧ iv = .int .i64 i ∧ Hid (MoSt base w1 (.slice va m vc) ov (rows ++ preR l ⟨sl, si⟩ d k ⟨nl, ni⟩ i) wr)) (fun _ iv _ => n - (intOf iv).toNat)
    case atStart => exact ⟨0, by omega, by go_num, HM2⟩
    case round =>
      clear HM2 HM1
      obtain ⟨i, hi, rfl, HMi⟩ := hrel
      obtain ⟨wo, rfl⟩ : ∃ wo : World, wo = wr := ⟨_, rfl⟩
      obtain ⟨oa, oc, hov⟩ := owns_form HMi.out.row
      subst hov
      obtain ⟨q, hq⟩ : ∃ q, (rows ++ preR l ⟨sl, si⟩ d k ⟨nl, ni⟩ i).length = q := ⟨_, rfl⟩
      rw [hq] at HMi ⊢
      have HQ := Lib.hid hq
      clear hq
      have hgN : ∀ q', N ≤ q' → (Value.slice va m vc).ownBlock ≠ some q' := fun q' h e => by have := HOWN.out q' e; omega
      have hkl := (HMi.out.block (q := N) (by omega) (hgN _ (Nat.le_refl _))).trans HKL.out
      have hks := (HMi.out.block (q := N + 1) (by omega) (hgN _ (by omega))).trans HKS.out
      have hkn := (HMi.out.block (q := N + 2) (by omega) (hgN _ (by omega))).trans HKN.out
      have hsz : w1.heap.size ≤ wo.heap.size := HMi.out.gr.size
      have c0 : wo.cell? ⟨N, 0, none⟩ = some (.int .i64 l.start) := by rw [cell_of_heap hkl]; rfl
      have c1 : wo.cell? ⟨N, 1, none⟩ = some (.int .i64 l.gin) := by rw [cell_of_heap hkl]; rfl
      have c2 : wo.cell? ⟨N, 2, none⟩ = some (.int .i64 l.gout) := by rw [cell_of_heap hkl]; rfl
      have c3 : wo.cell? ⟨N, 3, none⟩ = some (.slice a n cap) := by rw [cell_of_heap hkl]; rfl
      have c4 : wo.cell? ⟨N, 4, none⟩ = some (.int .i64 l.players) := by rw [cell_of_heap hkl]; rfl
      have c5 : wo.cell? ⟨N, 5, none⟩ = some (.int .i64 l.turns) := by rw [cell_of_heap hkl]; rfl
      have c6 : wo.cell? ⟨N, 6, none⟩ = some (.bool l.won) := by rw [cell_of_heap hkl]; rfl
      have s0 : wo.cell? ⟨N + 1, 0, none⟩ = some (.int .i64 sl) := by rw [cell_of_heap hks]; rfl
      have s1 : wo.cell? ⟨N + 1, 1, none⟩ = some (.bool si) := by rw [cell_of_heap hks]; rfl
      have n0 : wo.cell? ⟨N + 2, 0, none⟩ = some (.int .i64 nl) := by rw [cell_of_heap hkn]; rfl
      have n1 : wo.cell? ⟨N + 2, 1, none⟩ = some (.bool ni) := by rw [cell_of_heap hkn]; rfl
      have hso : Sl S wo (.slice a n cap) (ints l.beds) := HS.out.cells fun b o hb hs => by
        obtain ⟨x, hx⟩ := Option.isSome_iff_exists.1 hs
        exact World.cell?_of_block (w := w1) (HMi.out.block (World.block_lt_of_cell? w1 _ hx) fun e => by have := HOWN.out b e; have := HSB.out b hb; omega)
      have HSO := Lib.hid hso
      clear hgN hkl hks hkn hso
      by_cases hlt : i < n
      · have hil : i < l.beds.length := by rw [HLN.out]; exact hlt
        have hps := preR_succ (l := l) (start := ⟨sl, si⟩) (d := d) (k := k) (now := ⟨nl, ni⟩) hil
        have hph := pre_hit (l := l) (start := ⟨sl, si⟩) (d := d) (k := k) (now := ⟨nl, ni⟩) hil
        obtain ⟨x, hxx⟩ : ∃ x, l.beds[i] = x := ⟨_, rfl⟩
        have hxbed : isBed5 x = true := by rw [← hxx]; exact HV.out.bed _ (List.getElem_mem _)
        obtain ⟨b, off, rfl, -, hc⟩ := Sl.at_ HSO.out (intsAt hil)
        rw [hxx] at hc hps hph
        have hwi : IntKind.i64.wrap ((i : Int) + 1) = (i : Int) + 1 := wrap_small _ (by omega) (by omega)
        have HPS := Lib.hid hps
        have HPH : Hid (q + (hitR l ⟨sl, si⟩ d k ⟨nl, ni⟩ (hitB5 l x)).length ≤ 1000) := Lib.hid (by have h1 := HBD.out; have h2 := HQ.out; rw [List.length_append, HMN.out] at h2; omega)
        have HXB := Lib.hid hxbed
        clear hps hph hxx hil hxbed
        have HCC := Lib.hid (And.intro c0 (And.intro c1 (And.intro c2 (And.intro c3 (And.intro c4 (And.intro c5 (And.intro c6 (And.intro s0 (And.intro s1 (And.intro n0 n1))))))))))
        go_upto_region 7 with fail
        refine wp_region_seq 8 [.is (.pointer (some ⟨N, 3, none⟩)), .is (.slice (some ⟨b, off, none⟩) n cap), .is (.int .i64 (i : Int)), .is (.pointer (some ⟨b, off + i, none⟩)), .is (.int .i64 x), .is (.agg #[.int .i64 nl, .bool ni]), kBox wo.heap.size 29 #[.int .i64 0, .bool false], .is (.int .i64 x)] rfl mix (by kernel_rfl) (by kernel_rfl) ?seqm
        case seqm =>
          simp only [List.take_succ_cons, List.take_zero]
          iterate 6
            refine seq_on (by rfl) (fun w3 hb3 _ => ?_) ?_
            · have c3' := bAt hb3 c3
              have hc' := bAt hb3 hc
              have n0' := bAt hb3 n0
              have n1' := bAt hb3 n1
              simp [opOK, go_sem, c3', hc', n0', n1', hlt, Below.refl]
              try exact rfl
            simp only [Act.put, List.setIfInBounds_toArray, List.set_cons_succ, List.set_cons_zero]
          refine seq_new ⟨_, 0, rfl⟩ (by rfl) (fun w3 hb3 _ => ?_) ?_
          · exact opOK_alloc (by kernel_rfl) hb3.size
          rintro _ ⟨D, rfl⟩
          simp only [Act.put, List.setIfInBounds_toArray, List.set_cons_succ, List.set_cons_zero]
          refine seq_on (by rfl) (fun w3 hb3 _ => ?_) ?_
          · have c3' := bAt hb3 c3
            have hc' := bAt hb3 hc
            have n0' := bAt hb3 n0
            have n1' := bAt hb3 n1
            simp [opOK, go_sem, Below.refl]
            try exact rfl
          simp only [Act.put, List.setIfInBounds_toArray, List.set_cons_succ, List.set_cons_zero]
          refine seq_end fun w3 hb3 hH => ?_
          have hbx : (kBox wo.heap.size 29 #[.int .i64 0, .bool false]).p (.pointer (some ⟨D, 0, none⟩)) w3 := by
            have := hH 6 (by omega)
            simpa [addH] using this
          obtain ⟨D', eD, hD3, hp3⟩ := hbx
          cases eD
          simp only [List.drop_succ_cons, List.drop_zero]
          refine wpList_opOK rfl (opOK_store_row (R := fun _ w' => w' = w3.setRow D #[.int .i64 nl, .bool ni]) 29 (.tmp 13) (.tmp 41) rfl D #[.int .i64 nl, .bool ni] rfl rfl 29 _ hp3 (by kernel_rfl) rfl (by simp [Value.oneCell']) rfl) ?_
          rintro _ _ rfl
          have hby : Below wo.heap.size wo (w3.setRow D #[.int .i64 nl, .bool ni]) := below_setRow hb3 hD3 _
          have hpy := setRow_heap w3 D _ #[.int .i64 nl, .bool ni] _ _ hp3
          obtain ⟨wy, hwy⟩ : ∃ wy, w3.setRow D #[.int .i64 nl, .bool ni] = wy := ⟨_, rfl⟩
          rw [hwy] at hby hpy ⊢
          have HPY := Lib.hid hpy
          have y0 : wy.cell? ⟨D, 0, none⟩ = some (.int .i64 nl) := by rw [cell_of_heap hpy]; rfl
          have y1 : wy.cell? ⟨D, 1, none⟩ = some (.bool ni) := by rw [cell_of_heap hpy]; rfl
          have HBY := Lib.hid hby
          have HD3 := Lib.hid hD3
          have hszy := hby.size
          clear c0 c1 c2 c3 c4 c5 c6 s0 s1 n0 n1
          obtain ⟨c0, c1, c2, c3, c4, c5, c6, s0, s1, n0, n1⟩ := HCC.out
          replace c0 := bAt hby c0
          replace c1 := bAt hby c1
          replace c2 := bAt hby c2
          replace c3 := bAt hby c3
          replace c4 := bAt hby c4
          replace c5 := bAt hby c5
          replace c6 := bAt hby c6
          replace s0 := bAt hby s0
          replace s1 := bAt hby s1
          replace n0 := bAt hby n0
          replace n1 := bAt hby n1
          clear hb3 hH hp3 hby hpy hwy hc
          have hx63 : -2 ^ 63 ≤ x ∧ x < 2 ^ 63 ∧ x ≠ 0 := by
            have h := HXB.out
            have hs := bed_score h
            have h1 : x = 100 * x.tdiv 100 + x.tmod 100 := (Int.mul_tdiv_add_tmod x 100).symm
            omega
          have HX63 : Hid (-2 ^ 63 ≤ x ∧ x < 2 ^ 63) := Lib.hid ⟨hx63.1, hx63.2.1⟩
          have HX0 : Hid (x ≠ 0) := Lib.hid hx63.2.2
          clear hx63
          cases ni
          · obtain ⟨ob, hob⟩ : ∃ p, opens5 x l.gin = p := ⟨_, rfl⟩
            have hoc := refOpens_any x l.gin HX63.out HX0.out HV.out.gin wy
            rw [hob] at hoc
            have HOB := Lib.hid hob
            clear hob
            go_wp2_with fail
            refine hoc.mono ?_
            rintro e w6' ⟨rfl, rfl⟩
            clear hoc
            cases ob
            · skip
              have hcall : Calls Tryz.prog 56 #[.agg #[.int .i64 l.start, .int .i64 l.gin, .int .i64 l.gout, .slice (some ⟨b, off, none⟩) n cap, .int .i64 l.players, .int .i64 l.turns, .bool l.won], .agg #[.int .i64 sl, .bool si], .agg #[.int .i64 nl, .bool false], .int .i64 ((d : Int) + 1), .slice oa q oc] wy fun e w' => ∃ v', e = .returned v' ∧ MoSt base wy (.slice oa q oc) v' ((rows ++ preR l ⟨sl, si⟩ d k ⟨nl, false⟩ i) ++ hitR l ⟨sl, si⟩ d k ⟨nl, false⟩ (hitB5 l x)) w' := by
                have hph := HPH.out
                rw [hit_shut (now := ⟨nl, false⟩) rfl HOB.out] at hph ⊢
                exact HIH.out k rfl S (.slice (some ⟨b, off, none⟩) n cap) ⟨sl, si⟩ ⟨nl, false⟩ (d + 1) (.slice oa q oc) (rows ++ preR l ⟨sl, si⟩ d k ⟨nl, false⟩ i) base wy (by omega) hnow (HSO.out.below HBY.out) HSB.out (HMi.out.below HBY.out).row (by have := HBY.out.size; omega) (by rw [HQ.out]; exact hph)
              have HCALL := Lib.hid hcall
              clear hcall
              go_wp2_with fail
              refine HCALL.out.mono ?_
              rintro e w9 ⟨v6, rfl, hm6⟩
              have HMn : Hid (MoSt base w1 (.slice va m vc) v6 (rows ++ preR l ⟨sl, si⟩ d k ⟨nl, false⟩ (i + 1)) w9) := Lib.hid (by
                rw [HPS.out, ← List.append_assoc]
                exact (HMi.out.below HBY.out).next hm6.row hm6.gr hm6.at_)
              clear hm6 HCALL HMi HSO
              go_wp2
              go_roundw
              case rel => exact ⟨i + 1, by omega, by go_num, HMn⟩
              case measure => simp [intOf]; omega
            · skip
              have HOPEN : Hid (((false : Bool) || opens5 x l.gin) = true) := Lib.hid (by rw [HOB.out]; rfl)
              have hsc := bed_score HXB.out
              obtain ⟨pt, hpt⟩ : ∃ p, x.tdiv 100 * x.tmod 100 = p := ⟨_, rfl⟩
              rw [hpt] at hsc
              obtain ⟨rr, hrr⟩ : ∃ p, nl - pt = p := ⟨_, rfl⟩
              have hwr : IntKind.i64.wrap (nl - pt) = rr := by rw [hrr]; exact wrap_small _ (by omega) (by omega)
              have hrb : rr ≤ 1001 := by omega
              obtain ⟨lw, hlw⟩ : ∃ p, low5 l.gout = p := ⟨_, rfl⟩
              have hlw1 : 1 ≤ lw := by rw [← hlw]; unfold low5; split <;> omega
              have HPTS : Hid (∀ w3, Calls Tryz.prog 88 #[.int .i64 x] w3 fun e w' => e = .returned (.int .i64 pt) ∧ w3 = w') := Lib.hid (fun w3 => by rw [← hpt]; exact refPoints_any x HXB.out w3)
              have HLOWC : Hid (∀ w3, Calls Tryz.prog 55 #[.int .i64 l.gout] w3 fun e w' => e = .returned (.int .i64 lw) ∧ w3 = w') := Lib.hid (fun w3 => by rw [← hlw]; exact refLow_any _ w3)
              have HPT := Lib.hid hpt
              have HRR := Lib.hid hrr
              have HLW := Lib.hid hlw
              have hwz0 : wy.frozen? ⟨D, 1, none⟩ = false := frozen_of_heap HPY.out
              obtain ⟨wz, hwz⟩ : ∃ y, wy.setCell ⟨D, 1, none⟩ (.bool true) = y := ⟨_, rfl⟩
              have hpz : wz.heap[D]? = some (.cells #[.int .i64 nl, .bool true] 29 (0, 0)) := by rw [← hwz]; exact heap_setCell_at HPY.out _
              have hbz : Below wo.heap.size wo wz := by rw [← hwz]; exact HBY.out.setCell HD3.out _
              have z0 : wz.cell? ⟨D, 0, none⟩ = some (.int .i64 nl) := by rw [cell_of_heap hpz]; rfl
              have HBZ := Lib.hid hbz
              have HPZ := Lib.hid hpz
              have HWZ := Lib.hid hwz
              clear hpt hlw hwz hpz hrr
              go_upto_region 11 with fail
              rw [HWZ.out]
              clear c0 c1 c2 c3 c4 c5 c6 s0 s1 n0 n1
              obtain ⟨c0, c1, c2, c3, c4, c5, c6, s0, s1, n0, n1⟩ := HCC.out
              replace c0 := bAt hbz c0
              replace c1 := bAt hbz c1
              replace c2 := bAt hbz c2
              replace c3 := bAt hbz c3
              replace c4 := bAt hbz c4
              replace c5 := bAt hbz c5
              replace c6 := bAt hbz c6
              replace s0 := bAt hbz s0
              replace s1 := bAt hbz s1
              replace n0 := bAt hbz n0
              replace n1 := bAt hbz n1
              clear hbz y0 y1 hwz0 HWZ
              refine wp_region_seq 6 [.is (.pointer (some ⟨D, 0, none⟩)), .is (.int .i64 nl), .is (.int .i64 x), .is (.int .i64 pt), .is (.int .i64 rr), .is (.int .i64 rr)] rfl mix (by kernel_rfl) (by kernel_rfl) ?seqm
              case seqm =>
                simp only [List.take_succ_cons, List.take_zero]
                iterate 3
                  refine seq_on (by rfl) (fun w3 hb3 _ => ?_) ?_
                  · have z0' := bAt hb3 z0
                    simp [opOK, go_sem, z0', Below.refl]
                    try exact rfl
                  simp only [Act.put, List.setIfInBounds_toArray, List.set_cons_succ, List.set_cons_zero]
                refine seq_on (by rfl) (fun w3 hb3 hH => ?_) ?_
                · refine opOK_call (f := 88) (args := #[.int .i64 x]) (by simp [go_sem]) ?_
                  exact (HPTS.out w3).mono fun e W' ⟨he, hb⟩ => ⟨_, he, rfl, by rw [← hb]; exact Below.refl _ _⟩
                simp only [Act.put, List.setIfInBounds_toArray, List.set_cons_succ, List.set_cons_zero]
                iterate 2
                  refine seq_on (by rfl) (fun w3 hb3 _ => ?_) ?_
                  · have z0' := bAt hb3 z0
                    simp [opOK, go_sem, hwr, Below.refl]
                    try exact rfl
                  simp only [Act.put, List.setIfInBounds_toArray, List.set_cons_succ, List.set_cons_zero]
                refine seq_end fun w5 hb5 _ => ?_
                simp only [List.drop_succ_cons, List.drop_zero]
                have hb5' := HBZ.out.trans (hb5.mono HBZ.out.size)
                have HP5 := Lib.hid ((hb5.block D (Array.getElem?_eq_some_iff.1 HPZ.out).1).trans HPZ.out)
                have HB5 := Lib.hid hb5'
                clear c0 c1 c2 c3 c4 c5 c6 s0 s1 n0 n1
                obtain ⟨c0, c1, c2, c3, c4, c5, c6, s0, s1, n0, n1⟩ := HCC.out
                replace c0 := bAt hb5' c0
                replace c1 := bAt hb5' c1
                replace c2 := bAt hb5' c2
                replace c3 := bAt hb5' c3
                replace c4 := bAt hb5' c4
                replace c5 := bAt hb5' c5
                replace c6 := bAt hb5' c6
                replace s0 := bAt hb5' s0
                replace s1 := bAt hb5' s1
                replace n0 := bAt hb5' n0
                replace n1 := bAt hb5' n1
                have z0 := bAt hb5 z0
                clear hb5 hb5' hwr
                by_cases hr0 : rr = 0
                · have d13 : (rr == 0) = true := beq_iff_eq.2 hr0
                  have HR0 := Lib.hid hr0
                  obtain ⟨oo, hoo⟩ : ∃ p, opens5 x l.gout = p := ⟨_, rfl⟩
                  have hoc := refOpens_any x l.gout HX63.out HX0.out HV.out.gout w5
                  rw [hoo] at hoc
                  have HOO := Lib.hid hoo
                  clear hr0 hoo
                  go_wp2_with fail
                  refine hoc.mono ?_
                  rintro e w6' ⟨rfl, rfl⟩
                  clear hoc
                  cases oo
                  · skip
                    have HNW : Hid (¬ (nl - x.tdiv 100 * x.tmod 100 = 0 ∧ opens5 x l.gout = true)) := Lib.hid (by rw [HOO.out]; rintro ⟨_, h⟩; cases h)
                    go_wp2_with fail
                    refine (HLOWC.out _).mono ?_
                    rintro e w7' ⟨rfl, rfl⟩
                    by_cases hlr : lw ≤ rr
                    · have d15 : decide (lw ≤ rr) = true := decide_eq_true hlr
                      have HLE : Hid (low5 l.gout ≤ nl - x.tdiv 100 * x.tmod 100) := Lib.hid (by rw [HLW.out, HPT.out, HRR.out]; exact hlr)
                      obtain ⟨w8, hw8⟩ : ∃ y, w5.setCell ⟨D, 0, none⟩ (.int .i64 rr) = y := ⟨_, rfl⟩
                      have hp8 : w8.heap[D]? = some (.cells #[.int .i64 rr, .bool true] 29 (0, 0)) := by rw [← hw8]; exact heap_setCell_at HP5.out _
                      have hb8 : Below wo.heap.size wo w8 := by rw [← hw8]; exact HB5.out.setCell HD3.out _
                      have u0 : w8.cell? ⟨D, 0, none⟩ = some (.int .i64 rr) := by rw [cell_of_heap hp8]; rfl
                      have u1 : w8.cell? ⟨D, 1, none⟩ = some (.bool true) := by rw [cell_of_heap hp8]; rfl
                      have f0 : w5.frozen? ⟨D, 0, none⟩ = false := frozen_of_heap HP5.out
                      have HB8 := Lib.hid hb8
                      have HW8 := Lib.hid hw8
                      clear hw8 hp8
                      go_upto_region 17 with fail
                      rw [HW8.out]
                      clear c0 c1 c2 c3 c4 c5 c6 s0 s1 n0 n1
                      obtain ⟨c0, c1, c2, c3, c4, c5, c6, s0, s1, n0, n1⟩ := HCC.out
                      replace c0 := bAt hb8 c0
                      replace c1 := bAt hb8 c1
                      replace c2 := bAt hb8 c2
                      replace c3 := bAt hb8 c3
                      replace c4 := bAt hb8 c4
                      replace c5 := bAt hb8 c5
                      replace c6 := bAt hb8 c6
                      replace s0 := bAt hb8 s0
                      replace s1 := bAt hb8 s1
                      replace n0 := bAt hb8 n0
                      replace n1 := bAt hb8 n1
                      clear hb8 z0 f0 HW8
                      have hcall : Calls Tryz.prog 56 #[.agg #[.int .i64 l.start, .int .i64 l.gin, .int .i64 l.gout, .slice (some ⟨b, off, none⟩) n cap, .int .i64 l.players, .int .i64 l.turns, .bool l.won], .agg #[.int .i64 sl, .bool si], .agg #[.int .i64 rr, .bool true], .int .i64 ((d : Int) + 1), .slice oa q oc] w8 fun e w' => ∃ v', e = .returned v' ∧ MoSt base w8 (.slice oa q oc) v' ((rows ++ preR l ⟨sl, si⟩ d k ⟨nl, false⟩ i) ++ hitR l ⟨sl, si⟩ d k ⟨nl, false⟩ (hitB5 l x)) w' := by
                        have hph := HPH.out
                        rw [show hitR l ⟨sl, si⟩ d k ⟨nl, false⟩ (hitB5 l x) = newR l ⟨sl, si⟩ (d + 1) k ⟨rr, true⟩ by rw [← HRR.out, ← HPT.out]; exact hit_on HXB.out HOPEN.out HNW.out HLE.out] at hph ⊢
                        exact HIH.out k rfl S (.slice (some ⟨b, off, none⟩) n cap) ⟨sl, si⟩ ⟨rr, true⟩ (d + 1) (.slice oa q oc) (rows ++ preR l ⟨sl, si⟩ d k ⟨nl, false⟩ i) base w8 (by omega) ⟨by show 0 ≤ rr; omega, by show rr ≤ 1001; omega⟩ (HSO.out.below HB8.out) HSB.out (HMi.out.below HB8.out).row (by have := HB8.out.size; omega) (by rw [HQ.out]; exact hph)
                      have HCALL := Lib.hid hcall
                      clear hcall
                      go_wp2_with fail
                      refine HCALL.out.mono ?_
                      rintro e w9 ⟨v6, rfl, hm6⟩
                      have HMn : Hid (MoSt base w1 (.slice va m vc) v6 (rows ++ preR l ⟨sl, si⟩ d k ⟨nl, false⟩ (i + 1)) w9) := Lib.hid (by
                        rw [HPS.out, ← List.append_assoc]
                        exact (HMi.out.below HB8.out).next hm6.row hm6.gr hm6.at_)
                      clear hm6 HCALL HMi HSO
                      go_wp2
                      go_roundw
                      case rel => exact ⟨i + 1, by omega, by go_num, HMn⟩
                      case measure => simp [intOf]; omega
                    · have d15 : decide (lw ≤ rr) = false := decide_eq_false hlr
                      have HLE : Hid (nl - x.tdiv 100 * x.tmod 100 < low5 l.gout) := Lib.hid (by rw [HLW.out, HPT.out, HRR.out]; exact Int.not_le.1 hlr)
                      have HA : Hid ((w5.alloc (.cells #[.int .i64 sl, .bool si, .bool false, .int .i64 ((d : Int) + 1)] 44)).ownsRow base 44 4 (.slice oa q oc) q (rows ++ preR l ⟨sl, si⟩ d k ⟨nl, false⟩ i).flatten ∧ base ≤ (w5.alloc (.cells #[.int .i64 sl, .bool si, .bool false, .int .i64 ((d : Int) + 1)] 44)).heap.size) := Lib.hid (by
                        have h1 := ((HMi.out.below HB5.out).below (aB w5 (.cells #[.int .i64 sl, .bool si, .bool false, .int .i64 ((d : Int) + 1)] 44))).row
                        rw [HQ.out] at h1
                        exact ⟨h1, by have := HB5.out.size; simp; omega⟩)
                      have hq1 : q + 1 ≤ 100000 := by have := HPH.out; omega
                      go_wp2_with (at_builtin; refine wpList_appendN rfl (.tmp 66) (.tmp 71) 40 rfl base 44 (.agg #[.int .i64 0, .bool false, .bool false, .int .i64 0]) 4 32 Tryz.underlying40 info_vis5 rfl (by decide) (.slice oa q oc) q (rows ++ preR l ⟨sl, si⟩ d k ⟨nl, false⟩ i).flatten rfl HA.out.1 w5.heap.size 0 1 1 (visRow (⟨sl, si⟩ : Std).en (d + 1)) rfl rfl (fun j u hj => by rw [cell_of_heap (World.alloc_heap_new _ _), Nat.zero_add]; simpa [visRow, Std.en] using hj) (visRow_one _ _) hq1 (by decide) HA.out.2 ?_)
                      intro v6 w6 ho6 hg6 hat6
                      have HMn : Hid (MoSt base w1 (.slice va m vc) v6 (rows ++ preR l ⟨sl, si⟩ d k ⟨nl, false⟩ (i + 1)) w6) := Lib.hid (by
                        rw [HPS.out, hit_bust HXB.out HOPEN.out HNW.out (Int.not_le.2 HLE.out), ← List.append_assoc]
                        exact (HMi.out.below HB5.out).app (aB w5 (.cells #[.int .i64 sl, .bool si, .bool false, .int .i64 ((d : Int) + 1)] 44)) (by rw [HQ.out, List.flatten_append, List.append_assoc]; exact ho6) hg6 (by simpa using hat6))
                      clear ho6 hg6 hat6 HA HMi HSO
                      go_wp2
                      go_roundw
                      case rel => exact ⟨i + 1, by omega, by go_num, HMn⟩
                      case measure => simp [intOf]; omega
                  · skip
                    have HA : Hid ((w5.alloc (.cells #[.int .i64 0, .bool true, .bool true, .int .i64 ((d : Int) + 1)] 44)).ownsRow base 44 4 (.slice oa q oc) q (rows ++ preR l ⟨sl, si⟩ d k ⟨nl, false⟩ i).flatten ∧ base ≤ (w5.alloc (.cells #[.int .i64 0, .bool true, .bool true, .int .i64 ((d : Int) + 1)] 44)).heap.size) := Lib.hid (by
                      have h1 := ((HMi.out.below HB5.out).below (aB w5 (.cells #[.int .i64 0, .bool true, .bool true, .int .i64 ((d : Int) + 1)] 44))).row
                      rw [HQ.out] at h1
                      exact ⟨h1, by have := HB5.out.size; simp; omega⟩)
                    have hq1 : q + 1 ≤ 100000 := by have := HPH.out; omega
                    go_wp2_with (at_builtin; refine wpList_appendN rfl (.tmp 83) (.tmp 88) 40 rfl base 44 (.agg #[.int .i64 0, .bool false, .bool false, .int .i64 0]) 4 32 Tryz.underlying40 info_vis5 rfl (by decide) (.slice oa q oc) q (rows ++ preR l ⟨sl, si⟩ d k ⟨nl, false⟩ i).flatten rfl HA.out.1 w5.heap.size 0 1 1 (visRow ⟨0, true, false, true⟩ (d + 1)) rfl rfl (fun j u hj => by rw [cell_of_heap (World.alloc_heap_new _ _), Nat.zero_add]; simpa [visRow, Std.en] using hj) (visRow_one _ _) hq1 (by decide) HA.out.2 ?_)
                    intro v6 w6 ho6 hg6 hat6
                    have HMn : Hid (MoSt base w1 (.slice va m vc) v6 (rows ++ preR l ⟨sl, si⟩ d k ⟨nl, false⟩ (i + 1)) w6) := Lib.hid (by
                      rw [HPS.out, hit_won HXB.out HOPEN.out ⟨by rw [HPT.out, HRR.out]; exact HR0.out, HOO.out⟩, ← List.append_assoc]
                      exact (HMi.out.below HB5.out).app (aB w5 (.cells #[.int .i64 0, .bool true, .bool true, .int .i64 ((d : Int) + 1)] 44)) (by rw [HQ.out, List.flatten_append, List.append_assoc]; exact ho6) hg6 (by simpa using hat6))
                    clear ho6 hg6 hat6 HA HMi HSO
                    go_wp2
                    go_roundw
                    case rel => exact ⟨i + 1, by omega, by go_num, HMn⟩
                    case measure => simp [intOf]; omega
                · have d13 : (rr == 0) = false := beq_eq_false_iff_ne.2 hr0
                  have HNW : Hid (¬ (nl - x.tdiv 100 * x.tmod 100 = 0 ∧ opens5 x l.gout = true)) := Lib.hid (by rw [HPT.out, HRR.out]; exact fun h => hr0 h.1)
                  go_wp2_with fail
                  refine (HLOWC.out _).mono ?_
                  rintro e w7' ⟨rfl, rfl⟩
                  by_cases hlr : lw ≤ rr
                  · have d15 : decide (lw ≤ rr) = true := decide_eq_true hlr
                    have HLE : Hid (low5 l.gout ≤ nl - x.tdiv 100 * x.tmod 100) := Lib.hid (by rw [HLW.out, HPT.out, HRR.out]; exact hlr)
                    obtain ⟨w8, hw8⟩ : ∃ y, w5.setCell ⟨D, 0, none⟩ (.int .i64 rr) = y := ⟨_, rfl⟩
                    have hp8 : w8.heap[D]? = some (.cells #[.int .i64 rr, .bool true] 29 (0, 0)) := by rw [← hw8]; exact heap_setCell_at HP5.out _
                    have hb8 : Below wo.heap.size wo w8 := by rw [← hw8]; exact HB5.out.setCell HD3.out _
                    have u0 : w8.cell? ⟨D, 0, none⟩ = some (.int .i64 rr) := by rw [cell_of_heap hp8]; rfl
                    have u1 : w8.cell? ⟨D, 1, none⟩ = some (.bool true) := by rw [cell_of_heap hp8]; rfl
                    have f0 : w5.frozen? ⟨D, 0, none⟩ = false := frozen_of_heap HP5.out
                    have HB8 := Lib.hid hb8
                    have HW8 := Lib.hid hw8
                    clear hw8 hp8
                    go_upto_region 17 with fail
                    rw [HW8.out]
                    clear c0 c1 c2 c3 c4 c5 c6 s0 s1 n0 n1
                    obtain ⟨c0, c1, c2, c3, c4, c5, c6, s0, s1, n0, n1⟩ := HCC.out
                    replace c0 := bAt hb8 c0
                    replace c1 := bAt hb8 c1
                    replace c2 := bAt hb8 c2
                    replace c3 := bAt hb8 c3
                    replace c4 := bAt hb8 c4
                    replace c5 := bAt hb8 c5
                    replace c6 := bAt hb8 c6
                    replace s0 := bAt hb8 s0
                    replace s1 := bAt hb8 s1
                    replace n0 := bAt hb8 n0
                    replace n1 := bAt hb8 n1
                    clear hb8 z0 f0 HW8
                    have hcall : Calls Tryz.prog 56 #[.agg #[.int .i64 l.start, .int .i64 l.gin, .int .i64 l.gout, .slice (some ⟨b, off, none⟩) n cap, .int .i64 l.players, .int .i64 l.turns, .bool l.won], .agg #[.int .i64 sl, .bool si], .agg #[.int .i64 rr, .bool true], .int .i64 ((d : Int) + 1), .slice oa q oc] w8 fun e w' => ∃ v', e = .returned v' ∧ MoSt base w8 (.slice oa q oc) v' ((rows ++ preR l ⟨sl, si⟩ d k ⟨nl, false⟩ i) ++ hitR l ⟨sl, si⟩ d k ⟨nl, false⟩ (hitB5 l x)) w' := by
                      have hph := HPH.out
                      rw [show hitR l ⟨sl, si⟩ d k ⟨nl, false⟩ (hitB5 l x) = newR l ⟨sl, si⟩ (d + 1) k ⟨rr, true⟩ by rw [← HRR.out, ← HPT.out]; exact hit_on HXB.out HOPEN.out HNW.out HLE.out] at hph ⊢
                      exact HIH.out k rfl S (.slice (some ⟨b, off, none⟩) n cap) ⟨sl, si⟩ ⟨rr, true⟩ (d + 1) (.slice oa q oc) (rows ++ preR l ⟨sl, si⟩ d k ⟨nl, false⟩ i) base w8 (by omega) ⟨by show 0 ≤ rr; omega, by show rr ≤ 1001; omega⟩ (HSO.out.below HB8.out) HSB.out (HMi.out.below HB8.out).row (by have := HB8.out.size; omega) (by rw [HQ.out]; exact hph)
                    have HCALL := Lib.hid hcall
                    clear hcall
                    go_wp2_with fail
                    refine HCALL.out.mono ?_
                    rintro e w9 ⟨v6, rfl, hm6⟩
                    have HMn : Hid (MoSt base w1 (.slice va m vc) v6 (rows ++ preR l ⟨sl, si⟩ d k ⟨nl, false⟩ (i + 1)) w9) := Lib.hid (by
                      rw [HPS.out, ← List.append_assoc]
                      exact (HMi.out.below HB8.out).next hm6.row hm6.gr hm6.at_)
                    clear hm6 HCALL HMi HSO
                    go_wp2
                    go_roundw
                    case rel => exact ⟨i + 1, by omega, by go_num, HMn⟩
                    case measure => simp [intOf]; omega
                  · have d15 : decide (lw ≤ rr) = false := decide_eq_false hlr
                    have HLE : Hid (nl - x.tdiv 100 * x.tmod 100 < low5 l.gout) := Lib.hid (by rw [HLW.out, HPT.out, HRR.out]; exact Int.not_le.1 hlr)
                    have HA : Hid ((w5.alloc (.cells #[.int .i64 sl, .bool si, .bool false, .int .i64 ((d : Int) + 1)] 44)).ownsRow base 44 4 (.slice oa q oc) q (rows ++ preR l ⟨sl, si⟩ d k ⟨nl, false⟩ i).flatten ∧ base ≤ (w5.alloc (.cells #[.int .i64 sl, .bool si, .bool false, .int .i64 ((d : Int) + 1)] 44)).heap.size) := Lib.hid (by
                      have h1 := ((HMi.out.below HB5.out).below (aB w5 (.cells #[.int .i64 sl, .bool si, .bool false, .int .i64 ((d : Int) + 1)] 44))).row
                      rw [HQ.out] at h1
                      exact ⟨h1, by have := HB5.out.size; simp; omega⟩)
                    have hq1 : q + 1 ≤ 100000 := by have := HPH.out; omega
                    go_wp2_with (at_builtin; refine wpList_appendN rfl (.tmp 66) (.tmp 71) 40 rfl base 44 (.agg #[.int .i64 0, .bool false, .bool false, .int .i64 0]) 4 32 Tryz.underlying40 info_vis5 rfl (by decide) (.slice oa q oc) q (rows ++ preR l ⟨sl, si⟩ d k ⟨nl, false⟩ i).flatten rfl HA.out.1 w5.heap.size 0 1 1 (visRow (⟨sl, si⟩ : Std).en (d + 1)) rfl rfl (fun j u hj => by rw [cell_of_heap (World.alloc_heap_new _ _), Nat.zero_add]; simpa [visRow, Std.en] using hj) (visRow_one _ _) hq1 (by decide) HA.out.2 ?_)
                    intro v6 w6 ho6 hg6 hat6
                    have HMn : Hid (MoSt base w1 (.slice va m vc) v6 (rows ++ preR l ⟨sl, si⟩ d k ⟨nl, false⟩ (i + 1)) w6) := Lib.hid (by
                      rw [HPS.out, hit_bust HXB.out HOPEN.out HNW.out (Int.not_le.2 HLE.out), ← List.append_assoc]
                      exact (HMi.out.below HB5.out).app (aB w5 (.cells #[.int .i64 sl, .bool si, .bool false, .int .i64 ((d : Int) + 1)] 44)) (by rw [HQ.out, List.flatten_append, List.append_assoc]; exact ho6) hg6 (by simpa using hat6))
                    clear ho6 hg6 hat6 HA HMi HSO
                    go_wp2
                    go_roundw
                    case rel => exact ⟨i + 1, by omega, by go_num, HMn⟩
                    case measure => simp [intOf]; omega
          · skip
            have HOPEN : Hid (((true : Bool) || opens5 x l.gin) = true) := Lib.hid (by simp)
            have hsc := bed_score HXB.out
            obtain ⟨pt, hpt⟩ : ∃ p, x.tdiv 100 * x.tmod 100 = p := ⟨_, rfl⟩
            rw [hpt] at hsc
            obtain ⟨rr, hrr⟩ : ∃ p, nl - pt = p := ⟨_, rfl⟩
            have hwr : IntKind.i64.wrap (nl - pt) = rr := by rw [hrr]; exact wrap_small _ (by omega) (by omega)
            have hrb : rr ≤ 1001 := by omega
            obtain ⟨lw, hlw⟩ : ∃ p, low5 l.gout = p := ⟨_, rfl⟩
            have hlw1 : 1 ≤ lw := by rw [← hlw]; unfold low5; split <;> omega
            have HPTS : Hid (∀ w3, Calls Tryz.prog 88 #[.int .i64 x] w3 fun e w' => e = .returned (.int .i64 pt) ∧ w3 = w') := Lib.hid (fun w3 => by rw [← hpt]; exact refPoints_any x HXB.out w3)
            have HLOWC : Hid (∀ w3, Calls Tryz.prog 55 #[.int .i64 l.gout] w3 fun e w' => e = .returned (.int .i64 lw) ∧ w3 = w') := Lib.hid (fun w3 => by rw [← hlw]; exact refLow_any _ w3)
            have HPT := Lib.hid hpt
            have HRR := Lib.hid hrr
            have HLW := Lib.hid hlw
            have hwz0 : wy.frozen? ⟨D, 1, none⟩ = false := frozen_of_heap HPY.out
            obtain ⟨wz, hwz⟩ : ∃ y, wy.setCell ⟨D, 1, none⟩ (.bool true) = y := ⟨_, rfl⟩
            have hpz : wz.heap[D]? = some (.cells #[.int .i64 nl, .bool true] 29 (0, 0)) := by rw [← hwz]; exact heap_setCell_at HPY.out _
            have hbz : Below wo.heap.size wo wz := by rw [← hwz]; exact HBY.out.setCell HD3.out _
            have z0 : wz.cell? ⟨D, 0, none⟩ = some (.int .i64 nl) := by rw [cell_of_heap hpz]; rfl
            have HBZ := Lib.hid hbz
            have HPZ := Lib.hid hpz
            have HWZ := Lib.hid hwz
            clear hpt hlw hwz hpz hrr
            go_upto_region 11 with fail
            rw [HWZ.out]
            clear c0 c1 c2 c3 c4 c5 c6 s0 s1 n0 n1
            obtain ⟨c0, c1, c2, c3, c4, c5, c6, s0, s1, n0, n1⟩ := HCC.out
            replace c0 := bAt hbz c0
            replace c1 := bAt hbz c1
            replace c2 := bAt hbz c2
            replace c3 := bAt hbz c3
            replace c4 := bAt hbz c4
            replace c5 := bAt hbz c5
            replace c6 := bAt hbz c6
            replace s0 := bAt hbz s0
            replace s1 := bAt hbz s1
            replace n0 := bAt hbz n0
            replace n1 := bAt hbz n1
            clear hbz y0 y1 hwz0 HWZ
            refine wp_region_seq 6 [.is (.pointer (some ⟨D, 0, none⟩)), .is (.int .i64 nl), .is (.int .i64 x), .is (.int .i64 pt), .is (.int .i64 rr), .is (.int .i64 rr)] rfl mix (by kernel_rfl) (by kernel_rfl) ?seqm
            case seqm =>
              simp only [List.take_succ_cons, List.take_zero]
              iterate 3
                refine seq_on (by rfl) (fun w3 hb3 _ => ?_) ?_
                · have z0' := bAt hb3 z0
                  simp [opOK, go_sem, z0', Below.refl]
                  try exact rfl
                simp only [Act.put, List.setIfInBounds_toArray, List.set_cons_succ, List.set_cons_zero]
              refine seq_on (by rfl) (fun w3 hb3 hH => ?_) ?_
              · refine opOK_call (f := 88) (args := #[.int .i64 x]) (by simp [go_sem]) ?_
                exact (HPTS.out w3).mono fun e W' ⟨he, hb⟩ => ⟨_, he, rfl, by rw [← hb]; exact Below.refl _ _⟩
              simp only [Act.put, List.setIfInBounds_toArray, List.set_cons_succ, List.set_cons_zero]
              iterate 2
                refine seq_on (by rfl) (fun w3 hb3 _ => ?_) ?_
                · have z0' := bAt hb3 z0
                  simp [opOK, go_sem, hwr, Below.refl]
                  try exact rfl
                simp only [Act.put, List.setIfInBounds_toArray, List.set_cons_succ, List.set_cons_zero]
              refine seq_end fun w5 hb5 _ => ?_
              simp only [List.drop_succ_cons, List.drop_zero]
              have hb5' := HBZ.out.trans (hb5.mono HBZ.out.size)
              have HP5 := Lib.hid ((hb5.block D (Array.getElem?_eq_some_iff.1 HPZ.out).1).trans HPZ.out)
              have HB5 := Lib.hid hb5'
              clear c0 c1 c2 c3 c4 c5 c6 s0 s1 n0 n1
              obtain ⟨c0, c1, c2, c3, c4, c5, c6, s0, s1, n0, n1⟩ := HCC.out
              replace c0 := bAt hb5' c0
              replace c1 := bAt hb5' c1
              replace c2 := bAt hb5' c2
              replace c3 := bAt hb5' c3
              replace c4 := bAt hb5' c4
              replace c5 := bAt hb5' c5
              replace c6 := bAt hb5' c6
              replace s0 := bAt hb5' s0
              replace s1 := bAt hb5' s1
              replace n0 := bAt hb5' n0
              replace n1 := bAt hb5' n1
              have z0 := bAt hb5 z0
              clear hb5 hb5' hwr
              by_cases hr0 : rr = 0
              · have d13 : (rr == 0) = true := beq_iff_eq.2 hr0
                have HR0 := Lib.hid hr0
                obtain ⟨oo, hoo⟩ : ∃ p, opens5 x l.gout = p := ⟨_, rfl⟩
                have hoc := refOpens_any x l.gout HX63.out HX0.out HV.out.gout w5
                rw [hoo] at hoc
                have HOO := Lib.hid hoo
                clear hr0 hoo
                go_wp2_with fail
                refine hoc.mono ?_
                rintro e w6' ⟨rfl, rfl⟩
                clear hoc
                cases oo
                · skip
                  have HNW : Hid (¬ (nl - x.tdiv 100 * x.tmod 100 = 0 ∧ opens5 x l.gout = true)) := Lib.hid (by rw [HOO.out]; rintro ⟨_, h⟩; cases h)
                  go_wp2_with fail
                  refine (HLOWC.out _).mono ?_
                  rintro e w7' ⟨rfl, rfl⟩
                  by_cases hlr : lw ≤ rr
                  · have d15 : decide (lw ≤ rr) = true := decide_eq_true hlr
                    have HLE : Hid (low5 l.gout ≤ nl - x.tdiv 100 * x.tmod 100) := Lib.hid (by rw [HLW.out, HPT.out, HRR.out]; exact hlr)
                    obtain ⟨w8, hw8⟩ : ∃ y, w5.setCell ⟨D, 0, none⟩ (.int .i64 rr) = y := ⟨_, rfl⟩
                    have hp8 : w8.heap[D]? = some (.cells #[.int .i64 rr, .bool true] 29 (0, 0)) := by rw [← hw8]; exact heap_setCell_at HP5.out _
                    have hb8 : Below wo.heap.size wo w8 := by rw [← hw8]; exact HB5.out.setCell HD3.out _
                    have u0 : w8.cell? ⟨D, 0, none⟩ = some (.int .i64 rr) := by rw [cell_of_heap hp8]; rfl
                    have u1 : w8.cell? ⟨D, 1, none⟩ = some (.bool true) := by rw [cell_of_heap hp8]; rfl
                    have f0 : w5.frozen? ⟨D, 0, none⟩ = false := frozen_of_heap HP5.out
                    have HB8 := Lib.hid hb8
                    have HW8 := Lib.hid hw8
                    clear hw8 hp8
                    go_upto_region 17 with fail
                    rw [HW8.out]
                    clear c0 c1 c2 c3 c4 c5 c6 s0 s1 n0 n1
                    obtain ⟨c0, c1, c2, c3, c4, c5, c6, s0, s1, n0, n1⟩ := HCC.out
                    replace c0 := bAt hb8 c0
                    replace c1 := bAt hb8 c1
                    replace c2 := bAt hb8 c2
                    replace c3 := bAt hb8 c3
                    replace c4 := bAt hb8 c4
                    replace c5 := bAt hb8 c5
                    replace c6 := bAt hb8 c6
                    replace s0 := bAt hb8 s0
                    replace s1 := bAt hb8 s1
                    replace n0 := bAt hb8 n0
                    replace n1 := bAt hb8 n1
                    clear hb8 z0 f0 HW8
                    have hcall : Calls Tryz.prog 56 #[.agg #[.int .i64 l.start, .int .i64 l.gin, .int .i64 l.gout, .slice (some ⟨b, off, none⟩) n cap, .int .i64 l.players, .int .i64 l.turns, .bool l.won], .agg #[.int .i64 sl, .bool si], .agg #[.int .i64 rr, .bool true], .int .i64 ((d : Int) + 1), .slice oa q oc] w8 fun e w' => ∃ v', e = .returned v' ∧ MoSt base w8 (.slice oa q oc) v' ((rows ++ preR l ⟨sl, si⟩ d k ⟨nl, true⟩ i) ++ hitR l ⟨sl, si⟩ d k ⟨nl, true⟩ (hitB5 l x)) w' := by
                      have hph := HPH.out
                      rw [show hitR l ⟨sl, si⟩ d k ⟨nl, true⟩ (hitB5 l x) = newR l ⟨sl, si⟩ (d + 1) k ⟨rr, true⟩ by rw [← HRR.out, ← HPT.out]; exact hit_on HXB.out HOPEN.out HNW.out HLE.out] at hph ⊢
                      exact HIH.out k rfl S (.slice (some ⟨b, off, none⟩) n cap) ⟨sl, si⟩ ⟨rr, true⟩ (d + 1) (.slice oa q oc) (rows ++ preR l ⟨sl, si⟩ d k ⟨nl, true⟩ i) base w8 (by omega) ⟨by show 0 ≤ rr; omega, by show rr ≤ 1001; omega⟩ (HSO.out.below HB8.out) HSB.out (HMi.out.below HB8.out).row (by have := HB8.out.size; omega) (by rw [HQ.out]; exact hph)
                    have HCALL := Lib.hid hcall
                    clear hcall
                    go_wp2_with fail
                    refine HCALL.out.mono ?_
                    rintro e w9 ⟨v6, rfl, hm6⟩
                    have HMn : Hid (MoSt base w1 (.slice va m vc) v6 (rows ++ preR l ⟨sl, si⟩ d k ⟨nl, true⟩ (i + 1)) w9) := Lib.hid (by
                      rw [HPS.out, ← List.append_assoc]
                      exact (HMi.out.below HB8.out).next hm6.row hm6.gr hm6.at_)
                    clear hm6 HCALL HMi HSO
                    go_wp2
                    go_roundw
                    case rel => exact ⟨i + 1, by omega, by go_num, HMn⟩
                    case measure => simp [intOf]; omega
                  · have d15 : decide (lw ≤ rr) = false := decide_eq_false hlr
                    have HLE : Hid (nl - x.tdiv 100 * x.tmod 100 < low5 l.gout) := Lib.hid (by rw [HLW.out, HPT.out, HRR.out]; exact Int.not_le.1 hlr)
                    have HA : Hid ((w5.alloc (.cells #[.int .i64 sl, .bool si, .bool false, .int .i64 ((d : Int) + 1)] 44)).ownsRow base 44 4 (.slice oa q oc) q (rows ++ preR l ⟨sl, si⟩ d k ⟨nl, true⟩ i).flatten ∧ base ≤ (w5.alloc (.cells #[.int .i64 sl, .bool si, .bool false, .int .i64 ((d : Int) + 1)] 44)).heap.size) := Lib.hid (by
                      have h1 := ((HMi.out.below HB5.out).below (aB w5 (.cells #[.int .i64 sl, .bool si, .bool false, .int .i64 ((d : Int) + 1)] 44))).row
                      rw [HQ.out] at h1
                      exact ⟨h1, by have := HB5.out.size; simp; omega⟩)
                    have hq1 : q + 1 ≤ 100000 := by have := HPH.out; omega
                    go_wp2_with (at_builtin; refine wpList_appendN rfl (.tmp 66) (.tmp 71) 40 rfl base 44 (.agg #[.int .i64 0, .bool false, .bool false, .int .i64 0]) 4 32 Tryz.underlying40 info_vis5 rfl (by decide) (.slice oa q oc) q (rows ++ preR l ⟨sl, si⟩ d k ⟨nl, true⟩ i).flatten rfl HA.out.1 w5.heap.size 0 1 1 (visRow (⟨sl, si⟩ : Std).en (d + 1)) rfl rfl (fun j u hj => by rw [cell_of_heap (World.alloc_heap_new _ _), Nat.zero_add]; simpa [visRow, Std.en] using hj) (visRow_one _ _) hq1 (by decide) HA.out.2 ?_)
                    intro v6 w6 ho6 hg6 hat6
                    have HMn : Hid (MoSt base w1 (.slice va m vc) v6 (rows ++ preR l ⟨sl, si⟩ d k ⟨nl, true⟩ (i + 1)) w6) := Lib.hid (by
                      rw [HPS.out, hit_bust HXB.out HOPEN.out HNW.out (Int.not_le.2 HLE.out), ← List.append_assoc]
                      exact (HMi.out.below HB5.out).app (aB w5 (.cells #[.int .i64 sl, .bool si, .bool false, .int .i64 ((d : Int) + 1)] 44)) (by rw [HQ.out, List.flatten_append, List.append_assoc]; exact ho6) hg6 (by simpa using hat6))
                    clear ho6 hg6 hat6 HA HMi HSO
                    go_wp2
                    go_roundw
                    case rel => exact ⟨i + 1, by omega, by go_num, HMn⟩
                    case measure => simp [intOf]; omega
                · skip
                  have HA : Hid ((w5.alloc (.cells #[.int .i64 0, .bool true, .bool true, .int .i64 ((d : Int) + 1)] 44)).ownsRow base 44 4 (.slice oa q oc) q (rows ++ preR l ⟨sl, si⟩ d k ⟨nl, true⟩ i).flatten ∧ base ≤ (w5.alloc (.cells #[.int .i64 0, .bool true, .bool true, .int .i64 ((d : Int) + 1)] 44)).heap.size) := Lib.hid (by
                    have h1 := ((HMi.out.below HB5.out).below (aB w5 (.cells #[.int .i64 0, .bool true, .bool true, .int .i64 ((d : Int) + 1)] 44))).row
                    rw [HQ.out] at h1
                    exact ⟨h1, by have := HB5.out.size; simp; omega⟩)
                  have hq1 : q + 1 ≤ 100000 := by have := HPH.out; omega
                  go_wp2_with (at_builtin; refine wpList_appendN rfl (.tmp 83) (.tmp 88) 40 rfl base 44 (.agg #[.int .i64 0, .bool false, .bool false, .int .i64 0]) 4 32 Tryz.underlying40 info_vis5 rfl (by decide) (.slice oa q oc) q (rows ++ preR l ⟨sl, si⟩ d k ⟨nl, true⟩ i).flatten rfl HA.out.1 w5.heap.size 0 1 1 (visRow ⟨0, true, false, true⟩ (d + 1)) rfl rfl (fun j u hj => by rw [cell_of_heap (World.alloc_heap_new _ _), Nat.zero_add]; simpa [visRow, Std.en] using hj) (visRow_one _ _) hq1 (by decide) HA.out.2 ?_)
                  intro v6 w6 ho6 hg6 hat6
                  have HMn : Hid (MoSt base w1 (.slice va m vc) v6 (rows ++ preR l ⟨sl, si⟩ d k ⟨nl, true⟩ (i + 1)) w6) := Lib.hid (by
                    rw [HPS.out, hit_won HXB.out HOPEN.out ⟨by rw [HPT.out, HRR.out]; exact HR0.out, HOO.out⟩, ← List.append_assoc]
                    exact (HMi.out.below HB5.out).app (aB w5 (.cells #[.int .i64 0, .bool true, .bool true, .int .i64 ((d : Int) + 1)] 44)) (by rw [HQ.out, List.flatten_append, List.append_assoc]; exact ho6) hg6 (by simpa using hat6))
                  clear ho6 hg6 hat6 HA HMi HSO
                  go_wp2
                  go_roundw
                  case rel => exact ⟨i + 1, by omega, by go_num, HMn⟩
                  case measure => simp [intOf]; omega
              · have d13 : (rr == 0) = false := beq_eq_false_iff_ne.2 hr0
                have HNW : Hid (¬ (nl - x.tdiv 100 * x.tmod 100 = 0 ∧ opens5 x l.gout = true)) := Lib.hid (by rw [HPT.out, HRR.out]; exact fun h => hr0 h.1)
                go_wp2_with fail
                refine (HLOWC.out _).mono ?_
                rintro e w7' ⟨rfl, rfl⟩
                by_cases hlr : lw ≤ rr
                · have d15 : decide (lw ≤ rr) = true := decide_eq_true hlr
                  have HLE : Hid (low5 l.gout ≤ nl - x.tdiv 100 * x.tmod 100) := Lib.hid (by rw [HLW.out, HPT.out, HRR.out]; exact hlr)
                  obtain ⟨w8, hw8⟩ : ∃ y, w5.setCell ⟨D, 0, none⟩ (.int .i64 rr) = y := ⟨_, rfl⟩
                  have hp8 : w8.heap[D]? = some (.cells #[.int .i64 rr, .bool true] 29 (0, 0)) := by rw [← hw8]; exact heap_setCell_at HP5.out _
                  have hb8 : Below wo.heap.size wo w8 := by rw [← hw8]; exact HB5.out.setCell HD3.out _
                  have u0 : w8.cell? ⟨D, 0, none⟩ = some (.int .i64 rr) := by rw [cell_of_heap hp8]; rfl
                  have u1 : w8.cell? ⟨D, 1, none⟩ = some (.bool true) := by rw [cell_of_heap hp8]; rfl
                  have f0 : w5.frozen? ⟨D, 0, none⟩ = false := frozen_of_heap HP5.out
                  have HB8 := Lib.hid hb8
                  have HW8 := Lib.hid hw8
                  clear hw8 hp8
                  go_upto_region 17 with fail
                  rw [HW8.out]
                  clear c0 c1 c2 c3 c4 c5 c6 s0 s1 n0 n1
                  obtain ⟨c0, c1, c2, c3, c4, c5, c6, s0, s1, n0, n1⟩ := HCC.out
                  replace c0 := bAt hb8 c0
                  replace c1 := bAt hb8 c1
                  replace c2 := bAt hb8 c2
                  replace c3 := bAt hb8 c3
                  replace c4 := bAt hb8 c4
                  replace c5 := bAt hb8 c5
                  replace c6 := bAt hb8 c6
                  replace s0 := bAt hb8 s0
                  replace s1 := bAt hb8 s1
                  replace n0 := bAt hb8 n0
                  replace n1 := bAt hb8 n1
                  clear hb8 z0 f0 HW8
                  have hcall : Calls Tryz.prog 56 #[.agg #[.int .i64 l.start, .int .i64 l.gin, .int .i64 l.gout, .slice (some ⟨b, off, none⟩) n cap, .int .i64 l.players, .int .i64 l.turns, .bool l.won], .agg #[.int .i64 sl, .bool si], .agg #[.int .i64 rr, .bool true], .int .i64 ((d : Int) + 1), .slice oa q oc] w8 fun e w' => ∃ v', e = .returned v' ∧ MoSt base w8 (.slice oa q oc) v' ((rows ++ preR l ⟨sl, si⟩ d k ⟨nl, true⟩ i) ++ hitR l ⟨sl, si⟩ d k ⟨nl, true⟩ (hitB5 l x)) w' := by
                    have hph := HPH.out
                    rw [show hitR l ⟨sl, si⟩ d k ⟨nl, true⟩ (hitB5 l x) = newR l ⟨sl, si⟩ (d + 1) k ⟨rr, true⟩ by rw [← HRR.out, ← HPT.out]; exact hit_on HXB.out HOPEN.out HNW.out HLE.out] at hph ⊢
                    exact HIH.out k rfl S (.slice (some ⟨b, off, none⟩) n cap) ⟨sl, si⟩ ⟨rr, true⟩ (d + 1) (.slice oa q oc) (rows ++ preR l ⟨sl, si⟩ d k ⟨nl, true⟩ i) base w8 (by omega) ⟨by show 0 ≤ rr; omega, by show rr ≤ 1001; omega⟩ (HSO.out.below HB8.out) HSB.out (HMi.out.below HB8.out).row (by have := HB8.out.size; omega) (by rw [HQ.out]; exact hph)
                  have HCALL := Lib.hid hcall
                  clear hcall
                  go_wp2_with fail
                  refine HCALL.out.mono ?_
                  rintro e w9 ⟨v6, rfl, hm6⟩
                  have HMn : Hid (MoSt base w1 (.slice va m vc) v6 (rows ++ preR l ⟨sl, si⟩ d k ⟨nl, true⟩ (i + 1)) w9) := Lib.hid (by
                    rw [HPS.out, ← List.append_assoc]
                    exact (HMi.out.below HB8.out).next hm6.row hm6.gr hm6.at_)
                  clear hm6 HCALL HMi HSO
                  go_wp2
                  go_roundw
                  case rel => exact ⟨i + 1, by omega, by go_num, HMn⟩
                  case measure => simp [intOf]; omega
                · have d15 : decide (lw ≤ rr) = false := decide_eq_false hlr
                  have HLE : Hid (nl - x.tdiv 100 * x.tmod 100 < low5 l.gout) := Lib.hid (by rw [HLW.out, HPT.out, HRR.out]; exact Int.not_le.1 hlr)
                  have HA : Hid ((w5.alloc (.cells #[.int .i64 sl, .bool si, .bool false, .int .i64 ((d : Int) + 1)] 44)).ownsRow base 44 4 (.slice oa q oc) q (rows ++ preR l ⟨sl, si⟩ d k ⟨nl, true⟩ i).flatten ∧ base ≤ (w5.alloc (.cells #[.int .i64 sl, .bool si, .bool false, .int .i64 ((d : Int) + 1)] 44)).heap.size) := Lib.hid (by
                    have h1 := ((HMi.out.below HB5.out).below (aB w5 (.cells #[.int .i64 sl, .bool si, .bool false, .int .i64 ((d : Int) + 1)] 44))).row
                    rw [HQ.out] at h1
                    exact ⟨h1, by have := HB5.out.size; simp; omega⟩)
                  have hq1 : q + 1 ≤ 100000 := by have := HPH.out; omega
                  go_wp2_with (at_builtin; refine wpList_appendN rfl (.tmp 66) (.tmp 71) 40 rfl base 44 (.agg #[.int .i64 0, .bool false, .bool false, .int .i64 0]) 4 32 Tryz.underlying40 info_vis5 rfl (by decide) (.slice oa q oc) q (rows ++ preR l ⟨sl, si⟩ d k ⟨nl, true⟩ i).flatten rfl HA.out.1 w5.heap.size 0 1 1 (visRow (⟨sl, si⟩ : Std).en (d + 1)) rfl rfl (fun j u hj => by rw [cell_of_heap (World.alloc_heap_new _ _), Nat.zero_add]; simpa [visRow, Std.en] using hj) (visRow_one _ _) hq1 (by decide) HA.out.2 ?_)
                  intro v6 w6 ho6 hg6 hat6
                  have HMn : Hid (MoSt base w1 (.slice va m vc) v6 (rows ++ preR l ⟨sl, si⟩ d k ⟨nl, true⟩ (i + 1)) w6) := Lib.hid (by
                    rw [HPS.out, hit_bust HXB.out HOPEN.out HNW.out (Int.not_le.2 HLE.out), ← List.append_assoc]
                    exact (HMi.out.below HB5.out).app (aB w5 (.cells #[.int .i64 sl, .bool si, .bool false, .int .i64 ((d : Int) + 1)] 44)) (by rw [HQ.out, List.flatten_append, List.append_assoc]; exact ho6) hg6 (by simpa using hat6))
                  clear ho6 hg6 hat6 HA HMi HSO
                  go_wp2
                  go_roundw
                  case rel => exact ⟨i + 1, by omega, by go_num, HMn⟩
                  case measure => simp [intOf]; omega
      · obtain rfl : i = n := by omega
        have HMe : Hid (MoSt base w (.slice va m vc) (.slice oa q oc) (rows ++ newR l ⟨sl, si⟩ d (k + 1) ⟨nl, ni⟩) wo) := Lib.hid (by
          have h1 := HMi.out.enter HB.out
          have h2 := preR_all (l := l) (start := ⟨sl, si⟩) (d := d) (k := k) (now := ⟨nl, ni⟩)
          rw [HLN.out] at h2
          rw [h2] at h1
          exact h1)
        clear HMi HSO
        go_wp2
        go_returns
        exact ⟨_, rfl, HMe.out⟩
theorem more_any (l : Lg) (hv : Valid l) (h6 : l.beds.length ≤ 6) : ∀ k, k ≤ 3 → MoreC l k
  | 0, h => more_step l hv h6 0 h (fun k' e => by omega)
  | k + 1, h => more_step l hv h6 (k + 1) h (fun k' e => by
      obtain rfl : k' = k := by omega
      exact more_any l hv h6 k' (by omega))
def visRows (l : Lg) (s : Std) : List (List Value) := (vis5 l s).map fun p => visRow p.1 p.2
theorem visRows_eq (l : Lg) (s : Std) : visRows l s = newR l s 0 3 s := by
  unfold visRows newR vis5
  rw [List.map_map]
  rfl
set_option maxRecDepth 100000 in
set_option maxHeartbeats 1000000 in
theorem refVisits_any {S : Nat → Prop} (l : Lg) (hv : Valid l) (h6 : l.beds.length ≤ 6) (bv : Value) (s : Std) (w : World) (hsb : 0 ≤ s.left ∧ s.left ≤ 1001) (hs : Sl S w bv (ints l.beds)) :
    Calls Tryz.prog 20 #[legV l bv, stV s] w fun e w' => ∃ v, e = .returned v ∧ Below w.heap.size w w' ∧ w'.ownsRow w.heap.size 44 4 v (visRows l s).length (visRows l s).flatten := by
  have hm := more_any l hv h6 3 (by decide)
  obtain ⟨sl, si⟩ := s
  simp only at hsb
  obtain ⟨w1, hw1⟩ : ∃ x, (w.alloc (.cells #[.int .i64 l.start, .int .i64 l.gin, .int .i64 l.gout, bv, .int .i64 l.players, .int .i64 l.turns, .bool l.won] 27)).alloc (.cells #[.int .i64 sl, .bool si] 29) = x := ⟨_, rfl⟩
  have hb1 : Below w.heap.size w w1 := by rw [← hw1]; exact (aB _ _).alloc (by simp) _
  obtain ⟨N, hN⟩ : ∃ N, w.heap.size = N := ⟨_, rfl⟩
  have k : w1.heap[N]? = some (.cells #[.int .i64 l.start, .int .i64 l.gin, .int .i64 l.gout, bv, .int .i64 l.players, .int .i64 l.turns, .bool l.won] 27 (0, 0)) := by rw [← hw1, ← hN]; exact (Below.heap_alloc _ _ _ (by simp)).trans (World.alloc_heap_new _ _)
  have k2 : w1.heap[N + 1]? = some (.cells #[.int .i64 sl, .bool si] 29 (0, 0)) := by
    rw [← hw1, ← hN]
    have := World.alloc_heap_new (w.alloc (.cells #[.int .i64 l.start, .int .i64 l.gin, .int .i64 l.gout, bv, .int .i64 l.players, .int .i64 l.turns, .bool l.won] 27)) (.cells #[.int .i64 sl, .bool si] 29)
    simp only [World.size_alloc] at this
    exact this
  have c0 : w1.cell? ⟨N, 0, none⟩ = some (.int .i64 l.start) := by rw [cell_of_heap k]; rfl
  have c1 : w1.cell? ⟨N, 1, none⟩ = some (.int .i64 l.gin) := by rw [cell_of_heap k]; rfl
  have c2 : w1.cell? ⟨N, 2, none⟩ = some (.int .i64 l.gout) := by rw [cell_of_heap k]; rfl
  have c3 : w1.cell? ⟨N, 3, none⟩ = some bv := by rw [cell_of_heap k]; rfl
  have c4 : w1.cell? ⟨N, 4, none⟩ = some (.int .i64 l.players) := by rw [cell_of_heap k]; rfl
  have c5 : w1.cell? ⟨N, 5, none⟩ = some (.int .i64 l.turns) := by rw [cell_of_heap k]; rfl
  have c6 : w1.cell? ⟨N, 6, none⟩ = some (.bool l.won) := by rw [cell_of_heap k]; rfl
  have s0 : w1.cell? ⟨N + 1, 0, none⟩ = some (.int .i64 sl) := by rw [cell_of_heap k2]; rfl
  have s1 : w1.cell? ⟨N + 1, 1, none⟩ = some (.bool si) := by rw [cell_of_heap k2]; rfl
  have hs1 : w1.heap.size = N + 2 := by rw [← hw1]; simp; omega
  have hcall := hm (fun q => S q ∧ q < w.heap.size) bv ⟨sl, si⟩ ⟨sl, si⟩ 0 (.slice (some ⟨w1.heap.size, 0, none⟩) 0 0) [] w.heap.size (w1.alloc (.cells #[] 44)) rfl hsb ((hs.lt.below hb1).below (aB _ _)) (fun q h => h.2) (World.ownsRow_made w1 #[] 0 hb1.size (Nat.zero_le _) (by simp)) (by simp; omega) (by have := new_bd (l := l) (start := ⟨sl, si⟩) (d := 0) (k := 3) (now := ⟨sl, si⟩) h6 (by decide); simp; omega)
  rw [← visRows_eq, List.nil_append] at hcall
  have HCALL := Lib.hid hcall
  have HB := Lib.hid hb1
  have HW := Lib.hid hw1
  have HN := Lib.hid hN
  have hN1 : N + 1 < w1.heap.size := by omega
  unfold legV legA stV
  simp only
  clear hcall hb1 hw1 k k2 hm hs hs1
  go_enter Tryz.func20, Tryz.ntmps20
  go_upto_region 1 with fail
  rw [HW.out]
  clear hN
  go_wp2_with fail
  refine HCALL.out.mono ?_
  rintro e w2 ⟨v, rfl, hmo⟩
  have HR : Hid (w2.ownsRow w.heap.size 44 4 v (visRows l ⟨sl, si⟩).length (visRows l ⟨sl, si⟩).flatten) := Lib.hid hmo.row
  have HB2 : Hid (Below w.heap.size w w2) := Lib.hid ((bThen HB.out (aB w1 _)).trans (below_grownBy hmo.gr (by have := HB.out.size; simp; omega) fun q hq => by
    have e : w1.heap.size = q := by simpa [Value.ownBlock] using hq
    have := HB.out.size; omega))
  clear hmo HCALL
  go_wp2
  go_returns
  exact ⟨_, rfl, HB2.out, HR.out⟩
end Go.Proofs.YtpfpjbglpibdoaaGreatDoor
