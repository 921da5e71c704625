/- The texts FI, PQ, CB, CC, in build order. -/
import Derived.Test.YtagfcodpgochjaaZaj

/- Chapter 12: Fines. -/
namespace Go.Proofs.Ytagfcodpgochjaa
open Go.RowKit Go.Oche Go.Proofs

def offRow (x : Int × Int) : List Value := [.int .i64 x.1, .int .i64 x.2]
theorem tarContains_r {S : Nat → Prop} (ts : List (Int × Int × Int)) (r : Bool) (hr : Hid (ts.any tarBad = r)) (v : Value) (w : World) (hs : SlN 3 S w v (ts.map tarRow)) :
    Calls Try.prog 34 #[v, .func (.func 35) #[] #[]] w fun e w' => e = .returned (.bool r) ∧ Below w.heap.size w w' := by rw [← hr.out]; exact tarContains_any ts v w hs

set_option maxRecDepth 100000 in
set_option maxHeartbeats 4000000 in
theorem fines_any {S S' : Nat → Prop} (players : Int) (ts : List (Int × Int × Int)) (l : List (Int × Int)) (v vl : Value) (w : World) (hs : SlN 3 S w v (ts.map tarRow)) (hl : SlN 2 S' w vl (l.map offRow)) :
    Calls Try.prog 19 #[.int .i64 players, v, vl] w fun e w' => ∃ r, e = .returned (.tuple #[r, .int .i64 (finesErr players ts l)]) ∧ Below w.heap.size w w' ∧ Sl (fun k => w.heap.size ≤ k) w' r (ints (finesRes players ts l)) := by
  obtain ⟨a, cap, rfl, h2, h3⟩ := hs.form
  obtain ⟨al, capl, rfl, h2l, h3l⟩ := hl.form
  simp only [List.length_map] at *
  unfold maxLen at h3 h3l
  obtain ⟨b1, hb1⟩ : ∃ b, isIn players 1 60 = b := ⟨_, rfl⟩
  obtain ⟨b2, hb2⟩ : ∃ b, isIn (ts.length : Int) 1 20 = b := ⟨_, rfl⟩
  obtain ⟨b3, hb3⟩ : ∃ b, ts.any tarBad = b := ⟨_, rfl⟩
  obtain ⟨er, her⟩ : ∃ x, finesErr players ts l = x := ⟨_, rfl⟩
  obtain ⟨rs, hrs⟩ : ∃ x, finesRes players ts l = x := ⟨_, rfl⟩
  have ER : Hid (er = if b1 = false then 2 else if b2 = false then 4 else if b3 = true then 2 else if 1000 < l.length then 5 else if l.any (offBad players ts.length) = true then 7 else 0) := Lib.hid (by rw [← her, ← hb1, ← hb2, ← hb3]; rfl)
  have RS : Hid (rs = if er = 0 then finesTo players.toNat ts l l.length else []) := Lib.hid (by rw [← hrs, ← her]; rfl)
  have H1 := Lib.hid hb1
  have H2 := Lib.hid hb2
  have H3 := Lib.hid hb3
  have HS := Lib.hid hs
  have HL := Lib.hid hl
  rw [her, hrs]
  clear her hrs hb1 hb2 hb3 hs hl
  go_enter Try.func19, Try.ntmps19
  go_wp2_with fail
  refine (within_one' 1 60 players b1 H1 _ _ (Sl.new1 (fun _ => True) w trivial 3 (.int .i64 players))).mono ?_
  rintro e w1 ⟨rfl, hb1⟩
  have HB1 := Lib.hid (bThen (aB w _) hb1)
  replace HS := Lib.hid (HS.out.below HB1.out)
  replace HL := Lib.hid (HL.out.below HB1.out)
  clear hb1
  cases b1
  · have er2 : er = 2 := ER.out
    clear ER
    subst er2
    have rs2 : rs = [] := RS.out
    clear RS
    subst rs2
    go_wp2
    go_ret2
    exact ⟨_, rfl, HB1.out, Sl.nil _ _⟩
  · go_wp2_with fail
    refine (within_one' 1 20 ts.length b2 H2 _ _ (Sl.new1 (fun _ => True) w1 trivial 3 (.int .i64 (ts.length : Int)))).mono ?_
    rintro e w2 ⟨rfl, hb2⟩
    have HB2 := Lib.hid (bThen HB1.out (bThen (aB w1 _) hb2))
    replace HS := Lib.hid (HS.out.below (bThen (aB w1 _) hb2))
    replace HL := Lib.hid (HL.out.below (bThen (aB w1 _) hb2))
    clear hb2
    cases b2
    · have er2 : er = 4 := ER.out
      clear ER
      subst er2
      have rs2 : rs = [] := RS.out
      clear RS
      subst rs2
      go_wp2
      go_ret2
      exact ⟨_, rfl, HB2.out, Sl.nil _ _⟩
    · go_wp2_with fail
      refine (tarContains_r ts b3 H3 _ _ HS.out).mono ?_
      rintro e w3 ⟨rfl, hb3⟩
      have HB3 := Lib.hid (bThen HB2.out hb3)
      replace HS := Lib.hid (HS.out.below hb3)
      replace HL := Lib.hid (HL.out.below hb3)
      clear hb3
      cases b3
      · by_cases hl4 : 1000 < l.length
        · have d1 : decide ((1000 : Int) < (l.length : Int)) = true := decide_eq_true (by omega)
          have d1n : decide (1000 < l.length) = true := decide_eq_true hl4
          have er2 : er = 5 := by rw [ER.out]; simp [hl4]
          clear ER
          subst er2
          have rs2 : rs = [] := RS.out
          clear RS
          subst rs2
          go_wp2
          go_ret2
          exact ⟨_, rfl, HB3.out, Sl.nil _ _⟩
        · have d1 : decide ((1000 : Int) < (l.length : Int)) = false := decide_eq_false (by omega)
          have d1n : decide (1000 < l.length) = false := decide_eq_false hl4
          have er2 : er = if l.any (offBad players ts.length) = true then 7 else 0 := by rw [ER.out]; simp [hl4]
          have hpl : 1 ≤ players ∧ players ≤ 60 := by simpa [isIn] using H1.out
          have htl : 1 ≤ ts.length ∧ ts.length ≤ 20 := by have := H2.out; simp [isIn] at this; omega
          obtain ⟨n, rfl⟩ : ∃ n : Nat, players = n := ⟨players.toNat, by omega⟩
          have ER2 := Lib.hid er2
          clear ER er2
          have hmk := make_ints n (by omega)
          have hmm := @run_makeMap Try.prog
          obtain ⟨w4, hw4⟩ : ∃ w4, (w3.alloc (.cells (madeCells #[.int .i64 0] n) 3)).alloc (.map #[] 0) = w4 := ⟨_, rfl⟩
          obtain ⟨R, hR⟩ : ∃ R, R = w3.heap.size := ⟨_, rfl⟩
          have hb4 : Below w3.heap.size w3 w4 := by rw [← hw4]; exact (aB _ _).trans ((aB _ _).mono (by simp))
          have hI : IntBlk w4 R 3 n (fun j => (finesTo n ts l 0).getD j 0) := by
            rw [← hw4, hR]
            exact ((IntBlk.made w3 3 n).below (aB _ _)).congr fun j hj => by simp [finesTo, List.getD_eq_getElem?_getD, hj]
          have hM : MapAt offV w4 (R + 1) [] := by
            rw [← hw4, hR]
            have := MapAt.made offV (w3.alloc (.cells (madeCells #[.int .i64 0] n) 3))
            rwa [World.size_alloc] at this
          have HI := Lib.hid hI
          have HM := Lib.hid hM
          have HW4 := Lib.hid hw4
          have HR := Lib.hid hR
          clear hI hM hw4 hR
          go_wp2_with fail
          rw [HW4.out, ← HR.out]
          go_loopw [6, 34] (fun fv i wr => ∃ k : Nat, k ≤ l.length ∧ i = .int .i64 k ∧ fv = .slice (some ⟨R, 0, none⟩) n n ∧ Hid (∀ j, j < k → ∀ h : j < l.length, offBad n ts.length l[j] = false) ∧ Hid (IntBlk wr R 3 n (fun j => (finesTo n ts l k).getD j 0)) ∧ Hid (∃ L, MapAt offV wr (R + 1) L ∧ ∀ x, (lookM L x).getD (.int .i64 0) = .int .i64 ((l.take k).count x : Nat)) ∧ Below w3.heap.size w3 wr) (fun _ i _ => l.length - (intOf i).toNat)
          case atStart => exact ⟨0, by omega, rfl, rfl, Lib.hid (fun j hj => by omega), HI, Lib.hid ⟨[], HM.out, fun x => by simp [lookM]⟩, hb4⟩
          case round =>
            obtain ⟨k, hk, rfl, rfl, HO, HI, HM, hb⟩ := hrel
            obtain ⟨wo, rfl⟩ : ∃ wo : World, wo = wr := ⟨_, rfl⟩
            clear hmk hmm
            by_cases hlt : k < l.length
            · have hmo : R + 1 < wo.heap.size := by obtain ⟨L, h1, _⟩ := HM.out; exact h1.lt
              obtain ⟨b, off, hal, _, _, hc⟩ := (HL.out.below hb).cell (show k < (l.map offRow).length by simpa using hlt)
              cases hal
              obtain ⟨x, hx⟩ : ∃ x, l[k] = x := ⟨_, rfl⟩
              have z0 := hc 0 (.int .i64 x.1) (by simp [offRow, hx])
              have z1 := hc 1 (.int .i64 x.2) (by simp [offRow, hx])
              simp only [Nat.add_zero] at z0
              have HX := Lib.hid hx
              have HB := Lib.hid hb
              clear hc hx hb
              obtain ⟨wx, hwx⟩ : ∃ wx, wo.alloc (.cells #[.int .i64 x.1, .int .i64 x.2] 76) = wx := ⟨_, rfl⟩
              have hbx : Below wo.heap.size wo wx := by rw [← hwx]; exact aB _ _
              have hzx : wo.heap.size + 1 = wx.heap.size := by rw [← hwx]; simp
              have y0 : wx.cell? ⟨wo.heap.size, 0, none⟩ = some (.int .i64 x.1) := by rw [← hwx]; simp
              have y1 : wx.cell? ⟨wo.heap.size, 1, none⟩ = some (.int .i64 x.2) := by rw [← hwx]; simp
              obtain ⟨c1, hc1⟩ : ∃ c, isIn x.1 0 ((n : Int) - 1) = c := ⟨_, rfl⟩
              obtain ⟨c2, hc2⟩ : ∃ c, isIn x.2 0 ((ts.length : Int) - 1) = c := ⟨_, rfl⟩
              have OB : Hid (offBad n ts.length l[k] = (!c1 || !c2)) := Lib.hid (by rw [HX.out, offBad, hc1, hc2])
              have C1 := Lib.hid hc1
              have C2 := Lib.hid hc2
              have HWX := Lib.hid hwx
              have HBX := Lib.hid (bThen HB.out hbx)
              replace HS := Lib.hid (HS.out.below HBX.out)
              replace HI := Lib.hid (HI.out.below hbx)
              replace HM : Hid (∃ L, MapAt offV wx (R + 1) L ∧ ∀ x, (lookM L x).getD (.int .i64 0) = .int .i64 ((l.take k).count x : Nat)) := Lib.hid (let ⟨L, h1, h2⟩ := HM.out; ⟨L, h1.below hbx, h2⟩)
              clear hwx hbx hc1 hc2
              go_wp2_with fail
              clear z0 z1
              rw [HWX.out]
              refine (within_one' 0 _ x.1 c1 C1 _ _ (Sl.new1 (fun _ => True) wx trivial 3 (.int .i64 x.1))).mono ?_
              rintro e w5 ⟨rfl, hb5⟩
              replace hb5 := bThen (aB wx _) hb5
              replace y0 := bAt hb5 y0
              replace y1 := bAt hb5 y1
              replace HS := Lib.hid (HS.out.below hb5)
              replace HI := Lib.hid (HI.out.below hb5)
              replace HM : Hid (∃ L, MapAt offV w5 (R + 1) L ∧ ∀ x, (lookM L x).getD (.int .i64 0) = .int .i64 ((l.take k).count x : Nat)) := Lib.hid (let ⟨L, h1, h2⟩ := HM.out; ⟨L, h1.below hb5, h2⟩)
              have HB5 := Lib.hid (bThen HBX.out hb5)
              clear hb5
              have BAD : (c1 = false ∨ c2 = false) → er = 7 := fun h => by
                rw [ER2.out, if_pos]
                refine List.any_eq_true.2 ⟨l[k], List.getElem_mem hlt, ?_⟩
                rw [OB.out]
                rcases h with h | h <;> simp [h]
              have BADH := Lib.hid BAD
              clear BAD
              cases c1
              · have er2 : er = 7 := BADH.out (.inl rfl)
                clear ER2 BADH
                subst er2
                have rs2 : rs = [] := RS.out
                clear RS
                subst rs2
                go_wp2
                go_ret2
                exact ⟨_, rfl, bThen HB3.out HB5.out, Sl.nil _ _⟩
              · go_wp2_with fail
                refine (within_one' 0 _ x.2 c2 C2 _ _ (Sl.new1 (fun _ => True) w5 trivial 3 (.int .i64 x.2))).mono ?_
                rintro e w6 ⟨rfl, hb6⟩
                replace hb6 := bThen (aB w5 _) hb6
                replace y0 := bAt hb6 y0
                replace y1 := bAt hb6 y1
                replace HS := Lib.hid (HS.out.below hb6)
                replace HI := Lib.hid (HI.out.below hb6)
                replace HM : Hid (∃ L, MapAt offV w6 (R + 1) L ∧ ∀ x, (lookM L x).getD (.int .i64 0) = .int .i64 ((l.take k).count x : Nat)) := Lib.hid (let ⟨L, h1, h2⟩ := HM.out; ⟨L, h1.below hb6, h2⟩)
                have HB6 := Lib.hid (bThen HB5.out hb6)
                clear hb6
                cases c2
                · have er2 : er = 7 := BADH.out (.inr rfl)
                  clear ER2 BADH
                  subst er2
                  have rs2 : rs = [] := RS.out
                  clear RS
                  subst rs2
                  go_wp2
                  go_ret2
                  exact ⟨_, rfl, bThen HB3.out HB6.out, Sl.nil _ _⟩
                · have g1 : 0 ≤ x.1 ∧ x.1 ≤ (n : Int) - 1 := by simpa [isIn] using C1.out
                  have g2 : 0 ≤ x.2 ∧ x.2 ≤ (ts.length : Int) - 1 := by simpa [isIn] using C2.out
                  obtain ⟨p, hp⟩ : ∃ p : Nat, x.1 = p := ⟨x.1.toNat, by omega⟩
                  obtain ⟨q, hq⟩ : ∃ q : Nat, x.2 = q := ⟨x.2.toNat, by omega⟩
                  have hpn : p < n := by omega
                  have hqt : q < ts.length := by omega
                  obtain ⟨bt, ot, hat, _, _, hct⟩ := HS.out.cell (show q < (ts.map tarRow).length by simpa using hqt)
                  cases hat
                  obtain ⟨t, ht⟩ : ∃ t, ts[q] = t := ⟨_, rfl⟩
                  have t0 := hct 0 (.int .i64 t.1) (by simp [tarRow, ht])
                  have t1 := hct 1 (.int .i64 t.2.1) (by simp [tarRow, ht])
                  have t2 := hct 2 (.int .i64 t.2.2) (by simp [tarRow, ht])
                  simp only [Nat.add_zero] at t0
                  have htb : tarBad t = false := by
                    have h := H3.out
                    rw [List.any_eq_false] at h
                    have := h t (ht ▸ List.getElem_mem hqt)
                    simpa using this
                  obtain ⟨F, hF⟩ : ∃ F, (finesTo n ts l k).getD p 0 = F := ⟨_, rfl⟩
                  obtain ⟨c, hc⟩ : ∃ c, (l.take k).count x = c := ⟨_, rfl⟩
                  obtain ⟨C, hC⟩ : ∃ C, costP t c = C := ⟨_, rfl⟩
                  have hck : c ≤ k := by rw [← hc]; exact Nat.le_trans List.count_le_length (by simp; omega)
                  have hFb : 0 ≤ F ∧ F ≤ 1000000 * (k : Int) := by
                    have hall : ∀ t ∈ ts, tarBad t = false := fun t ht => by
                      have h := H3.out
                      rw [List.any_eq_false] at h
                      simpa using h t ht
                    refine finesTo_bd (n := n) (l := l) hall k F ?_
                    rw [← hF, List.getD_eq_getElem?_getD, List.getElem?_eq_getElem (by simpa using hpn)]
                    exact List.getElem_mem _
                  have hCb : 0 ≤ C ∧ C ≤ 1000000 := by rw [← hC]; exact costP_bd htb (by omega)
                  have hwr : IntKind.i64.wrap (F + C) = F + C := by rw [IntKind.wrap_i64]; omega
                  have r0 := HI.out.cell hpn
                  simp only [hF] at r0
                  obtain ⟨htb1, htb2, htb3, htb4, htb5, htb6⟩ := tarBad_spec htb
                  have hlk : ∀ w, Below w6.heap.size w6 w → (Instr.lookup 94 (.map (some (R + 1))) (.agg #[.int .i64 p, .int .i64 q]) false).run Try.prog w = .ok (.int .i64 c) w := fun w hw => by
                    obtain ⟨L, hL, hcn⟩ := HM.out
                    have := MapAt.lookup off_key (T := 94) (E := 3) (by rfl) (zero_int w) (hL.below hw) x false
                    rw [hcn, hc] at this
                    simpa [offV, hp, hq] using this
                  have HLK := Lib.hid hlk
                  clear hlk
                  go_wp2_with fail
                  have hx12 : x = ((p : Int), (q : Int)) := Prod.ext hp hq
                  simp only [hp, hq] at *
                  refine wp_region_seq 17 [.is (.slice (some ⟨R, 0, none⟩) n n), .is (.pointer (some ⟨wo.heap.size, 0, none⟩)), .is (.int .i64 p), .is (.pointer (some ⟨R, p, none⟩)), .is (.int .i64 F), .is (.slice (some ⟨bt, ot, none⟩) ts.length cap), .is (.pointer (some ⟨wo.heap.size, 1, none⟩)), .is (.int .i64 q), .is (.pointer (some ⟨bt, ot + q * 3, none⟩)), .is (tarV t), .is (.agg #[.int .i64 t.1, .int .i64 t.2.1, .int .i64 t.2.2]), .is (.map (some (R + 1))), .is (.agg #[.int .i64 p, .int .i64 q]), .is (.int .i64 c), .is (.int .i64 C), .is (.int .i64 (F + C)), .is (.pointer (some ⟨R, p, none⟩))] rfl mix (by kernel_rfl) (by kernel_rfl) ?seqm
                  case seqm =>
                    simp only [List.take_succ_cons, List.take_zero]
                    iterate 13
                      refine seq_is rfl (fun w1 hb1 _ => ?_) ?_
                      · have y0' := bAt hb1 y0
                        have y1' := bAt hb1 y1
                        have r0' := bAt hb1 r0
                        have t0' := bAt hb1 t0
                        have t1' := bAt hb1 t1
                        have t2' := bAt hb1 t2
                        simp [opOK, go_sem, y0', y1', r0', t0', t1', t2', tarV, hpn, hqt, Below.refl]
                        try exact rfl
                      simp only [Act.put, List.setIfInBounds_toArray, List.set_cons_succ, List.set_cons_zero]
                    refine seq_is rfl (fun w1 hb1 _ => ?_) ?_
                    · refine opOK_val (v := .int .i64 c) (w' := w1) ?_ ⟨rfl, Below.refl _ _⟩
                      have := HLK.out w1 hb1
                      simp [go_sem, execOp, this]
                    simp only [Act.put, List.setIfInBounds_toArray, List.set_cons_succ, List.set_cons_zero]
                    refine seq_is rfl (fun w1 hb1 _ => ?_) ?_
                    · refine opOK_call (f := 37) (args := #[.agg #[.int .i64 t.1, .int .i64 t.2.1, .int .i64 t.2.2], .int .i64 c]) (by simp [go_sem, tarV]) ?_
                      refine (cost_any t.1 t.2.1 t.2.2 c w1 ⟨htb1, htb2⟩ ⟨htb3, htb4⟩ (by omega) (by omega)).mono ?_
                      rintro e w2 ⟨rfl, hb2⟩
                      exact ⟨_, rfl, by rw [← hC], hb2⟩
                    simp only [Act.put, List.setIfInBounds_toArray, List.set_cons_succ, List.set_cons_zero]
                    iterate 2
                      refine seq_is rfl (fun w1 hb1 _ => ?_) ?_
                      · simp [opOK, go_sem, hwr, hpn, Below.refl]
                        try exact rfl
                      simp only [Act.put, List.setIfInBounds_toArray, List.set_cons_succ, List.set_cons_zero]
                    refine seq_end fun w7 hb7 _ => ?_
                    simp only [List.drop_succ_cons, List.drop_zero]
                    have hI7 := HI.out.below hb7
                    have k0 := hI7.cell hpn
                    have s0 := hI7.frozen p
                    simp only [hF] at k0
                    obtain ⟨w8, hW8⟩ : ∃ w8, w7.setCell ⟨R, p, none⟩ (.int .i64 (F + C)) = w8 := ⟨_, rfl⟩
                    have HW8 := Lib.hid hW8
                    clear hW8 r0 t0 t1 t2
                    go_wp2_with fail
                    rw [HW8.out]
                    have hb7' : Below w3.heap.size w3 w7 := bThen HB6.out hb7
                    have hR8 := HR.out
                    have hb8 : Below w3.heap.size w3 w8 := by rw [← HW8.out]; exact hb7'.setCell (by simp [hR8]) _
                    have y0' : w8.cell? ⟨wo.heap.size, 0, none⟩ = some (.int .i64 p) := by rw [← HW8.out, World.cell?_setCell_other _ _ _ _ (by simp)]; exact bAt hb7 y0
                    have y1' : w8.cell? ⟨wo.heap.size, 1, none⟩ = some (.int .i64 q) := by rw [← HW8.out, World.cell?_setCell_other _ _ _ _ (by simp)]; exact bAt hb7 y1
                    have hxV : offV x = .agg #[.int .i64 p, .int .i64 q] := by rw [offV, hx12]
                    have hI8 : IntBlk w8 R 3 n (fun j => (finesTo n ts l (k + 1)).getD j 0) := by
                      rw [← HW8.out]
                      refine (hI7.set p (F + C)).congr fun j hj => ?_
                      have e1 : l.getD k (0, 0) = x := by rw [List.getD_eq_getElem?_getD, List.getElem?_eq_getElem hlt, Option.getD_some, HX.out]
                      have e2 : cntB l k = c := by rw [cntB, e1, hc]
                      have e3 : ts.getD q (0, 0, 0) = t := by rw [List.getD_eq_getElem?_getD, List.getElem?_eq_getElem hqt, Option.getD_some, ht]
                      rw [finesTo, e1, e2, hx12,  Int.toNat_natCast, Int.toNat_natCast, e3, hC, addAt, hF]
                      by_cases hjp : j = p
                      · subst hjp
                        rw [if_pos rfl]; simp [List.getD_eq_getElem?_getD, hj]
                      · rw [if_neg hjp, List.getD_eq_getElem?_getD, List.getD_eq_getElem?_getD, List.getElem?_set_ne (fun e => hjp e.symm)]
                    obtain ⟨L, hL0, hcn⟩ := HM.out
                    have hL8 : MapAt offV w8 (R + 1) L := by
                      rw [← HW8.out]
                      exact (hL0.below hb7).keep (Below.heap_setCell _ _ _ _ (by simp))
                    have hck2 : (lookM L x).getD (.int .i64 0) = .int .i64 c := by rw [hcn, hc]
                    have HCN := Lib.hid hcn
                    have hwc : IntKind.i64.wrap ((c : Int) + 1) = (c : Int) + 1 := by rw [IntKind.wrap_i64]; omega
                    clear hI7 s0 k0 hb7 y0 y1 hcn hL0
                    refine wp_region_gen 6 (fun i v W => match i with
                      | 0 => v = .map (some (R + 1))
                      | 1 => v = .agg #[.int .i64 p, .int .i64 q]
                      | 2 => v = .int .i64 c
                      | 3 => v = .int .i64 ((c : Int) + 1)
                      | 4 => ∃ u st, v = .tuple #[u, .int .i64 (st : Nat)] ∧ EntAt offV W (R + 1) (entL L x (.int .i64 0)) x st
                      | 5 => ∃ st, v = .int .i64 (st : Nat) ∧ EntAt offV W (R + 1) (entL L x (.int .i64 0)) x st
                      | _ => True) (JE offV w8 (R + 1) L x (.int .i64 0) 4 5) mix (by kernel_rfl) (JE.start hL8) ?_ ?_
                    · refine ⟨?_, ?_, ?_, ?_, ?_, ?_, trivial⟩
                      all_goals refine gen_plain rfl fun a W S hSi hJ hpre ht' => ?_
                      all_goals
                        simp [Region.binds] at hpre
                        have t8 := ht' 8 rfl
                        have t10 := ht' 10 rfl
                        simp at t8 t10
                        have z0 : W.cell? ⟨wo.heap.size, 0, none⟩ = some (.int .i64 p) := by rw [World.cell?_of_block (hJ.grown.block _ (World.block_lt_of_cell? w8 _ y0') (by simp; omega))]; exact y0'
                        have z1 : W.cell? ⟨wo.heap.size, 1, none⟩ = some (.int .i64 q) := by rw [World.cell?_of_block (hJ.grown.block _ (World.block_lt_of_cell? w8 _ y1') (by simp; omega))]; exact y1'
                      iterate 2
                        (· simp [opOK, go_sem, t8, t10, z0, z1]
                           refine ⟨hJ.read (by omega) (by omega), ?_⟩
                           intro j _ _ v h _
                           exact h)
                      · obtain ⟨L', hL', hlk'⟩ := hJ.look
                        have := MapAt.lookup off_key (T := 94) (E := 3) (by rfl) (zero_int W) hL' x false
                        rw [hlk', hck2, hxV] at this
                        refine opOK_val (v := .int .i64 c) (w' := W) (by simp [go_sem, execOp, hpre, this]) ⟨hJ.read (by omega) (by omega), fun j _ _ v h _ => h, rfl⟩
                      · simp [opOK, go_sem, hpre, hwc]
                        refine ⟨hJ.read (by omega) (by omega), ?_⟩
                        intro j _ _ v h _
                        exact h
                      · obtain ⟨W', st, hrun, hE, hg⟩ := MapAt.entry off_key (T := 94) (E := 3) (by rfl) (zero_int W) (hJ.off hSi).1 x
                        rw [hxV] at hrun
                        refine opOK_val (v := _) (w' := W') (by simp [go_sem, execOp, hpre, hrun]; rfl) ⟨hJ.made hg hE, ?_, _, _, rfl, hE⟩
                        intro j hj hSj v h _
                        match j, hj, hSj, h with
                        | 0, _, _, h | 1, _, _, h | 2, _, _, h | 3, _, _, h => exact h
                        | 4, hj, _, _ => exact absurd rfl hj
                        | 5, _, hS5, _ => rw [(hJ.off hSi).2] at hS5; cases hS5
                        | _ + 6, _, _, _ => trivial
                      · obtain ⟨hS4, v4, ⟨u, st, rfl, hE⟩, h76⟩ := hpre
                        refine opOK_val (v := .int .i64 (st : Nat)) (w' := W) (by simp [go_sem, execOp, h76]) ⟨hJ.read (by omega) (fun _ => hS4), fun j _ _ v h _ => h, _, rfl, hE⟩
                    · intro W' hJ
                      simp only [List.take_succ_cons, List.take_zero, List.drop_succ_cons, List.drop_zero, EndAll]
                      rintro _ rfl _ rfl _ rfl _ rfl v4 - _ ⟨st, rfl, hE⟩
                      obtain ⟨W9, hst, hM9, hg9⟩ := hE.store (P := Try.prog) (T := 94) (.int .i64 ((c : Int) + 1))
                      rw [upd_entL] at hM9
                      refine wpList_opOK (R := fun _ w => w = W9) rfl (opOK_skip (w' := W9) (by simp [go_sem, execOp, hst]) rfl) fun v w hw => ?_
                      subst hw
                      have hg0 := hJ.grown
                      have hg := grownBy_trans hg0 hg9
                      have hb9 : Below w3.heap.size w3 w := hb8.trans (below_grownBy hg hb8.size (fun k hk => by cases hk; omega))
                      have HI9 := Lib.hid (hI8.keep (hg.block R hI8.lt (by simp)))
                      have HM9 : Hid (∃ L, MapAt offV w (R + 1) L ∧ ∀ y, (lookM L y).getD (.int .i64 0) = .int .i64 ((l.take (k + 1)).count y : Nat)) := Lib.hid ⟨_, hM9, fun y => by
                        rw [lookM_upd, List.take_succ_eq_append_getElem hlt, List.count_append, HX.out]
                        by_cases hxy : x = y
                        · subst hxy
                          simp [hc]
                        · rw [if_neg hxy, HCN.out]
                          simp [hxy]⟩
                      have HB9 := Lib.hid hb9
                      clear hst hE hJ hg hg0 hg9 hb9 hM9 hR8 hp hq hI8 hL8 hck2 hxV y0' y1' hb8 hb7'
                      go_wp2
                      go_roundw
                      case rel => exact ⟨k + 1, by omega, by go_num, rfl, Lib.hid (fun j hj h => by
                        by_cases e : j = k
                        · subst e; rw [OB.out]; rfl
                        · exact HO.out j (by omega) h), HI9, HM9, HB9.out⟩
                      case measure => simp [intOf]; omega
            · obtain rfl : k = l.length := by omega
              have he : er = 0 := by
                rw [ER2.out, if_neg]
                simp only [List.any_eq_true, not_exists, not_and]
                intro x hx
                obtain ⟨j, hj, rfl⟩ := List.mem_iff_getElem.1 hx
                simp [HO.out j hj hj]
              clear ER2
              subst he
              have hrs : rs = finesTo n ts l l.length := by have := RS.out; simpa using this
              clear RS
              subst hrs
              have HB := Lib.hid hb
              clear hb
              go_wp2
              go_ret2
              refine ⟨_, rfl, bThen HB3.out HB.out, ?_⟩
              have h1 := HI.out.sl (by unfold maxLen; omega)
              have h2 : (List.range n).map (fun j => (finesTo n ts l l.length).getD j 0) = finesTo n ts l l.length := by
                apply List.ext_getElem (by simp)
                intro i h1 h2
                simp [List.getD_eq_getElem?_getD, List.getElem?_eq_getElem h2]
              rw [h2] at h1
              show Sl (fun q => w.heap.size ≤ q) wo (.slice (some ⟨R, 0, none⟩) n n) (ints (finesTo n ts l l.length))
              exact h1.mono fun q hq => by have h1 := HB3.out.size; have h2 := HR.out; omega
      · have er2 : er = 2 := ER.out
        clear ER
        subst er2
        have rs2 : rs = [] := RS.out
        clear RS
        subst rs2
        go_wp2
        go_ret2
        exact ⟨_, rfl, HB3.out, Sl.nil _ _⟩
end Go.Proofs.Ytagfcodpgochjaa

/- Chapter 12, coins, in plain Lean: the window. -/
namespace Go.Proofs.Ytagfcodpgochjaa
open Go.RowKit Go.Oche Go.Proofs

/-- The fewest with at most q coins of this kind. -/
def bestQ (F : Nat → Int) (W a : Nat) : Nat → Int
  | 0 => F a
  | q + 1 => min (bestQ F W a q) (F (a - (q + 1) * W) + ((q + 1 : Nat) : Int))
def noneC : Int := 1073741824
def addK (F : Nat → Int) (W C a : Nat) : Int := min noneC (bestQ F W a (min C (a / W)))
theorem bestQ_le (F : Nat → Int) (W a : Nat) : ∀ Q q, q ≤ Q → bestQ F W a Q ≤ F (a - q * W) + (q : Int)
  | 0, q, h => by obtain rfl : q = 0 := by omega
                  simp [bestQ]
  | Q + 1, q, h => by
    rw [bestQ]
    by_cases e : q = Q + 1
    · subst e; omega
    · have := bestQ_le F W a Q q (by omega); omega
theorem bestQ_ex (F : Nat → Int) (W a : Nat) : ∀ Q, ∃ q, q ≤ Q ∧ bestQ F W a Q = F (a - q * W) + (q : Int)
  | 0 => ⟨0, Nat.le_refl _, by simp [bestQ]⟩
  | Q + 1 => by
    obtain ⟨q, h1, h2⟩ := bestQ_ex F W a Q
    rw [bestQ]
    by_cases h : bestQ F W a Q ≤ F (a - (Q + 1) * W) + ((Q + 1 : Nat) : Int)
    · exact ⟨q, by omega, by omega⟩
    · exact ⟨Q + 1, by omega, by omega⟩
theorem addK_bd {F : Nat → Int} (hF : ∀ i, 0 ≤ F i) (W C a : Nat) : 0 ≤ addK F W C a ∧ addK F W C a ≤ noneC := by
  obtain ⟨q, _, e⟩ := bestQ_ex F W a (min C (a / W))
  have := hF (a - q * W)
  unfold addK noneC
  omega
/-- What an amount costs with the coins before it. -/
def costW (F : Nat → Int) (W r i : Nat) : Int := F (r + i * W) - (i : Int)
/-- The window ahead of step n: in it the best of the last C + 1. -/
structure WinOk (F : Nat → Int) (W r C n : Nat) (xs : List Nat) : Prop where
  rng : ∀ x ∈ xs, x < n ∧ n ≤ x + C + 1
  asc : xs.Pairwise fun x y => x < y ∧ costW F W r x < costW F W r y
  best : ∀ i, i < n → n ≤ i + C + 1 → ∃ x ∈ xs, i ≤ x ∧ costW F W r x ≤ costW F W r i
theorem WinOk.start (F : Nat → Int) (W r C : Nat) : WinOk F W r C 0 [] := ⟨by simp, by simp, fun i h => by omega⟩
/-- .. behind the pushing of n. -/
structure WinMid (F : Nat → Int) (W r C n : Nat) (xs : List Nat) : Prop where
  rng : ∀ x ∈ xs, x ≤ n ∧ n ≤ x + C + 1
  asc : xs.Pairwise fun x y => x < y ∧ costW F W r x < costW F W r y
  best : ∀ i, i ≤ n → n ≤ i + C + 1 → ∃ x ∈ xs, i ≤ x ∧ costW F W r x ≤ costW F W r i
  last : xs ≠ []
theorem WinOk.push {F : Nat → Int} {W r C n : Nat} {xs ys zs : List Nat} (h : WinOk F W r C n xs) (hx : xs = ys ++ zs) (hz : ∀ z ∈ zs, costW F W r n ≤ costW F W r z) (hy : ∀ y, ys.getLast? = some y → costW F W r y < costW F W r n) : WinMid F W r C n (ys ++ [n]) := by
  subst hx
  have hasc := List.pairwise_append.1 h.asc
  have hlt : ∀ y ∈ ys, costW F W r y < costW F W r n := by
    intro y hyy
    have hne : ys ≠ [] := List.ne_nil_of_mem hyy
    obtain ⟨l, hl⟩ : ∃ l, ys.getLast? = some l := ⟨_, List.getLast?_eq_some_getLast hne⟩
    have h1 := hy l hl
    obtain ⟨pre, e⟩ := List.getLast?_eq_some_iff.1 hl
    subst e
    rcases List.mem_append.1 hyy with h2 | h2
    · have := (List.pairwise_append.1 hasc.1).2.2 y h2 l (by simp)
      omega
    · simp only [List.mem_singleton] at h2; subst h2; exact h1
  refine ⟨fun x hx => ?_, ?_, fun i hi hb => ?_, by simp⟩
  · rcases List.mem_append.1 hx with hx | hx
    · have := h.rng x (by simp [hx]); omega
    · simp only [List.mem_singleton] at hx; omega
  · rw [List.pairwise_append]
    refine ⟨hasc.1, by simp, fun a ha b hb => ?_⟩
    simp only [List.mem_singleton] at hb
    subst hb
    exact ⟨(h.rng a (by simp [ha])).1, hlt a ha⟩
  · by_cases e : i = n
    · exact ⟨n, by simp, by omega, by subst e; exact Int.le_refl _⟩
    · obtain ⟨x, hx, h1, h2⟩ := h.best i (by omega) hb
      rcases List.mem_append.1 hx with hx | hx
      · exact ⟨x, by simp [hx], h1, h2⟩
      · have := hz x hx
        exact ⟨n, by simp, by omega, by omega⟩
/-- The head is too old: it goes. -/
theorem WinMid.drop {F : Nat → Int} {W r C n x : Nat} {xs : List Nat} (h : WinMid F W r C n (x :: xs)) (hx : x + C < n) : WinOk F W r C (n + 1) xs ∧ xs ≠ [] := by
  have hr := h.rng x (by simp)
  have ha := List.pairwise_cons.1 h.asc
  refine ⟨⟨fun y hy => ?_, ha.2, fun i hi hb => ?_⟩, ?_⟩
  · have h1 := h.rng y (by simp [hy])
    have h2 := (ha.1 y hy).1
    omega
  · obtain ⟨y, hy, h1, h2⟩ := h.best i (by omega) (by omega)
    rcases List.mem_cons.1 hy with rfl | hy
    · omega
    · exact ⟨y, hy, h1, h2⟩
  · obtain ⟨y, hy, h1, _⟩ := h.best n (Nat.le_refl _) (by omega)
    rcases List.mem_cons.1 hy with rfl | hy
    · omega
    · exact List.ne_nil_of_mem hy
theorem WinMid.keep {F : Nat → Int} {W r C n x : Nat} {xs : List Nat} (h : WinMid F W r C n (x :: xs)) (hx : ¬ x + C < n) : WinOk F W r C (n + 1) (x :: xs) := by
  have ha := List.pairwise_cons.1 h.asc
  refine ⟨fun y hy => ?_, h.asc, fun i hi hb => h.best i (by omega) (by omega)⟩
  have h1 := h.rng y hy
  rcases List.mem_cons.1 hy with rfl | hy
  · omega
  · have := (ha.1 y hy).1; omega
/-- The head is the best. -/
theorem WinOk.head {F : Nat → Int} {W r C n x : Nat} {xs : List Nat} (h : WinOk F W r C (n + 1) (x :: xs)) (hr : r < W) : min noneC (costW F W r x + (n : Int)) = addK F W C (r + n * W) := by
  have hW : 0 < W := by omega
  have hdiv : (r + n * W) / W = n := by
    rw [Nat.add_mul_div_right _ _ hW, Nat.div_eq_of_lt hr, Nat.zero_add]
  have hx := h.rng x (by simp)
  have ha := List.pairwise_cons.1 h.asc
  have sub : ∀ q, q ≤ n → r + n * W - q * W = r + (n - q) * W := fun q hq => by
    have := Nat.mul_le_mul_right W hq
    rw [Nat.sub_mul]; omega
  have key : costW F W r x + (n : Int) = bestQ F W (r + n * W) (min C n) := by
    obtain ⟨q, h1, h2⟩ := bestQ_ex F W (r + n * W) (min C n)
    have h3 := bestQ_le F W (r + n * W) (min C n) (n - x) (by omega)
    rw [sub q (by omega)] at h2
    rw [sub (n - x) (by omega), show n - (n - x) = x by omega] at h3
    obtain ⟨y, hy, h4, h5⟩ := h.best (n - q) (by omega) (by omega)
    have h6 : costW F W r x ≤ costW F W r y := by
      rcases List.mem_cons.1 hy with rfl | hy
      · exact Int.le_refl _
      · exact Int.le_of_lt (ha.1 y hy).2
    unfold costW at h5 h6 ⊢
    omega
  rw [addK, hdiv, key]
end Go.Proofs.Ytagfcodpgochjaa

/- Chapter 12: collecting coins. -/
namespace Go.Proofs.Ytagfcodpgochjaa
open Go.RowKit Go.Oche Go.Proofs
attribute [local go_sem] Oper.semAt_some

theorem info66 : (Try.prog.info? 66).map (fun i => (i.zero, i.size, i.bytes)) = some (some (.agg #[.int .i64 0, .int .i64 0]), 2, 16) := by kernel_rfl
def coinsFlat (cs : List (Int × Int)) : List Value := (cs.map coinRow).flatten
theorem coinsFlat_snoc (cs : List (Int × Int)) (c : Int × Int) : coinsFlat (cs ++ [c]) = coinsFlat cs ++ coinRow c := by simp [coinsFlat]
def CI (bx : Nat) (pre : List (Int × Int)) (O : Nat → Prop) (W : World) : Prop := ∃ lv, BoxRow bx 63 66 2 pre.length (coinsFlat pre) O lv W
set_option maxRecDepth 100000 in
set_option maxHeartbeats 4000000 in
theorem appendSeq_any {S : Nat → Prop} (cs : List (Int × Int)) (pb : Nat) (v : Value) (w : World) (cb : w.cell? ⟨pb, 0, none⟩ = some v) (hsl : SlN 2 S w v (cs.map coinRow)) (hl : cs.length ≤ 1000) :
    Calls Try.prog 79 #[.slice none 0 0, .func (.func 69) #[] #[.pointer (some ⟨pb, 0, none⟩)]] w fun e w' =>
      ∃ v', e = .returned v' ∧ Below w.heap.size w w' ∧ w'.ownsRow w.heap.size 66 2 v' cs.length (coinsFlat cs) := by
  obtain ⟨w0, hw0⟩ : ∃ w0, w.alloc (.cells #[.slice none 0 0] 63) = w0 := ⟨_, rfl⟩
  have hb0 : Below w.heap.size w w0 := by rw [← hw0]; exact aB _ _
  have hz0 : w0.heap.size = w.heap.size + 1 := by rw [← hw0]; simp
  have hbx : w0.heap[w.heap.size]? = some (.cells #[.slice none 0 0] 63 (0, 0)) := by rw [← hw0]; exact World.alloc_heap_new _ _
  have HBX := Lib.hid hbx
  have HPB := Lib.hid (World.block_lt_of_cell? w _ cb)
  have HCB := Lib.hid (bAt hb0 cb)
  have HSL := Lib.hid ((hsl.lt (by decide)).below hb0)
  have HW := Lib.hid hw0
  have HZ := Lib.hid hz0
  clear hw0 hbx cb hsl hz0
  refine (callsIn_wide (n := 0)).1 (callsIn_of_wp_marks Try.func79 rfl trivial ?_ rfl)
  simp only [Try.ntmps79, List.size_toArray, List.length_cons, List.length_nil, Nat.reduceAdd, Nat.reduceSub, Array.replicate_succ, Array.replicate_zero, List.push_toArray, List.append_toArray, List.nil_append, List.cons_append]
  gi_wp2_with fail
  rw [HW.out]
  obtain ⟨N, hN⟩ : ∃ N, w.heap.size = N := ⟨_, rfl⟩
  rw [hN] at HBX HSL HPB HZ hb0 ⊢
  have HN := Lib.hid hN
  clear hN
  refine wpIn_range (t := 3) (gf := 69) (fa := #[]) (lb := #[.pointer (some ⟨pb, 0, none⟩)]) rfl (enters_of Try.func69 (by kernel_rfl) rfl)
    (values1_in cs pb v w0 (fun j => j < N) HCB.out HSL.out HPB.out (fun k hk _ => hk.2))
    (CI N) (fun _ _ _ _ => False) (fun pre O A B h _ _ _ _ hk => by obtain ⟨lv, h⟩ := h; exact ⟨lv, h.stab fun k h1 h2 => hk k h1 (.inl h2)⟩) (fun _ _ _ _ _ h => h.elim)
    (fun j => j = N) (fun j hj => by have := HZ.out; omega) (fun j hj => by have := HZ.out; omega) ⟨.slice none 0 0, ⟨fun k => by simp [Value.ownBlock], HBX.out, World.ownsRow_nil _ _ _ _⟩⟩
    (fun b args O W' h => by subst h; rfl) ?round ?done ?stop
  case round =>
    rintro l pre x post args O₁ W₁ hL hl1 hl2 hnl hnl' hrel hI henc
    subst henc
    clear hI
    have hpre : pre.length ≤ 1000 := by have := congrArg List.length hL; simp at this; omega
    clear hL
    unfold coinV
    gi_wp2_with fail
    refine ⟨aB _ _, ?_⟩
    rintro W₃ hon ⟨lv, hB⟩
    obtain ⟨la, lc, rfl⟩ : ∃ a c, lv = .slice a pre.length c := owns_form hB.row
    have x0 : W₃.cell? ⟨W₁.heap.size, 0, none⟩ = some (.int .i64 x.1) := (hon.cell _).trans (by simp)
    have x1 : W₃.cell? ⟨W₁.heap.size, 1, none⟩ = some (.int .i64 x.2) := (hon.cell _).trans (by simp)
    have xb : W₃.cell? ⟨N, 0, none⟩ = some (.slice la pre.length lc) := by rw [cell_of_heap hB.box]; rfl
    have hNW : N + 1 ≤ W₃.heap.size := (Array.getElem?_eq_some_iff.1 hB.box).1
    have hn9 : ∀ j u, (coinRow x)[j]? = some u → (W₃.alloc (.cells #[.int .i64 x.1, .int .i64 x.2] 66)).cell? ⟨W₃.heap.size, 0 + j, none⟩ = some u := by
      intro j u hj
      unfold World.cell?
      rw [World.alloc_heap_new]
      simpa [coinRow] using hj
    have HB := Lib.hid hB
    have HN9 := Lib.hid hn9
    clear hB hon hn9
    gi_wp2_with (refine wpListIn_appendN (open_round l) rfl (.tmp 8) (.tmp 10) 63 rfl (N + 1) 66 (.agg #[.int .i64 0, .int .i64 0]) 2 16 Try.underlying63 info66 rfl (by decide) _ pre.length _ rfl (HB.out.row.alloc _) W₃.heap.size 0 1 1 (coinRow x) rfl rfl HN9.out (by intro u hu; simp [coinRow] at hu; rcases hu with rfl | rfl <;> rfl) (by omega) (by decide) (by simp; omega) ?_)
    intro lv' W4 ho hg hat
    obtain ⟨m1, m2, y4, f4⟩ := HB.out.more (aB W₃ _) ho hg (by simpa using hat)
    obtain ⟨la', lc', rfl⟩ : ∃ a c, lv' = .slice a (pre.length + 1) c := owns_form ho
    have M1 := Lib.hid m1
    have M2 := Lib.hid m2
    clear m1 m2 ho hg hat x0 x1 xb
    gi_wp2_with fail
    exact ⟨_, M2.out, _, by rw [List.length_append, coinsFlat_snoc]; exact M1.out⟩
  case done =>
    intro D O₁ W' hD hnD hrel hI hDD
    obtain ⟨lv, hB⟩ := hI
    obtain ⟨la, lc, rfl⟩ : ∃ a c, lv = .slice a cs.length c := owns_form hB.row
    have xb : W'.cell? ⟨N, 0, none⟩ = some (.slice la cs.length lc) := by rw [cell_of_heap hB.box]; rfl
    have hB' : Below N w W' := hb0.trans (hrel.below (by have := HZ.out; omega) (fun j hj e => by omega))
    have HR := Lib.hid hB.row
    have HB' := Lib.hid hB'
    have HDD := Lib.hid hDD
    have HDN := Lib.hid hnD
    have HOO : Hid ((Value.slice la cs.length lc).ownBlock = some D → O₁ D) := Lib.hid (fun h => (hB.o D).2 (.inr h))
    clear hB hB' hDD hrel hnD
    gi_wp2_with fail
    have hmk : Marks 0 W' [D] := (Marks.nil _ _).cons HDD.out (Nat.zero_le _) (by simp)
    refine leave_marks [D] _ hmk fun W'' hp => ?_
    refine ⟨.slice la cs.length lc, by simp [results, go_sem], _, rfl, ?_, ?_⟩
    · rw [HN.out]; exact HB'.out.trans (hp.below fun E hE => by simp at hE; have := HZ.out; omega)
    · rw [HN.out]
      exact ownsN_base (ownsN_kept HR.out fun g hg => hp.block g fun h => by simp at h; subst h; exact HDN.out (HOO.out hg)) (by omega)
  case stop => intro D c pre O₁ W' _ _ _ _ h; exact h.elim
end Go.Proofs.Ytagfcodpgochjaa

/- Chapter 12: insertion sort of coins by their worth. -/
namespace Go.Proofs.Ytagfcodpgochjaa
open Go.RowKit Go.Oche Go.Proofs

def cmpI (x y : Int) : Int := if x < y then -1 else if y < x then 1 else 0
theorem cmpI_neg (x y : Int) : cmpI x y < 0 ↔ x < y := by unfold cmpI; split <;> (try split) <;> omega
set_option maxRecDepth 100000 in
theorem coins2_any (a b c d : Int) (w : World) : Calls Try.prog 50 #[.agg #[.int .i64 a, .int .i64 b], .agg #[.int .i64 c, .int .i64 d]] w fun e w' => e = .returned (.int .i64 (cmpI a c)) ∧ Below w.heap.size w w' := by
  have hb0 : Below w.heap.size w ((w.alloc (.cells #[.int .i64 a, .int .i64 b] 66)).alloc (.cells #[.int .i64 c, .int .i64 d] 66)) := (aB _ _).trans ((aB _ _).mono (by simp))
  have HB := Lib.hid hb0
  clear hb0
  rcases Int.lt_trichotomy a c with h | h | h
  · have d1 : decide (a < c) = true := decide_eq_true h
    have R : Hid (cmpI a c = -1) := Lib.hid (by unfold cmpI; rw [if_pos h])
    clear h
    go_enter Try.func50, Try.ntmps50
    go_wp2
    go_ret
    exact ⟨ret_int R.out.symm, HB.out⟩
  · subst h
    have R : Hid (cmpI a a = 0) := Lib.hid (by unfold cmpI; rw [if_neg (by omega), if_neg (by omega)])
    go_enter Try.func50, Try.ntmps50
    go_wp2
    go_ret
    exact ⟨ret_int R.out.symm, HB.out⟩
  · have d1 : decide (a < c) = false := decide_eq_false (by omega)
    have d2 : decide (c < a) = true := decide_eq_true h
    have R : Hid (cmpI a c = 1) := Lib.hid (by unfold cmpI; rw [if_neg (by omega), if_pos h])
    clear h
    go_enter Try.func50, Try.ntmps50
    go_wp2
    go_ret
    exact ⟨ret_int R.out.symm, HB.out⟩
def coinAt (cs : List (Int × Int)) (i : Int) : Int × Int := cs.getD i.toNat (0, 0)
def rowsOf (cs : List (Int × Int)) (ys : List Int) : List (Int × Int) := ys.map (coinAt cs)
@[simp] theorem rowsOf_length (cs : List (Int × Int)) (ys : List Int) : (rowsOf cs ys).length = ys.length := by simp [rowsOf]
theorem rowsOf_set (cs : List (Int × Int)) (ys : List Int) (i : Nat) (x : Int) : (rowsOf cs ys).set i (coinAt cs x) = rowsOf cs (ys.set i x) := by simp [rowsOf, List.map_set]
def worthR (cs : List (Int × Int)) (i : Int) : Int := -(coinAt cs i).1
theorem flat_set : ∀ (l : List (Int × Int)) (j : Nat) (c : Int × Int), j < l.length → ((coinsFlat l).set (j * 2) (.int .i64 c.1)).set (j * 2 + 1) (.int .i64 c.2) = coinsFlat (l.set j c)
  | [], j, c, h => by simp at h
  | a :: l, 0, c, _ => by simp [coinsFlat, coinRow]
  | a :: l, j + 1, c, h => by
    have := flat_set l j c (by simpa using h)
    have e1 : (j + 1) * 2 = j * 2 + 1 + 1 := by omega
    have e2 : (j + 1) * 2 + 1 = j * 2 + 1 + 1 + 1 := by omega
    rw [e2, e1]
    simp only [coinsFlat, List.map_cons, List.flatten_cons, coinRow, List.cons_append, List.nil_append, List.set_cons_succ] at this ⊢
    rw [this]
theorem flat_at0 : ∀ (l : List (Int × Int)) (j : Nat) (h : j < l.length), (coinsFlat l)[j * 2]? = some (.int .i64 l[j].1) ∧ (coinsFlat l)[j * 2 + 1]? = some (.int .i64 l[j].2)
  | [], j, h => by simp at h
  | a :: l, 0, _ => by simp [coinsFlat, coinRow]
  | a :: l, j + 1, h => by
    have := flat_at0 l j (by simpa using h)
    have e1 : (j + 1) * 2 = j * 2 + 1 + 1 := by omega
    have e2 : (j + 1) * 2 + 1 = j * 2 + 1 + 1 + 1 := by omega
    rw [e2, e1]
    simpa [coinsFlat, coinRow] using this
theorem rows_at {cs : List (Int × Int)} {ys : List Int} {j : Nat} (h : j < ys.length) (h2 : j < (rowsOf cs ys).length) : (rowsOf cs ys)[j] = coinAt cs (at0 ys j) := by rw [at0_eq h]; simp [rowsOf]
/-- A row of coins, by their numbers. -/
def CoinOwn (cs : List (Int × Int)) (base g n c : Nat) (ys : List Int) (W : World) : Prop := W.ownsRow base 66 2 (.slice (some ⟨g, 0, none⟩) n c) n (coinsFlat (rowsOf cs ys))
theorem CoinOwn.len {cs : List (Int × Int)} {base g n c : Nat} {ys : List Int} {W : World} (h : CoinOwn cs base g n c ys W) : ys.length = n := by
  have := h.1
  have e : ∀ l : List (Int × Int), (coinsFlat l).length = l.length * 2 := by
    intro l
    induction l with
    | nil => rfl
    | cons a l ih =>
      have : coinsFlat (a :: l) = coinRow a ++ coinsFlat l := by simp [coinsFlat]
      rw [this, List.length_append, ih]; simp [coinRow]; omega
  rw [e, rowsOf_length] at this; omega
theorem CoinOwn.cells {cs : List (Int × Int)} {base g n c : Nat} {ys : List Int} {W : World} (h : CoinOwn cs base g n c ys W) {j : Nat} (hj : j < n) {x : Int} (hx : at0 ys j = x) : W.cell? ⟨g, j * 2, none⟩ = some (.int .i64 (coinAt cs x).1) ∧ W.cell? ⟨g, j * 2 + 1, none⟩ = some (.int .i64 (coinAt cs x).2) := by
  have hl := h.len
  obtain ⟨e1, e2⟩ := flat_at0 (rowsOf cs ys) j (by rw [rowsOf_length]; omega)
  rw [rows_at (by omega), hx] at e1 e2
  rw [World.ownsRow.cellAt h (j * 2) (by omega), World.ownsRow.cellAt h (j * 2 + 1) (by omega)]
  exact ⟨e1, e2⟩
theorem CoinOwn.stored {cs : List (Int × Int)} {base g n c : Nat} {ys : List Int} {W : World} (h : CoinOwn cs base g n c ys W) {j : Nat} (hj : j < n) (x : Int) :
    CoinOwn cs base g n c (ys.set j x) ((W.setCell ⟨g, j * 2, none⟩ (.int .i64 (coinAt cs x).1)).setCell ⟨g, j * 2 + 1, none⟩ (.int .i64 (coinAt cs x).2)) ∧ W.grownBy ((W.setCell ⟨g, j * 2, none⟩ (.int .i64 (coinAt cs x).1)).setCell ⟨g, j * 2 + 1, none⟩ (.int .i64 (coinAt cs x).2)) (some g) := by
  have hl := h.len
  obtain ⟨h1, g1⟩ := World.ownsRow.stored h (j * 2) (.int .i64 (coinAt cs x).1)
  obtain ⟨h2, g2⟩ := World.ownsRow.stored h1 (j * 2 + 1) (.int .i64 (coinAt cs x).2)
  rw [flat_set _ _ _ (by rw [rowsOf_length]; omega), rowsOf_set] at h2
  exact ⟨h2, grownBy_trans g1 g2⟩
set_option maxRecDepth 100000 in
set_option maxHeartbeats 4000000 in
theorem insC_any (cs : List (Int × Int)) (g c n base : Nat) (xs : List Int) (a b : Nat) (w : World) (ho : CoinOwn cs base g n c xs w) (hab : a ≤ b) (hbn : b ≤ n) (hn : n ≤ 100) (hasc : ∀ p q, a ≤ p → p < q → q < b → at0 xs p < at0 xs q) :
    Calls Try.prog 95 #[.slice (some ⟨g, 0, none⟩) n c, .int .i64 a, .int .i64 b, .func (.func 50) #[] #[]] w fun e w' =>
      e = .returned (.tuple #[]) ∧ ∃ ys, CoinOwn cs base g n c ys w' ∧ w.grownBy w' (some g) ∧ SegOk (worthR cs) xs a b (max (a + 1) b) ys := by
  have hxl := ho.len
  have HO := Lib.hid ho
  have HA := Lib.hid hasc
  have hw0 : IntKind.i64.wrap ((a : Int) + 1) = (a : Int) + 1 := wrap_small _ (by omega) (by omega)
  clear ho hasc
  go_enter Try.func95, Try.ntmps95
  go_wp2_with fail
  clear hw0
  go_loopw [8] (fun iv wr => ∃ (i : Nat) (ys : List Int), a + 1 ≤ i ∧ i ≤ max (a + 1) b ∧ iv = .int .i64 i ∧ Hid (SegOk (worthR cs) xs a b i ys) ∧ Hid (CoinOwn cs base g n c ys wr) ∧ Hid (w.grownBy wr (some g))) (fun iv _ => b - (intOf iv).toNat)
  case atStart => exact ⟨a + 1, xs, by omega, by omega, by go_num, Lib.hid (SegOk.start (by omega) HA.out), HO, Lib.hid ⟨rfl, rfl, rfl, Nat.le_refl _, fun _ _ _ => rfl⟩⟩
  case round =>
    clear HO
    obtain ⟨i, ys, hi1, hi2, rfl, HS, HO, HG⟩ := hrel
    by_cases hlt : i < b
    · have HYL := HS.out.len
      obtain ⟨wo, rfl⟩ : ∃ wo : World, wo = wr := ⟨_, rfl⟩
      go_wp2_with fail
      go_loopw [9] (fun jv wi => ∃ (j : Nat) (zs : List Int), jv = .int .i64 j ∧ Hid (SlideOk (worthR cs) ys a i j zs) ∧ Hid (CoinOwn cs base g n c zs wi) ∧ Hid (w.grownBy wi (some g))) (fun jv _ => (intOf jv).toNat)
      case atStart => exact ⟨i, ys, rfl, Lib.hid (SlideOk.start (by omega)), HO, HG⟩
      case round =>
        clear HO HG
        obtain ⟨j, zs, rfl, HZ, HO, HG⟩ := hrel
        obtain ⟨hj1, hj2⟩ := HZ.out.rng
        have HZL := HZ.out.len
        obtain ⟨wi, rfl⟩ : ∃ wi : World, wi = wr := ⟨_, rfl⟩
        by_cases hja : a < j
        · have d1 : decide ((a : Int) < (j : Int)) = true := decide_eq_true (by omega)
          have d1n : decide (a < j) = true := decide_eq_true hja
          obtain ⟨m, hm⟩ : ∃ m, j = m + 1 := ⟨j - 1, by omega⟩
          have hwm : IntKind.i64.wrap ((j : Int) - 1) = (m : Int) := by rw [IntKind.wrap_i64]; omega
          obtain ⟨x, hx⟩ : ∃ x, at0 zs j = x := ⟨_, rfl⟩
          obtain ⟨y, hy⟩ : ∃ y, at0 zs m = y := ⟨_, rfl⟩
          obtain ⟨k1, k1b⟩ := HO.out.cells (show j < n by omega) hx
          obtain ⟨k0, k0b⟩ := HO.out.cells (show m < n by omega) hy
          obtain ⟨⟨x1, x2⟩, hX⟩ : ∃ X, coinAt cs x = X := ⟨_, rfl⟩
          obtain ⟨⟨y1, y2⟩, hY⟩ : ∃ Y, coinAt cs y = Y := ⟨_, rfl⟩
          rw [hX] at k1 k1b
          rw [hY] at k0 k0b
          simp only at k1 k1b k0 k0b
          have hm1n : j < n := by omega
          have hmn : m < n := by omega
          obtain ⟨D, hD⟩ : ∃ D, cmpI x1 y1 = D := ⟨_, rfl⟩
          have HDD : Hid (D < 0 ↔ worthR cs y < worthR cs x) := Lib.hid (by rw [← hD, cmpI_neg, worthR, worthR, hX, hY]; simp only; omega)
          have HXX := Lib.hid hX
          have HYY := Lib.hid hY
          obtain ⟨bb, hbb⟩ : ∃ bb, decide (D < 0) = bb := ⟨_, rfl⟩
          have HX := Lib.hid hx
          have HY := Lib.hid hy
          have HD := Lib.hid hD
          have HBB := Lib.hid hbb
          have HM := Lib.hid hm
          clear hx hy hD hX hY hm
          go_wp2_with fail
          refine wp_region_seq 17 [.is ?_, .is ?_, .is (.bool true), .is (.bool true), .is ?_, .is ?_, .is ?_, .is ?_, .is ?_, .is ?_, .is ?_, .is ?_, .is ?_, .is ?_, .is (.int .i64 D), .is ?_, .is (.bool bb)] rfl mix (by kernel_rfl) (by kernel_rfl) ?seqm
          case seqm =>
            simp only [List.take_succ_cons, List.take_zero]
            iterate 4
              refine seq_is rfl (fun w1 hb1 _ => ?_) ?_
              · simp [opOK, go_sem, hja, Below.refl]
                try exact rfl
              simp only [Act.put, List.setIfInBounds_toArray, List.set_cons_succ, List.set_cons_zero]
            iterate 10
              refine seq_on (by rfl) (fun w1 hb1 _ => ?_) ?_
              · have k0' := bAt hb1 k0
                have k1' := bAt hb1 k1
                have k0b' := bAt hb1 k0b
                have k1b' := bAt hb1 k1b
                simp [opOK, go_sem, k0', k1', k0b', k1b', hwm, hm1n, hmn, Below.refl]
                try exact rfl
              simp only [Act.put, List.setIfInBounds_toArray, List.set_cons_succ, List.set_cons_zero]
            refine seq_on (by rfl) (fun w1 hb1 _ => ?_) ?_
            · refine opOK_call (f := 50) (args := #[.agg #[.int .i64 x1, .int .i64 x2], .agg #[.int .i64 y1, .int .i64 y2]]) (by simp [go_sem]) ?_
              refine (coins2_any x1 x2 y1 y2 w1).mono ?_
              rintro e w2 ⟨rfl, hb2⟩
              exact ⟨_, rfl, by rw [HD.out], hb2⟩
            simp only [Act.put, List.setIfInBounds_toArray, List.set_cons_succ, List.set_cons_zero]
            refine seq_on (by rfl) (fun w1 hb1 _ => ?_) ?_
            · simp [opOK, go_sem, Below.refl]
              try exact rfl
            simp only [Act.put, List.setIfInBounds_toArray, List.set_cons_succ, List.set_cons_zero]
            refine seq_is rfl (fun w1 hb1 _ => ?_) ?_
            · simp [opOK, go_sem, HBB.out, Below.refl]
              try exact rfl
            simp only [Act.put, List.setIfInBounds_toArray, List.set_cons_succ, List.set_cons_zero]
            refine seq_end fun w6 hb6 _ => ?_
            simp only [List.drop_succ_cons, List.drop_zero]
            have hO6 : CoinOwn cs base g n c zs w6 := ownsN_below HO.out hb6
            have HO6 := Lib.hid hO6
            have hg6 := grownBy_trans HG.out (grownBy_below _ hb6)
            have HG6 := Lib.hid hg6
            have l1 := bAt hb6 k1
            have l0 := bAt hb6 k0
            have l1b := bAt hb6 k1b
            have l0b := bAt hb6 k0b
            have l1f := World.ownsRow.frozenAt hO6 (j * 2)
            have l1fb := World.ownsRow.frozenAt hO6 (j * 2 + 1)
            clear k0 k1 k0b k1b hO6 hg6 hb6
            cases bb
            · go_wp2_with fail
              go_roundw
              case rel => exact ⟨i + 1, zs, by omega, by omega, by go_num, Lib.hid (HS.out.next HZ.out hlt (by omega) (by omega) HA.out (.inr (by
                have h1 := of_decide_eq_false HBB.out
                have h2 := HM.out
                subst h2
                rw [Nat.add_sub_cancel, HX.out, HY.out]
                exact fun h => h1 (HDD.out.2 h)))), HO6, HG6⟩
              case measure => simp [intOf]; omega
            · go_wp2_with fail
              obtain ⟨hO8, hg8⟩ := HO6.out.stored (show j < n by omega) y
              rw [HYY.out] at hO8 hg8
              simp only at hO8 hg8
              have HZ9 : Hid (SlideOk (worthR cs) ys a i m ((zs.set j y).set m x)) := Lib.hid (by
                have h2 := HM.out
                subst h2
                have h1 := of_decide_eq_true HBB.out
                have := HZ.out.step hja (by omega) (by rw [Nat.add_sub_cancel, HX.out, HY.out]; exact HDD.out.1 h1)
                rw [Nat.add_sub_cancel, HX.out, HY.out] at this
                exact this)
              have hmj : ¬ m = j := by have := HM.out; omega
              obtain ⟨w8, hw8⟩ : ∃ w8, (w6.setCell ⟨g, j * 2, none⟩ (.int .i64 y1)).setCell ⟨g, j * 2 + 1, none⟩ (.int .i64 y2) = w8 := ⟨_, rfl⟩
              rw [hw8] at hO8 hg8
              have HO8 := Lib.hid hO8
              have HG8 := Lib.hid (grownBy_trans HG6.out hg8)
              have HW8 := Lib.hid hw8
              clear hO8 hg8 hw8
              refine wp_region_gen 17 (fun i v _ => match i with
                | 0 | 2 | 5 | 10 => v = .slice (some ⟨g, 0, none⟩) n c
                | 1 | 3 | 6 | 11 => v = .int .i64 j
                | 4 | 7 => v = .int .i64 m
                | 8 | 16 => v = .pointer (some ⟨g, m * 2, none⟩)
                | 9 => v = .agg #[.int .i64 y1, .int .i64 y2]
                | 12 | 14 => v = .pointer (some ⟨g, j * 2, none⟩)
                | 13 => v = .agg #[.int .i64 x1, .int .i64 x2]
                | _ => True) (JSt 15 [9, 13] (fun W => W = w6.drew) (fun W => W = w8.drew)) mix (by kernel_rfl) (JSt.start rfl) ?_ ?_
              · refine ⟨?_, ?_, ?_, ?_, ?_, ?_, ?_, ?_, ?_, ?_, ?_, ?_, ?_, ?_, ?_, ?_, ?_, trivial⟩
                all_goals refine gen_plain rfl fun a W S hSi hJ hpre ht' => ?_
                all_goals
                  simp [Region.binds] at hpre
                  have t0 := ht' 0 rfl
                  have t9 := ht' 9 rfl
                  simp at t0 t9
                iterate 9
                  (· simp [opOK, go_sem, hpre, t0, t9, hwm, hmn]
                     refine ⟨hJ.read (by omega), ?_⟩
                     intro j _ _ v h _
                     exact h)
                · have hW := hJ.look (i := 9) (by simp) hSi
                  have q0 : W.cell? ⟨g, m * 2, none⟩ = some (.int .i64 y1) := by rw [hW]; exact l0
                  have q0b : W.cell? ⟨g, m * 2 + 1, none⟩ = some (.int .i64 y2) := by rw [hW]; exact l0b
                  simp [opOK, go_sem, hpre, q0, q0b]
                  refine ⟨hJ.read (by omega), ?_⟩
                  intro j _ _ v h _
                  exact h
                iterate 3
                  (· simp [opOK, go_sem, hpre, t0, t9, hm1n]
                     refine ⟨hJ.read (by omega), ?_⟩
                     intro j _ _ v h _
                     exact h)
                · have hW := hJ.look (i := 13) (by simp) hSi
                  have q0 : W.cell? ⟨g, j * 2, none⟩ = some (.int .i64 x1) := by rw [hW]; exact l1
                  have q0b : W.cell? ⟨g, j * 2 + 1, none⟩ = some (.int .i64 x2) := by rw [hW]; exact l1b
                  simp [opOK, go_sem, hpre, q0, q0b]
                  refine ⟨hJ.read (by omega), ?_⟩
                  intro j _ _ v h _
                  exact h
                · simp [opOK, go_sem, hpre, hm1n]
                  refine ⟨hJ.read (by omega), ?_⟩
                  intro j _ _ v h _
                  exact h
                · have hW := hJ.off hSi
                  have q0 : W.cell? ⟨g, j * 2, none⟩ = some (.int .i64 x1) := by rw [hW]; exact l1
                  have q0b : W.cell? ⟨g, j * 2 + 1, none⟩ = some (.int .i64 x2) := by rw [hW]; exact l1b
                  have q1 : W.frozen? ⟨g, j * 2, none⟩ = false := by rw [hW]; exact l1f
                  have q1b : W.frozen? ⟨g, j * 2 + 1, none⟩ = false := by rw [hW]; exact l1fb
                  have e8 : (W.setCell ⟨g, j * 2, none⟩ (.int .i64 y1)).setCell ⟨g, j * 2 + 1, none⟩ (.int .i64 y2) = w8.drew := by rw [hW, ← HW8.out]; rfl
                  simp [opOK, go_sem, hpre, q0, q1, q0b, q1b, e8]
                  refine ⟨JSt.write (by simp [hpre]) rfl, ?_⟩
                  intro j hj _ v h _
                  exact h
                · simp [opOK, go_sem, hpre, hmn]
                  refine ⟨hJ.read (by omega), ?_⟩
                  intro j _ _ v h _
                  exact h
              · intro W' hJ
                have hW := hJ.on (by decide)
                subst hW
                simp only [List.take_succ_cons, List.take_zero, List.drop_succ_cons, List.drop_zero, EndAll]
                rintro _ rfl _ rfl _ rfl _ rfl _ rfl _ rfl _ rfl _ rfl _ rfl _ rfl _ rfl _ rfl _ rfl _ rfl _ rfl v15 - _ rfl
                have q0 : w8.cell? ⟨g, m * 2, none⟩ = some (.int .i64 y1) := by rw [← HW8.out, World.cell?_setCell_other _ _ _ _ (by intro e; have e2 := congrArg Addr.off e; simp only at e2; omega), World.cell?_setCell_other _ _ _ _ (by intro e; have e2 := congrArg Addr.off e; simp only at e2; omega)]; exact l0
                have q0b : w8.cell? ⟨g, m * 2 + 1, none⟩ = some (.int .i64 y2) := by rw [← HW8.out, World.cell?_setCell_other _ _ _ _ (by intro e; have e2 := congrArg Addr.off e; simp only at e2; omega), World.cell?_setCell_other _ _ _ _ (by intro e; have e2 := congrArg Addr.off e; simp only at e2; omega)]; exact l0b
                have q0f := World.ownsRow.frozenAt HO8.out (m * 2)
                have q0fb := World.ownsRow.frozenAt HO8.out (m * 2 + 1)
                obtain ⟨hO9, hg9⟩ := HO8.out.stored hmn x
                rw [HXX.out] at hO9 hg9
                simp only at hO9 hg9
                have HO9 := Lib.hid hO9
                have HG9 := Lib.hid (grownBy_trans HG8.out hg9)
                clear hO9 hg9 l0 l1 l0b l1b l1f l1fb hJ
                go_wp2_with fail
                go_roundw
                case rel => exact ⟨m, _, rfl, HZ9, HO9, Lib.hid ⟨HG9.out.os, HG9.out.tape, HG9.out.output, HG9.out.size, HG9.out.block⟩⟩
                case measure => simp [intOf]; have := HM.out; omega
        · have d1 : decide ((a : Int) < (j : Int)) = false := decide_eq_false (by omega)
          have d1n : decide (a < j) = false := decide_eq_false hja
          go_wp2_with fail
          refine wp_region_seq 17 [.is ?_, .is ?_, .is (.bool false), .is (.bool false), .is undef, .is undef, .is undef, .is undef, .is undef, .is undef, .is undef, .is undef, .is undef, .is undef, .is undef, .is undef, .is (.bool false)] rfl mix (by kernel_rfl) (by kernel_rfl) ?seqm
          case seqm =>
            simp only [List.take_succ_cons, List.take_zero]
            iterate 4
              refine seq_is rfl (fun w1 hb1 _ => ?_) ?_
              · simp [opOK, go_sem, hja, Below.refl]
                try exact rfl
              simp only [Act.put, List.setIfInBounds_toArray, List.set_cons_succ, List.set_cons_zero]
            iterate 12
              refine seq_off (by rfl) ?_
              simp only [Act.put, List.setIfInBounds_toArray, List.set_cons_succ, List.set_cons_zero]
            refine seq_is rfl (fun w1 hb1 _ => ?_) ?_
            · simp [opOK, go_sem, Below.refl]
              try exact rfl
            simp only [Act.put, List.setIfInBounds_toArray, List.set_cons_succ, List.set_cons_zero]
            refine seq_end fun w6 hb6 _ => ?_
            simp only [List.drop_succ_cons, List.drop_zero]
            have HO6 : Hid (CoinOwn cs base g n c zs w6) := Lib.hid (ownsN_below HO.out hb6)
            have HG6 := Lib.hid (grownBy_trans HG.out (grownBy_below _ hb6))
            clear hb6
            go_wp2_with fail
            go_roundw
            case rel => exact ⟨i + 1, zs, by omega, by omega, by go_num, Lib.hid (HS.out.next HZ.out hlt (by omega) (by omega) HA.out (.inl (by omega))), HO6, HG6⟩
            case measure => simp [intOf]; omega
    · obtain rfl : i = max (a + 1) b := by omega
      go_wp2
      go_returns
      exact ⟨rfl, ys, HO.out, HG.out, HS.out⟩
end Go.Proofs.Ytagfcodpgochjaa
