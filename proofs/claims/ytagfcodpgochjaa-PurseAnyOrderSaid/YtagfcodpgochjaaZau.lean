/- The texts RP, WP, in build order. -/
import Derived.Test.YtagfcodpgochjaaZat

/- Chapter 12, the reference: Prizes. -/
namespace Go.Proofs.Ytagfcodpgochjaa
open Go.RowKit Go.Oche Go.Proofs

theorem infoB : (Try.prog.info? 4).map (fun i => (i.zero, i.size, i.bytes)) = some (some (.bool false), 1, 1) := by kernel_rfl
theorem make_bools (n : Nat) (hn : n ≤ 100000) (w : World) : (Instr.makeSlice 89 (.int .i64 n) (.int .i64 n)).run Try.prog w = .ok (.slice (some ⟨w.heap.size, 0, none⟩) n n) (w.alloc (.cells (madeCells #[.bool false] n) 4)) := by
  obtain ⟨i, hi, hz, hs, hb⟩ := info_parts infoB
  have := run_make (P := Try.prog) w 89 4 i _ Try.underlying89 hi hz .i64 .i64 (n : Int) (n : Int) (by omega) (by omega) (by rw [hb]; omega) (by omega)
  rw [hs] at this
  simpa [Value.cells] using this
def kBls (B n : Nat) : Kn where
  s := fun v => ∃ g, v = .slice (some ⟨g, 0, none⟩) n n
  p := fun v w => ∃ g, v = .slice (some ⟨g, 0, none⟩) n n ∧ B ≤ g ∧ BoolBlk w g 4 n fun _ => false
  m := fun _ _ _ hb ⟨g, h1, h2, h3⟩ => ⟨g, h1, h2, h3.below hb⟩
theorem Once.snoc {n : Nat} {tk : List Int} {p : Nat} (h : Once n tk) (hp : p < n) (hn : (p : Int) ∉ tk) : Once n (tk ++ [(p : Int)]) := by
  refine ⟨?_, fun x hx => ?_⟩
  · rw [List.nodup_append]
    refine ⟨h.nd, by simp, fun a ha b hb => ?_⟩
    simp only [List.mem_singleton] at hb
    subst hb
    intro e; subst e; exact hn ha
  · rcases List.mem_append.1 hx with hx | hx
    · exact h.rng x hx
    · simp only [List.mem_singleton] at hx; subst hx; omega
theorem prizeSum_succ (money : Int) (shares : List Int) (pl n : Nat) : prizeSum money shares pl (n + 1) = prizeSum money shares pl n + prizeP money shares (pl + n) := rfl
theorem sum_bdE {B : Int} (hB : 0 ≤ B) : ∀ (l : List Int), (∀ y ∈ l, -B ≤ y ∧ y ≤ B) → -B * (l.length : Int) ≤ l.sum ∧ l.sum ≤ B * (l.length : Int)
  | [], _ => by simp
  | x :: l, h => by
    have h1 := h x (by simp)
    have h2 := sum_bdE hB l fun y hy => h y (by simp [hy])
    rw [List.sum_cons, List.length_cons, Int.natCast_add, Int.mul_add, Int.mul_add]
    simp only [Int.natCast_one, Int.mul_one]
    omega
set_option maxRecDepth 100000 in
set_option maxHeartbeats 8000000 in
theorem refPrizes_any {S S' : Nat → Prop} (money players : Int) (shares : List Int) (places : List (List Int)) (v vp : Value) (w : World) (hs : Sl S w v (ints shares)) (hp : SlSl S' w vp places) :
    Calls Try.prog 18 #[.int .i64 money, .int .i64 players, v, vp] w fun e w' => ∃ r, e = .returned (.tuple #[r, .int .i64 (prizesRes money players shares places).2, .int .i64 (prizesErr money players shares places)]) ∧ Below w.heap.size w w' ∧ Sl (fun k => w.heap.size ≤ k) w' r (ints (prizesRes money players shares places).1) := by
  obtain ⟨a, cap, rfl, h2, h3⟩ := hs.form
  obtain ⟨ap, capp, rfl, h2p, h3p⟩ := hp.form
  simp only [ints_length] at *
  unfold maxLen at h3 h3p
  obtain ⟨b1, hb1⟩ : ∃ b, isIn money 0 1000000000 = b := ⟨_, rfl⟩
  obtain ⟨b2, hb2⟩ : ∃ b, isIn players 1 60 = b := ⟨_, rfl⟩
  obtain ⟨b4, hb4⟩ : ∃ b, shares.any (outB 0 1000) = b := ⟨_, rfl⟩
  obtain ⟨er, her⟩ : ∃ x, prizesErr money players shares places = x := ⟨_, rfl⟩
  obtain ⟨rs, hrs⟩ : ∃ x, prizesRes money players shares places = x := ⟨_, rfl⟩
  have ER : Hid (er = if b1 = false then 3 else if b2 = false then 2 else if 60 < shares.length then 4 else if b4 = true ∨ 1000 < shares.sum then 2 else placesErr players [] places) := Lib.hid (by rw [← her, ← hb1, ← hb2, ← hb4]; rfl)
  have RS : Hid (rs = if er = 0 then payAll money shares 0 (List.replicate players.toNat 0) money places else ([], 0)) := Lib.hid (by rw [← hrs, ← her]; rfl)
  have H1 := Lib.hid hb1
  have H2 := Lib.hid hb2
  have H4 := Lib.hid hb4
  have HS := Lib.hid hs
  have HP := Lib.hid hp
  rw [her, hrs]
  clear her hrs hb1 hb2 hb4 hs hp
  have NOK : Hid (er ≠ 0 → rs = ([], 0)) := Lib.hid (fun h => by rw [RS.out, if_neg h])
  go_enter Try.func18, Try.ntmps18
  go_wp2_with fail
  refine (refIn_any money 0 1000000000 b1 H1 w).mono ?_
  rintro e w1 ⟨rfl, rfl⟩
  cases b1
  · have er2 : er = 3 := ER.out
    have rs2 := NOK.out (by omega)
    clear ER RS NOK
    subst er2 rs2
    go_wp2
    go_returns
    exact ⟨_, rfl, Below.refl _ _, Sl.nil _ _⟩
  · go_wp2_with fail
    refine (refIn_any players 1 60 b2 H2 w).mono ?_
    rintro e w1 ⟨rfl, rfl⟩
    cases b2
    · have er2 : er = 2 := ER.out
      have rs2 := NOK.out (by omega)
      clear ER RS NOK
      subst er2 rs2
      go_wp2
      go_returns
      exact ⟨_, rfl, Below.refl _ _, Sl.nil _ _⟩
    · by_cases hl : 60 < shares.length
      · have d1 : decide ((60 : Int) < (shares.length : Int)) = true := decide_eq_true (by omega)
        have d1n : decide (60 < shares.length) = true := decide_eq_true hl
        have er2 : er = 4 := by rw [ER.out]; simp [hl]
        have rs2 := NOK.out (by omega)
        clear ER RS NOK
        subst er2 rs2
        go_wp2
        go_returns
        exact ⟨_, rfl, Below.refl _ _, Sl.nil _ _⟩
      · have d1 : decide ((60 : Int) < (shares.length : Int)) = false := decide_eq_false (by omega)
        have d1n : decide (60 < shares.length) = false := decide_eq_false hl
        have ER3 : Hid (er = if b4 = true ∨ 1000 < shares.sum then 2 else placesErr players [] places) := Lib.hid (by rw [ER.out]; simp [hl])
        have hmo : 0 ≤ money ∧ money ≤ 1000000000 := by simpa [isIn] using H1.out
        have hpl : 1 ≤ players ∧ players ≤ 60 := by simpa [isIn] using H2.out
        obtain ⟨n, rfl⟩ : ∃ n : Nat, players = n := ⟨players.toNat, by omega⟩
        have hl60 : shares.length ≤ 60 := by omega
        clear ER hl
        go_wp2_with fail
        clear d1 d1n
        go_loopw [11, 12] (fun sv iv wr => ∃ i : Nat, i ≤ shares.length ∧ iv = .int .i64 i ∧ sv = .int .i64 (shares.take i).sum ∧ Hid (∀ j, j < i → ∀ h : j < shares.length, outB 0 1000 shares[j] = false) ∧ Below w.heap.size w wr) (fun _ iv _ => shares.length - (intOf iv).toNat)
        case atStart => exact ⟨0, Nat.zero_le _, rfl, rfl, Lib.hid (fun j hj => by omega), Below.refl _ _⟩
        case round =>
          obtain ⟨i, hi, rfl, rfl, HO, hb⟩ := hrel
          obtain ⟨ws, rfl⟩ : ∃ ws : World, ws = wr := ⟨_, rfl⟩
          have HBS := Lib.hid hb
          clear hb
          by_cases hlt : i < shares.length
          · obtain ⟨b, off, hal, _, hc⟩ := (HS.out.below HBS.out).cell hlt
            cases hal
            obtain ⟨x, hx⟩ : ∃ x, shares[i] = x := ⟨_, rfl⟩
            rw [hx] at hc
            obtain ⟨c1, hc1⟩ : ∃ c, isIn x 0 1000 = c := ⟨_, rfl⟩
            have hob : outB 0 1000 shares[i] = !c1 := by rw [hx, ← hc1, Bool.eq_iff_iff]; simp [outB, isIn]
            have hsb := sum_bdE (B := 1000) (by decide) (shares.take i) fun y hy => by
              obtain ⟨j, hj, e⟩ := List.mem_take_iff_getElem.1 hy
              have h1 := outB_spec (HO.out j (by omega) (by omega))
              rw [← e]; omega
            have hl : (shares.take i).length = i := by simp; omega
            rw [hl] at hsb
            obtain ⟨s, hs⟩ : ∃ s, (shares.take i).sum = s := ⟨_, rfl⟩
            have hsx : (shares.take (i + 1)).sum = s + x := by rw [List.take_succ_eq_append_getElem hlt, List.sum_append, hs, hx]; simp
            have HOB := Lib.hid hob
            have C1 := Lib.hid hc1
            have HSX := Lib.hid hsx
            rw [hs] at hsb ⊢
            clear hob hc1 hsx hs hl hx
            go_wp2_with fail
            refine (refIn_any x 0 1000 c1 C1 ws).mono ?_
            rintro e w1 ⟨rfl, rfl⟩
            cases c1
            · have er2 : er = 2 := by
                rw [ER3.out, if_pos]
                left
                rw [← H4.out]
                exact List.any_eq_true.2 ⟨shares[i], List.getElem_mem hlt, by rw [HOB.out]; rfl⟩
              have rs2 := NOK.out (by omega)
              clear ER3 RS NOK
              subst er2 rs2
              go_wp2
              go_returns
              exact ⟨_, rfl, HBS.out, Sl.nil _ _⟩
            · have hxb : 0 ≤ x ∧ x ≤ 1000 := by simpa [isIn] using C1.out
              have hws : IntKind.i64.wrap (s + x) = s + x := by rw [IntKind.wrap_i64]; omega
              go_wp2
              go_roundw
              case rel => exact ⟨i + 1, by omega, by go_num, by rw [HSX.out], Lib.hid (fun j hj h => by
                by_cases e : j = i
                · subst e; rw [HOB.out]; rfl
                · exact HO.out j (by omega) h), HBS.out⟩
              case measure => simp [intOf]; omega
          · obtain rfl : i = shares.length := by omega
            have hb4 : b4 = false := by
              rw [← H4.out, List.any_eq_false]
              intro t ht
              obtain ⟨j, hj, rfl⟩ := List.mem_iff_getElem.1 ht
              simp [HO.out j hj hj]
            subst hb4
            have hbd : ∀ s ∈ shares, 0 ≤ s ∧ s ≤ 1000 := any_outB H4.out
            have HBD := Lib.hid hbd
            rw [List.take_length]
            obtain ⟨q1, hq1⟩ : ∃ q, decide (1000 < shares.sum) = q := ⟨_, rfl⟩
            have ER4 : Hid (er = if q1 = true then 2 else placesErr n [] places) := Lib.hid (by
              rw [ER3.out, ← hq1]; by_cases h : 1000 < shares.sum <;> simp [h])
            clear hbd HO ER3
            cases q1
            · have hwn : IntKind.i64.wrap ((n : Int) - 1) = (n : Int) - 1 := wrap_small _ (by omega) (by omega)
              have HST : Hid (PzOk n money shares places er rs 0 [] (List.replicate n 0) money) := Lib.hid ⟨ER4.out, fun h => by rw [RS.out, if_pos h]; simp, Once.nil n, by simp, by simp⟩
              have HW1 := Lib.hid hwn
              clear ER4 RS hwn
              go_wp2_with fail
              refine wp_region_seq 9 [.is ?_, kRow ws.heap.size n (fun _ => 0), .is ?_, kBls ws.heap.size n, .is ?_, kRow ws.heap.size n (fun _ => 0), kBls ws.heap.size n, .is ?_, .is ?_] rfl mix (by kernel_rfl) (by kernel_rfl) ?seqm
              case seqm =>
                simp only [List.take_succ_cons, List.take_zero]
                refine seq_is rfl (fun u1 hb1 _ => ?_) ?_
                · simp [opOK, go_sem, Below.refl]
                  try exact rfl
                simp only [Act.put, List.setIfInBounds_toArray, List.set_cons_succ, List.set_cons_zero]
                refine seq_new ⟨_, 0, rfl⟩ (by rfl) (fun u1 hb1 _ => ?_) ?_
                · exact opOK_val (v := .slice (some ⟨u1.heap.size, 0, none⟩) n n) (w' := u1.alloc (.cells (madeCells #[.int .i64 0] n) 3)) (by simp [go_sem, execOp, make_ints n (by omega)]) ⟨aB _ _, ⟨_, rfl⟩, _, rfl, hb1.size, IntBlk.made u1 3 n⟩
                rintro _ ⟨g1, rfl⟩
                simp only [Act.put, List.setIfInBounds_toArray, List.set_cons_succ, List.set_cons_zero]
                refine seq_is rfl (fun u1 hb1 _ => ?_) ?_
                · simp [opOK, go_sem, Below.refl]
                  try exact rfl
                simp only [Act.put, List.setIfInBounds_toArray, List.set_cons_succ, List.set_cons_zero]
                refine seq_new ⟨_, 0, rfl⟩ (by rfl) (fun u1 hb1 _ => ?_) ?_
                · exact opOK_val (v := .slice (some ⟨u1.heap.size, 0, none⟩) n n) (w' := u1.alloc (.cells (madeCells #[.bool false] n) 4)) (by simp [go_sem, execOp, make_bools n (by omega)]) ⟨aB _ _, ⟨_, rfl⟩, _, rfl, hb1.size, BoolBlk.made u1 4 n⟩
                rintro _ ⟨g2, rfl⟩
                simp only [Act.put, List.setIfInBounds_toArray, List.set_cons_succ, List.set_cons_zero]
                refine seq_is rfl (fun u1 hb1 _ => ?_) ?_
                · simp [opOK, go_sem, Below.refl]
                  try exact rfl
                simp only [Act.put, List.setIfInBounds_toArray, List.set_cons_succ, List.set_cons_zero]
                refine seq_new ⟨_, 0, rfl⟩ (by rfl) (fun u1 hb1 hH => ?_) ?_
                · have h := hH ⟨1, .data⟩ (by simp) rfl
                  simp [addH] at h
                  simp [opOK, go_sem]
                  exact ⟨Below.refl _ _, ⟨_, rfl⟩, h⟩
                rintro _ ⟨R, rfl⟩
                simp only [Act.put, List.setIfInBounds_toArray, List.set_cons_succ, List.set_cons_zero]
                refine seq_new ⟨_, 0, rfl⟩ (by rfl) (fun u1 hb1 hH => ?_) ?_
                · have h := hH ⟨3, .data⟩ (by simp) rfl
                  simp [addH] at h
                  simp [opOK, go_sem]
                  exact ⟨Below.refl _ _, ⟨_, rfl⟩, h⟩
                rintro _ ⟨Q, rfl⟩
                simp only [Act.put, List.setIfInBounds_toArray, List.set_cons_succ, List.set_cons_zero]
                iterate 2
                  refine seq_is rfl (fun u1 hb1 _ => ?_) ?_
                  · simp [opOK, go_sem, Below.refl]
                    try exact rfl
                  simp only [Act.put, List.setIfInBounds_toArray, List.set_cons_succ, List.set_cons_zero]
                refine seq_end fun w2 hb2 hH => ?_
                simp only [List.drop_succ_cons, List.drop_zero]
                obtain ⟨R', eR, hRb, hRI⟩ := hH 5 (by decide)
                cases eR
                obtain ⟨Q', eQ, hQb, hQI⟩ := hH 6 (by decide)
                cases eQ
                have hRQ : R ≠ Q := hRI.ne_bool hQI (by decide)
                have HRI := Lib.hid (hRI.congr (g := fun j => (List.replicate n (0 : Int)).getD j 0) fun j hj => by simp [List.getD_eq_getElem?_getD, hj])
                have HQI := Lib.hid (hQI.congr (g := fun j => decide ((j : Int) ∈ ([] : List Int))) fun j hj => by simp)
                have HRB := Lib.hid (And.intro hRb (And.intro hQb hRQ))
                have HB2 := Lib.hid hb2
                clear hH hRI hQI hRb hQb hRQ hb2
                go_wp2_with fail
                go_loopw [15, 16, 17] (fun pv kv gv wr => ∃ (k : Nat) (tk out : List Int) (K : Int), k ≤ places.length ∧ gv = .int .i64 k ∧ pv = .int .i64 (tk.length : Nat) ∧ kv = .int .i64 K ∧ Hid (PzOk n money shares places er rs k tk out K) ∧ Hid (IntBlk wr R 3 n (fun j => out.getD j 0)) ∧ Hid (BoolBlk wr Q 4 n (fun j => decide ((j : Int) ∈ tk))) ∧ Below ws.heap.size ws wr) (fun _ _ gv _ => places.length - (intOf gv).toNat)
                case atStart => exact ⟨0, [], _, money, Nat.zero_le _, rfl, rfl, rfl, HST, HRI, HQI, HB2.out⟩
                case round =>
                  obtain ⟨k, tk, out, K, hk, rfl, rfl, rfl, HK, HI, HQ, hb⟩ := hrel
                  obtain ⟨wo, rfl⟩ : ∃ wo : World, wo = wr := ⟨_, rfl⟩
                  clear HST HRI HQI HB2
                  have HBO := Lib.hid hb
                  have hbw : Below w.heap.size w wo := bThen HBS.out hb
                  have HBW := Lib.hid hbw
                  clear hb hbw
                  by_cases hlt : k < places.length
                  · obtain ⟨b, off, u, hal, _, hc, hu⟩ := (HP.out.below HBS.out).cell hlt
                    cases hal
                    obtain ⟨gr, hg⟩ : ∃ gr, places[k] = gr := ⟨_, rfl⟩
                    rw [hg] at hu
                    obtain ⟨a2, c2, rfl, k2, m2⟩ := hu.form
                    simp only [ints_length] at *
                    unfold maxLen at m2
                    have HG := Lib.hid hg
                    have HU := Lib.hid hu
                    have HC0 := Lib.hid hc
                    replace hc := bAt HBO.out hc
                    clear hg hu
                    by_cases hg0 : gr.length = 0
                    · have e1 : ((gr.length : Int) == 0) = true := by simp [hg0]
                      have e1n : (gr.length == 0) = true := by simp [hg0]
                      have hgn : gr = [] := List.eq_nil_of_length_eq_zero hg0
                      have he := HK.out.stop hlt (by rw [HG.out, hgn]; simp [chkErr])
                      rw [HG.out, hgn] at he
                      have er2 : er = 4 := by rw [he]; simp [chkErr]
                      have rs2 := NOK.out (by omega)
                      clear HK NOK he hgn hg0
                      subst er2 rs2
                      go_wp2
                      go_returns
                      exact ⟨_, rfl, HBW.out, Sl.nil _ _⟩
                    · have e1 : ((gr.length : Int) == 0) = false := beq_eq_false_iff_ne.2 (by omega)
                      have e1n : (gr.length == 0) = false := beq_eq_false_iff_ne.2 (by omega)
                      have hchk : chkErr n tk gr = grpErr n tk gr := by
                        unfold chkErr; rw [if_neg (fun e => hg0 (by rw [e]; rfl))]
                      have HCHK := Lib.hid hchk
                      clear hchk
                      go_wp2_with fail
                      clear e1 e1n
                      go_loopw [15, 18, 19] (fun pv av iv wr => ∃ (i : Nat) (A : Int), i ≤ gr.length ∧ iv = .int .i64 i ∧ pv = .int .i64 (tk.length + i : Nat) ∧ av = .int .i64 A ∧ Hid (A = prizeSum money shares tk.length i) ∧ Hid (grpErr n tk gr = grpErr n (tk ++ gr.take i) (gr.drop i)) ∧ Hid (Once n (tk ++ gr.take i)) ∧ Hid (IntBlk wr R 3 n (fun j => out.getD j 0)) ∧ Hid (BoolBlk wr Q 4 n (fun j => decide ((j : Int) ∈ tk ++ gr.take i))) ∧ Below ws.heap.size ws wr) (fun _ _ iv _ => gr.length - (intOf iv).toNat)
                      case atStart => exact ⟨0, 0, Nat.zero_le _, rfl, by simp, rfl, Lib.hid rfl, Lib.hid (by simp), Lib.hid (by simpa using HK.out.once), HI, Lib.hid (by simpa using HQ.out), HBO.out⟩
                      case round =>
                        clear HI HQ
                        obtain ⟨i, A, hi, rfl, rfl, rfl, HA, HGE, HON, HI, HQ, hb⟩ := hrel
                        obtain ⟨wi, rfl⟩ : ∃ wi : World, wi = wr := ⟨_, rfl⟩
                        have HBI := Lib.hid hb
                        have hbw := bThen HBS.out hb
                        have HBJ := Lib.hid hbw
                        have hc := bAt HBI.out HC0.out
                        clear hb hbw
                        by_cases hil : i < gr.length
                        · obtain ⟨b', off', hal, _, hx'⟩ := (HU.out.below HBI.out).cell hil
                          cases hal
                          obtain ⟨x, hx⟩ : ∃ x, gr[i] = x := ⟨_, rfl⟩
                          rw [hx] at hx'
                          obtain ⟨c1, hc1⟩ : ∃ c, isIn x 0 ((n : Int) - 1) = c := ⟨_, rfl⟩
                          have C1 := Lib.hid hc1
                          have hstep : grpErr n (tk ++ gr.take i) (gr.drop i) = if c1 = false then 7 else if x ∈ tk ++ gr.take i then 6 else grpErr n (tk ++ gr.take (i + 1)) (gr.drop (i + 1)) := by
                            rw [List.drop_eq_getElem_cons hil, grpErr, hx, hc1, List.take_succ_eq_append_getElem hil, hx, List.append_assoc]
                          rw [← HGE.out] at hstep
                          have HSTEP := Lib.hid hstep
                          have HX := Lib.hid hx
                          have hwn : IntKind.i64.wrap ((n : Int) - 1) = (n : Int) - 1 := HW1.out
                          clear hc1 hstep hx HGE
                          go_wp2_with fail
                          refine (refIn_any x 0 ((n : Int) - 1) c1 C1 wi).mono ?_
                          rintro e w1 ⟨rfl, rfl⟩
                          clear hwn
                          cases c1
                          · have h7 : chkErr n tk gr = 7 := by rw [HCHK.out, HSTEP.out]; rfl
                            have he := HK.out.stop hlt (by rw [HG.out, h7]; decide)
                            rw [HG.out, h7] at he
                            have rs2 := NOK.out (by omega)
                            clear HK NOK h7 HSTEP
                            subst he rs2
                            go_wp2
                            go_returns
                            exact ⟨_, rfl, HBJ.out, Sl.nil _ _⟩
                          · have hxb : 0 ≤ x ∧ x ≤ (n : Int) - 1 := by simpa [isIn] using C1.out
                            obtain ⟨p, rfl⟩ : ∃ p : Nat, x = p := ⟨x.toNat, by omega⟩
                            have hpn : p < n := by omega
                            have hpni : (p : Int) < (n : Int) := by omega
                            obtain ⟨t, ht⟩ : ∃ t, decide ((p : Int) ∈ tk ++ gr.take i) = t := ⟨_, rfl⟩
                            have q0 := HQ.out.cell hpn
                            rw [ht] at q0
                            have HTT := Lib.hid ht
                            clear ht
                            cases t
                            · have hnin : (p : Int) ∉ tk ++ gr.take i := of_decide_eq_false HTT.out
                              have hon2 : Once n (tk ++ gr.take (i + 1)) := by
                                rw [List.take_succ_eq_append_getElem hil, HX.out, ← List.append_assoc]
                                exact HON.out.snoc hpn hnin
                              have HON2 := Lib.hid hon2
                              have HGE2 : Hid (grpErr n tk gr = grpErr n (tk ++ gr.take (i + 1)) (gr.drop (i + 1))) := Lib.hid (by rw [HSTEP.out, if_neg (by decide), if_neg hnin])
                              have f0 := HQ.out.frozen p
                              have HQ2 : Hid (BoolBlk (wi.setCell ⟨Q, p, none⟩ (.bool true)) Q 4 n (fun j => decide ((j : Int) ∈ tk ++ gr.take (i + 1)))) := Lib.hid ((HQ.out.set p true).congr fun j hj => by
                                rw [List.take_succ_eq_append_getElem hil, HX.out, ← List.append_assoc]
                                by_cases e : j = p
                                · subst e; simp
                                · have e' : ¬ (j : Int) = (p : Int) := by omega
                                  simp [e, e'])
                              have HI2 : Hid (IntBlk (wi.setCell ⟨Q, p, none⟩ (.bool true)) R 3 n (fun j => out.getD j 0)) := Lib.hid (HI.out.keep (Below.heap_setCell _ _ _ _ HRB.out.2.2))
                              have hbset : Below ws.heap.size ws (wi.setCell ⟨Q, p, none⟩ (.bool true)) := HBI.out.setCell (by simpa using HRB.out.2.1) _
                              have HBS2 := Lib.hid hbset
                              have hi60 : i ≤ 60 := by have := HON.out.len; rw [List.length_append, List.length_take] at this; omega
                              have htk60 : tk.length ≤ 60 := by have := HON.out.len; rw [List.length_append] at this; omega
                              have hpb := prizeSum_bd hmo.1 HBD.out tk.length i
                              rw [← HA.out] at hpb
                              have hmi : money * (i : Int) ≤ 1000000000 * 60 := Int.le_trans (Int.mul_le_mul_of_nonneg_right hmo.2 (by omega)) (by omega)
                              obtain ⟨pl, hple⟩ : ∃ pl, tk.length + i = pl := ⟨_, rfl⟩
                              have hwpl : IntKind.i64.wrap ((pl : Int) + 1) = (pl : Int) + 1 := wrap_small _ (by omega) (by omega)
                              have HPL := Lib.hid hple
                              obtain ⟨q1, hq1⟩ : ∃ q, decide (pl < shares.length) = q := ⟨_, rfl⟩
                              have hq1i : decide ((pl : Int) < (shares.length : Int)) = q1 := by rw [← hq1]; exact decide_eq_decide.2 (by omega)
                              rw [hple]
                              clear hnin hon2 hbset hple
                              cases q1
                              · have hpp : prizeP money shares pl = 0 := by rw [prizeP, if_neg (of_decide_eq_false hq1)]
                                have HA2 : Hid (A = prizeSum money shares tk.length (i + 1)) := Lib.hid (by rw [prizeSum_succ, HPL.out, hpp, ← HA.out]; omega)
                                clear hpp
                                go_wp2
                                go_roundw
                                case rel => exact ⟨i + 1, A, by omega, by go_num, by rw [← Nat.add_assoc, HPL.out]; rfl, rfl, HA2, HGE2, HON2, HI2, HQ2, HBS2.out⟩
                                case measure => simp [intOf]; omega
                              · have hpls : pl < shares.length := of_decide_eq_true hq1
                                obtain ⟨bs, os, hals, _, hcs0⟩ := (HS.out.below HBS.out).cell hpls
                                cases hals
                                obtain ⟨s, hsv⟩ : ∃ s, shares[pl] = s := ⟨_, rfl⟩
                                have hsb := HBD.out s (hsv ▸ List.getElem_mem hpls)
                                rw [hsv] at hcs0
                                have hcs := bAt HBS2.out hcs0
                                obtain ⟨q, hq⟩ : ∃ q, money * s = q := ⟨_, rfl⟩
                                have hqq1 : 0 ≤ q := hq ▸ Int.mul_nonneg hmo.1 hsb.1
                                have hqq2 : q ≤ 1000000000000 := by
                                  rw [← hq]
                                  exact Int.le_trans (Int.mul_le_mul_of_nonneg_right hmo.2 hsb.1) (Int.le_trans (Int.mul_le_mul_of_nonneg_left hsb.2 (by decide)) (by decide))
                                have hpp : prizeP money shares pl = q / 1000 := by rw [prizeP, if_pos hpls, List.getD_eq_getElem?_getD, List.getElem?_eq_getElem hpls, Option.getD_some, hsv, hq]
                                have HA2 : Hid (A + q / 1000 = prizeSum money shares tk.length (i + 1)) := Lib.hid (by rw [prizeSum_succ, HPL.out, hpp, ← HA.out])
                                have hqw : IntKind.i64.wrap q = q := wrap_small _ (by omega) (by omega)
                                have hqd : q.tdiv 1000 = q / 1000 := Int.tdiv_eq_ediv_of_nonneg hqq1
                                have hqe : IntKind.i64.wrap (q / 1000) = q / 1000 := wrap_small _ (by omega) (by omega)
                                have hqa : IntKind.i64.wrap (A + q / 1000) = A + q / 1000 := wrap_small _ (by omega) (by omega)
                                clear hpp hsv hcs0
                                go_wp2
                                go_roundw
                                case rel => exact ⟨i + 1, A + q / 1000, by omega, by go_num, by rw [← Nat.add_assoc, HPL.out]; rfl, rfl, HA2, HGE2, HON2, HI2, HQ2, HBS2.out⟩
                                case measure => simp [intOf]; omega
                            · have h6 : chkErr n tk gr = 6 := by rw [HCHK.out, HSTEP.out, if_neg (by decide), if_pos (of_decide_eq_true HTT.out)]
                              have he := HK.out.stop hlt (by rw [HG.out, h6]; decide)
                              rw [HG.out, h6] at he
                              have rs2 := NOK.out (by omega)
                              clear HK NOK h6 HSTEP
                              subst he rs2
                              go_wp2
                              go_returns
                              exact ⟨_, rfl, HBJ.out, Sl.nil _ _⟩
                        · obtain rfl : i = gr.length := by omega
                          have hc0 : chkErr n tk gr = 0 := by rw [HCHK.out, HGE.out, List.drop_eq_nil_of_le (Nat.le_refl _)]; rfl
                          obtain ⟨hg1, hon, hnx⟩ := HK.out.next hmo.1 HBD.out hlt (by rw [HG.out]; exact hc0)
                          rw [HG.out] at hg1 hon hnx
                          rw [List.take_length] at HQ
                          have hgl : gr.length ≤ 60 := by have := hon.len; rw [List.length_append] at this; omega
                          have htl : tk.length ≤ 60 := by have := hon.len; rw [List.length_append] at this; omega
                          obtain ⟨E, hE⟩ : ∃ E, eachP money shares tk.length gr = E := ⟨_, rfl⟩
                          have hbd2 := eachP_bd hmo.1 HBD.out tk.length gr hg1
                          have hKb := HK.out.bd
                          have hm1 : money * (tk.length : Int) ≤ 1000000000 * 60 := Int.le_trans (Int.mul_le_mul_of_nonneg_right hmo.2 (by omega)) (by omega)
                          have hm2 : money * (gr.length : Int) ≤ 1000000000 * 60 := Int.le_trans (Int.mul_le_mul_of_nonneg_right hmo.2 (by omega)) (by omega)
                          rw [hE] at hnx hbd2
                          have hA0 : 0 ≤ A := by rw [HA.out]; exact (prizeSum_bd hmo.1 HBD.out tk.length gr.length).1
                          have hqd : A.tdiv (gr.length : Int) = E := by rw [Int.tdiv_eq_ediv_of_nonneg hA0, ← hE, eachP, HA.out]
                          have hE3 : E ≤ E * (gr.length : Int) := by
                            have := Int.mul_le_mul_of_nonneg_left (show (1 : Int) ≤ gr.length by omega) hbd2.1
                            omega
                          have hwE : IntKind.i64.wrap E = E := wrap_small _ (by omega) (by omega)
                          have hg0 : ¬ (gr.length : Int) = 0 := by omega
                          have hg0n : ¬ gr.length = 0 := by omega
                          have hg0l : ¬ gr = [] := fun e => by rw [e] at hg1; simp at hg1
                          have HNX := Lib.hid hnx
                          have HEB := Lib.hid (And.intro hbd2 (And.intro hKb (And.intro hm1 hm2)))
                          have HON3 := Lib.hid hon
                          clear hnx hbd2 hKb hm1 hm2 hE hA0 hE3 hon hc0 HGE HON HA hc
                          have hc := bAt HBI.out HC0.out
                          go_wp2_with fail
                          go_loopw [16, 21] (fun kv iv wr => ∃ i : Nat, i ≤ gr.length ∧ iv = .int .i64 i ∧ kv = .int .i64 (K - E * (i : Int)) ∧ Hid (IntBlk wr R 3 n (fun j => ((gr.take i).foldl (fun o p => o.set p.toNat E) out).getD j 0)) ∧ Hid (BoolBlk wr Q 4 n (fun j => decide ((j : Int) ∈ tk ++ gr))) ∧ Below ws.heap.size ws wr) (fun _ iv _ => gr.length - (intOf iv).toNat)
                          case atStart => exact ⟨0, Nat.zero_le _, rfl, by simp, HI, HQ, HBI.out⟩
                          case round =>
                            clear HI HQ HBI HBJ hc
                            obtain ⟨i, hi, rfl, rfl, HI, HQ, hb⟩ := hrel
                            obtain ⟨wj, rfl⟩ : ∃ wj : World, wj = wr := ⟨_, rfl⟩
                            have HBI := Lib.hid hb
                            have hc := bAt hb HC0.out
                            clear hb
                            by_cases hil : i < gr.length
                            · obtain ⟨b', off', hal, _, hx'⟩ := (HU.out.below HBI.out).cell hil
                              cases hal
                              obtain ⟨x, hx⟩ : ∃ x, gr[i] = x := ⟨_, rfl⟩
                              rw [hx] at hx'
                              have hxr := HON3.out.rng x (List.mem_append_right _ (hx ▸ List.getElem_mem hil))
                              obtain ⟨p, rfl⟩ : ∃ p : Nat, x = p := ⟨x.toNat, by omega⟩
                              have hpn : p < n := by omega
                              have hpni : (p : Int) < (n : Int) := by omega
                              have hol : ((gr.take i).foldl (fun o p => o.set p.toNat E) out).length = n := by rw [foldl_set_length]; exact HK.out.len
                              have hnext : ∀ j, j < n → (if j = p then E else ((gr.take i).foldl (fun o p => o.set p.toNat E) out).getD j 0) = ((gr.take (i + 1)).foldl (fun o p => o.set p.toNat E) out).getD j 0 := fun j hj => by
                                rw [List.take_succ_eq_append_getElem hil, List.foldl_append, hx]
                                simp only [List.foldl_cons, List.foldl_nil, Int.toNat_natCast]
                                simp only [List.getD_eq_getElem?_getD, List.getElem?_set]
                                by_cases e : p = j
                                · subst e; simp [hol, hpn]
                                · simp [e, Ne.symm e]
                              have HNEXT := Lib.hid hnext
                              have hEi : 0 ≤ E * (i : Int) ∧ E * (i : Int) + E ≤ E * (gr.length : Int) := by
                                have h0 := HEB.out.1.1
                                refine ⟨Int.mul_nonneg h0 (by omega), ?_⟩
                                have := Int.mul_le_mul_of_nonneg_left (show (i : Int) + 1 ≤ gr.length by omega) h0
                                rw [Int.mul_add] at this
                                omega
                              have hwK : IntKind.i64.wrap (K - E * (i : Int) - E) = K - E * (i : Int) - E := by
                                have := HEB.out
                                exact wrap_small _ (by omega) (by omega)
                              obtain ⟨Z, hZ⟩ : ∃ Z, E * (i : Int) = Z := ⟨_, rfl⟩
                              have HZ := Lib.hid hZ
                              rw [hZ] at hwK hEi ⊢
                              have hfR := HI.out.frozen p
                              have hcR := HI.out.cell hpn
                              clear hx hxr hol hnext hZ
                              go_wp2_with fail
                              refine wp_region_seq 16 [.is ?_, .is ?_, .is ?_, .is ?_, .is ?_, .is ?_, .is ?_, .is ?_, .is ?_, .is ?_, .is ?_, .is ?_, .is ?_, .is ?_, .is (.int .i64 E), .is ?_] rfl mix (by kernel_rfl) (by kernel_rfl) ?seqm
                              case seqm =>
                                simp only [List.take_succ_cons, List.take_zero]
                                iterate 16
                                  refine seq_is rfl (fun u1 hb1 _ => ?_) ?_
                                  · have hc' := bAt hb1 hc
                                    have hx'' := bAt hb1 hx'
                                    simp [opOK, go_sem, hc', hx'', hlt, hil, hpn, hqd, hwE, hg0n, Below.refl]
                                    try exact rfl
                                  simp only [Act.put, List.setIfInBounds_toArray, List.set_cons_succ, List.set_cons_zero]
                                refine seq_end fun w6 hb6 _ => ?_
                                simp only [List.drop_succ_cons, List.drop_zero]
                                have hI6 := HI.out.below hb6
                                have hcR6 := bAt hb6 hcR
                                have hfR6 := hI6.frozen p
                                have HI7 := Lib.hid ((hI6.set p E).congr HNEXT.out)
                                have HQ7 := Lib.hid ((HQ.out.below hb6).keep (Below.heap_setCell _ ⟨R, p, none⟩ (.int .i64 E) _ HRB.out.2.2.symm))
                                have hbs : Below ws.heap.size ws (w6.setCell ⟨R, p, none⟩ (.int .i64 E)) := (bThen HBI.out hb6).setCell (by simpa using HRB.out.1) _
                                have HBS7 := Lib.hid hbs
                                have hc6 := bAt HBS7.out HC0.out
                                clear hI6 hbs hcR hfR hc hx' hb6
                                go_wp2
                                go_roundw
                                case rel => exact ⟨i + 1, by omega, by go_num, by rw [show K - E * ((i + 1 : Nat) : Int) = K - Z - E by rw [Int.natCast_add, Int.mul_add, HZ.out]; omega], HI7, HQ7, HBS7.out⟩
                                case measure => simp [intOf]; omega
                            · obtain rfl : i = gr.length := by omega
                              have hfin : K - E * (gr.length : Int) = K - E * (gr.length : Int) := rfl
                              rw [List.take_length] at HI
                              have hwg : True := trivial
                              clear hfin hwg hqd hwE
                              go_wp2
                              go_roundw
                              case rel => exact ⟨k + 1, tk ++ gr, _, _, by omega, by go_num, by rw [List.length_append], rfl, HNX, HI, HQ, HBI.out⟩
                              case measure => simp [intOf]; omega
                  · obtain rfl : k = places.length := by omega
                    have he0 : er = 0 := by rw [HK.out.err]; simp [placesErr]
                    have hr0 : rs = (out, K) := by rw [HK.out.res he0]; simp [payAll]
                    have hol := HK.out.len
                    have HOLN := Lib.hid hol
                    clear NOK HK hol
                    subst he0 hr0
                    go_wp2
                    go_returns
                    have hmap : (List.range n).map (fun j => out.getD j 0) = out := by
                      refine List.ext_getElem (by simp [HOLN.out]) fun j h1 h2 => ?_
                      rw [List.getElem_map, List.getElem_range, List.getD_eq_getElem?_getD, List.getElem?_eq_getElem h2]; rfl
                    have hs := HI.out.sl (by unfold maxLen; omega)
                    rw [hmap] at hs
                    refine ⟨_, rfl, HBW.out, hs.mono fun k hk => ?_⟩
                    rw [hk]
                    exact Nat.le_trans HBS.out.size HRB.out.1
            · have er2 : er = 2 := ER4.out
              have rs2 := NOK.out (by omega)
              clear ER4 RS NOK
              subst er2 rs2
              go_wp2
              go_returns
              exact ⟨_, rfl, HBS.out, Sl.nil _ _⟩
end Go.Proofs.Ytagfcodpgochjaa

/- Chapter 12: PursePrizes. -/
namespace Go.Proofs.Ytagfcodpgochjaa
open Go.RowKit Go.Oche Go.Proofs

/-- A value of which something is known that new blocks leave true. -/
def kV (P : Value → World → Prop) (hm : ∀ v w w', Below w.heap.size w w' → P v w → P v w') : Kn where
  s := fun _ => True
  p := P
  m := hm
def kTup3 (b c : Value) (P : Value → World → Prop) (hm : ∀ v w w', Below w.heap.size w w' → P v w → P v w') : Kn where
  s := fun v => ∃ r, v = .tuple #[r, b, c]
  p := fun v w => ∃ r, v = .tuple #[r, b, c] ∧ P r w
  m := fun _ _ _ hb ⟨r, h1, h2⟩ => ⟨r, h1, hm _ _ _ hb h2⟩
/-- Copies of the first groups. -/
def CopOk (N : Nat) (places : List (List Int)) (i : Nat) (u : Value) (W : World) : Prop :=
  ∃ vs, W.ownsRow N 22 1 u i vs ∧ vs.length = i ∧ ∀ j (_ : j < i) (h : j < places.length), ∃ y, vs[j]? = some y ∧ Sl (fun q => q < W.heap.size ∧ some q ≠ u.ownBlock) W y (ints places[j])
theorem CopOk.sl {N i : Nat} {places : List (List Int)} {u : Value} {W : World} (h : CopOk N places i u W) (hi : i = places.length) : SlSl (fun _ => True) W u places := by
  obtain ⟨vs, h1, h2, h3⟩ := h
  refine ⟨vs, ?_, by omega, fun j hj => ?_⟩
  · rcases h1.2 with ⟨rfl, hn⟩ | ⟨g, c, cur, rfl, _⟩
    · subst hn
      rw [List.eq_nil_of_length_eq_zero h2]
      exact Sl.nil _ _
    · exact (owns_sl h1).mono fun _ _ => trivial
  obtain ⟨y, e, hy⟩ := h3 j (by omega) hj
  exact ⟨y, e, hy.mono fun _ _ => trivial⟩
theorem CopOk.below {N i : Nat} {places : List (List Int)} {u : Value} {W W' : World} (h : CopOk N places i u W) (hb : Below W.heap.size W W') : CopOk N places i u W' := by
  obtain ⟨vs, h1, h2, h3⟩ := h
  refine ⟨vs, ownsN_below h1 hb, h2, fun j hj hl => ?_⟩
  obtain ⟨y, e, hy⟩ := h3 j hj hl
  exact ⟨y, e, (hy.below hb).mono fun q hq => ⟨Nat.lt_of_lt_of_le hq.1 hb.size, hq.2⟩⟩
theorem CopOk.more {N i g c : Nat} {places : List (List Int)} {u y : Value} {W W' : World} {vs : List Value} (_h1 : W.ownsRow N 22 1 u i vs) (h2 : vs.length = i) (h3 : ∀ j (_ : j < i) (h : j < places.length), ∃ y, vs[j]? = some y ∧ Sl (fun q => q < W.heap.size ∧ some q ≠ u.ownBlock) W y (ints places[j]))
    (hl : i < places.length) (hy : Sl (fun q => q < W.heap.size ∧ some q ≠ u.ownBlock) W y (ints places[i]))
    (ho : W'.ownsRow N 22 1 (.slice (some ⟨g, 0, none⟩) (i + 1) c) (i + 1) (vs ++ [y])) (hg : W.grownBy W' u.ownBlock) (hat : u.ownBlock = some g ∨ g = W.heap.size) : CopOk N places (i + 1) (.slice (some ⟨g, 0, none⟩) (i + 1) c) W' := by
  have key : ∀ {z : Value} {zs : List Int}, Sl (fun q => q < W.heap.size ∧ some q ≠ u.ownBlock) W z (ints zs) → Sl (fun q => q < W'.heap.size ∧ some q ≠ (Value.slice (some ⟨g, 0, none⟩) (i + 1) c).ownBlock) W' z (ints zs) := fun hz =>
    (hz.cells fun b o hb _ => World.cell?_of_block (w := W) (hg.block b hb.1 hb.2)).mono fun q hq => ⟨Nat.lt_of_lt_of_le hq.1 hg.size, fun e => by
      have e2 : q = g := by simpa [Value.ownBlock] using e
      rcases hat with h | h
      · exact hq.2 (by rw [h, e2])
      · have := hq.1; omega⟩
  refine ⟨vs ++ [y], ho, by simp [h2], fun j hj hjl => ?_⟩
  by_cases e : j < i
  · obtain ⟨z, ez, hz⟩ := h3 j e hjl
    exact ⟨z, by rw [List.getElem?_append_left (by omega)]; exact ez, key hz⟩
  · obtain rfl : j = i := by omega
    exact ⟨y, by rw [List.getElem?_append_right (by omega), h2, Nat.sub_self]; rfl, key hy⟩
theorem bAtN {n b o : Nat} {v : Value} {W W' : World} (h : Below n W W') (hlt : b < n) (hv : W.cell? ⟨b, o, none⟩ = some v) : W'.cell? ⟨b, o, none⟩ = some v := by
  exact (h.cell (p := ⟨b, o, none⟩) hlt).trans hv
set_option maxRecDepth 100000 in
set_option maxHeartbeats 8000000 in
theorem pursePrizes_any {S S' : Nat → Prop} (money players : Int) (shares : List Int) (places : List (List Int)) (v vp : Value) (w : World) (hs : Sl S w v (ints shares)) (hp : SlSl S' w vp places) :
    Calls Try.prog 4 #[.agg #[.int .i64 money, .int .i64 players, v], vp] w fun e w' => e = .returned (.bool true) ∧ Below w.heap.size w w' := by
  obtain ⟨a, cap, rfl, h2, h3⟩ := hs.form
  obtain ⟨ap, capp, rfl, h2p, h3p⟩ := hp.form
  simp only [ints_length] at *
  unfold maxLen at h3 h3p
  have HS := Lib.hid hs
  have HP := Lib.hid hp
  clear hs hp
  obtain ⟨N, hN⟩ : ∃ N, w.heap.size = N := ⟨_, rfl⟩
  obtain ⟨w0, hw0⟩ : ∃ w0, (w.alloc (.cells #[.int .i64 money, .int .i64 players, .slice a shares.length cap] 31)).alloc (.cells #[] 22) = w0 := ⟨_, rfl⟩
  have hb0 : Below w.heap.size w w0 := by rw [← hw0]; exact (aB _ _).trans ((aB _ _).mono (by simp))
  have f0 : w0.heap[N]? = some (.cells #[.int .i64 money, .int .i64 players, .slice a shares.length cap] 31 (0, 0)) := by
    rw [← hw0, ← hN]; exact (Below.heap_alloc _ _ _ (by simp <;> omega)).trans (World.alloc_heap_new _ _)
  have c0 : w0.cell? ⟨N, 0, none⟩ = some (.int .i64 money) := by rw [cell_of_heap f0]; rfl
  have c1 : w0.cell? ⟨N, 1, none⟩ = some (.int .i64 players) := by rw [cell_of_heap f0]; rfl
  have c2 : w0.cell? ⟨N, 2, none⟩ = some (.slice a shares.length cap) := by rw [cell_of_heap f0]; rfl
  have hcop : CopOk (N + 1) places 0 (.slice (some ⟨N + 1, 0, none⟩) 0 0) w0 := by
    refine ⟨[], ?_, rfl, fun j hj => by omega⟩
    rw [← hw0, ← hN]
    have := World.ownsRow_made (e := 22) (size := 1) (base := w.heap.size + 1) (w.alloc (.cells #[.int .i64 money, .int .i64 players, .slice a shares.length cap] 31)) #[] 0 (by simp) (Nat.zero_le _) rfl
    rwa [World.size_alloc] at this
  have HB0 := Lib.hid hb0
  have HC0 := Lib.hid c0
  have HC1 := Lib.hid c1
  have HC2 := Lib.hid c2
  have HCOP := Lib.hid hcop
  have HW0 := Lib.hid hw0
  have HN := Lib.hid hN
  have HNW : Hid (N + 1 ≤ w0.heap.size) := Lib.hid (by rw [← hw0, ← hN]; simp)
  clear hb0 f0 c0 c1 c2 hcop hw0
  obtain ⟨b1, hb1⟩ : ∃ b, decide (70 < places.length) = b := ⟨_, rfl⟩
  have hb1i : decide ((70 : Int) < (places.length : Int)) = b1 := by rw [← hb1]; exact decide_eq_decide.2 (by omega)
  go_enter Try.func4, Try.ntmps4
  go_wp2_with fail
  rw [HW0.out]
  go_loopw [5, 6] (fun uv gv wr => ∃ (i : Nat) (u : Value), u = uv ∧ i ≤ places.length ∧ gv = .int .i64 i ∧ Hid (0 < i → b1 = false ∧ ∀ j (_ : j < i) (h : j < places.length), (places[j]).length ≤ 70) ∧ Hid (CopOk (N + 1) places i u wr) ∧ Below (N + 1) w0 wr) (fun _ gv _ => places.length - (intOf gv).toNat)
  case atStart => exact ⟨0, _, rfl, Nat.zero_le _, rfl, Lib.hid (fun h => by omega), HCOP, Below.refl _ _⟩
  case round =>
    obtain ⟨i, u, hu, hi, rfl, HL, HCO, hb⟩ := hrel
    subst hu
    obtain ⟨wo, rfl⟩ : ∃ wo : World, wo = wr := ⟨_, rfl⟩
    have HB := Lib.hid (HB0.out.trans (hb.mono (by have := HN.out; omega)))
    have HBO := Lib.hid hb
    clear hb
    by_cases hlt : i < places.length
    · obtain ⟨b, off, uu, hal, _, hc, huu⟩ := (HP.out.below HB.out).cell hlt
      cases hal
      obtain ⟨gr, hg⟩ : ∃ gr, places[i] = gr := ⟨_, rfl⟩
      rw [hg] at huu
      obtain ⟨a2, k2, rfl, e2, e3⟩ := huu.form
      simp only [ints_length] at *
      unfold maxLen at e3
      have HG := Lib.hid hg
      have HU := Lib.hid huu
      obtain ⟨b2, hb2⟩ : ∃ b, decide (70 < gr.length) = b := ⟨_, rfl⟩
      have hb2i : decide ((70 : Int) < (gr.length : Int)) = b2 := by rw [← hb2]; exact decide_eq_decide.2 (by omega)
      clear hg huu
      cases b1
      · cases b2
        · have hp70 : places.length ≤ 70 := by have := of_decide_eq_false hb1; omega
          have hg70 : gr.length ≤ 70 := by have := of_decide_eq_false hb2; omega
          go_wp2_with fail
          refine (copyInts_any gr _ wo HU.out (by omega)).mono ?_
          rintro e w1 ⟨r, rfl, hb1', hs1⟩
          obtain ⟨ar, cr, rfl, -, -⟩ := hs1.form
          simp only [ints_length] at *
          obtain ⟨w2, hw2⟩ : ∃ w2, w1.alloc (.cells #[.slice ar gr.length cr] 22) = w2 := ⟨_, rfl⟩
          have hb12 : Below w1.heap.size w1 w2 := by rw [← hw2]; exact aB _ _
          have hcl : w2.cell? ⟨w1.heap.size, 0, none⟩ = some (.slice ar gr.length cr) := by rw [← hw2]; exact cell_new _ _ _
          obtain ⟨vs, v1, v2, v3⟩ := HCO.out.below (bThen hb1' hb12)
          have HNO : N + 1 ≤ wo.heap.size := Nat.le_trans HNW.out HBO.out.size
          have hsz : wo.heap.size ≤ w2.heap.size := Nat.le_trans hb1'.size hb12.size
          have hy : Sl (fun q => q < w2.heap.size ∧ some q ≠ u.ownBlock) w2 (.slice ar gr.length cr) (ints gr) := by
            obtain ⟨vs0, o0, _⟩ := HCO.out
            refine (hs1.below hb12).lt.mono fun q hq => ⟨hq.2, fun e => ?_⟩
            have := (o0.lt q e.symm).2
            have := hq.1
            omega
          have V1 := Lib.hid v1
          have V2 := Lib.hid v2
          have V3 := Lib.hid v3
          have HY := Lib.hid hy
          have HCL := Lib.hid hcl
          have HW2 := Lib.hid hw2
          have HB2 := Lib.hid (HBO.out.trans ((bThen hb1' hb12).mono HNO))
          have HN2 := Lib.hid (show N + 1 ≤ w2.heap.size by omega)
          clear hb1' hs1 hb12 hcl v1 v2 v3 hsz hy hw2 hc hb1 hb1i hb2 hb2i
          go_wp2_with (at_builtin; rw [HW2.out]; refine wpList_append1 rfl (.tmp 32) (.tmp 38) 32 rfl (N + 1) 22 (.slice none 0 0) 24 Try.underlying32 info22 rfl _ i vs rfl V1.out w1.heap.size 0 1 (.slice ar gr.length cr) rfl HCL.out rfl (by omega) (by decide) HN2.out ?_)
          intro g c w3 ho3 hg3 hat3
          have hc3 : CopOk (N + 1) places (i + 1) (.slice (some ⟨g, 0, none⟩) (i + 1) c) w3 := CopOk.more V1.out V2.out V3.out hlt (by rw [HG.out]; exact HY.out) ho3 hg3 hat3
          have hb3 : Below (N + 1) w0 w3 := HB2.out.trans (below_grownBy hg3 HN2.out fun q hq => (V1.out.lt q hq).1)
          have HC3 := Lib.hid hc3
          have HB3 := Lib.hid hb3
          clear ho3 hg3 hat3 hc3 hb3
          go_wp2
          go_roundw
          case rel => exact ⟨i + 1, _, rfl, by omega, by go_num, Lib.hid (fun _ => ⟨by first | rfl | trivial, fun j hj h => by
            by_cases e : j = i
            · subst e; rw [HG.out]; exact hg70
            · exact (HL.out (by omega)).2 j (by omega) h⟩), HC3, HB3.out⟩
          case measure => simp [intOf]; omega
        · go_wp2_with fail
          refine (known_any wo).mono ?_
          rintro e w6 ⟨rfl, hb6⟩
          have HB6 := Lib.hid (bThen HB.out hb6)
          clear hb6
          go_wp2
          go_ret
          exact ⟨rfl, HB6.out⟩
      · go_wp2_with fail
        refine (known_any wo).mono ?_
        rintro e w6 ⟨rfl, hb6⟩
        have HB6 := Lib.hid (bThen HB.out hb6)
        clear hb6
        go_wp2
        go_ret
        exact ⟨rfl, HB6.out⟩
    · obtain rfl : i = places.length := by omega
      have hd0 := bAtN HBO.out (by omega) HC0.out
      have hd1 := bAtN HBO.out (by omega) HC1.out
      have hd2 := bAtN HBO.out (by omega) HC2.out
      obtain ⟨b3, hb3⟩ : ∃ b, decide (70 < shares.length) = b := ⟨_, rfl⟩
      have hb3i : decide ((70 : Int) < (shares.length : Int)) = b3 := by rw [← hb3]; exact decide_eq_decide.2 (by omega)
      have HIN := Lib.hid (HCO.out.sl rfl)
      have HSO := Lib.hid (HS.out.below HB.out)
      cases b3
      · have hs70 : shares.length ≤ 70 := by have := of_decide_eq_false hb3; omega
        obtain ⟨ai, ci, rfl, -, -⟩ := HIN.out.form
        obtain ⟨rs, hrs⟩ : ∃ rs, prizesRes money players shares places = rs := ⟨_, rfl⟩
        obtain ⟨er, her⟩ : ∃ er, prizesErr money players shares places = er := ⟨_, rfl⟩
        have HRS := Lib.hid hrs
        have HER := Lib.hid her
        clear hb3 hb3i hb1 hb1i hrs her
        go_wp2_with fail
        have mI : ∀ v w w', Below w.heap.size w w' → Sl (fun _ => True) w v (ints shares) → Sl (fun _ => True) w' v (ints shares) := fun v w w' hb h => h.below hb
        have mR : ∀ v w w', Below w.heap.size w w' → Sl (fun _ => True) w v (ints rs.1) → Sl (fun _ => True) w' v (ints rs.1) := fun v w w' hb h => h.below hb
        refine wp_region_seq 16 (.is ?_ :: .is ?_ :: .is ?_ :: .is ?_ :: .is ?_ :: .is ?_ :: kV (fun v w => Sl (fun _ => True) w v (ints shares)) mI :: .is ?_ :: kTup3 (.int .i64 rs.2) (.int .i64 er) (fun v w => Sl (fun _ => True) w v (ints rs.1)) mR :: kTup3 (.int .i64 rs.2) (.int .i64 er) (fun v w => Sl (fun _ => True) w v (ints rs.1)) mR :: kV (fun v w => Sl (fun _ => True) w v (ints rs.1)) mR :: .is ?_ :: .is ?_ :: kV (fun v w => Sl (fun _ => True) w v (ints rs.1)) mR :: .is ?_ :: .is ?_ :: []) rfl mix (by kernel_rfl) (by kernel_rfl) ?seqm
        case seqm =>
          simp only [List.take_succ_cons, List.take_zero]
          iterate 6
            refine seq_is rfl (fun u1 hb1 _ => ?_) ?_
            · have hd0' := bAt hb1 hd0
              have hd1' := bAt hb1 hd1
              have hd2' := bAt hb1 hd2
              simp [opOK, go_sem, hd0', hd1', hd2', Below.refl]
              try exact rfl
            simp only [Act.put, List.setIfInBounds_toArray, List.set_cons_succ, List.set_cons_zero]
          refine seq_new ⟨undef, trivial⟩ (by rfl) (fun u1 hb1 _ => ?_) ?_
          · refine opOK_call (f := 13) (args := #[.slice a shares.length cap]) (by simp [go_sem]) ?_
            refine (copyInts_any shares _ u1 (HSO.out.below hb1) (by omega)).mono ?_
            rintro e u2 ⟨r, rfl, hb2, hs2⟩
            exact ⟨_, rfl, hb2, trivial, hs2.mono fun _ _ => trivial⟩
          rintro r1 -
          simp only [Act.put, List.setIfInBounds_toArray, List.set_cons_succ, List.set_cons_zero]
          refine seq_is rfl (fun u1 hb1 _ => ?_) ?_
          · simp [opOK, go_sem, Below.refl]
            try exact rfl
          simp only [Act.put, List.setIfInBounds_toArray, List.set_cons_succ, List.set_cons_zero]
          refine seq_new ⟨_, undef, rfl⟩ (by rfl) (fun u1 hb1 hH => ?_) ?_
          · have h := hH ⟨6, .data⟩ (by simp) rfl
            simp [addH] at h
            refine opOK_call (f := 17) (args := #[.int .i64 money, .int .i64 players, r1, .slice ai places.length ci]) (by simp [go_sem]) ?_
            refine (prizes_any money players shares places _ _ u1 h (HIN.out.below hb1)).mono ?_
            rintro e u2 ⟨r, rfl, hb2, hs2⟩
            rw [HRS.out] at hs2
            exact ⟨_, rfl, hb2, ⟨r, by rw [HRS.out, HER.out]⟩, r, by rw [HRS.out, HER.out], hs2.mono fun _ _ => trivial⟩
          rintro _ ⟨r2, rfl⟩
          simp only [Act.put, List.setIfInBounds_toArray, List.set_cons_succ, List.set_cons_zero]
          refine seq_new ⟨_, undef, rfl⟩ (by rfl) (fun u1 hb1 hH => ?_) ?_
          · have h := hH ⟨8, .data⟩ (by simp) rfl
            simp [addH] at h
            simp [opOK, go_sem]
            exact ⟨Below.refl _ _, ⟨_, rfl⟩, h⟩
          rintro _ ⟨r3, rfl⟩
          simp only [Act.put, List.setIfInBounds_toArray, List.set_cons_succ, List.set_cons_zero]
          refine seq_new ⟨undef, trivial⟩ (by rfl) (fun u1 hb1 hH => ?_) ?_
          · obtain ⟨r, e, h⟩ := hH ⟨9, .data⟩ (by simp) rfl
            cases e
            simp [opOK, go_sem]
            exact ⟨Below.refl _ _, trivial, h⟩
          rintro r4 -
          simp only [Act.put, List.setIfInBounds_toArray, List.set_cons_succ, List.set_cons_zero]
          iterate 2
            refine seq_is rfl (fun u1 hb1 _ => ?_) ?_
            · simp [opOK, go_sem, Below.refl]
              try exact rfl
            simp only [Act.put, List.setIfInBounds_toArray, List.set_cons_succ, List.set_cons_zero]
          refine seq_new ⟨undef, trivial⟩ (by rfl) (fun u1 hb1 hH => ?_) ?_
          · have h := hH ⟨10, .data⟩ (by simp) rfl
            simp [addH] at h
            simp [opOK, go_sem]
            exact ⟨Below.refl _ _, trivial, h⟩
          rintro r5 -
          simp only [Act.put, List.setIfInBounds_toArray, List.set_cons_succ, List.set_cons_zero]
          iterate 2
            refine seq_is rfl (fun u1 hb1 _ => ?_) ?_
            · simp [opOK, go_sem, Below.refl]
              try exact rfl
            simp only [Act.put, List.setIfInBounds_toArray, List.set_cons_succ, List.set_cons_zero]
          refine seq_end fun w3 hb3 hH => ?_
          simp only [List.drop_succ_cons, List.drop_zero]
          have h5 := hH 13 (by decide)
          have HR5 := Lib.hid h5
          replace hd0 := bAt hb3 hd0
          replace hd1 := bAt hb3 hd1
          replace hd2 := bAt hb3 hd2
          have HB3 := Lib.hid (bThen HB.out hb3)
          clear hH h5 hb3
          go_wp2_with fail
          refine (refPrizes_any money players shares places _ _ w3 (HS.out.below HB3.out) (HP.out.below HB3.out)).mono ?_
          rintro e w4 ⟨r6, rfl, hb4, hs4⟩
          rw [HRS.out, HER.out] at *
          have HR6 := Lib.hid (HR5.out.below hb4)
          have HR7 := Lib.hid hs4
          have HB4 := Lib.hid (bThen HB3.out hb4)
          clear hb4 hs4
          go_wp2_with fail
          refine (ints_any rs.1 rs.1 _ _ w4 HR6.out HR7.out).mono ?_
          rintro e w5 ⟨rfl, hb5⟩
          have hd : decide (rs.1 = rs.1) = true := decide_eq_true rfl
          rw [hd]
          have HB5 := Lib.hid (bThen HB4.out hb5)
          clear hb5 hd
          go_wp2_with fail
          refine (known_any w5).mono ?_
          rintro e w6 ⟨rfl, hb6⟩
          have HB6 := Lib.hid (bThen HB5.out hb6)
          clear hb6
          go_wp2
          go_ret
          exact ⟨rfl, HB6.out⟩
      · go_wp2_with fail
        refine (known_any wo).mono ?_
        rintro e w6 ⟨rfl, hb6⟩
        have HB6 := Lib.hid (bThen HB.out hb6)
        clear hb6
        go_wp2
        go_ret
        exact ⟨rfl, HB6.out⟩
end Go.Proofs.Ytagfcodpgochjaa
