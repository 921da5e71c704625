/- The texts KA, KD, KI0, FreeV, SeqJ, in build order. -/
import Derived.Test.YtnhggfnnolfcdaaZas

/- Chapter 4, the reference: beds, a game by value, Over, Out, Sum. -/
namespace Go.Proofs.Ytnhggfnnolfcdaa
open Go.RowKit Go.Oche Go.Proofs
set_option maxRecDepth 100000 in
set_option maxHeartbeats 1000000 in
theorem refBed_any (b : Int) (hb : -9223372036854775808 ≤ b ∧ b ≤ 9223372036854775807) (w : World) :
    Calls Try.prog 32 #[.int .i64 b] w fun e w' => e = .returned (.bool (okBed b)) ∧ w = w' := by
  have m1 := Int.tmod_add_mul_tdiv b 100
  have m2 := Int.tmod_lt_of_pos b (show (0 : Int) < 100 by decide)
  have m3 := Int.lt_tmod_of_pos b (show (0 : Int) < 100 by decide)
  obtain ⟨hw1, hw2⟩ : IntKind.i64.wrap (b.tdiv 100) = b.tdiv 100 ∧ IntKind.i64.wrap (b.tmod 100) = b.tmod 100 := ⟨wrap_small _ (by omega) (by omega), wrap_small _ (by omega) (by omega)⟩
  obtain ⟨ob, hob⟩ : ∃ ob, okBed b = ob := ⟨_, rfl⟩
  rw [hob]
  unfold okBed at hob
  obtain ⟨f, hf⟩ : ∃ f, b.tdiv 100 = f := ⟨_, rfl⟩
  obtain ⟨n, hn⟩ : ∃ n, b.tmod 100 = n := ⟨_, rfl⟩
  rw [hf, hn] at hob
  rw [hf] at hw1
  rw [hn] at hw2
  obtain ⟨c0, h0⟩ : ∃ c, decide (0 < b) = c := ⟨_, rfl⟩
  obtain ⟨c1, h1⟩ : ∃ c, decide (1 ≤ f) = c := ⟨_, rfl⟩
  obtain ⟨c2, h2⟩ : ∃ c, decide (f ≤ 4) = c := ⟨_, rfl⟩
  obtain ⟨c3, h3⟩ : ∃ c, decide (1 ≤ n) = c := ⟨_, rfl⟩
  obtain ⟨c4, h4⟩ : ∃ c, decide (n ≤ 20) = c := ⟨_, rfl⟩
  have hc0 : c0 = false → c1 = false := fun e => by
    have e0 : ¬ 0 < b := by rw [← h0] at e; simpa using e
    rw [← h1, decide_eq_false]
    rw [← hf]
    intro h
    omega
  have hi : isIn f 1 4 = (c1 && c2) ∧ isIn n 1 20 = (c3 && c4) := by rw [← h1, ← h2, ← h3, ← h4]; constructor <;> (unfold isIn; rw [Bool.eq_iff_iff])
  rw [hi.1, hi.2] at hob
  have HF := Lib.hid (And.intro hf hn)
  have HC := Lib.hid (And.intro h0 (And.intro h1 (And.intro h2 (And.intro h3 h4))))
  have HC0 := Lib.hid hc0
  clear hi m1 m2 m3 hc0
  cases e0 : (b == 0)
  · cases e1 : (b == 125)
    · cases e2 : (b == 225)
      · rw [e0, e1, e2] at hob
        simp only [Bool.false_or] at hob
        have HOB := Lib.hid hob
        clear hob
        cases c0
        · have HRR : Hid (ob = false) := Lib.hid (by rw [← HOB.out]; have := HC0.out rfl; rw [this]; rfl)
          go_enter Try.func32, Try.ntmps32
          go_wp2
          go_ret
          exact ⟨ret_bool HRR.out.symm, rfl⟩
        · cases c1
          · have HRR : Hid (ob = false) := Lib.hid (by rw [← HOB.out]; rfl)
            go_enter Try.func32, Try.ntmps32
            go_wp2
            go_ret
            exact ⟨ret_bool HRR.out.symm, rfl⟩
          · cases c2
            · have HRR : Hid (ob = false) := Lib.hid (by rw [← HOB.out]; simp)
              go_enter Try.func32, Try.ntmps32
              go_wp2
              go_ret
              exact ⟨ret_bool HRR.out.symm, rfl⟩
            · cases c3
              · have HRR : Hid (ob = false) := Lib.hid (by rw [← HOB.out]; simp)
                go_enter Try.func32, Try.ntmps32
                go_wp2
                go_ret
                exact ⟨ret_bool HRR.out.symm, rfl⟩
              · cases c4
                · have HRR : Hid (ob = false) := Lib.hid (by rw [← HOB.out]; simp)
                  go_enter Try.func32, Try.ntmps32
                  go_wp2
                  go_ret
                  exact ⟨ret_bool HRR.out.symm, rfl⟩
                · have HRR : Hid (ob = true) := Lib.hid (by rw [← HOB.out]; rfl)
                  go_enter Try.func32, Try.ntmps32
                  go_wp2
                  go_ret
                  exact ⟨ret_bool HRR.out.symm, rfl⟩
      · rw [e0, e1, e2] at hob
        have HOB : Hid (ob = true) := Lib.hid (by rw [← hob]; simp)
        clear hob h0 h1 h2 h3 h4 hf hn hw1 hw2
        go_enter Try.func32, Try.ntmps32
        go_wp2
        go_ret
        exact ⟨ret_bool HOB.out.symm, rfl⟩
    · rw [e0, e1] at hob
      have HOB : Hid (ob = true) := Lib.hid (by rw [← hob]; simp)
      clear hob h0 h1 h2 h3 h4 hf hn hw1 hw2
      go_enter Try.func32, Try.ntmps32
      go_wp2
      go_ret
      exact ⟨ret_bool HOB.out.symm, rfl⟩
  · rw [e0] at hob
    have HOB : Hid (ob = true) := Lib.hid (by rw [← hob]; simp)
    clear hob h0 h1 h2 h3 h4 hf hn hw1 hw2
    go_enter Try.func32, Try.ntmps32
    go_wp2
    go_ret
    exact ⟨ret_bool HOB.out.symm, rfl⟩
def gamA (r : Rul) (g : Gam) (nv pv wv : Value) : Array Value := #[.int .i64 r.kind, .int .i64 r.players, .int .i64 r.last, .bool r.bull, .bool r.jump, .int .i64 r.rounds, .bool r.cut, nv, .int .i64 r.lives, .bool r.own, .int .i64 g.round, .int .i64 g.player, .int .i64 g.darts, pv, wv, .bool (hitB g 0), .bool (hitB g 1), .bool (hitB g 2), .bool (hitB g 3), .bool (hitB g 4)]
structure GamS (S : Nat → Prop) (w : World) (r : Rul) (g : Gam) (na : Option Addr) (nl nc : Nat) (pa : Option Addr) (n pc : Nat) (wa : Option Addr) (wl wc : Nat) : Prop where
  pls : SlN 9 S w (.slice pa n pc) (g.pls.map plrRow)
  sev : Sevens g.pls
  win : Sl S w (.slice wa wl wc) (ints g.win)
  num : Sl S w (.slice na nl nc) (ints r.nums)
  ln : g.pls.length = n
  lw : g.win.length = wl
  lm : r.nums.length = nl
theorem GamS.below {S : Nat → Prop} {w w' : World} {r : Rul} {g : Gam} {na : Option Addr} {nl nc : Nat} {pa : Option Addr} {n pc : Nat} {wa : Option Addr} {wl wc : Nat} (h : GamS S w r g na nl nc pa n pc wa wl wc) (hb : Below w.heap.size w w') : GamS S w' r g na nl nc pa n pc wa wl wc :=
  ⟨h.pls.below hb, h.sev, h.win.below hb, h.num.below hb, h.ln, h.lw, h.lm⟩
set_option maxRecDepth 100000 in
set_option maxHeartbeats 1000000 in
theorem refOver_any (r : Rul) (g : Gam) (na : Option Addr) (nl nc : Nat) (pa : Option Addr) (n pc : Nat) (wa : Option Addr) (wl wc : Nat) (hl : g.win.length = wl) (w : World) :
    Calls Try.prog 23 #[.agg #[.int .i64 r.kind, .int .i64 r.players, .int .i64 r.last, .bool r.bull, .bool r.jump, .int .i64 r.rounds, .bool r.cut, .slice na nl nc, .int .i64 r.lives, .bool r.own, .int .i64 g.round, .int .i64 g.player, .int .i64 g.darts, .slice pa n pc, .slice wa wl wc, .bool (hitB g 0), .bool (hitB g 1), .bool (hitB g 2), .bool (hitB g 3), .bool (hitB g 4)]] w fun e w' => e = .returned (.bool (!g.win.isEmpty)) ∧ Below w.heap.size w w' := by
  obtain ⟨ov, hov⟩ : ∃ ov, (!g.win.isEmpty) = ov := ⟨_, rfl⟩
  rw [hov]
  have h1 : decide (0 < wl) = ov := by rw [← hov, ← hl]; cases g.win <;> simp
  have h2 : decide ((0 : Int) < (wl : Int)) = ov := by rw [← h1]; exact decide_eq_decide.2 (by omega)
  have r14 : (w.alloc (.cells #[.int .i64 r.kind, .int .i64 r.players, .int .i64 r.last, .bool r.bull, .bool r.jump, .int .i64 r.rounds, .bool r.cut, .slice na nl nc, .int .i64 r.lives, .bool r.own, .int .i64 g.round, .int .i64 g.player, .int .i64 g.darts, .slice pa n pc, .slice wa wl wc, .bool (hitB g 0), .bool (hitB g 1), .bool (hitB g 2), .bool (hitB g 3), .bool (hitB g 4)] 41)).cell? ⟨w.heap.size, 14, none⟩ = some (.slice wa wl wc) := by rw [cell_of_heap (World.alloc_heap_new _ _)]; rfl
  clear hov
  go_enter Try.func23, Try.ntmps23
  go_wp2
  go_ret
  exact ⟨by first | rfl | exact ret_bool rfl | exact ret_bool h1 | exact ret_bool h1.symm | exact ret_bool h2, aB _ _⟩
set_option maxRecDepth 100000 in
set_option maxHeartbeats 1000000 in
theorem refOut_any {S : Nat → Prop} (r : Rul) (g : Gam) (na : Option Addr) (nl nc : Nat) (pa : Option Addr) (n pc : Nat) (wa : Option Addr) (wl wc : Nat) (w : World) (hG : GamS S w r g na nl nc pa n pc wa wl wc) (p : Nat) (hp : p < n) :
    Calls Try.prog 54 #[.agg #[.int .i64 r.kind, .int .i64 r.players, .int .i64 r.last, .bool r.bull, .bool r.jump, .int .i64 r.rounds, .bool r.cut, .slice na nl nc, .int .i64 r.lives, .bool r.own, .int .i64 g.round, .int .i64 g.player, .int .i64 g.darts, .slice pa n pc, .slice wa wl wc, .bool (hitB g 0), .bool (hitB g 1), .bool (hitB g 2), .bool (hitB g 3), .bool (hitB g 4)], .int .i64 p] w fun e w' => e = .returned (.bool (isOutG r g p)) ∧ Below w.heap.size w w' := by
  have hp' : p < g.pls.length := by rw [hG.ln]; exact hp
  have hh : ∀ j, (w.alloc (.cells #[.int .i64 r.kind, .int .i64 r.players, .int .i64 r.last, .bool r.bull, .bool r.jump, .int .i64 r.rounds, .bool r.cut, .slice na nl nc, .int .i64 r.lives, .bool r.own, .int .i64 g.round, .int .i64 g.player, .int .i64 g.darts, .slice pa n pc, .slice wa wl wc, .bool (hitB g 0), .bool (hitB g 1), .bool (hitB g 2), .bool (hitB g 3), .bool (hitB g 4)] 41)).cell? ⟨w.heap.size, j, none⟩ = _ := fun j => cell_of_heap (o := j) (World.alloc_heap_new _ _)
  have r0 := hh 0
  have r13 := hh 13
  simp only [List.getElem?_toArray, List.getElem?_cons_zero, List.getElem?_cons_succ] at r0 r13
  obtain ⟨b, o, hpa, hc⟩ := slN_cell9 (hG.pls.below (aB w (.cells #[.int .i64 r.kind, .int .i64 r.players, .int .i64 r.last, .bool r.bull, .bool r.jump, .int .i64 r.rounds, .bool r.cut, .slice na nl nc, .int .i64 r.lives, .bool r.own, .int .i64 g.round, .int .i64 g.player, .int .i64 g.darts, .slice pa n pc, .slice wa wl wc, .bool (hitB g 0), .bool (hitB g 1), .bool (hitB g 2), .bool (hitB g 3), .bool (hitB g 4)] 41))) hp'
  subst hpa
  have hc0 := hc 0 (.int .i64 g.pls[p].pts) rfl
  rw [plr_at hp'] at hc0
  obtain ⟨ob, hob⟩ : ∃ ob, isOutG r g p = ob := ⟨_, rfl⟩
  rw [hob]
  unfold isOutG at hob
  obtain ⟨P, hP⟩ : ∃ P, (plr g p).pts = P := ⟨_, rfl⟩
  rw [hP] at hob hc0
  obtain ⟨k4, hk4⟩ : ∃ k, (r.kind == 4) = k := ⟨_, rfl⟩
  obtain ⟨p0, hp0⟩ : ∃ k, (P == 0) = k := ⟨_, rfl⟩
  rw [hk4, hp0] at hob
  simp only [Nat.add_zero] at hc0
  have HOB := Lib.hid hob
  clear hob hP hh hc hp' hG
  cases k4
  · go_enter Try.func54, Try.ntmps54
    go_wp2
    go_ret
    exact ⟨ret_bool (by have := HOB.out; simpa using this), aB _ _⟩
  · go_enter Try.func54, Try.ntmps54
    go_wp2
    go_ret
    exact ⟨ret_bool (by have := HOB.out; simpa using this), aB _ _⟩
set_option maxRecDepth 100000 in
set_option maxHeartbeats 1000000 in
theorem refSum_any (x : Plr) (h7 : x.mks.length = 7) (hlo : ∀ m ∈ x.mks, 0 ≤ m ∧ m ≤ 3) (w : World) :
    Calls Try.prog 62 #[plrV x] w fun e w' => e = .returned (.int .i64 (sumM x)) ∧ Below w.heap.size w w' := by
  obtain ⟨w1, hw1⟩ : ∃ w1, w.alloc (.cells (plrRow x).toArray 62) = w1 := ⟨_, rfl⟩
  have hb1 : Below w.heap.size w w1 := by rw [← hw1]; exact aB _ _
  have k1 : w1.heap[w.heap.size]? = some (.cells (plrRow x).toArray 62 (0, 0)) := by rw [← hw1]; exact World.alloc_heap_new _ _
  have hcell : ∀ k, k < 7 → w1.cell? ⟨w.heap.size, 1 + k, none⟩ = some (.int .i64 (x.mks.getD k 0)) := fun k hk => by
    rw [cell_of_heap k1]
    unfold plrRow
    rw [List.getElem?_toArray, show 1 + k = k + 1 by omega, List.getElem?_cons_succ, List.getElem?_append_left (by simp; omega)]
    simp [List.getElem?_eq_getElem (show k < x.mks.length by omega)]
  obtain ⟨er, her⟩ : ∃ er, sumM x = er := ⟨_, rfl⟩
  rw [her]
  have hbnd : ∀ k, k ≤ 7 → 0 ≤ (x.mks.take k).sum ∧ (x.mks.take k).sum ≤ 21 := fun k hk => by
    have h1 := sum_nn (l := x.mks.take k) (fun m hm => (hlo m (List.mem_of_mem_take hm)).1)
    have h2 := sum_le (l := x.mks.take k) (b := 3) (fun m hm => (hlo m (List.mem_of_mem_take hm)).2)
    have h3 : (x.mks.take k).length ≤ 7 := by simp; omega
    omega
  have HER : Hid (x.mks.sum = er) := Lib.hid her
  have HB := Lib.hid hb1
  have HCELL := Lib.hid hcell
  have HW1 := Lib.hid hw1
  have HBND := Lib.hid hbnd
  have H7 := Lib.hid h7
  have HLO := Lib.hid hlo
  have hval : plrV x = .agg (plrRow x).toArray := rfl
  rw [hval]
  clear her hb1 k1 hcell hw1 hbnd h7 hlo hval
  go_enter Try.func62, Try.ntmps62
  go_wp2_with fail
  rw [HW1.out]
  go_loopw [3, 4] (fun sv iv wr => ∃ k : Nat, k ≤ 7 ∧ iv = .int .i64 k ∧ sv = .int .i64 (x.mks.take k).sum ∧ Hid (wr = w1)) (fun _ iv _ => 7 - (intOf iv).toNat)
  case atStart => exact ⟨0, by omega, by go_num, by simp, Lib.hid rfl⟩
  case round =>
    obtain ⟨k, hk, rfl, rfl, HWR⟩ := hrel
    obtain ⟨wo, rfl⟩ : ∃ wo : World, wo = wr := ⟨_, rfl⟩
    by_cases hlt : k < 7
    · have hc : wo.cell? ⟨w.heap.size, 1 + k, none⟩ = some (.int .i64 (x.mks.getD k 0)) := by rw [HWR.out]; exact HCELL.out k hlt
      have hs := take_sum (l := x.mks) (k := k) (by rw [H7.out]; exact hlt)
      have hb0 := HBND.out k hk
      have hb2 := HBND.out (k + 1) (by omega)
      obtain ⟨s, hse⟩ : ∃ s, (x.mks.take k).sum = s := ⟨_, rfl⟩
      obtain ⟨m, hme⟩ : ∃ m, x.mks.getD k 0 = m := ⟨_, rfl⟩
      rw [hse, hme] at hs
      rw [hse] at hb0 ⊢
      rw [hme] at hc
      rw [hs] at hb2
      have hwr : IntKind.i64.wrap (s + m) = s + m := wrap_small _ (by omega) (by omega)
      have HS := Lib.hid hs
      clear hs hse hme
      go_wp2
      go_roundw
      case rel => exact ⟨k + 1, by omega, by go_num, by rw [HS.out], HWR⟩
      case measure => simp [intOf]; omega
    · obtain rfl : k = 7 := by omega
      have HF : Hid ((x.mks.take 7).sum = er) := Lib.hid (by rw [List.take_of_length_le (by rw [H7.out]; exact Nat.le_refl _)]; exact HER.out)
      obtain ⟨s, hse⟩ : ∃ s, (x.mks.take 7).sum = s := ⟨_, rfl⟩
      rw [hse] at HF ⊢
      clear hse
      go_wp2
      go_ret
      exact ⟨ret_int HF.out, by rw [HWR.out]; exact HB.out⟩
end Go.Proofs.Ytnhggfnnolfcdaa

/- Chapter 4, the reference: a game that lies in a block. -/
namespace Go.Proofs.Ytnhggfnnolfcdaa
open Go.RowKit Go.Oche Go.Proofs
structure GamAt (w : World) (t pb : Nat) (r : Rul) (g : Gam) (cap : Nat) (wv nv : Value) : Prop where
  box : w.heap[t]? = some (.cells (gamA r g nv (.slice (some ⟨pb, 0, none⟩) g.pls.length cap) wv) 41 (0, 0))
  pls : PlsAt w pb g.pls
  win : Sl (WS t pb) w wv (ints g.win)
  num : Sl (fun q => ¬ TO t pb q) w nv (ints r.nums)
  ne : t ≠ pb
  cap : g.pls.length ≤ cap ∧ cap ≤ 9223372036854775807
section
variable {w w' : World} {t pb cap : Nat} {r : Rul} {g : Gam} {wv nv : Value}
theorem GamAt.lt (h : GamAt w t pb r g cap wv nv) : ∀ q, TO t pb q → q < w.heap.size := by
  rintro q (rfl | rfl)
  · exact (Array.getElem?_eq_some_iff.1 h.box).1
  · exact h.pls.lt
theorem GamAt.below (h : GamAt w t pb r g cap wv nv) (hb : Below w.heap.size w w') : GamAt w' t pb r g cap wv nv :=
  ⟨(hb.block t (h.lt t (.inl rfl))).trans h.box, h.pls.below hb, h.win.below hb, h.num.below hb, h.ne, h.cap⟩
theorem GamAt.free (h : GamAt w t pb r g cap wv nv) (j : Nat) : w.frozen? ⟨t, j, none⟩ = false := frozen_of_heap h.box
theorem GamAt.rel (h : GamAt w t pb r g cap wv nv) {O O' : Nat → Prop} (hr : Rel O w O' w') (hO : ∀ q, TO t pb q → ¬ O q) (hS : ∀ q, O q → TO t pb q ∨ w.heap.size ≤ q) : GamAt w' t pb r g cap wv nv := by
  have hlt : ∀ {v : Value} {l : List Value}, Sl (fun q => ¬ TO t pb q) w v l → Sl (fun q => ¬ TO t pb q) w' v l := fun hs =>
    (hs.lt.rel hr fun k ⟨h1, h2⟩ h3 => by rcases hS k h3 with h4 | h4; exact h1 h4; omega).mono fun k hk => hk.1
  have hltw : Sl (WS t pb) w' wv (ints g.win) :=
    (h.win.lt.rel hr fun k ⟨h1, h2⟩ h3 => by rcases hS k h3 with h4 | h4; rcases h4 with h4 | h4; exact absurd h1.1 (by omega); exact h1.2 h4; omega).mono fun k hk => hk.1
  exact ⟨(hr.block t (h.lt t (.inl rfl)) (hO t (.inl rfl))).trans h.box, h.pls.keep (hr.block pb (h.lt pb (.inr rfl)) (hO pb (.inr rfl))), hltw, hlt h.num, h.ne, h.cap⟩
theorem GamAt.at_ (h : GamAt w t pb r g cap wv nv) {j : Nat} {v : Value} (hj : (gamA r g nv (.slice (some ⟨pb, 0, none⟩) g.pls.length cap) wv)[j]? = some v) : w.cell? ⟨t, j, none⟩ = some v := by
  rw [cell_of_heap h.box]; exact hj
theorem GamAt.setT (h : GamAt w t pb r g cap wv nv) {j : Nat} {x : Value} {g' : Gam} (hA : (gamA r g nv (.slice (some ⟨pb, 0, none⟩) g.pls.length cap) wv).setIfInBounds j x = gamA r g' nv (.slice (some ⟨pb, 0, none⟩) g.pls.length cap) wv) (hp : g'.pls = g.pls) (hw : g'.win = g.win) :
    GamAt (w.setCell ⟨t, j, none⟩ x) t pb r g' cap wv nv :=
  ⟨by rw [heap_setCell_at h.box, hA, hp], by rw [hp]; exact h.pls.other x h.ne, by rw [hw]; exact sl_set h.win x (fun q hq e => absurd hq.1 (by dsimp only at e; omega)), sl_set h.num x (fun q hq e => hq (.inl e)), h.ne, by rw [hp]; exact h.cap⟩
theorem GamAt.setWin (h : GamAt w t pb r g cap wv nv) {x : Value} {l : List Int} (hx : Sl (WS t pb) w x (ints l)) : GamAt (w.setCell ⟨t, 14, none⟩ x) t pb r { g with win := l } cap x nv :=
  ⟨by rw [heap_setCell_at h.box]; rfl, h.pls.other x h.ne, sl_set hx x (fun q hq e => absurd hq.1 (by dsimp only at e; omega)), sl_set h.num x (fun q hq e => hq (.inl e)), h.ne, h.cap⟩
theorem GamAt.setDarts (h : GamAt w t pb r g cap wv nv) (d : Nat) : GamAt (w.setCell ⟨t, 12, none⟩ (.int .i64 d)) t pb r { g with darts := d } cap wv nv := h.setT rfl rfl rfl
theorem GamAt.setRound (h : GamAt w t pb r g cap wv nv) (d : Nat) : GamAt (w.setCell ⟨t, 10, none⟩ (.int .i64 d)) t pb r { g with round := d } cap wv nv := h.setT rfl rfl rfl
theorem GamAt.setPlayer (h : GamAt w t pb r g cap wv nv) (d : Nat) : GamAt (w.setCell ⟨t, 11, none⟩ (.int .i64 d)) t pb r { g with player := d } cap wv nv := h.setT rfl rfl rfl
theorem GamAt.setP (h : GamAt w t pb r g cap wv nv) {i : Nat} {o : Nat} {x : Value} {p : Plr} (hP : PlsAt (w.setCell ⟨pb, o, none⟩ x) pb (g.pls.set i p)) : GamAt (w.setCell ⟨pb, o, none⟩ x) t pb r (setP g i p) cap wv nv :=
  ⟨by rw [setP_len]; exact (Below.heap_setCell _ _ _ _ h.ne).trans h.box, hP, sl_set h.win x (fun q hq e => hq.2 e), sl_set h.num x (fun q hq e => hq (.inr e)), h.ne, by rw [setP_len]; exact h.cap⟩
theorem GamAt.setPts (h : GamAt w t pb r g cap wv nv) {i : Nat} (hi : i < g.pls.length) (x : Int) : GamAt (w.setCell ⟨pb, i * 9, none⟩ (.int .i64 x)) t pb r (Go.Proofs.Ytnhggfnnolfcdaa.setP g i { plr g i with pts := x }) cap wv nv := by
  rw [← plr_at hi]; exact h.setP (h.pls.setPts hi x)
theorem GamAt.setKl (h : GamAt w t pb r g cap wv nv) {i : Nat} (hi : i < g.pls.length) (x : Bool) : GamAt (w.setCell ⟨pb, i * 9 + 8, none⟩ (.bool x)) t pb r (Go.Proofs.Ytnhggfnnolfcdaa.setP g i { plr g i with kl := x }) cap wv nv := by
  rw [← plr_at hi]; exact h.setP (h.pls.setKl hi x)
theorem GamAt.setMark (h : GamAt w t pb r g cap wv nv) {i k : Nat} (hi : i < g.pls.length) (hk : k < 7) (x : Int) : GamAt (w.setCell ⟨pb, i * 9 + 1 + k, none⟩ (.int .i64 x)) t pb r (Go.Proofs.Ytnhggfnnolfcdaa.setP g i { plr g i with mks := (plr g i).mks.set k x }) cap wv nv := by
  rw [← plr_at hi]; exact h.setP (h.pls.setMark hi hk x)
end
end Go.Proofs.Ytnhggfnnolfcdaa

/- Chapter 4, the reference, in plain Lean: cricket, mark by mark, with bounds. -/
namespace Go.Proofs.Ytnhggfnnolfcdaa
open Go.RowKit Go.Oche Go.Proofs
def numA (i : Nat) : Int := if i = 6 then 25 else 15 + i
theorem placeN_num {n : Int} {i : Nat} (hi : i < 7) : placeN n = some i ↔ n = numA i := by
  unfold placeN numA
  split
  · rename_i h
    subst h
    split
    · subst_vars; simp
    · constructor
      · intro e; cases e; omega
      · intro e; omega
  · rename_i h
    split
    · rename_i h1
      simp [isIn] at h1
      simp only [Option.some.injEq]
      split <;> omega
    · rename_i h1
      simp [isIn] at h1
      constructor
      · intro e; cases e
      · intro e; split at e <;> omega
theorem idxC (i : Nat) (hi : i < 7) (w : World) : (Instr.index 60 (.agg #[.int .i64 15, .int .i64 16, .int .i64 17, .int .i64 18, .int .i64 19, .int .i64 20, .int .i64 25]) (.int .i64 i)).run Try.prog w = .ok (.int .i64 (numA i)) w := by
  obtain rfl | rfl | rfl | rfl | rfl | rfl | rfl : i = 0 ∨ i = 1 ∨ i = 2 ∨ i = 3 ∨ i = 4 ∨ i = 5 ∨ i = 6 := by omega
  all_goals kernel_rfl
theorem extra_ok {r : Rul} {M : Int} {g : Gam} (h : Inv r M g) (k : r.kind = 2) (i : Nat) {pt : Int} (hp : 0 ≤ pt) : Inv r (M + pt) (extraG r g i pt) := by
  refine ⟨h.ok, by rw [extra_len]; exact h.len, by rw [extra_len, extra_rest.1]; exact h.pl, fun p hm => ?_, by rw [extra_rest.2.2.2.1]; exact h.hit⟩
  obtain ⟨j, hj, rfl⟩ := List.getElem_of_mem hm
  have hj' : j < g.pls.length := by rwa [extra_len] at hj
  have e : (extraG r g i pt).pls[j] = plr (extraG r g i pt) j := by unfold plr; rw [getD_of hj]
  have hP := h.each _ (plr_mem hj')
  have hx := extraAt_nn (r := r) (g := g) (i := i) hp j
  rw [e, extra_plr h.pl hj']
  have := hP.1.nn
  exact ⟨hP.1.same rfl (by dsimp only; omega) (fun q => by omega) (fun q => by omega) (fun _ => rfl), by dsimp only; omega⟩
theorem mark_ok {r : Rul} {M : Int} {g : Gam} (h : Inv r M g) (k : r.kind = 2) (i : Nat) {n : Int} (hn : 0 ≤ n ∧ n ≤ 25) : Inv r (M + 25) (markR r i n g) ∧ Kept g (markR r i n g) := by
  unfold markR
  dsimp only
  have hP := h.each _ (plr_mem h.pl)
  have hb := mark_bd hP.1 (i := i)
  split
  · refine ⟨set_inv h (by omega) ⟨?_, by dsimp only; omega⟩, Kept.set _ _ _⟩
    exact hP.1.mark k i _ (by omega) (by omega) _ hP.1.nn
  · exact ⟨(extra_ok h k i hn.1).mono (by omega), extra_len, extra_rest.1, extra_rest.2.2.1, extra_rest.2.1, extra_rest.2.2.2.2⟩
structure MkOk (r : Rul) (M : Int) (g : Gam) (i : Nat) (n : Int) (f x : Nat) (g3 : Gam) : Prop where
  eq : marksR r i n x g3 = marksR r i n f g
  inv : Inv r (M + 100 - 25 * (x : Int)) g3
  kept : Kept g g3
theorem MkOk.start {r : Rul} {M : Int} {g : Gam} (h : Inv r M g) (i : Nat) (n : Int) {f : Nat} (hf : f ≤ 4) : MkOk r M g i n f f g := ⟨rfl, h.mono (by omega), Kept.refl g⟩
theorem Kept.trans {a b c : Gam} (h : Kept a b) (h' : Kept b c) : Kept a c := ⟨h'.len.trans h.len, h'.player.trans h.player, h'.round.trans h.round, h'.darts.trans h.darts, h'.win.trans h.win⟩
theorem MkOk.next {r : Rul} {M : Int} {g : Gam} {i : Nat} {n : Int} {f x : Nat} {g3 g4 : Gam} (h : MkOk r M g i n f x g3) (k : r.kind = 2) (hn : 0 ≤ n ∧ n ≤ 25) (hx : 0 < x) (e : markR r i n g3 = g4) : MkOk r M g i n f (x - 1) g4 := by
  obtain ⟨y, rfl⟩ : ∃ y, x = y + 1 := ⟨x - 1, by omega⟩
  have h1 := mark_ok h.inv k i hn
  rw [e] at h1
  refine ⟨?_, h1.1.mono (by rw [Nat.add_sub_cancel]; push_cast; omega), h.kept.trans h1.2⟩
  rw [Nat.add_sub_cancel, ← h.eq, marksR, e]
theorem exF_pts (r : Rul) (i : Nat) (pt : Int) (l : List Plr) (p k : Nat) {j : Nat} (hj : j < l.length) (hk : k ≤ j ∨ j = p) : (exF r i pt l (othK p k)).getD j default = l.getD j default := by
  rw [exF_at r i pt _ _ j (othK_nodup _ _) hj, if_neg]
  rintro ⟨h1, -⟩
  rw [othK_mem] at h1; omega
theorem opF_snoc (l : List Plr) (i : Nat) (pre : List Nat) (k : Nat) : opF l i (pre ++ [k]) = (opF l i pre || decide ((l.getD k default).mks.getD i 0 < 3)) := by simp [opF]
def CrAt (r : Rul) (_M : Int) (g : Gam) (n : Int) (f i x : Nat) (g2 : Gam) : Prop :=
  ((∃ p, p < i ∧ placeN n = some p ∧ x = 0 ∧ g2 = marksR r p n f g) ∨ ((∀ p, p < i → placeN n ≠ some p) ∧ x = f ∧ g2 = g))
theorem CrAt.hit {r : Rul} {M : Int} {g : Gam} {n : Int} {f i x : Nat} {g2 : Gam} (h : CrAt r M g n f i x g2) (hi : i < 7) (hn : n = numA i) : x = f ∧ g2 = g := by
  rcases h with ⟨p, hp, e, -⟩ | ⟨-, h⟩
  · rw [(placeN_num hi).2 hn] at e; cases e; omega
  · exact h
theorem CrAt.miss {r : Rul} {M : Int} {g : Gam} {n : Int} {f i x : Nat} {g2 : Gam} (h : CrAt r M g n f i x g2) (hi : i < 7) (hn : n ≠ numA i) : CrAt r M g n f (i + 1) x g2 := by
  rcases h with ⟨p, hp, e⟩ | ⟨h1, h⟩
  · exact .inl ⟨p, by omega, e⟩
  · refine .inr ⟨fun p hp => ?_, h⟩
    by_cases e : p = i
    · subst e; intro q; exact hn ((placeN_num hi).1 q)
    · exact h1 p (by omega)
theorem CrAt.done {r : Rul} {M : Int} {g : Gam} {n : Int} {f i : Nat} {g2 : Gam} (hi : i < 7) (hn : n = numA i) (h : g2 = marksR r i n f g) : CrAt r M g n f (i + 1) 0 g2 := .inl ⟨i, by omega, (placeN_num hi).2 hn, rfl, h⟩
theorem CrAt.all {r : Rul} {M : Int} {g : Gam} {n : Int} {f x : Nat} {g2 : Gam} (h : CrAt r M g n f 7 x g2) : cricM r g f n = g2 := by
  unfold cricM
  rcases h with ⟨p, hp, e, -, h⟩ | ⟨h1, -, h⟩
  · rw [e, h]; dsimp only; rw [Int.toNat_natCast]
  · cases e : placeN n with
    | none => exact h.symm
    | some p => exact (h1 p (placeN_lt e) e).elim
def wonK (r : Rul) (g : Gam) (k : Nat) : Bool := (sumM (plr g g.player) == 21) && !(List.range k).any fun k => (!r.cut && decide ((plr g g.player).pts < (plr g k).pts)) || (r.cut && decide ((plr g k).pts < (plr g g.player).pts))
theorem wonK_succ (r : Rul) (g : Gam) (k : Nat) : wonK r g (k + 1) = (wonK r g k && !((!r.cut && decide ((plr g g.player).pts < (plr g k).pts)) || (r.cut && decide ((plr g k).pts < (plr g g.player).pts)))) := by
  unfold wonK
  rw [List.range_succ, List.any_append, List.any_cons, List.any_nil, Bool.or_false, Bool.not_or, Bool.and_assoc]
theorem GamAt.same {w : World} {t pb cap : Nat} {r : Rul} {g g' : Gam} {wv nv : Value} (h : GamAt w t pb r g cap wv nv) (e : g = g') : GamAt w t pb r g' cap wv nv := e ▸ h
end Go.Proofs.Ytnhggfnnolfcdaa

/- The law of a drawn region (Free) once more: what holds at every moment may speak of the values together. -/
namespace Go.Oche
open Go Go.RowKit
def updV (vs : Nat → Value) (i : Nat) (v : Value) : Nat → Value := fun j => if j = i then v else vs j
section
variable (P : Program) (ops : Array Oper) (J : (Nat → Bool) → (Nat → Value) → World → Prop) (a₀ : Act)
def VVC (i : Nat) (o : Oper) : Prop :=
  ∀ (a : Act) (w : World) (L : Nat → Bool) (vs : Nat → Value), L i = false → J L vs w →
    (∀ e ∈ o.after.toList, Region.binds .any e = true → ∃ oj, ops[e.on]? = some oj ∧ L e.on = true ∧ ∀ d, oj.dst = some d → a.tmps[d]? = some (vs e.on)) →
    (∀ t : Nat, (ops.toList.all fun oj => oj.dst != some t || oj.after.toList.any fun e => Region.binds .any e && e.on == i) = true → a.tmps[t]? = a₀.tmps[t]?) →
    if Region.wanted o (yielded ops a.tmps) then opOK P o a w (fun v w' => J (setB L i) (updV vs i v) w') else J (setB L i) (updV vs i undef) w
def VAll : List Oper → Nat → Prop
  | [], _ => True
  | o :: l, i => VVC P ops J a₀ i o ∧ VAll l (i + 1)
end
structure VInv (ops : Array Oper) (J : (Nat → Bool) → (Nat → Value) → World → Prop) (a₀ : Act) (vs : Nat → Value) (listed : Array Bool) (a : Act) (w : World) : Prop where
  inv : J (fun j => listed.getD j false) vs w
  vals : ∀ j o, ops[j]? = some o → listed.getD j false = true → ∀ d, o.dst = some d → a.tmps[d]? = some (vs j)
  rest : ∀ t, (∀ j o, ops[j]? = some o → listed.getD j false = true → o.dst ≠ some t) → a.tmps[t]? = a₀.tmps[t]?
  size : a.tmps.size = a₀.tmps.size
  defers : a.defers = a₀.defers
theorem vAll_at {P : Program} {ops : Array Oper} {J : (Nat → Bool) → (Nat → Value) → World → Prop} {a₀ : Act} : ∀ {l : List Oper} {i j : Nat} {o : Oper},
    VAll P ops J a₀ l i → l[j]? = some o → VVC P ops J a₀ (i + j) o
  | [], _, _, _, _, h => by simp at h
  | o' :: l, i, 0, o, h, hj => by simp at hj; subst hj; exact h.1
  | o' :: l, i, j + 1, o, h, hj => by
    have := vAll_at h.2 (j := j) (o := o) (by simpa using hj)
    rwa [show i + 1 + j = i + (j + 1) by omega] at this
section law
variable {P : Program} {ops : Array Oper} {J : (Nat → Bool) → (Nat → Value) → World → Prop} {a₀ : Act} {Q : Exit → Act → World → Prop} {n : Nat}

theorem v_head (hB : freeB ops n a₀.tmps.size = true) (hv : VAll P ops J a₀ (ops.toList.take n) 0)
    (he : ∀ vs w, J (fun j => decide (j < n)) vs w → wpList P ops Q (ops.toList.drop n) (putAll vs (ops.toList.take n) 0 a₀) w) :
    ∀ (f : Nat) (vs : Nat → Value) (listed : Array Bool) (a : Act) (w : World), left n listed ≤ f → HeadInv .any ops n listed → VInv ops J a₀ vs listed a w → wpAny P .any ops Q (f + (ops.size - n)) listed a w := by
  simp only [freeB, Bool.and_eq_true, Bool.or_eq_true, beq_iff_eq, decide_eq_true_eq] at hB
  obtain ⟨⟨⟨⟨⟨hn, hback⟩, hdist⟩, hin⟩, htail⟩, hseq⟩ := hB
  have hin' : ∀ j o d, ops[j]? = some o → j < n → o.dst = some d → d < a₀.tmps.size := fun j o d ho hj hd => by
    have hmem : o ∈ ops.toList.take n := List.mem_of_getElem? (i := j) (by rw [List.getElem?_take, if_pos hj]; simpa using ho)
    have := List.all_eq_true.1 hin o hmem
    rw [hd] at this
    simpa using this
  have hld : ∀ j o, ops[j]? = some o → j < n → (ops.toList.take n)[j]? = some o := fun j o ho hj => by rw [List.getElem?_take, if_pos hj]; simpa using ho
  intro f
  induction f with
  | zero =>
    intro vs listed a w hl inv fi
    have hall := left_zero (Nat.le_zero.1 hl)
    have harr : listed = headArr n ops.size := by
      refine Array.ext (by simp [inv.size, headArr]; omega) fun j h1 h2 => ?_
      by_cases hj : j < n
      · have := hall j hj
        simp [h1] at this
        rw [this]
        simp only [headArr]
        rw [Array.getElem_append_left (by simpa using hj)]
        simp
      · have := inv.tail j (by omega) (by rw [inv.size] at h1; exact h1)
        simp [h1] at this
        rw [this]
        simp only [headArr]
        rw [Array.getElem_append_right (by simpa using hj)]
        simp
    have hnl : ∀ j o, ops[j]? = some o → listed.getD j false = true → j < n := fun j o ho hl => by
      rcases Nat.lt_or_ge j n with h | h
      · exact h
      · have := inv.tail j h (Array.getElem?_eq_some_iff.1 ho).1
        rw [getD_both this] at hl; cases hl
    have hK := he vs w (by have h1 := fi.inv; rwa [show (fun j => listed.getD j false) = (fun j => decide (j < n)) from funext fun j => by
      by_cases hj : j < n
      · rw [hall j hj]; simp [hj]
      · have : listed.getD j false = false := by
          rcases Nat.lt_or_ge j ops.size with h | h
          · exact getD_both (inv.tail j (by omega) h)
          · simp [Array.getElem?_eq_none (show listed.size ≤ j by rw [inv.size]; exact h)]
        rw [this]; simp [hj]] at h1)
    have ha : a = putAll vs (ops.toList.take n) 0 a₀ := by
      refine act_ext (fun t => ?_) (by rw [putAll_defers]; exact fi.defers)
      by_cases ht : ∃ j o, ops[j]? = some o ∧ j < n ∧ o.dst = some t
      · obtain ⟨j, o, ho, hj, hd⟩ := ht
        rw [fi.vals j o ho (hall j hj) t hd, putAll_some vs t _ 0 a₀ j o hdist (hld j o ho hj) hd (hin' j o t ho hj hd)]
        simp
      · rw [fi.rest t (fun j o ho hl hd => ht ⟨j, o, ho, hnl j o ho hl, hd⟩), putAll_none]
        intro o ho hd
        obtain ⟨j, hj⟩ := List.getElem?_of_mem ho
        rw [List.getElem?_take] at hj
        split at hj
        · exact ht ⟨j, o, by simpa using hj, by assumption, hd⟩
        · cases hj
    rw [← ha] at hK
    rw [Nat.zero_add]
    have hlen : (ops.toList.drop n).length = ops.size - n := by simp
    have := wpAny_of_seq (P := P) (md := .any) (Q' := Q) (ops.toList.drop n) n listed a w (fun j => by simp [List.getElem?_drop]) (by rw [hlen, harr]; exact hseq) hK
    rwa [hlen] at this
  | succ f ih =>
    intro vs listed a w hl inv fi
    by_cases h0 : left n listed = 0
    · have := ih vs listed a w (by omega) inv fi
      rw [show f + 1 + (ops.size - n) = f + (ops.size - n) + 1 by omega]
      exact wpAny_more _ _ _ _ this
    · obtain ⟨j₀, hj₀, hun₀, hbefore⟩ := exists_unlisted h0
      have hj₀s : j₀ < ops.size := by omega
      rw [show f + 1 + (ops.size - n) = f + (ops.size - n) + 1 by omega]
      refine ⟨fun hr => ?_, fun i hi => ?_⟩
      · exfalso
        have : j₀ ∈ Region.ready .any ops listed := mem_ready.2 ⟨getD_in (by rw [inv.size]; omega) hun₀, ops[j₀], by simp [hj₀s], fun e he hb => by
          have h1 := List.all_eq_true.1 hback (ops[j₀], j₀) (List.mem_iff_getElem?.2 ⟨j₀, by simp [hj₀s]⟩)
          have h2 := List.all_eq_true.1 h1 e (by simpa using he)
          simp only [hb, Bool.not_true, Bool.false_or, decide_eq_true_eq] at h2
          exact hbefore _ h2⟩
        rw [hr] at this; cases this
      · have hin0 : i < n := by
          rcases Nat.lt_or_ge i n with h | h
          · exact h
          · exfalso
            rcases htail with h1 | ⟨⟨h1, h2⟩, h3⟩
            · obtain ⟨_, oi, hoi, _⟩ := mem_ready.1 hi
              have := (Array.getElem?_eq_some_iff.1 hoi).1
              omega
            · exact tail_waits h2 h3 h1 inv (n - j₀) j₀ rfl hj₀ (getD_in (by rw [inv.size]; omega) hun₀) i h hi
        obtain ⟨hiun, oi, hoi, hready⟩ := mem_ready.1 hi
        have his : i < ops.size := (Array.getElem?_eq_some_iff.1 hoi).1
        have hvc := vAll_at hv (hld i oi hoi hin0)
        rw [Nat.zero_add] at hvc
        have hvc := hvc a w (fun j => listed.getD j false) vs (getD_both hiun) fi.inv (fun e he hb => by
            have hl' := hready e (by simpa using he) hb
            have hes : e.on < ops.size := by
              have : e.on < listed.size := by
                rcases Nat.lt_or_ge e.on listed.size with h | h
                · exact h
                · rw [show listed.getD e.on false = false from by simp [Array.getElem?_eq_none h]] at hl'; cases hl'
              rw [inv.size] at this; exact this
            have := fi.vals e.on ops[e.on] (by simp [hes]) hl'
            exact ⟨ops[e.on], by simp [hes], hl', this⟩)
          (fun t ht => fi.rest t fun j o ho hlj => by
            have h1 := List.all_eq_true.1 ht o (by simpa using Array.mem_of_getElem? ho)
            simp only [Bool.or_eq_true, List.any_eq_true, Bool.and_eq_true, beq_iff_eq] at h1
            rcases h1 with h1 | ⟨e, he, hb, hei⟩
            · simpa using h1
            · exfalso
              have h2 := inv.closed j o ho hlj e (by simpa using he) hb
              rw [hei, getD_both hiun] at h2
              cases h2)
        have hset : (fun j => (listed.setIfInBounds i true).getD j false) = setB (fun j => listed.getD j false) i := funext fun j => by
          unfold setB
          by_cases hji : j = i
          · subst hji; simp [inv.size, his]
          · rw [if_neg hji, getD_set_ne false (Ne.symm hji)]
        have next : ∀ v w', J (setB (fun j => listed.getD j false) i) (updV vs i v) w' → wpAny P .any ops Q (f + (ops.size - n)) (listed.setIfInBounds i true) (a.put oi.dst v) w' := fun v w' hj' => by
          refine ih (updV vs i v) _ _ _ (by have := left_set hin0 (by rw [inv.size]; exact his) hiun; omega) (inv.set hi hin0) ⟨?_, ?_, ?_, ?_, ?_⟩
          · rw [hset]; exact hj'
          · intro j o ho hl' d hd
            by_cases hji : j = i
            · subst hji
              have : o = oi := Option.some.inj (ho.symm.trans hoi)
              subst this
              rw [put_at, if_pos ⟨hd, by rw [fi.size]; exact hin' _ _ _ ho hin0 hd⟩]; simp [updV]
            · rw [getD_set_ne false (Ne.symm hji)] at hl'
              have hjn : j < n := by
                rcases Nat.lt_or_ge j n with h | h
                · exact h
                · have := inv.tail j h (Array.getElem?_eq_some_iff.1 ho).1
                  rw [getD_both this] at hl'; cases hl'
              rw [put_at, if_neg (fun h' => distB_ne hdist (hld j o ho hjn) (hld i oi hoi hin0) hji hd h'.1)]
              simpa [updV, hji] using fi.vals j o ho hl' d hd
          · intro t ht
            have h1 : oi.dst ≠ some t := ht i oi hoi (by simp [inv.size, his])
            rw [put_at, if_neg (fun h' => h1 h'.1)]
            refine fi.rest t fun j o ho hl' => ht j o ho ?_
            exact getD_set_true hl'
          · rw [put_size]; exact fi.size
          · rw [put_defers]; exact fi.defers
        unfold wpOp
        simp only [hoi]
        split
        · rename_i hwd
          rw [if_pos hwd] at hvc
          exact .inl (wp_of_opOK hvc fun v w' hj' => next v w' hj')
        · rename_i hwd
          rw [if_neg hwd] at hvc
          exact next _ _ hvc

theorem wp_region_v {id : Nat} {l : List Oper} {a : Act} {w : World} (n : Nat) (J : (Nat → Bool) → (Nat → Value) → World → Prop) (hmix : P.follows .mixedOrders = true) (hB : freeB l.toArray n a.tmps.size = true)
    (hJ : ∀ vs, J (fun _ => false) vs w.drew) (hv : VAll P l.toArray J a (l.take n) 0)
    (he : ∀ vs w', J (fun j => decide (j < n)) vs w' → wpList P l.toArray Q (l.drop n) (putAll vs (l.take n) 0 a) w') : (Code.region id l.toArray true).wp P Q a w := by
  refine wp_region_any hmix ?_
  have := v_head (Q := Q) (a₀ := a) hB hv he n (fun _ => undef) (Array.replicate l.toArray.size false) a w.drew (by
      unfold left; exact Nat.le_trans List.countP_le_length (by simp))
    ⟨by simp, fun j oj _ hl => (by rw [getD_replicate_false] at hl; cases hl), fun t _ ht => getD_in (by simpa using ht) (getD_replicate_false _ _)⟩
    ⟨by rw [show (fun j => (Array.replicate l.toArray.size false).getD j false) = (fun _ => false) from funext fun j => getD_replicate_false _ _]; exact hJ _, fun j o _ hl => (by rw [getD_replicate_false] at hl; cases hl), fun _ _ => rfl, rfl, rfl⟩
  have hn : n ≤ l.toArray.size := by simp only [freeB, Bool.and_eq_true, decide_eq_true_eq] at hB; exact hB.1.1.1.1.1
  rw [show n + (l.toArray.size - n) = l.toArray.size by omega] at this
  exact this
end law
end Go.Oche

/- A region whose order is drawn, walked in the text's order, where operations may write: J says what the world is when some have been done. -/
namespace Go.Oche
open Go Go.RowKit

def SeqJVC (P : Program) (ops : Array Oper) (J : (Nat → Bool) → World → Prop) (ks₀ : List Kn) (i : Nat) (k : Kn) (o : Oper) (a : Act) (H : Nat → World → Prop) : Prop :=
  (∃ v, k.s v) ∧
  (∀ w L, L i = false → J L w → (∀ e ∈ o.after.toList, Region.binds .any e = true → L e.on = true ∧ H e.on w) →
    if guardOn ops o a then opOK P o a w (fun v w' => J (setB L i) w' ∧ pres ops ks₀ i o a w w' ∧ k.s v ∧ k.p v w') else J (setB L i) w ∧ k.s undef ∧ k.p undef w)

def SeqJAll (P : Program) (ops : Array Oper) (J : (Nat → Bool) → World → Prop) (ks₀ : List Kn) (K : Act → (Nat → World → Prop) → Prop) : List Kn → List Oper → Act → (Nat → World → Prop) → Nat → Prop
  | _, [], a, H, _ => K a H
  | [], _ :: _, _, _, _ => False
  | k :: ks, o :: l, a, H, i => SeqJVC P ops J ks₀ i k o a H ∧ ∀ v, k.s v → SeqJAll P ops J ks₀ K ks l (a.put o.dst v) (addH H i (k.p v)) (i + 1)

section
variable {P : Program} {ops : Array Oper} {J : (Nat → Bool) → World → Prop} {ks₀ : List Kn} {K : Act → (Nat → World → Prop) → Prop}

end


def seqJK (J : (Nat → Bool) → World → Prop) (K : Act → World → Prop) (n : Nat) : Act → (Nat → World → Prop) → Prop := fun a H => ∀ w', J (fun j => decide (j < n)) w' → (∀ j, j < n → H j w') → K a w'

section
variable {P : Program} {id : Nat} {l : List Oper} {a : Act} {w : World} {Q : Exit → Act → World → Prop} {ks : List Kn}
end
/-! Where all values are known ahead. -/
def SeqCAll (P : Program) (ops : Array Oper) (J : (Nat → Bool) → World → Prop) (K : Act → Prop) : List Value → List Oper → Act → Nat → Prop
  | _, [], a, _ => K a
  | [], _ :: _, _, _ => False
  | c :: cs, o :: l, a, i => (∀ w L, L i = false → J L w → (∀ e ∈ o.after.toList, Region.binds .any e = true → L e.on = true) →
      if guardOn ops o a then opOK P o a w (fun v w' => v = c ∧ J (setB L i) w') else J (setB L i) w ∧ c = undef) ∧ SeqCAll P ops J K cs l (a.put o.dst c) (i + 1)
section
variable {P : Program} {ops : Array Oper} {J : (Nat → Bool) → World → Prop} {o : Oper} {l : List Oper} {a : Act} {i : Nat}
variable {K : Act → Prop} {c : Value} {cs : List Value}
end
structure JCell (w0 : World) (st : Nat) (rd : List Nat) (p : Addr) (v : Value) (L : Nat → Bool) (W : World) : Prop where
  eq : W = if L st = true then w0.setCell p v else w0
  rds : L st = true → ∀ i ∈ rd, L i = true
section
variable {w0 W : World} {st : Nat} {rd : List Nat} {p : Addr} {v : Value} {L : Nat → Bool}
theorem JCell.start : JCell w0 st rd p v (fun _ => false) w0 := ⟨rfl, fun h => (by cases h)⟩
theorem JCell.cell (h : JCell w0 st rd p v L W) {b o : Nat} {x : Value} (hv : w0.cell? ⟨b, o, none⟩ = some x) (hb : b ≠ p.block) : W.cell? ⟨b, o, none⟩ = some x := by
  rw [h.eq]
  split
  · rw [World.cell?_of_block (w := w0) (Below.heap_setCell _ _ _ _ hb)]; exact hv
  · exact hv
theorem JCell.look (h : JCell w0 st rd p v L W) {i : Nat} (hi : i ∈ rd) (hL : L i = false) : W = w0 := by
  rw [h.eq]
  split
  · rename_i hs
    rw [h.rds hs i hi] at hL; cases hL
  · rfl
theorem JCell.read (h : JCell w0 st rd p v L W) {i : Nat} (hi : st ≠ i) : JCell w0 st rd p v (setB L i) W := by
  refine ⟨by rw [setB_ne hi]; exact h.eq, fun h' j hj => ?_⟩
  rw [setB_ne hi] at h'
  unfold setB
  split
  · rfl
  · exact h.rds h' j hj
theorem JCell.before (h : JCell w0 st rd p v L W) (hL : L st = false) : W = w0 := by rw [h.eq, hL]; rfl
theorem JCell.store (h : ∀ i ∈ rd, L i = true) : JCell w0 st rd p v (setB L st) (w0.setCell p v) := by
  refine ⟨by rw [setB_eq, if_pos rfl], fun _ j hj => ?_⟩
  unfold setB
  split
  · rfl
  · exact h j hj
theorem JCell.done (h : JCell w0 st rd p v L W) (hL : L st = true) : W = w0.setCell p v := by rw [h.eq, hL]; rfl
end
end Go.Oche
