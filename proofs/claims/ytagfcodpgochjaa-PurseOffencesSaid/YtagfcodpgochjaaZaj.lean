/- The texts PY, PP2, SlSl, PZ, PT, PK, in build order. -/
import Derived.Test.YtagfcodpgochjaaZai
import Derived.Laws.StructEq

/- Chapter 12: prizes: a group is paid. -/
namespace Go.Proofs.Ytagfcodpgochjaa
open Go.RowKit Go.Oche Go.Proofs

theorem prizeSum_next (money : Int) (shares : List Int) (pl k : Nat) : prizeSum money shares pl (k + 1) = prizeSum money shares pl k + prizeP money shares (pl + k) := rfl
set_option maxRecDepth 100000 in
set_option maxHeartbeats 4000000 in
theorem pay_any {S S' : Nat → Prop} (money : Int) (sv : Value) (shares : List Int) (P M pl B : Nat) (g : List Int) (L : List (Int × Value)) (v : Value) (w : World) (hF : FundAt w P money sv M pl) (hM : MapAt (Value.int .i64) w M L)
    (hsh : Sl S' w sv (ints shares)) (hs : Sl S w v (ints g)) (hSB : ∀ k, S k → k < B) (hSB' : ∀ k, S' k → k < B) (hP : B ≤ P) (hMB : B ≤ M) (hB : B ≤ w.heap.size)
    (hm : 0 ≤ money ∧ money ≤ 1000000000) (hb : ∀ s ∈ shares, 0 ≤ s ∧ s ≤ 1000) (h0 : 0 < g.length) (hl : g.length ≤ 60) (hpl : pl ≤ 1000) :
    Calls Try.prog 33 #[.pointer (some ⟨P, 0, none⟩), v] w fun e w' => e = .returned (.int .i64 (eachP money shares pl g * g.length)) ∧ Below B w w' ∧ FundAt w' P money sv M (pl + g.length) ∧
      ∃ L', MapAt (Value.int .i64) w' M L' ∧ ∀ p, lookM L' p = if p ∈ g then some (.int .i64 (eachP money shares pl g)) else lookM L p := by
  obtain ⟨a, cap, rfl, h2, h3⟩ := hs.form
  simp only [ints_length] at *
  unfold maxLen at h3
  obtain ⟨E, hE⟩ : ∃ E, eachP money shares pl g = E := ⟨_, rfl⟩
  rw [hE]
  have HE := Lib.hid hE
  clear hE
  have HS := Lib.hid hs
  have HSH := Lib.hid hsh
  have HSB := Lib.hid (And.intro hSB (And.intro hSB' (And.intro hP (And.intro hMB hB))))
  have HMO := Lib.hid hm
  have HBD := Lib.hid hb
  have hPM : P ≠ M := fun e => by
    obtain ⟨es, c, h, _⟩ := hM
    rw [← e, hF.blk] at h; cases h
  have hsl : ∀ W, Below B w W → Sl S W (.slice a g.length cap) (ints g) ∧ Sl S' W sv (ints shares) := fun W hW =>
    ⟨hs.cells fun b o hb _ => hW.cell (p := ⟨b, o, none⟩) (hSB b hb), hsh.cells fun b o hb _ => hW.cell (p := ⟨b, o, none⟩) (hSB' b hb)⟩
  have HSL := Lib.hid hsl
  have HF := Lib.hid hF
  have HM := Lib.hid hM
  clear hs hsh hSB hSB' hP hMB hB hb hF hM hsl
  go_enter Try.func33, Try.ntmps33
  go_wp2
  go_loopw [5, 10] (fun c i wr => ∃ (k : Nat) (C : Int), k ≤ g.length ∧ i = .int .i64 k ∧ c = .int .i64 C ∧ Hid (C = prizeSum money shares pl k) ∧ Hid (FundAt wr P money sv M (pl + k)) ∧ Hid (MapAt (Value.int .i64) wr M L) ∧ Below B w wr) (fun _ i _ => g.length - (intOf i).toNat)
  case atStart => exact ⟨0, 0, by omega, rfl, rfl, Lib.hid rfl, HF, HM, ⟨rfl, rfl, rfl, Nat.le_refl _, fun _ _ => rfl⟩⟩
  case round =>
    clear HF HM
    obtain ⟨k, C, hk, rfl, rfl, HC, HF, HM, hb⟩ := hrel
    obtain ⟨wo, rfl⟩ : ∃ wo : World, wo = wr := ⟨_, rfl⟩
    by_cases hlt : k < g.length
    · have f0 : wo.cell? ⟨P, 0, none⟩ = some (.int .i64 money) := by rw [cell_of_heap HF.out.blk]; rfl
      have f1 : wo.cell? ⟨P, 1, none⟩ = some sv := by rw [cell_of_heap HF.out.blk]; rfl
      have f3 : wo.cell? ⟨P, 3, none⟩ = some (.int .i64 (pl + k : Nat)) := by rw [cell_of_heap HF.out.blk]; rfl
      obtain ⟨q, hq⟩ : ∃ q, prizeP money shares (pl + k) = q := ⟨_, rfl⟩
      have hCb : 0 ≤ C ∧ C ≤ 1000000000 * 60 := by
        have h1 := prizeSum_bd HMO.out.1 HBD.out pl k
        rw [← HC.out] at h1
        refine ⟨h1.1, Int.le_trans h1.2 ?_⟩
        have := HMO.out
        have h2 : money * (k : Int) ≤ 1000000000 * (k : Int) := Int.mul_le_mul_of_nonneg_right this.2 (by omega)
        omega
      have hqb : 0 ≤ q ∧ q ≤ 1000000000 := by
        have h1 := prizeP_bd HMO.out.1 HBD.out (pl + k)
        rw [hq] at h1
        have := HMO.out
        omega
      have HQ : Hid (C + q = prizeSum money shares pl (k + 1)) := Lib.hid (by rw [prizeSum_next, ← HC.out, hq])
      have hw1 : IntKind.i64.wrap (C + q) = C + q := wrap_small _ (by omega) (by omega)
      have HB := Lib.hid hb
      have HPP := Lib.hid hq
      clear hb hq
      go_wp2_with fail
      refine (prize_any money shares sv P (pl + k) wo (HSL.out wo HB.out).2 f0 f1 HMO.out HBD.out).mono ?_
      rintro e w1 ⟨rfl, hb1⟩
      rw [HPP.out]
      clear f0 f1 f3
      have HF1 := HF.out.below hb1
      have HM1 := HM.out.below hb1
      have g3 : w1.cell? ⟨P, 3, none⟩ = some (.int .i64 (pl + k : Nat)) := by rw [cell_of_heap HF1.blk]; rfl
      have g3f : w1.frozen? ⟨P, 3, none⟩ = false := frozen_of_heap HF1.blk
      have hw2 : IntKind.i64.wrap (((pl + k : Nat) : Int) + 1) = ((pl + k : Nat) : Int) + 1 := wrap_small _ (by omega) (by omega)
      have HF2 : Hid (FundAt (w1.setCell ⟨P, 3, none⟩ (.int .i64 (((pl + k : Nat) : Int) + 1))) P money sv M (pl + (k + 1))) := Lib.hid ⟨by
        rw [heap_setCell_at HF1.blk]
        simp
        omega⟩
      have HM2 : Hid (MapAt (Value.int .i64) (w1.setCell ⟨P, 3, none⟩ (.int .i64 (((pl + k : Nat) : Int) + 1))) M L) := Lib.hid (HM1.keep (Below.heap_setCell _ _ _ _ (fun e => hPM e.symm)))
      have HB2 : Hid (Below B w (w1.setCell ⟨P, 3, none⟩ (.int .i64 (((pl + k : Nat) : Int) + 1)))) := Lib.hid ((HB.out.trans (hb1.mono (Nat.le_trans HSB.out.2.2.2.2 HB.out.size))).setCell HSB.out.2.2.1 _)
      clear HF1 HM1 hb1
      go_wp2
      go_roundw
      case rel => exact ⟨k + 1, C + q, by omega, by go_num, rfl, HQ, HF2, HM2, HB2.out⟩
      case measure => simp [intOf]; omega
    · obtain rfl : k = g.length := by omega
      have hC0 : C = prizeSum money shares pl g.length := HC.out
      have hCb : 0 ≤ C ∧ C ≤ 1000000000 * 60 := by
        have h1 := prizeSum_bd HMO.out.1 HBD.out pl g.length
        rw [← hC0] at h1
        refine ⟨h1.1, Int.le_trans h1.2 ?_⟩
        have := HMO.out
        have h2 : money * (g.length : Int) ≤ 1000000000 * (g.length : Int) := Int.mul_le_mul_of_nonneg_right this.2 (by omega)
        omega
      have hEC : C / (g.length : Int) = E := by rw [← HE.out, eachP, hC0]
      have hqd : C.tdiv (g.length : Int) = E := by rw [Int.tdiv_eq_ediv_of_nonneg hCb.1, hEC]
      have hE0 : 0 ≤ E := by rw [← hEC]; exact Int.ediv_nonneg hCb.1 (by omega)
      have hE1 : E * (g.length : Int) ≤ C := by rw [← hEC]; exact Int.ediv_mul_le _ (by omega)
      have hE2 : 0 ≤ E * (g.length : Int) := Int.mul_nonneg hE0 (by omega)
      have hE3 : E ≤ E * (g.length : Int) := by
        have := Int.mul_le_mul_of_nonneg_left (show (1 : Int) ≤ g.length by omega) hE0
        omega
      have hwE : IntKind.i64.wrap E = E := wrap_small _ (by omega) (by omega)
      have hwM : IntKind.i64.wrap (E * (g.length : Int)) = E * (g.length : Int) := wrap_small _ (by omega) (by omega)
      have hg0 : ¬ (g.length : Int) = 0 := by omega
      have hg0n : ¬ g.length = 0 := by omega
      have hg0l : ¬ g = [] := fun e => by rw [e] at h0; simp at h0
      clear hC0 hEC hE1 hE2 hE3 HC
      have HB := Lib.hid hb
      clear hb
      go_wp2_with fail
      go_loopw [30] (fun i wr => ∃ (k : Nat), k ≤ g.length ∧ i = .int .i64 k ∧ Hid (FundAt wr P money sv M (pl + g.length)) ∧ Hid (∃ L', MapAt (Value.int .i64) wr M L' ∧ ∀ p, lookM L' p = if p ∈ g.take k then some (.int .i64 E) else lookM L p) ∧ Below B w wr) (fun i _ => g.length - (intOf i).toNat)
      case atStart => exact ⟨0, by omega, rfl, HF, Lib.hid ⟨L, HM.out, fun p => by simp⟩, HB.out⟩
      case round =>
        clear HF HM HB
        obtain ⟨k, hk, rfl, HF, HM, hb⟩ := hrel
        obtain ⟨wi, rfl⟩ : ∃ wi : World, wi = wr := ⟨_, rfl⟩
        by_cases hlt : k < g.length
        · obtain ⟨b, off, hal, _, hc⟩ := (HSL.out wi hb).1.cell hlt
          cases hal
          obtain ⟨x, hx⟩ : ∃ x, g[k] = x := ⟨_, rfl⟩
          rw [hx] at hc
          have HX := Lib.hid hx
          have f2 : wi.cell? ⟨P, 2, none⟩ = some (.map (some M)) := by rw [cell_of_heap HF.out.blk]; rfl
          have HB := Lib.hid hb
          clear hx hb
          obtain ⟨L1, hL1, hlk⟩ := HM.out
          have HLK := Lib.hid hlk
          have HL1 := Lib.hid hL1
          clear hlk hL1
          go_wp2_with fail
          clear hc
          refine wp_region_seq 9 [.is ?_, .is ?_, .is ?_, .is ?_, .is ?_, .is ?_, .is ?_, .is ?_, .is ?_] rfl mix (by kernel_rfl) (by kernel_rfl) ?seqm
          case seqm =>
            simp only [List.take_succ_cons, List.take_zero]
            iterate 9
              refine seq_is rfl (fun w1 hb1 _ => ?_) ?_
              · have f2' := bAt hb1 f2
                simp [opOK, go_sem, f2', hqd, hwE, hg0n, Below.refl]
                try exact rfl
              simp only [Act.put, List.setIfInBounds_toArray, List.set_cons_succ, List.set_cons_zero]
            refine seq_end fun w4 hb4 _ => ?_
            simp only [List.drop_succ_cons, List.drop_zero]
            obtain ⟨w5, hup, hL5, hg5⟩ := MapAt.update int_key (T := 84) (E := 3) (by rfl) (HL1.out.below hb4) x (.int .i64 E)
            refine wpList_opOK (R := fun _ w => w = w5) rfl (opOK_skip (w' := w5) (by simp [go_sem, execOp, hup]) rfl) fun v w' hw => ?_
            subst hw
            have HF5 := Lib.hid ((HF.out.below hb4).keep (hg5.block P (HF.out.below hb4).lt (by simpa using hPM)))
            have HL5 := Lib.hid hL5
            have hB4 := HB.out.trans (hb4.mono (Nat.le_trans HSB.out.2.2.2.2 HB.out.size))
            have HB5 := Lib.hid (hB4.trans (below_grownBy hg5 (Nat.le_trans HSB.out.2.2.2.2 hB4.size) (fun q hq => by cases hq; exact HSB.out.2.2.2.1)))
            clear hup hL5 hg5 hB4 hb4 f2
            go_wp2
            go_roundw
            case rel => exact ⟨k + 1, by omega, by go_num, HF5, Lib.hid ⟨_, HL5.out, fun p => by
              rw [lookM_upd, HLK.out p]
              by_cases e : x = p
              · subst e; rw [if_pos rfl, if_pos ((in_take hlt _).2 (.inl HX.out.symm))]
              · rw [if_neg e]
                by_cases hp : p ∈ g.take k
                · rw [if_pos hp, if_pos ((in_take hlt _).2 (.inr hp))]
                · rw [if_neg hp, if_neg (fun h => ((in_take hlt _).1 h).elim (fun h => e (by rw [h, HX.out])) hp)]⟩, HB5.out⟩
            case measure => simp [intOf]; omega
        · obtain rfl : k = g.length := by omega
          have HB := Lib.hid hb
          clear hb
          go_wp2
          go_ret
          refine ⟨rfl, HB.out, HF.out, ?_⟩
          obtain ⟨L', h1, h2⟩ := HM.out
          exact ⟨L', h1, fun p => by rw [h2, List.take_length]⟩
end Go.Proofs.Ytagfcodpgochjaa

/- Chapter 12, prizes: who has one, in plain Lean. -/
namespace Go.Proofs.Ytagfcodpgochjaa
open Go.RowKit Go.Oche Go.Proofs
/-- Players, each once. -/
structure Once (n : Nat) (tk : List Int) : Prop where
  nd : tk.Nodup
  rng : ∀ x ∈ tk, 0 ≤ x ∧ x < n
theorem nodup_len : ∀ (n : Nat) (xs : List Int), xs.Nodup → (∀ x ∈ xs, 0 ≤ x ∧ x < n) → xs.length ≤ n
  | 0, [], _, _ => by simp
  | 0, x :: xs, _, h => by have := h x (by simp); omega
  | n + 1, xs, hn, h => by
    have := nodup_len n (xs.erase n) (hn.erase _) (fun x hx => by
      have h1 := h x (List.mem_of_mem_erase hx)
      have h2 : x ≠ n := (List.Nodup.mem_erase_iff hn).1 hx |>.1
      omega)
    rw [List.length_erase] at this
    split at this <;> omega
theorem Once.len {n : Nat} {tk : List Int} (h : Once n tk) : tk.length ≤ n := nodup_len n tk h.nd h.rng
theorem Once.nil (n : Nat) : Once n [] := ⟨by simp, by simp⟩
theorem grp_once {n : Nat} : ∀ {g tk : List Int}, Once n tk → grpErr n tk g = 0 → Once n (tk ++ g)
  | [], tk, h, _ => by simpa using h
  | p :: g, tk, h, he => by
    rw [grpErr] at he
    by_cases h1 : isIn p 0 ((n : Int) - 1) = false
    · rw [if_pos h1] at he; simp at he
    · rw [if_neg h1] at he
      by_cases h2 : p ∈ tk
      · rw [if_pos h2] at he; simp at he
      · rw [if_neg h2] at he
        have hp : 0 ≤ p ∧ p < n := by simp [isIn] at h1; omega
        have := grp_once (g := g) (tk := tk ++ [p]) ⟨by
          rw [List.nodup_append]
          refine ⟨h.nd, by simp, fun a ha b hb => ?_⟩
          simp only [List.mem_singleton] at hb
          subst hb
          intro e; subst e; exact h2 ha, fun x hx => by
          rcases List.mem_append.1 hx with hx | hx
          · exact h.rng x hx
          · simp only [List.mem_singleton] at hx; subst hx; exact hp⟩ he
        simpa using this
theorem foldl_set_length (e : Int) : ∀ (g out : List Int), (g.foldl (fun o p => o.set p.toNat e) out).length = out.length
  | [], out => rfl
  | p :: g, out => by rw [List.foldl_cons, foldl_set_length e g]; simp
theorem foldl_set_at (e : Int) : ∀ (g out : List Int) (p : Nat), (∀ x ∈ g, 0 ≤ x) → p < out.length → (g.foldl (fun o p => o.set p.toNat e) out).getD p 0 = if (p : Int) ∈ g then e else out.getD p 0
  | [], out, p, _, _ => by simp
  | x :: g, out, p, h, hp => by
    have hx := h x (by simp)
    rw [List.foldl_cons, foldl_set_at e g _ p (fun y hy => h y (by simp [hy])) (by simpa using hp)]
    by_cases h1 : (p : Int) ∈ g
    · rw [if_pos h1, if_pos (by simp [h1])]
    · rw [if_neg h1]
      by_cases h2 : (p : Int) = x
      · rw [if_pos (by simp [h2]), show x.toNat = p by omega, List.getD_eq_getElem?_getD, List.getElem?_set_self (by omega)]; rfl
      · rw [if_neg (by simp [h1, h2]), List.getD_eq_getElem?_getD, List.getElem?_set_ne (by omega), ← List.getD_eq_getElem?_getD]
end Go.Proofs.Ytagfcodpgochjaa

/- A slice of slices of integers. -/
namespace Go.Oche
open Go Go.RowKit
def SlSl (S : Nat → Prop) (w : World) (v : Value) (gs : List (List Int)) : Prop :=
  ∃ vs, Sl S w v vs ∧ vs.length = gs.length ∧ ∀ i (h : i < gs.length), ∃ u, vs[i]? = some u ∧ Sl S w u (ints gs[i])
section
variable {S S' : Nat → Prop} {w w' : World} {v : Value} {gs : List (List Int)}
theorem SlSl.mono (h : SlSl S w v gs) (hS : ∀ k, S k → S' k) : SlSl S' w v gs := by
  obtain ⟨vs, h1, h2, h3⟩ := h
  exact ⟨vs, h1.mono hS, h2, fun i hi => let ⟨u, e, hu⟩ := h3 i hi; ⟨u, e, hu.mono hS⟩⟩
theorem SlSl.cells (h : SlSl S w v gs) (hc : ∀ b o, S b → (w.cell? ⟨b, o, none⟩).isSome → w'.cell? ⟨b, o, none⟩ = w.cell? ⟨b, o, none⟩) : SlSl S w' v gs := by
  obtain ⟨vs, h1, h2, h3⟩ := h
  exact ⟨vs, h1.cells hc, h2, fun i hi => let ⟨u, e, hu⟩ := h3 i hi; ⟨u, e, hu.cells hc⟩⟩
theorem SlSl.below (h : SlSl S w v gs) (hb : Below w.heap.size w w') : SlSl S w' v gs := by
  obtain ⟨vs, h1, h2, h3⟩ := h
  exact ⟨vs, h1.below hb, h2, fun i hi => let ⟨u, e, hu⟩ := h3 i hi; ⟨u, e, hu.below hb⟩⟩
theorem SlSl.lt (h : SlSl S w v gs) : SlSl (fun k => S k ∧ k < w.heap.size) w v gs := by
  obtain ⟨vs, h1, h2, h3⟩ := h
  exact ⟨vs, h1.lt, h2, fun i hi => let ⟨u, e, hu⟩ := h3 i hi; ⟨u, e, hu.lt⟩⟩
theorem SlSl.form (h : SlSl S w v gs) : ∃ a cap, v = .slice a gs.length cap ∧ gs.length ≤ cap ∧ cap ≤ maxLen := by
  obtain ⟨vs, h1, h2, _⟩ := h
  obtain ⟨a, cap, e, l1, l2⟩ := h1.form
  exact ⟨a, cap, by rw [e, h2], by omega, l2⟩
theorem SlSl.cell {a : Option Addr} {n cap : Nat} (h : SlSl S w (.slice a n cap) gs) {i : Nat} (hi : i < gs.length) : ∃ b off u, a = some ⟨b, off, none⟩ ∧ S b ∧ w.cell? ⟨b, off + i, none⟩ = some u ∧ Sl S w u (ints gs[i]) := by
  obtain ⟨vs, h1, h2, h3⟩ := h
  obtain ⟨u, e, hu⟩ := h3 i hi
  obtain ⟨a', cap', e1, _, _, h4⟩ := h1
  cases e1
  obtain ⟨b, off, e2, s, c⟩ := h4 i u e
  exact ⟨b, off, u, e2, s, c, hu⟩
/-- A map lies in no row of one's own. -/
theorem MapAt.ne {κ : Type} {enc : κ → Value} {M base n k : Nat} {L : List (κ × Value)} {e : TypeId} {r : Value} {xs : List Value} (h : MapAt enc w M L) (ho : w.ownsRow base e k r n xs) : some M ≠ r.ownBlock := by
  obtain ⟨es, c, hM, _⟩ := h
  rcases ho.2 with ⟨rfl, _⟩ | ⟨g, cap, cur, rfl, _, hg, _⟩
  · simp [Value.ownBlock]
  · intro e2
    simp only [Value.ownBlock, Option.some.injEq] at e2
    subst e2
    rw [hM] at hg; cases hg
end
end Go.Oche

/- Chapter 12: Prizes. -/
namespace Go.Proofs.Ytagfcodpgochjaa
open Go.RowKit Go.Oche Go.Proofs

/-- What is known after some groups. -/
structure PzOk (n : Nat) (money : Int) (shares : List Int) (places : List (List Int)) (er : Int) (rs : List Int × Int) (k : Nat) (tk out : List Int) (kept : Int) : Prop where
  err : er = placesErr n tk (places.drop k)
  res : er = 0 → rs = payAll money shares tk.length out kept (places.drop k)
  once : Once n tk
  len : out.length = n
  bd : money - money * tk.length ≤ kept ∧ kept ≤ money
theorem eachP_bd {money : Int} {shares : List Int} (h0 : 0 ≤ money) (hb : ∀ s ∈ shares, 0 ≤ s ∧ s ≤ 1000) (pl : Nat) (g : List Int) (hg : 0 < g.length) : 0 ≤ eachP money shares pl g ∧ 0 ≤ eachP money shares pl g * g.length ∧ eachP money shares pl g * g.length ≤ money * g.length := by
  have h1 := prizeSum_bd h0 hb pl g.length
  have h2 : 0 ≤ eachP money shares pl g := Int.ediv_nonneg h1.1 (by omega)
  have h3 : eachP money shares pl g * g.length ≤ prizeSum money shares pl g.length := Int.ediv_mul_le _ (by omega)
  exact ⟨h2, Int.mul_nonneg h2 (by omega), Int.le_trans h3 h1.2⟩
theorem PzOk.next {n : Nat} {money : Int} {shares : List Int} {places : List (List Int)} {er : Int} {rs : List Int × Int} {k : Nat} {tk out : List Int} {kept : Int} (h : PzOk n money shares places er rs k tk out kept)
    (h0 : 0 ≤ money) (hb : ∀ s ∈ shares, 0 ≤ s ∧ s ≤ 1000) (hk : k < places.length) (he : chkErr n tk places[k] = 0) :
    0 < (places[k]).length ∧ Once n (tk ++ places[k]) ∧ PzOk n money shares places er rs (k + 1) (tk ++ places[k]) ((places[k]).foldl (fun o p => o.set p.toNat (eachP money shares tk.length places[k])) out) (kept - eachP money shares tk.length places[k] * (places[k]).length) := by
  unfold chkErr at he
  by_cases hg : places[k] = []
  · rw [if_pos hg] at he; simp at he
  · rw [if_neg hg] at he
    have hg0 : 0 < (places[k]).length := List.length_pos_iff.2 hg
    have ho := grp_once h.once he
    have hd := List.drop_eq_getElem_cons hk
    have hb2 := eachP_bd h0 hb tk.length places[k] hg0
    refine ⟨hg0, ho, ?_, fun h1 => ?_, ho, by rw [foldl_set_length]; exact h.len, ?_⟩
    · rw [h.err, hd, placesErr, if_neg hg, if_pos he]
    · rw [h.res h1, hd, payAll, List.length_append]
    · have := h.bd
      rw [List.length_append, Int.natCast_add, Int.mul_add]
      omega
theorem PzOk.stop {n : Nat} {money : Int} {shares : List Int} {places : List (List Int)} {er : Int} {rs : List Int × Int} {k : Nat} {tk out : List Int} {kept : Int} (h : PzOk n money shares places er rs k tk out kept)
    (hk : k < places.length) (he : chkErr n tk places[k] ≠ 0) : er = chkErr n tk places[k] := by
  rw [h.err, List.drop_eq_getElem_cons hk, placesErr, chkErr]
  unfold chkErr at he
  by_cases hg : places[k] = []
  · rw [if_pos hg, if_pos hg]
  · rw [if_neg hg] at he ⊢
    rw [if_neg hg, if_neg he]
set_option maxRecDepth 100000 in
set_option maxHeartbeats 4000000 in
theorem prizes_any {S S' : Nat → Prop} (money players : Int) (shares : List Int) (places : List (List Int)) (v vp : Value) (w : World) (hs : Sl S w v (ints shares)) (hp : SlSl S' w vp places) :
    Calls Try.prog 17 #[.int .i64 money, .int .i64 players, v, vp] w fun e w' => ∃ r, e = .returned (.tuple #[r, .int .i64 (prizesRes money players shares places).2, .int .i64 (prizesErr money players shares places)]) ∧ Below w.heap.size w w' ∧ Sl (fun k => w.heap.size ≤ k) w' r (ints (prizesRes money players shares places).1) := by
  obtain ⟨a, cap, rfl, h2, h3⟩ := hs.form
  obtain ⟨ap, capp, rfl, h2p, h3p⟩ := hp.form
  simp only [ints_length] at *
  unfold maxLen at h3 h3p
  obtain ⟨b1, hb1⟩ : ∃ b, isIn money 0 1000000000 = b := ⟨_, rfl⟩
  obtain ⟨b2, hb2⟩ : ∃ b, isIn players 1 60 = b := ⟨_, rfl⟩
  obtain ⟨b4, hb4⟩ : ∃ b, shares.any (outB 0 1000) = b := ⟨_, rfl⟩
  obtain ⟨er, her⟩ : ∃ x, prizesErr money players shares places = x := ⟨_, rfl⟩
  obtain ⟨rs, hrs⟩ : ∃ x, prizesRes money players shares places = x := ⟨_, rfl⟩
  have ER : Hid (er = if b1 = false then 3 else if b2 = false then 2 else if 60 < shares.length then 4 else if b4 = true ∨ 1000 < shares.sum then 2 else placesErr players [] places) := Lib.hid (by rw [← her, ← hb1, ← hb2, ← hb4]; rfl)
  have RS : Hid (rs = if er = 0 then payAll money shares 0 (List.replicate players.toNat 0) money places else ([], 0)) := Lib.hid (by rw [← hrs, ← her]; rfl)
  have H1 := Lib.hid hb1
  have H2 := Lib.hid hb2
  have H4 := Lib.hid hb4
  have HS := Lib.hid hs
  have HP := Lib.hid hp
  rw [her, hrs]
  clear her hrs hb1 hb2 hb4 hs hp
  have NOK : Hid (er ≠ 0 → rs = ([], 0)) := Lib.hid (fun h => by rw [RS.out, if_neg h])
  go_enter Try.func17, Try.ntmps17
  go_wp2_with fail
  refine (within_one' 0 1000000000 money b1 H1 _ _ (Sl.new1 (fun _ => True) w trivial 3 (.int .i64 money))).mono ?_
  rintro e w1 ⟨rfl, hb1⟩
  have HB1 := Lib.hid (bThen (aB w _) hb1)
  replace HS := Lib.hid (HS.out.below HB1.out)
  replace HP := Lib.hid (HP.out.below HB1.out)
  clear hb1
  cases b1
  · have er2 : er = 3 := ER.out
    have rs2 := NOK.out (by omega)
    clear ER RS NOK
    subst er2 rs2
    go_wp2
    go_returns
    exact ⟨_, rfl, HB1.out, Sl.nil _ _⟩
  · go_wp2_with fail
    refine (within_one' 1 60 players b2 H2 _ _ (Sl.new1 (fun _ => True) w1 trivial 3 (.int .i64 players))).mono ?_
    rintro e w2 ⟨rfl, hb2⟩
    replace hb2 := bThen (aB w1 _) hb2
    have HB2 := Lib.hid (bThen HB1.out hb2)
    replace HS := Lib.hid (HS.out.below hb2)
    replace HP := Lib.hid (HP.out.below hb2)
    clear hb2
    cases b2
    · have er2 : er = 2 := ER.out
      have rs2 := NOK.out (by omega)
      clear ER RS NOK
      subst er2 rs2
      go_wp2
      go_returns
      exact ⟨_, rfl, HB2.out, Sl.nil _ _⟩
    · by_cases hl : 60 < shares.length
      · have d1 : decide ((60 : Int) < (shares.length : Int)) = true := decide_eq_true (by omega)
        have d1n : decide (60 < shares.length) = true := decide_eq_true hl
        have er2 : er = 4 := by rw [ER.out]; simp [hl]
        have rs2 := NOK.out (by omega)
        clear ER RS NOK
        subst er2 rs2
        go_wp2
        go_returns
        exact ⟨_, rfl, HB2.out, Sl.nil _ _⟩
      · have d1 : decide ((60 : Int) < (shares.length : Int)) = false := decide_eq_false (by omega)
        have d1n : decide (60 < shares.length) = false := decide_eq_false hl
        have ER3 : Hid (er = if b4 = true ∨ 1000 < shares.sum then 2 else placesErr players [] places) := Lib.hid (by rw [ER.out]; simp [hl])
        clear ER
        go_wp2_with fail
        clear d1 d1n
        refine (within_r 0 1000 shares b4 H4 _ _ HS.out).mono ?_
        rintro e w3 ⟨rfl, hb3⟩
        have HB3 := Lib.hid (bThen HB2.out hb3)
        replace HS := Lib.hid (HS.out.below hb3)
        replace HP := Lib.hid (HP.out.below hb3)
        clear hb3
        cases b4
        · have hbd : ∀ s ∈ shares, 0 ≤ s ∧ s ≤ 1000 := any_outB H4.out
          have hsum : sumW shares = shares.sum := sumW_sum (B := 1000) (by decide) shares (fun x hx => by have := hbd x hx; omega) (by omega)
          obtain ⟨s, hs⟩ : ∃ s, shares.sum = s := ⟨_, rfl⟩
          have HSU := Lib.hid (hsum.trans hs)
          have ER4 : Hid (er = if 1000 < s then 2 else placesErr players [] places) := Lib.hid (by rw [ER3.out, hs]; simp)
          have HBD := Lib.hid hbd
          clear hbd hsum hs ER3
          go_wp2_with fail
          refine (total_any shares _ _ HS.out).mono ?_
          rintro e w4 ⟨rfl, rfl⟩
          rw [HSU.out]
          by_cases hs1 : 1000 < s
          · have d1 : decide (1000 < s) = true := decide_eq_true hs1
            have er2 : er = 2 := by rw [ER4.out, if_pos hs1]
            have rs2 := NOK.out (by omega)
            clear ER4 RS NOK hs1
            subst er2 rs2
            go_wp2
            go_returns
            exact ⟨_, rfl, HB3.out, Sl.nil _ _⟩
          · have d1 : decide (1000 < s) = false := decide_eq_false hs1
            have er2 : er = placesErr players [] places := by rw [ER4.out, if_neg hs1]
            have ER5 := Lib.hid er2
            have hmo : 0 ≤ money ∧ money ≤ 1000000000 := by simpa [isIn] using H1.out
            have hpl : 1 ≤ players ∧ players ≤ 60 := by simpa [isIn] using H2.out
            obtain ⟨n, rfl⟩ : ∃ n : Nat, players = n := ⟨players.toNat, by omega⟩
            have hmm := @run_makeMap Try.prog
            obtain ⟨w5, hw5⟩ : ∃ w5, (w3.alloc (.map #[] 0)).alloc (.cells #[.int .i64 money, .slice a shares.length cap, .map (some w3.heap.size), .int .i64 0] 86) = w5 := ⟨_, rfl⟩
            have hb5 : Below w3.heap.size w3 w5 := by rw [← hw5]; exact (aB _ _).trans ((aB _ _).mono (by simp))
            have hF5 : FundAt w5 (w3.heap.size + 1) money (.slice a shares.length cap) w3.heap.size 0 := ⟨by
              rw [← hw5]
              have := World.alloc_heap_new (w3.alloc (.map #[] 0)) (.cells #[.int .i64 money, .slice a shares.length cap, .map (some w3.heap.size), .int .i64 0] 86)
              rwa [World.size_alloc] at this⟩
            have hM5 : MapAt (Value.int .i64) w5 w3.heap.size [] := by
              rw [← hw5]
              exact (MapAt.made (Value.int .i64) w3).below (aB _ _)
            have HF5 := Lib.hid hF5
            have HM5 := Lib.hid hM5
            have HW5 := Lib.hid hw5
            clear hF5 hM5 hw5 er2 ER4 hs1
            go_wp2_with fail
            rw [HW5.out]
            clear d1 hmm
            obtain ⟨B, hBd⟩ : ∃ B, w3.heap.size = B := ⟨_, rfl⟩
            have hS3 := HS.out.lt
            have hP3 := HP.out.lt
            rw [hBd] at hS3 hP3 hb5 HF5 HM5 ⊢
            have HB3z : Hid (B = w3.heap.size) := Lib.hid hBd.symm
            have hsl : ∀ W, Below B w3 W → Sl (fun k => S k ∧ k < B) W (.slice a shares.length cap) (ints shares) ∧ SlSl (fun k => S' k ∧ k < B) W (.slice ap places.length capp) places := fun W hW =>
              ⟨hS3.cells fun b o hb _ => hW.cell (p := ⟨b, o, none⟩) hb.2, hP3.cells fun b o hb _ => hW.cell (p := ⟨b, o, none⟩) hb.2⟩
            have HSL := Lib.hid hsl
            have HST : Hid (PzOk n money shares places er rs 0 [] (List.replicate n 0) money) := Lib.hid ⟨ER5.out, fun h => by rw [RS.out, if_pos h]; simp, Once.nil n, by simp, by simp⟩
            clear hsl hS3 hP3 HS HP hBd ER5 RS
            go_loopw [8, 9, 10, 45] (fun pv kv ev i wr => ∃ (k : Nat) (tk out : List Int) (K : Int), k ≤ places.length ∧ i = .int .i64 k ∧ pv = .slice none 0 0 ∧ kv = .int .i64 K ∧ ev = .int .i64 0 ∧ Hid (PzOk n money shares places er rs k tk out K) ∧ Hid (FundAt wr (B + 1) money (.slice a shares.length cap) B tk.length) ∧
              Hid (∃ L, MapAt (Value.int .i64) wr B L ∧ Keys L tk ∧ ∀ p : Nat, p < n → (lookM L p).getD (.int .i64 0) = .int .i64 (out.getD p 0)) ∧ Below B w3 wr) (fun _ _ _ i _ => places.length - (intOf i).toNat)
            case atStart => exact ⟨0, [], _, money, by omega, rfl, rfl, rfl, rfl, HST, HF5, Lib.hid ⟨[], HM5.out, fun p => by simp [lookM], fun p hp => by simp [lookM, List.getD_eq_getElem?_getD, hp]⟩, hb5⟩
            case round =>
              clear HST HF5 HM5 hb5
              obtain ⟨k, tk, out, K, hk, rfl, rfl, rfl, rfl, HK, HF, HM, hb⟩ := hrel
              obtain ⟨wo, rfl⟩ : ∃ wo : World, wo = wr := ⟨_, rfl⟩
              have hBw : B ≤ wo.heap.size := by have := HB3z.out; have := hb.size; omega
              by_cases hlt : k < places.length
              · obtain ⟨b, off, u, hal, _, hc, hu⟩ := (HSL.out wo hb).2.cell hlt
                cases hal
                obtain ⟨gr, hg⟩ : ∃ gr, places[k] = gr := ⟨_, rfl⟩
                obtain ⟨c, hce⟩ : ∃ c, chkErr n tk gr = c := ⟨_, rfl⟩
                rw [hg] at hu
                have HG := Lib.hid hg
                have HU := Lib.hid hu
                have HC := Lib.hid hce
                have HB := Lib.hid hb
                clear hg hu hce hb
                obtain ⟨L, hML, hKL, hOL⟩ := HM.out
                have HML := Lib.hid hML
                have HKL := Lib.hid hKL
                have HOL := Lib.hid hOL
                clear hML hKL hOL
                go_wp2_with fail
                clear hc
                refine (check_any n money _ (B + 1) B tk.length tk gr L u wo HF.out HML.out HKL.out HU.out hpl).mono ?_
                rintro e w6 ⟨rfl, hb6⟩
                rw [HC.out]
                have HF6 := Lib.hid (HF.out.below hb6)
                have HM6 := Lib.hid (HML.out.below hb6)
                have hb6B := HB.out.trans (hb6.mono hBw)
                have HB6 := Lib.hid hb6B
                have HU6 := Lib.hid (HU.out.below hb6)
                have hBw6 : B ≤ w6.heap.size := Nat.le_trans hBw hb6.size
                clear hb6 hb6B
                by_cases hc0 : c = 0
                · subst hc0
                  obtain ⟨hg0, hon, hnx⟩ := HK.out.next hmo.1 HBD.out hlt (by rw [HG.out]; exact HC.out)
                  rw [HG.out] at hg0 hon hnx
                  have hgl : gr.length ≤ 60 := by have := hon.len; rw [List.length_append] at this; omega
                  have htl : tk.length ≤ 60 := by have := hon.len; rw [List.length_append] at this; omega
                  obtain ⟨E, hE⟩ : ∃ E, eachP money shares tk.length gr = E := ⟨_, rfl⟩
                  have hbd2 := eachP_bd hmo.1 HBD.out tk.length gr hg0
                  have hKb := HK.out.bd
                  have hm1 : money * (tk.length : Int) ≤ 1000000000 * 60 := Int.le_trans (Int.mul_le_mul_of_nonneg_right hmo.2 (by omega)) (by omega)
                  have hm2 : money * (gr.length : Int) ≤ 1000000000 * 60 := Int.le_trans (Int.mul_le_mul_of_nonneg_right hmo.2 (by omega)) (by omega)
                  rw [hE] at hnx hbd2
                  obtain ⟨D, hD⟩ : ∃ D, E * (gr.length : Int) = D := ⟨_, rfl⟩
                  rw [hD] at hnx hbd2
                  have hwr : IntKind.i64.wrap (K - D) = K - D := wrap_small _ (by omega) (by omega)
                  have HNX := Lib.hid hnx
                  have HE := Lib.hid hE
                  have HD := Lib.hid hD
                  have hrngg : ∀ x ∈ gr, 0 ≤ x := fun x hx => (hon.rng x (by simp [hx])).1
                  have HRG := Lib.hid hrngg
                  clear hnx hbd2 hKb hm1 hm2 hE hD hon hrngg
                  go_wp2_with fail
                  refine (pay_any money _ shares (B + 1) B tk.length B gr L u w6 HF6.out HM6.out (HSL.out w6 HB6.out).1 HU6.out (fun k h => h.2) (fun k h => h.2) (by omega) (by omega) hBw6 hmo HBD.out hg0 hgl (by omega)).mono ?_
                  rintro e w7 ⟨rfl, hb7, hF7, L7, hM7, hl7⟩
                  rw [HE.out] at hl7
                  rw [HE.out, HD.out]
                  have HF7 : Hid (FundAt w7 (B + 1) money (.slice a shares.length cap) B (tk ++ gr).length) := Lib.hid (by rw [List.length_append]; exact hF7)
                  have HM7 : Hid (∃ L, MapAt (Value.int .i64) w7 B L ∧ Keys L (tk ++ gr) ∧ ∀ p : Nat, p < n → (lookM L p).getD (.int .i64 0) = .int .i64 ((gr.foldl (fun o p => o.set p.toNat E) out).getD p 0)) := Lib.hid ⟨L7, hM7, fun p => by
                    rw [hl7]
                    by_cases h : p ∈ gr
                    · rw [if_pos h]; simp [h]
                    · rw [if_neg h, HKL.out p]; simp [h], fun p hp => by
                    rw [hl7, foldl_set_at E gr out p HRG.out (by rw [HK.out.len]; exact hp)]
                    by_cases h : (p : Int) ∈ gr
                    · rw [if_pos h, if_pos h]; rfl
                    · rw [if_neg h, if_neg h, HOL.out p hp]⟩
                  have HB7 := Lib.hid (HB6.out.trans hb7)
                  clear hb7 hF7 hM7 hl7
                  go_wp2_with fail
                  go_roundw
                  case rel => exact ⟨k + 1, tk ++ gr, _, K - D, by omega, by go_num, rfl, rfl, rfl, HNX, HF7, HM7, HB7.out⟩
                  case measure => simp [intOf]; omega
                · have f0 : (c != 0) = true := by simpa using hc0
                  have he := HK.out.stop hlt (by rw [HG.out, HC.out]; exact hc0)
                  rw [HG.out, HC.out] at he
                  have rs2 := NOK.out (by omega)
                  clear HK NOK HC
                  subst he rs2
                  go_wp2
                  go_returns
                  exact ⟨_, rfl, bThen HB3.out (HB6.out.mono (by have := HB3z.out; omega)), Sl.nil _ _⟩
              · obtain rfl : k = places.length := by omega
                have he0 : er = 0 := by rw [HK.out.err]; simp [placesErr]
                have hr0 : rs = (out, K) := by rw [HK.out.res he0]; simp [payAll]
                have hol := HK.out.len
                have HOLN := Lib.hid hol
                have HB := Lib.hid hb
                clear NOK HK hol hb
                subst he0 hr0
                go_wp2_with fail
                go_loopw [8, 63] (fun pv i wr => ∃ (k : Nat), k ≤ n ∧ i = .int .i64 k ∧ Hid (wr.ownsRow B 3 1 pv k (ints (out.take k))) ∧ Hid (FundAt wr (B + 1) money (.slice a shares.length cap) B tk.length) ∧
                  Hid (∃ L, MapAt (Value.int .i64) wr B L ∧ Keys L tk ∧ ∀ p : Nat, p < n → (lookM L p).getD (.int .i64 0) = .int .i64 (out.getD p 0)) ∧ Below B w3 wr) (fun _ i _ => n - (intOf i).toNat)
                case atStart => exact ⟨0, by omega, rfl, Lib.hid (World.ownsRow_nil _ _ _ _), HF, HM, HB.out⟩
                case round =>
                  clear HF HM HB hBw
                  obtain ⟨k, hk, rfl, HO, HF, HM, hb⟩ := hrel
                  obtain ⟨wi, rfl⟩ : ∃ wi : World, wi = wr := ⟨_, rfl⟩
                  have hBw : B ≤ wi.heap.size := by have := HB3z.out; have := hb.size; omega
                  have HB := Lib.hid hb
                  clear hb
                  by_cases hlt : k < n
                  · obtain ⟨L, hML, hKL, hOL⟩ := HM.out
                    obtain ⟨x, hx⟩ : ∃ x, out.getD k 0 = x := ⟨_, rfl⟩
                    have hlk := MapAt.lookup int_key (T := 84) (E := 3) (by rfl) (zero_i wi) hML k false
                    rw [hOL k hlt, hx] at hlk
                    simp only [Bool.false_eq_true, if_false] at hlk
                    have f2 : wi.cell? ⟨B + 1, 2, none⟩ = some (.map (some B)) := by rw [cell_of_heap HF.out.blk]; rfl
                    obtain ⟨wj, hwj⟩ : ∃ wj, wi.alloc (.cells #[.int .i64 x] 3) = wj := ⟨_, rfl⟩
                    have hbj : Below wi.heap.size wi wj := by rw [← hwj]; exact aB _ _
                    have hcj : wj.cell? ⟨wi.heap.size, 0, none⟩ = some (.int .i64 x) := by rw [← hwj]; simp
                    have HOJ := Lib.hid (ownsN_below HO.out hbj)
                    have HFJ := Lib.hid (HF.out.below hbj)
                    have HMJ : Hid (∃ L, MapAt (Value.int .i64) wj B L ∧ Keys L tk ∧ ∀ p : Nat, p < n → (lookM L p).getD (.int .i64 0) = .int .i64 (out.getD p 0)) := Lib.hid ⟨L, hML.below hbj, hKL, hOL⟩
                    have HBJ := Lib.hid (HB.out.trans (hbj.mono hBw))
                    have hBj : B ≤ wj.heap.size := Nat.le_trans hBw hbj.size
                    have HWJ := Lib.hid hwj
                    have HX := Lib.hid hx
                    clear hML hKL hOL hbj hwj hx HO HF HM HB
                    go_wp2_with (at_builtin; rw [HWJ.out]; refine wpList_append1 rfl _ _ 22 rfl B 3 (.int .i64 0) 8 Try.underlying22 info3 rfl _ k _ rfl HOJ.out wi.heap.size 0 1 (.int .i64 x) rfl hcj rfl (by omega) (by decide) hBj ?_)
                    intro gg cc w9 ho9 hg9 _
                    have hP9 : some (B + 1) ≠ u8.ownBlock := fun e => by
                      rcases ownsN_ne_blk HOJ.out HFJ.out.blk (by decide) with h | h
                      · rw [h] at e; cases e
                      · exact h e.symm
                    have HF9 := Lib.hid (HFJ.out.keep (hg9.block _ HFJ.out.lt hP9))
                    have HM9 : Hid (∃ L, MapAt (Value.int .i64) w9 B L ∧ Keys L tk ∧ ∀ p : Nat, p < n → (lookM L p).getD (.int .i64 0) = .int .i64 (out.getD p 0)) := by
                      obtain ⟨L, h1, h2, h3⟩ := HMJ.out
                      exact Lib.hid ⟨L, h1.keep (hg9.block _ h1.lt (h1.ne HOJ.out)), h2, h3⟩
                    have HB9 := Lib.hid (HBJ.out.trans (below_grownBy hg9 hBj (fun q hq => (HOJ.out.lt q hq).1)))
                    have HO9 : Hid (w9.ownsRow B 3 1 (.slice (some ⟨gg, 0, none⟩) (k + 1) cc) (k + 1) (ints (out.take (k + 1)))) := Lib.hid (by
                      rw [List.take_succ_eq_append_getElem (by rw [HOLN.out]; exact hlt), ints_append, ← getD_at, HX.out]; exact ho9)
                    clear ho9 hg9 hP9 hcj f2 hlk
                    go_wp2
                    go_roundw
                    case rel => exact ⟨k + 1, by omega, by go_num, HO9, HF9, HM9, HB9.out⟩
                    case measure => simp [intOf]; omega
                  · obtain rfl : k = n := by omega
                    go_wp2
                    go_returns
                    refine ⟨_, rfl, bThen HB3.out (HB.out.mono (by have := HB3z.out; omega)), ?_⟩
                    have h1 := HO.out
                    rw [← HOLN.out, List.take_length] at h1
                    exact (Sl.of_owns h1).mono fun q hq => by have := HB3.out.size; have := HB3z.out; omega
        · have er2 : er = 2 := by rw [ER3.out]; simp
          have rs2 := NOK.out (by omega)
          clear ER3 RS NOK
          subst er2 rs2
          go_wp2
          go_returns
          exact ⟨_, rfl, HB3.out, Sl.nil _ _⟩
end Go.Proofs.Ytagfcodpgochjaa

/- Chapter 12: tariffs that came in. -/
namespace Go.Proofs.Ytagfcodpgochjaa
open Go.RowKit Go.Oche Go.Proofs

def tarRow (t : Int × Int × Int) : List Value := [.int .i64 t.1, .int .i64 t.2.1, .int .i64 t.2.2]
def tarV (t : Int × Int × Int) : Value := .agg #[.int .i64 t.1, .int .i64 t.2.1, .int .i64 t.2.2]
theorem fines1_any (t : Int × Int × Int) (w : World) : Calls Try.prog 35 #[tarV t] w fun e w' => e = .returned (.bool (tarBad t)) ∧ Below w.heap.size w w' := by
  obtain ⟨f, m, t⟩ := t
  unfold tarV
  obtain ⟨w0, hw0⟩ : ∃ w0, (w.alloc (.cells #[.int .i64 f, .int .i64 m, .int .i64 t] 73)) = w0 := ⟨_, rfl⟩
  have hb0 : Below w.heap.size w w0 := by rw [← hw0]; exact aB _ _
  have HW0 := Lib.hid hw0
  clear hw0
  go_enter Try.func35, Try.ntmps35
  go_wp2_with fail
  rw [HW0.out]
  refine (isValid_any f m t _).mono ?_
  rintro e w1 ⟨rfl, hb1⟩
  have HB := Lib.hid (bThen hb0 hb1)
  clear hb0 hb1
  go_wp2
  go_ret
  exact ⟨ret_bool (by simp), HB.out⟩
/-- The first bad tariff. -/
def tarIdx (ts : List (Int × Int × Int)) : Int := if ts.any tarBad then (ts.findIdx tarBad : Nat) else -1
theorem tarIndex_any {S : Nat → Prop} (ts : List (Int × Int × Int)) (v : Value) (w : World) (hs : SlN 3 S w v (ts.map tarRow)) :
    Calls Try.prog 61 #[v, .func (.func 35) #[] #[]] w fun e w' => e = .returned (.int .i64 (tarIdx ts)) ∧ Below w.heap.size w w' := by
  obtain ⟨a, cap, rfl, h2, h3⟩ := hs.form
  simp only [List.length_map] at *
  unfold maxLen at h3
  have HS := Lib.hid hs
  clear hs
  go_enter Try.func61, Try.ntmps61
  go_wp2
  go_loopw [5, 8] (fun _ i wr => ∃ k : Nat, k ≤ ts.length ∧ i = .int .i64 k ∧ Hid (∀ j, j < k → ∀ h : j < ts.length, tarBad ts[j] = false) ∧ Below w.heap.size w wr) (fun _ i _ => ts.length - (intOf i).toNat)
  case atStart => exact ⟨0, Nat.zero_le _, rfl, Lib.hid (fun j hj => by omega), Below.refl _ _⟩
  case round =>
    obtain ⟨k, hk, rfl, HP, hb⟩ := hrel
    by_cases hlt : k < ts.length
    · obtain ⟨b, off, rfl, _, _, hc⟩ := (HS.out.below hb).cell (show k < (ts.map tarRow).length by simpa using hlt)
      obtain ⟨t, ht⟩ : ∃ t, ts[k] = t := ⟨_, rfl⟩
      have z0 := hc 0 (.int .i64 t.1) (by simp [tarRow, ht])
      have z1 := hc 1 (.int .i64 t.2.1) (by simp [tarRow, ht])
      have z2 := hc 2 (.int .i64 t.2.2) (by simp [tarRow, ht])
      simp only [Nat.add_zero] at z0
      obtain ⟨bd, hbd⟩ : ∃ x, tarBad t = x := ⟨_, rfl⟩
      have HT := Lib.hid ht
      have HBD := Lib.hid hbd
      have HB := Lib.hid hb
      clear hc ht hbd hb
      go_wp2_with fail
      refine (fines1_any t _).mono ?_
      rintro e w1 ⟨rfl, hb1⟩
      rw [HBD.out]
      have HB1 := Lib.hid (bThen HB.out hb1)
      clear hb1 z0 z1 z2
      cases bd
      · go_wp2_with fail
        go_roundw
        case rel => exact ⟨k + 1, by omega, by go_num, Lib.hid (fun j hj h => by
          by_cases hjk : j = k
          · subst hjk; rw [HT.out]; exact HBD.out
          · exact HP.out j (by omega) h), HB1.out⟩
        case measure => simp [intOf]; omega
      · go_wp2_with fail
        go_ret
        refine ⟨ret_int ?_, HB1.out⟩
        have h1 : ts.any tarBad = true := List.any_eq_true.2 ⟨ts[k], List.getElem_mem hlt, by rw [HT.out]; exact HBD.out⟩
        have h2 : ts.findIdx tarBad = k := (List.findIdx_eq hlt).2 ⟨by rw [HT.out]; exact HBD.out, fun j hj => by simpa using HP.out j hj (by omega)⟩
        simp [tarIdx, h1, h2]
    · obtain rfl : k = ts.length := by omega
      go_wp2
      go_ret
      refine ⟨ret_int ?_, hb⟩
      have h1 : ts.any tarBad = false := by
        rw [List.any_eq_false]
        intro x hx
        obtain ⟨j, hj, rfl⟩ := List.mem_iff_getElem.1 hx
        simp [HP.out j hj hj]
      simp [tarIdx, h1]
theorem tarContains_any {S : Nat → Prop} (ts : List (Int × Int × Int)) (v : Value) (w : World) (hs : SlN 3 S w v (ts.map tarRow)) :
    Calls Try.prog 34 #[v, .func (.func 35) #[] #[]] w fun e w' => e = .returned (.bool (ts.any tarBad)) ∧ Below w.heap.size w w' := by
  go_enter Try.func34, Try.ntmps34
  go_wp2_with fail
  refine (tarIndex_any ts _ _ hs).mono ?_
  rintro e w1 ⟨rfl, hb1⟩
  have HB := Lib.hid hb1
  clear hb1
  go_wp2
  go_ret
  refine ⟨ret_bool ?_, HB.out⟩
  unfold tarIdx
  cases ts.any tarBad <;> simp <;> omega
end Go.Proofs.Ytagfcodpgochjaa

/- Chapter 12: offences as keys of a map. -/
namespace Go.Proofs.Ytagfcodpgochjaa
open Go.RowKit Go.Oche Go.Proofs

def offV (x : Int × Int) : Value := .agg #[.int .i64 x.1, .int .i64 x.2]
theorem off_equal (a b c d : Int) (w : World) : (Op.equal 76 (.agg #[.int .i64 a, .int .i64 b]) (.agg #[.int .i64 c, .int .i64 d])).run Try.prog w = .ok (a == c && b == d) w := by
  have hf : Try.prog.underlying 76 = some (.struct (Try.prog.fieldsOf 76)) := by kernel_rfl
  have hp : Try.prog.stoodInHeld 76 = false := by kernel_rfl
  unfold Op.equal
  rw [show Op.maxDepth = 9999 + 1 from rfl, run_equalIn_agg w 9999 _ _ _ hf hp]
  simp [Program.fieldsOf, Op.eqFields, go_sem, Try.underlying76]
  by_cases h : a = c <;> by_cases h2 : b = d <;> simp [h, h2]
theorem off_check (a b : Int) (q : Bool) (w : World) : (Instr.checkKey q 10000 76 (.agg #[.int .i64 a, .int .i64 b])).run Try.prog w = .ok () w := by
  kernel_rfl
theorem off_kind : ∃ d, Try.prog.underlying 76 = some d ∧ ∀ a b, Instr.sameNow d a b = none := by
  refine ⟨.struct (Try.prog.fieldsOf 76), by kernel_rfl, fun a b => ?_⟩
  cases a <;> cases b <;> rfl
theorem sameBits_off (k : Int × Int) : ∀ n : Nat, 0 < n → Instr.sameBits n (offV k) (offV k) = true
  | 0, h => by omega
  | n + 1, _ => by
    unfold offV Instr.sameBits
    simp [sameBits_int]
theorem off_eq (k k' : Int × Int) (w : World) : (Op.equal 76 (offV k) (offV k')).run Try.prog w = .ok (decide (k' = k)) w := by
  obtain ⟨a, b⟩ := k
  obtain ⟨c, e⟩ := k'
  have e1 : (a == c && b == e) = decide ((c, e) = (a, b)) := by
    rw [Bool.eq_iff_iff]
    simp only [Bool.and_eq_true, beq_iff_eq, decide_eq_true_eq, Prod.mk.injEq]
    exact ⟨fun h => ⟨h.1.symm, h.2.symm⟩, fun h => ⟨h.1.symm, h.2.symm⟩⟩
  rw [← e1]
  exact off_equal a b c e w
theorem off_key : KeyEq Try.prog 76 offV := by
  obtain ⟨d, hd, hs⟩ := off_kind
  exact KeyEq.of_ask hd hs off_eq (fun c k w => off_check k.1 k.2 c w) (fun k => sameBits_off k 10000 (by decide))
theorem zero_int (w : World) : (zeroValue 3).run Try.prog w = .ok (.int .i64 0) w := by kernel_rfl
end Go.Proofs.Ytagfcodpgochjaa
