/- TopBoardHeard returns true, whatever its arguments are. Conditions: none. The tied card. -/
import Derived.Test.YtnbmgkmcaoafnaaGreatDoorZbd
import Derived.Test.YtnbmgkmcaoafnaaGreatDoorCards
import Derived.Test.YtnbmgkmcaoafnaaGreatDoorTie
namespace Go.Proofs.YtnbmgkmcaoafnaaGreatDoor.topBoardHeard
open Go.RowKit Go.Oche Go.Proofs Go.ChangeShapes Go.WideShapes Go.ChangeAt

set_option maxRecDepth 100000 in
theorem lifted (os : Os) (started : os.Started) (H : Type) (enc : TypeId × Value → H) :
    ReturnsInHanded {} Tryz.checked os 3 .any (fun w args => (Rows.topBoardHeardSpec.pre enc Tryz.prog Tryz.f3 [] false w args ∧ laidMetH Tryz.prog laid5 w) ∧ sizedMet enc Tryz.prog Tryz.f3 (OpenSpec.ofChange Rows.topBoardHeardSpec) false w args)
      (Rows.topBoardHeardSpec.post enc Tryz.prog Tryz.f3 false true false false) := by
  refine returnsInHanded_of_change_and (C := Tryz.checked) (X := fun w _ => laidMetH Tryz.prog laid5 w) (fun _ _ _ hh h => h.of_heap hh) own started (by kernel_rfl) Tryz.func3
    (ChangeSpec.witness_shaped (enc := enc) (C := Tryz.checked) (os := os) (X := fun w _ => laidMetH Tryz.prog laid5 w) false (World.doorLaid Tryz.prog 19 os) #[.agg #[.int .u8 0, .int .u8 0, .int .u8 0, .slice none 0 0, .slice none 0 0, .int .u8 0]] 8 rfl (door_shaped os _) (by kernel_rfl) (by kernel_rfl) (by kernel_rfl) (door_met os _)) ?_
  intro W base args ds gs before hval0 hW _ _ hL _
  have hval : ∀ (j : Nat) t v, Tryz.f3.params[j]? = some t → args[j]? = some v → Value.okWide Tryz.prog W .any base t v := hval0
  have hW' := hW
  obtain ⟨p, q, hA0, hV, rfl, hfz, hnd⟩ := hW
  have hA : DataW.TrodAll enc Tryz.prog W 0 (fun _ => true) true Tryz.f3.params.toList args.toList ds p := hA0
  rw [Tryz.params3] at hA hval
  have hT := tab_of_laid hL
  obtain ⟨v0, vs0, d0, ds0, p0, q0, hargs, rfl, rfl, h0, r0⟩ := trodAll_cons hA
  obtain ⟨rfl, rfl, rfl⟩ := trodAll_nil r0
  obtain rfl : args = #[v0] := by cases args; simp_all
  obtain ⟨y, pv, sv, rfl, hy, hpp, hss⟩ := open_ovh (hval 0 26 v0 rfl rfl) h0
  refine (topBoardHeard_any y hy pv sv W hpp hss hT).mono fun e W' ⟨he, hb⟩ => ?_
  subst he
  exact ⟨_, rfl, law_post sized (by kernel_rfl) hW' rfl hb rfl rfl rfl (by kernel_rfl) Tryz.underlying4⟩

theorem over : Rows.topBoardHeardRow.holds Tryz.pinned (OpenSpec.ofChange Rows.topBoardHeardSpec) :=
  OpenClaim.holds_of_wide 3 Tryz.f3 rfl rfl rfl rfl rfl rfl rfl ⟨rfl, rfl, rfl, rfl, rfl⟩ rfl rfl rfl rfl rfl (by kernel_rfl) Tryz.func3 (by kernel_rfl)
    (of_decide_eq_true (by kernel_rfl)) (by unfold Func.isWrapper; first | (rw [if_pos (by decide +kernel)]; kernel_rfl) | (rw [if_neg (by decide +kernel)]; exact ⟨rfl, rfl⟩))
    (fun os started H enc _ => lifted os started H enc)

set_option maxRecDepth 100000 in
theorem proved : Rows.TopBoardHeardCardSaid :=
  Claim7.holds_tied_plain_at .later [] [.data, .data] true (true, "d4850d62b645cf1d064f3fd59fb54b941972331d34add379011def2f47536a1b") false
    over (fun _ h => by cases h) (by kernel_rfl) (fun _ h => by cases h) topBoardHeard_row_tie rfl ⟨rfl, rfl⟩ (by kernel_rfl) rfl
    (fun f fn hf hfn => by
      obtain rfl : f = 3 := Option.some.inj ((show Tryz.prog.funcNamed "oche/ochetop.TopBoardHeard" = some 3 by kernel_rfl).symm.trans hf) |>.symm
      obtain rfl : fn = Tryz.f3 := (Option.some.inj (Tryz.func3.symm.trans hfn)).symm
      exact ⟨by kernel_rfl, fun j t ht => by
        rw [Tryz.params3] at ht
        have ht2 : t ∈ ([26] : List TypeId) := by
          have := Array.mem_of_getElem? ht
          simpa using this
        have h := List.all_eq_true.1 (show (([26] : List TypeId).all fun t => !Tryz.prog.wantsStandIn t) = true by kernel_rfl) t ht2
        have h2 : Tryz.prog.wantsStandIn t = false := by simpa using h
        exact h2⟩)
    (by kernel_rfl)
end Go.Proofs.YtnbmgkmcaoafnaaGreatDoor.topBoardHeard
