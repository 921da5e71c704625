/- HeardBlames returns true, whatever its arguments are. Conditions: none. The tied card. -/
import Derived.Test.YtpfpjbglpibdoaaGreatDoorZbe
import Derived.Test.YtpfpjbglpibdoaaGreatDoorCards
import Derived.Test.YtpfpjbglpibdoaaGreatDoorTie
namespace Go.Proofs.YtpfpjbglpibdoaaGreatDoor.heardBlames
open Go.RowKit Go.Oche Go.Proofs Go.ChangeShapes Go.WideShapes Go.ChangeAt

set_option maxRecDepth 100000 in
theorem lifted (os : Os) (started : os.Started) (H : Type) (enc : TypeId × Value → H) :
    ReturnsInHanded {} Tryz.checked os 6 .any (fun w args => (Rows.heardBlamesSpec.pre enc Tryz.prog Tryz.f6 [] false w args ∧ laidMetH Tryz.prog laid5 w) ∧ sizedMet enc Tryz.prog Tryz.f6 (OpenSpec.ofChange Rows.heardBlamesSpec) false w args)
      (Rows.heardBlamesSpec.post enc Tryz.prog Tryz.f6 false true false false) := by
  refine returnsInHanded_of_change_and (C := Tryz.checked) (X := fun w _ => laidMetH Tryz.prog laid5 w) (fun _ _ _ hh h => h.of_heap hh) own started (by kernel_rfl) Tryz.func6
    (ChangeSpec.witness_shaped (enc := enc) (C := Tryz.checked) (os := os) (X := fun w _ => laidMetH Tryz.prog laid5 w) false (World.doorLaid Tryz.prog 19 os) #[.agg #[.int .i64 0, .int .i64 0, .int .i64 0, .slice none 0 0, .int .i64 0, .int .i64 0, .bool false], .slice none 0 0] 8 rfl (door_shaped os _) (by kernel_rfl) (by kernel_rfl) (by kernel_rfl) (door_met os _)) ?_
  intro W base args ds gs before hval0 hW _ _ hL _
  have hval : ∀ (j : Nat) t v, Tryz.f6.params[j]? = some t → args[j]? = some v → Value.okWide Tryz.prog W .any base t v := hval0
  have hW' := hW
  obtain ⟨p, q, hA0, hV, rfl, hfz, hnd⟩ := hW
  have hA : DataW.TrodAll enc Tryz.prog W 0 (fun _ => true) true Tryz.f6.params.toList args.toList ds p := hA0
  rw [Tryz.params6] at hA hval
  have hT := tab_of_laid hL
  obtain ⟨v0, vs0, d0, ds0, p0, q0, hargs, rfl, rfl, h0, r0⟩ := trodAll_cons hA
  obtain ⟨v1, vs1, d1, ds1, p1, q1, rfl, rfl, rfl, h1, r1⟩ := trodAll_cons r0
  obtain ⟨rfl, rfl, rfl⟩ := trodAll_nil r1
  obtain rfl : args = #[v0, v1] := by cases args; simp_all
  obtain ⟨l, bv, rfl, hs, hbd⟩ := open_leg (hval 0 27 v0 rfl rfl) h0
  obtain ⟨a1, len1, cap1, rfl⟩ := okWide_slice Tryz.underlying53 (hval 1 53 v1 rfl rfl)
  obtain ⟨m1, y1, hy1⟩ := open_cellsT h1 rfl
  obtain ⟨reps, hreps, -⟩ := open_rowsN rpRow 3 (fun _ => True) Tryz.underlying53 (by kernel_rfl) (by decide) (fun n cs y hy => by obtain ⟨b, hb, _⟩ := open_struct3 Tryz.underlying83 (by kernel_rfl) ⟨rfl, rfl⟩ ⟨rfl, rfl⟩ ⟨rfl, rfl⟩ hy; exact ⟨⟨b.1, b.2.1, b.2.2⟩, hb, trivial⟩) (fun b => rfl) hy1
  refine (heardBlames_any l bv _ reps W hs hbd hreps hT).mono fun e W' ⟨he, hb⟩ => ?_
  subst he
  exact ⟨_, rfl, law_post sized (by kernel_rfl) hW' rfl hb rfl rfl rfl (by kernel_rfl) Tryz.underlying4⟩

theorem over : Rows.heardBlamesRow.holds Tryz.pinned (OpenSpec.ofChange Rows.heardBlamesSpec) :=
  OpenClaim.holds_of_wide 6 Tryz.f6 rfl rfl rfl rfl rfl rfl rfl ⟨rfl, rfl, rfl, rfl, rfl⟩ rfl rfl rfl rfl rfl (by kernel_rfl) Tryz.func6 (by kernel_rfl)
    (of_decide_eq_true (by kernel_rfl)) (by unfold Func.isWrapper; first | (rw [if_pos (by decide +kernel)]; kernel_rfl) | (rw [if_neg (by decide +kernel)]; exact ⟨rfl, rfl⟩))
    (fun os started H enc _ => lifted os started H enc)

set_option maxRecDepth 100000 in
theorem proved : Rows.HeardBlamesCardSaid :=
  Claim7.holds_tied_plain_at .later [] [.data, .data] true (true, "30d6b526a50201b551a8a08acdd1211c0bc2f365b283f3dc2f36ec6dc5f1df6d") false
    over (fun _ h => by cases h) (by kernel_rfl) (fun _ h => by cases h) heardBlames_row_tie rfl ⟨rfl, rfl⟩ (by kernel_rfl) rfl
    (fun f fn hf hfn => by
      obtain rfl : f = 6 := Option.some.inj ((show Tryz.prog.funcNamed "oche/ochelaw05.HeardBlames" = some 6 by kernel_rfl).symm.trans hf) |>.symm
      obtain rfl : fn = Tryz.f6 := (Option.some.inj (Tryz.func6.symm.trans hfn)).symm
      exact ⟨by kernel_rfl, fun j t ht => by
        rw [Tryz.params6] at ht
        have ht2 : t ∈ ([27, 53] : List TypeId) := by
          have := Array.mem_of_getElem? ht
          simpa using this
        have h := List.all_eq_true.1 (show (([27, 53] : List TypeId).all fun t => !Tryz.prog.wantsStandIn t) = true by kernel_rfl) t ht2
        have h2 : Tryz.prog.wantsStandIn t = false := by simpa using h
        exact h2⟩)
    (by kernel_rfl)
end Go.Proofs.YtpfpjbglpibdoaaGreatDoor.heardBlames
