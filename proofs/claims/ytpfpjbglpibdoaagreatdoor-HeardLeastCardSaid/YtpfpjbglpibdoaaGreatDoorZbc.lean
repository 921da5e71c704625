/- The texts OpT, in build order. -/
import Derived.Test.YtpfpjbglpibdoaaGreatDoorZbb

/- Chapter 5: an argument that is a thrown leg in bytes. -/
namespace Go.Proofs.YtpfpjbglpibdoaaGreatDoor
open Go.RowKit Go.Oche Go.Proofs Go.ChangeShapes Go.WideShapes Go.ChangeAt Go.Deep
section
variable {H : Type} {enc : TypeId × Value → H} {W : World} {base : Nat} {spare : Nat → Bool} {held : Bool} {n : Nat} {v : Value} {x : DataW H × List MemPlace}
theorem open_u8h (h : DataW.trod enc Tryz.prog W base spare held n 5 [v] = some x) : ∃ z, v = .int .u8 z ∧ 0 ≤ z ∧ z < 256 := by
  obtain ⟨z, hz, _, hw⟩ := DataW.trod_int Tryz.underlying5 h
  simp only [List.cons.injEq, and_true] at hz
  have := wf_u8 hw
  exact ⟨z, hz, by omega, by omega⟩
theorem open_u16h (h : DataW.trod enc Tryz.prog W base spare held n 73 [v] = some x) : ∃ z, v = .int .u16 z ∧ 0 ≤ z ∧ z < 65536 := by
  obtain ⟨z, hz, _, hw⟩ := DataW.trod_int Tryz.underlying73 h
  simp only [List.cons.injEq, and_true] at hz
  have := wf_u16 hw
  exact ⟨z, hz, by omega, by omega⟩
theorem open_u8s (h : DataW.trod enc Tryz.prog W base spare held n 74 [v] = some x) : ∃ xs : List Int, Sl (fun _ => True) W v (u8s xs) ∧ Bytes xs := by
  obtain ⟨xs, h1, h2⟩ := open_nums Tryz.underlying74 Tryz.underlying5 (by kernel_rfl) h
  exact ⟨xs, h1, fun b hb => by have := wf_u8 (h2 b hb); omega⟩
set_option maxRecDepth 100000 in
theorem open_thrown {r : Reach} {b0 : Nat} {d : DataW H} {p : List MemPlace} (hv : Value.okWide Tryz.prog W r b0 76 v) (h : DataW.Trod enc Tryz.prog W base spare held 76 v d p) :
    ∃ (y : Thr) (dv sv : Value), v = thrV y dv sv ∧ ThrOk y ∧ Sl (fun _ => True) W dv (u8s y.darts) ∧ Sl (fun _ => True) W sv (u8s y.said) := by
  obtain ⟨cs, rfl, hsz⟩ := okWide_struct Tryz.underlying76 hv
  obtain ⟨fuel, hf⟩ := h
  obtain ⟨xs, n, _, _, hl, hlen, hfs⟩ := DataW.trod_struct Tryz.underlying76 hf
  have k0 : Tryz.prog.cellsOf 76 = 7 := by kernel_rfl
  have k1 : Tryz.prog.cellsOf 5 = 1 := by kernel_rfl
  have k2 : Tryz.prog.cellsOf 73 = 1 := by kernel_rfl
  have k3 : Tryz.prog.cellsOf 74 = 1 := by kernel_rfl
  obtain ⟨l0⟩ := cs
  have hl7 : l0.length = 7 := by rw [k0] at hl; exact hl
  obtain ⟨u0, u1, u2, u3, u4, u5, u6, rfl⟩ := list_seven hl7
  match xs, hlen with
  | [y0, y1, y2, y3, y4, y5, y6], _ =>
    have h0 : DataW.trod enc Tryz.prog W base spare held n 5 (([u0, u1, u2, u3, u4, u5, u6].drop 0).take (Tryz.prog.cellsOf 5)) = some y0 := hfs 0 _ rfl
    have h1 : DataW.trod enc Tryz.prog W base spare held n 5 (([u0, u1, u2, u3, u4, u5, u6].drop 1).take (Tryz.prog.cellsOf 5)) = some y1 := hfs 1 _ rfl
    have h2 : DataW.trod enc Tryz.prog W base spare held n 5 (([u0, u1, u2, u3, u4, u5, u6].drop 2).take (Tryz.prog.cellsOf 5)) = some y2 := hfs 2 _ rfl
    have h3 : DataW.trod enc Tryz.prog W base spare held n 5 (([u0, u1, u2, u3, u4, u5, u6].drop 3).take (Tryz.prog.cellsOf 5)) = some y3 := hfs 3 _ rfl
    have h4 : DataW.trod enc Tryz.prog W base spare held n 73 (([u0, u1, u2, u3, u4, u5, u6].drop 4).take (Tryz.prog.cellsOf 73)) = some y4 := hfs 4 _ rfl
    have h5 : DataW.trod enc Tryz.prog W base spare held n 74 (([u0, u1, u2, u3, u4, u5, u6].drop 5).take (Tryz.prog.cellsOf 74)) = some y5 := hfs 5 _ rfl
    have h6 : DataW.trod enc Tryz.prog W base spare held n 74 (([u0, u1, u2, u3, u4, u5, u6].drop 6).take (Tryz.prog.cellsOf 74)) = some y6 := hfs 6 _ rfl
    rw [k1] at h0 h1 h2 h3
    rw [k2] at h4
    rw [k3] at h5 h6
    obtain ⟨a, rfl, ha⟩ := open_u8h (show DataW.trod enc Tryz.prog W base spare held n 5 [u0] = some y0 from h0)
    obtain ⟨b, rfl, hb⟩ := open_u8h (show DataW.trod enc Tryz.prog W base spare held n 5 [u1] = some y1 from h1)
    obtain ⟨c, rfl, hc⟩ := open_u8h (show DataW.trod enc Tryz.prog W base spare held n 5 [u2] = some y2 from h2)
    obtain ⟨e, rfl, he⟩ := open_u8h (show DataW.trod enc Tryz.prog W base spare held n 5 [u3] = some y3 from h3)
    obtain ⟨f, rfl, hf1⟩ := open_u16h (show DataW.trod enc Tryz.prog W base spare held n 73 [u4] = some y4 from h4)
    obtain ⟨ds, hd1, hd2⟩ := open_u8s (show DataW.trod enc Tryz.prog W base spare held n 74 [u5] = some y5 from h5)
    obtain ⟨ss, hs1, hs2⟩ := open_u8s (show DataW.trod enc Tryz.prog W base spare held n 74 [u6] = some y6 from h6)
    refine ⟨⟨a, b, c, e, f.toNat, ds, ss⟩, u5, u6, ?_, ⟨ha, hb, hc, he, by show f.toNat < 65536; omega, hd2, hs2⟩, hd1, hs1⟩
    unfold thrV
    simp only
    rw [Int.toNat_of_nonneg hf1.1]
end
end Go.Proofs.YtpfpjbglpibdoaaGreatDoor
