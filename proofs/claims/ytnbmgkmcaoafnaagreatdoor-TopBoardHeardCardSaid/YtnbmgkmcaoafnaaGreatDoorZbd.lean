/- The texts OpV, in build order. -/
import Derived.Test.YtnbmgkmcaoafnaaGreatDoorZbc

/- TopBoardHeard: an argument that is an Overheard. -/
namespace Go.Proofs.YtnbmgkmcaoafnaaGreatDoor
open Go.RowKit Go.Oche Go.Proofs Go.ChangeShapes Go.WideShapes Go.ChangeAt Go.Deep
section
variable {H : Type} {enc : TypeId × Value → H} {W : World} {base : Nat} {spare : Nat → Bool} {held : Bool} {n : Nat} {v : Value} {x : DataW H × List MemPlace}
theorem open_u8v (h : DataW.trod enc Tryz.prog W base spare held n 5 [v] = some x) : ∃ z,v = .int .u8 z ∧ 0 ≤ z ∧ z < 256:=by
 obtain ⟨z,hz,_,hw⟩ := DataW.trod_int Tryz.underlying5 h;simp only [List.cons.injEq,and_true] at hz;have:=wf_u8 hw;exact ⟨z,hz,by omega,by omega⟩
theorem open_u8sv (h : DataW.trod enc Tryz.prog W base spare held n 24 [v] = some x) : ∃ xs : List Int,Sl (fun _ => True) W v (u8sH xs) ∧ Bytes xs:=by
 obtain ⟨xs,h1,h2⟩ := open_nums Tryz.underlying24 Tryz.underlying5 (by kernel_rfl) h
 exact ⟨xs,h1,fun b hb => by have:=wf_u8 (h2 b hb); omega⟩
theorem open_pts (h : DataW.trod enc Tryz.prog W base spare held n 23 [v] = some x) : ∃ xs : List (Int × Int),SlN 2 (fun _ => True) W v (xs.map u8Row) ∧ ∀ p ∈ xs,(0 ≤ p.1 ∧ p.1 < 256) ∧ 0 ≤ p.2 ∧ p.2 < 256:=by
 obtain ⟨xs,h1,h2⟩ := open_rowsN u8Row 2 (fun p => (0 ≤ p.1 ∧ p.1 < 256) ∧ 0 ≤ p.2 ∧ p.2 < 256) Tryz.underlying23 (by kernel_rfl) (by decide) (fun n cs y hy => by
  obtain ⟨b,hb,w1,w2⟩ := open_arr2 Tryz.underlying48 Tryz.underlying5 (by kernel_rfl) (by kernel_rfl) hy
  have:=wf_u8 w1;have:=wf_u8 w2;exact ⟨b,hb,by omega,by omega⟩) (fun b => rfl) h
 exact ⟨xs,h1,h2⟩
theorem list_sixV {α : Type} {cs : List α} (h : cs.length = 6) : ∃ a b c d e f,cs = [a,b,c,d,e,f]:=by
 match cs,h with
 | [a,b,c,d,e,f],_ => exact ⟨a,b,c,d,e,f,rfl⟩
set_option maxRecDepth 100000 in
theorem open_ovh {r : Reach} {b0 : Nat} {d : DataW H} {p : List MemPlace} (hv : Value.okWide Tryz.prog W r b0 26 v) (h : DataW.Trod enc Tryz.prog W base spare held 26 v d p) :
  ∃ (y : Ovh) (pv sv : Value),v = ovhV y pv sv ∧ y.Ok ∧ SlN 2 (fun _ => True) W pv (y.points.map u8Row) ∧ Sl (fun _ => True) W sv (u8sH y.said):=by
 obtain ⟨cs,rfl,hsz⟩ := okWide_struct Tryz.underlying26 hv;obtain ⟨fuel,hf⟩ := h;obtain ⟨xs,n,_,_,hl,hlen,hfs⟩ := DataW.trod_struct Tryz.underlying26 hf;have k0 : Tryz.prog.cellsOf 26 = 6:=by kernel_rfl
 have k1 : Tryz.prog.cellsOf 22 = 3:=by kernel_rfl
 have k2 : Tryz.prog.cellsOf 23 = 1:=by kernel_rfl
 have k3 : Tryz.prog.cellsOf 24 = 1:=by kernel_rfl
 have k4 : Tryz.prog.cellsOf 5 = 1:=by kernel_rfl
 obtain ⟨l0⟩ := cs;have hl6 : l0.length = 6:=by rw [k0] at hl; exact hl
 obtain ⟨u0,u1,u2,u3,u4,u5,rfl⟩ := list_sixV hl6
 match xs,hlen with
 | [y0,y1,y2,y3],_ =>
  have h0 : DataW.trod enc Tryz.prog W base spare held n 22 (([u0,u1,u2,u3,u4,u5].drop 0).take (Tryz.prog.cellsOf 22)) = some y0:=hfs 0 _ rfl;have h1 : DataW.trod enc Tryz.prog W base spare held n 23 (([u0,u1,u2,u3,u4,u5].drop 3).take (Tryz.prog.cellsOf 23)) = some y1:=hfs 1 _ rfl;have h2 : DataW.trod enc Tryz.prog W base spare held n 24 (([u0,u1,u2,u3,u4,u5].drop 4).take (Tryz.prog.cellsOf 24)) = some y2:=hfs 2 _ rfl;have h3 : DataW.trod enc Tryz.prog W base spare held n 5 (([u0,u1,u2,u3,u4,u5].drop 5).take (Tryz.prog.cellsOf 5)) = some y3:=hfs 3 _ rfl;rw [k1] at h0;rw [k2] at h1;rw [k3] at h2;rw [k4] at h3;obtain ⟨⟨a,b,c⟩,hab,wa,wb,wc⟩ := open_arr3 Tryz.underlying22 Tryz.underlying5 (by kernel_rfl) (by kernel_rfl) (show DataW.trod enc Tryz.prog W base spare held n 22 [u0,u1,u2] = some y0 from h0)
  obtain ⟨ps,hp1,hp2⟩ := open_pts (show DataW.trod enc Tryz.prog W base spare held n 23 [u3] = some y1 from h1)
  obtain ⟨ss,hs1,hs2⟩ := open_u8sv (show DataW.trod enc Tryz.prog W base spare held n 24 [u4] = some y2 from h2)
  obtain ⟨e,rfl,he⟩ := open_u8v (show DataW.trod enc Tryz.prog W base spare held n 5 [u5] = some y3 from h3)
  unfold row3 at hab;simp only [List.cons.injEq,and_true] at hab;obtain ⟨rfl,rfl,rfl⟩ := hab;have wa:=wf_u8 wa;have wb:=wf_u8 wb;have wc:=wf_u8 wc;simp only at wa wb wc;exact ⟨⟨a,b,c,ps,ss,e⟩,u3,u4,rfl,⟨by show 0 ≤ a ∧ a < 256; omega,by show 0 ≤ b ∧ b < 256; omega,by show 0 ≤ c ∧ c < 256; omega,hp2,hs2,he⟩,hp1,hs1⟩
end
end Go.Proofs.YtnbmgkmcaoafnaaGreatDoor
