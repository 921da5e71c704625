/- The texts QH0, in build order. -/
import Derived.Test.YtpfpjbglpibdoaaGreatDoorZay

/- Chapter 5, in plain Lean: HeardTwice: reports in another order, one of them twice; a report more. -/
namespace Go.Proofs.YtpfpjbglpibdoaaGreatDoor
open Go.RowKit Go.Oche Go.Proofs

def twL (list : List Rp) (tw : Nat) : List Rp := if list = [] then [] else [list.reverse.getD (tw % list.length) ⟨0, -1, -1⟩]
def backL (list : List Rp) (tw : Nat) : List Rp := list.reverse ++ twL list tw
theorem twL_at {list : List Rp} (h : list ≠ []) (tw : Nat) : tw % list.length < list.length ∧ ∃ y, list.reverse[tw % list.length]? = some y ∧ y ∈ list ∧ twL list tw = [y] := by
  have hl : 0 < list.length := List.length_pos_iff.2 h
  have hm := Nat.mod_lt tw hl
  have hr : tw % list.length < list.reverse.length := by rw [List.length_reverse]; exact hm
  refine ⟨hm, list.reverse[tw % list.length], List.getElem?_eq_getElem hr, List.mem_reverse.1 (List.getElem_mem hr), ?_⟩
  unfold twL
  rw [if_neg h, List.getD_eq_getElem?_getD, List.getElem?_eq_getElem hr]; rfl
theorem mem_back {list : List Rp} {tw : Nat} {y : Rp} : y ∈ backL list tw ↔ y ∈ list := by
  unfold backL
  rw [List.mem_append, List.mem_reverse]
  constructor
  · rintro (h | h)
    · exact h
    · by_cases e : list = []
      · unfold twL at h; rw [if_pos e] at h; cases h
      · obtain ⟨-, z, -, hz, e2⟩ := twL_at e tw
        rw [e2, List.mem_singleton] at h; rw [h]; exact hz
  · exact .inl
section
variable {l : Lg}
theorem back_same (list : List Rp) (tw : Nat) : (HasTruth l (allS (backL list tw)) ↔ HasTruth l (allS list)) ∧ scF l (backL list tw) = scF l list ∧ leF l (backL list tw) = leF l list ∧ daF l (backL list tw) = daF l list := by
  have h : ∀ t, keptL l (allS (backL list tw)) t = keptL l (allS list) t := fun t => (kept_congr (fits_same fun _ => mem_back) t).1
  refine ⟨(kept_congr (fits_same fun _ => mem_back) 0).2, ?_, ?_, ?_⟩ <;> funext t
  · unfold scF; rw [h]
  · unfold leF; rw [h]
  · unfold daF; rw [h]
theorem spanL_sub {xs ys : List Int} (h : ∀ y ∈ ys, y ∈ xs) (hne : ys ≠ []) : (spanL xs).1 ≤ (spanL ys).1 ∧ (spanL ys).2 ≤ (spanL xs).2 := by
  have h1 := spanL_is hne
  have hx : xs ≠ [] := fun e => by have := h _ h1.1; rw [e] at this; cases this
  have h2 := spanL_is hx
  exact ⟨(h2.2.2 _ (h _ h1.1)).1, (h2.2.2 _ (h _ h1.2.1)).2⟩
theorem more_less (hP : 1 ≤ l.players) (hT : 0 ≤ l.turns) {list : List Rp} {r : Rp} (h : HasTruth l (allS (list ++ [r]))) {t : Nat} (ht : t < l.turns.toNat) :
    ((scF l list t).1 ≤ (scF l (list ++ [r]) t).1 ∧ (scF l (list ++ [r]) t).2 ≤ (scF l list t).2) ∧ ((leF l list t).1 ≤ (leF l (list ++ [r]) t).1 ∧ (leF l (list ++ [r]) t).2 ≤ (leF l list t).2) ∧ ((daF l list t).1 ≤ (daF l (list ++ [r]) t).1 ∧ (daF l (list ++ [r]) t).2 ≤ (daF l list t).2) := by
  have hne := kept_ne hP hT h ht
  have hk : ∀ sp ∈ keptL l (allS (list ++ [r])) t, sp ∈ keptL l (allS list) t := fun sp hsp => (kept_less hP (fun y hy => List.mem_append_left _ hy) h hsp).2
  refine ⟨spanL_sub (fun y hy => ?_) (by simpa using hne), spanL_sub (fun y hy => ?_) (by simpa using hne), spanL_sub (fun y hy => ?_) (by simpa using hne)⟩
  · obtain ⟨sp, hs, rfl⟩ := List.mem_map.1 hy; exact List.mem_map_of_mem (hk sp hs)
  · obtain ⟨sp, hs, rfl⟩ := List.mem_map.1 hy; exact List.mem_map_of_mem (f := fun s : Sp => s.en.left) (hk sp hs)
  · obtain ⟨sp, hs, rfl⟩ := List.mem_map.1 hy; exact List.mem_map_of_mem (f := fun s : Sp => (s.darts : Int)) (hk sp hs)
end
theorem more_truth (x : Thr) (most : Nat) {t : Nat} {sp : Sp} (hsp : (playX x most).out[t]? = some sp) : HasTruth (legT x most) (allS (repsL x most ++ [⟨t, sp.score, sp.en.left⟩])) ∧ (∀ (i : Nat) (s : Sp), (playX x most).out[i]? = some s → s ∈ keptL (legT x most) (allS (repsL x most ++ [⟨t, sp.score, sp.en.left⟩])) i) ∧ badR (legT x most).turns ⟨t, sp.score, sp.en.left⟩ = false := by
  have h := (playX_ok x most).truth (legB_bd x).2.2.2.2.2.2.1 (said := allS (repsL x most ++ [⟨t, sp.score, sp.en.left⟩])) (fun i s hs => by
    rw [said_add, fits_app, repsL_fit x most i s hs, Bool.true_and]
    split
    · rename_i e
      have e2 : t = i := by have : ((t : Nat) : Int) = i := e; omega
      subst e2
      rw [hsp] at hs
      cases hs
      exact fits_one.2 ⟨.inr rfl, .inr rfl⟩
    · rfl)
  refine ⟨h.1, h.2, ?_⟩
  have hb := out_bd x most hsp
  have hl := (List.getElem?_eq_some_iff.1 hsp).1
  refine badR_no ⟨by show (0 : Int) ≤ (t : Int); omega, by show (t : Int) ≤ ((playX x most).out.length : Int) - 1; omega⟩ ?_ ?_
  · show -1 ≤ sp.score ∧ sp.score ≤ 240; omega
  · show -1 ≤ sp.en.left ∧ sp.en.left ≤ 1001; omega
end Go.Proofs.YtpfpjbglpibdoaaGreatDoor
