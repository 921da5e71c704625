/- The texts T, U, V, X, in build order. -/
import Derived.Test.YtcnofoopdghjiaaZaf
import Derived.ArgAppend

/- Chapter 2: Fewest. -/
namespace Go.Oche
open Go Go.RowKit
/-- A row is kept where its block is. -/
theorem owns_keep {W W' : World} {base n : Nat} {e : TypeId} {v : Value} {xs : List Value} (h : W.ownsRow base e 1 v n xs) (hk : ∀ g, v.ownBlock = some g → W'.heap[g]? = W.heap[g]?) (_hs : W.heap.size ≤ W'.heap.size) : W'.ownsRow base e 1 v n xs := by
  refine ⟨h.1, ?_⟩
  rcases h.2 with h | ⟨g, cap, cur, rfl, h1, h2, h3⟩
  · exact .inl h
  · exact .inr ⟨g, cap, cur, rfl, h1, by rw [hk g (by simp [Value.ownBlock])]; exact h2, h3⟩
end Go.Oche
namespace Go.Proofs.Ytcnofoopdghjiaa
open Go.RowKit Go.Oche Go.Proofs
attribute [local go_sem] Oper.semAt_some

/-- The best so far, and one more throw: -1 is 'none'. -/
def bestStep (f : List Int) (b : Int) (t : Int × Int) : Int := if f.getD t.2.toNat 0 ≠ -1 ∧ (b = -1 ∨ f.getD t.2.toNat 0 + 1 < b) then f.getD t.2.toNat 0 + 1 else b
def bestOf (f : List Int) (pre : List (Int × Int)) : Int := pre.foldl (bestStep f) (-1)
def fewTo (g : Int) (bs : List Int) : Nat → List Int
  | 0 => [0]
  | s + 1 => fewTo g bs s ++ [bestOf (fewTo g bs s) (throwsL g ((s : Int) + 1) bs)]
def fewL (bs : List Int) (g d m : Int) : List Int := if mostErr bs g d m = 0 then fewTo g bs m.toNat else []
theorem bestOf_snoc (f : List Int) (pre : List (Int × Int)) (t : Int × Int) : bestOf f (pre ++ [t]) = bestStep f (bestOf f pre) t := by simp [bestOf]
theorem fewTo_length (g : Int) (bs : List Int) : ∀ s, (fewTo g bs s).length = s + 1
  | 0 => rfl
  | s + 1 => by simp [fewTo, fewTo_length g bs s]
theorem getD_range {f : List Int} {n : Int} (hn : 0 ≤ n) (h : ∀ x ∈ f, -1 ≤ x ∧ x ≤ n) (i : Nat) : -1 ≤ f.getD i 0 ∧ f.getD i 0 ≤ n := by
  rw [List.getD_eq_getElem?_getD]
  by_cases hi : i < f.length
  · simp only [hi, List.getElem?_eq_getElem, Option.getD_some]; exact h _ (List.getElem_mem hi)
  · rw [List.getElem?_eq_none (by omega)]; simp only [Option.getD_none]; omega
theorem bestStep_bd {f : List Int} {n : Int} (hn : 0 ≤ n) (h : ∀ x ∈ f, -1 ≤ x ∧ x ≤ n) (b : Int) (t : Int × Int) (hb : -1 ≤ b ∧ b ≤ n + 1) : -1 ≤ bestStep f b t ∧ bestStep f b t ≤ n + 1 := by
  have := getD_range hn h t.2.toNat
  unfold bestStep
  split <;> omega
theorem bestOf_bd {f : List Int} {n : Int} (hn : 0 ≤ n) (h : ∀ x ∈ f, -1 ≤ x ∧ x ≤ n) (pre : List (Int × Int)) : -1 ≤ bestOf f pre ∧ bestOf f pre ≤ n + 1 := by
  have key : ∀ (pre : List (Int × Int)) (b : Int), -1 ≤ b ∧ b ≤ n + 1 → -1 ≤ pre.foldl (bestStep f) b ∧ pre.foldl (bestStep f) b ≤ n + 1 := by
    intro pre
    induction pre with
    | nil => intro b hb; exact hb
    | cons t r ih => intro b hb; exact ih _ (bestStep_bd hn h b t hb)
  exact key pre (-1) (by omega)
theorem fewTo_bd (g : Int) (bs : List Int) : ∀ s : Nat, ∀ x ∈ fewTo g bs s, -1 ≤ x ∧ x ≤ (s : Int)
  | 0 => by simp [fewTo]
  | s + 1 => by
    have ih := fewTo_bd g bs s
    intro x hx
    simp only [fewTo, List.mem_append, List.mem_singleton] at hx
    rcases hx with hx | rfl
    · have := ih x hx; omega
    · have := bestOf_bd (by omega) ih (throwsL g ((s : Int) + 1) bs); omega

/-- What holds ahead of a round of Fewest's loop. -/
structure FI (g : Int) (bs : List Int) (S : Nat → Prop) (B P N : Nat) (w : World) (k : Nat) (Ds : List Nat) (lv : Value) (W : World) : Prop where
  below : Below N w W
  size : B ≤ W.heap.size
  marks : Marks B W Ds
  box : W.heap[N + 1]? = some (.cells #[lv] 45 (0, 0))
  own : W.ownsRow B 3 1 lv (k + 1) (ints (fewTo g bs k))
  board : Board S W P bs g (cnts g bs 0 0)
theorem marks_grown {B base n : Nat} {W W' : World} {Ds : List Nat} {e : TypeId} {v : Value} {xs : List Value} (h : Marks B W Ds) (ho : W.ownsRow base e 1 v n xs) (hg : W.grownBy W' v.ownBlock) : Marks B W' Ds :=
  h.keep fun k hk hD => hg.block k hk (by
    have hd := h.open_ k hD
    rcases ho.2 with ⟨rfl, _⟩ | ⟨q, cap, cur, rfl, _, hq, _⟩
    · simp [Value.ownBlock]
    · intro e; simp only [Value.ownBlock, Option.some.injEq] at e; subst e; rw [hq] at hd; simp at hd)

set_option maxRecDepth 100000 in
set_option maxHeartbeats 1000000 in
theorem fewest_ok {S : Nat → Prop} (bs : List Int) (g d : Int) (m : Nat) (v : Value) (w : World) (hs : Sl S w v (ints bs)) (hi : ∀ b ∈ bs, I64 b) (herr : mostErr bs g d m = 0) :
    Calls Try.prog 28 #[.agg #[v, .int .i64 g, .int .i64 d], .int .i64 m] w fun e w' => ∃ lv, e = .returned (.tuple #[lv, .int .i64 0]) ∧ Below w.heap.size w w' ∧ Sl (fun k => w.heap.size ≤ k) w' lv (ints (fewTo g bs m)) := by
  obtain ⟨a, cap, rfl, _, _⟩ := hs.form
  simp only [ints_length] at *
  obtain ⟨w0, hw0⟩ : ∃ w0, w0 = ((w.alloc (.cells #[.slice a bs.length cap, .int .i64 g, .int .i64 d] 25)).alloc (.cells #[.slice none 0 0] 45)) := ⟨_, rfl⟩
  have hb0 : Below w.heap.size w w0 := by rw [hw0]; exact ((Below.refl _ _).alloc (Nat.le_refl _) _).alloc (by simp) _
  have hz0 : w.heap.size + 2 ≤ w0.heap.size := by rw [hw0]; simp
  have h2 : w0.heap[w.heap.size]? = some (.cells #[.slice a bs.length cap, .int .i64 g, .int .i64 d] 25 (0, 0)) := by
    rw [hw0]; exact (Below.heap_alloc _ _ _ (by simp)).trans (World.alloc_heap_new _ _)
  have h4 : w0.heap[w.heap.size + 1]? = some (.cells #[.slice none 0 0] 45 (0, 0)) := by
    rw [hw0]; have := World.alloc_heap_new (w.alloc (.cells #[.slice a bs.length cap, .int .i64 g, .int .i64 d] 25)) (.cells #[.slice none 0 0] 45); rw [World.size_alloc] at this; exact this
  obtain ⟨hr, hm0, hm1⟩ := mostErr_zero herr
  have hrs := rulesOk_spec hr
  have hbsp := bedsOk_spec hrs.1
  have HBS := Lib.hid hbsp.1
  have hbl := hbsp.2.2.2
  have HS := Lib.hid (hs.below hb0)
  have HI := Lib.hid hi
  have HW := Lib.hid hw0
  have HR := Lib.hid herr
  have H2 := Lib.hid h2
  have H4 := Lib.hid h4
  obtain ⟨i0, hi, hz0', hz1, hz2⟩ := info_parts info3
  have HI0 := Lib.hid (And.intro hi (And.intro hz0' (And.intro hz1 hz2)))
  clear hi hz0' hz1 hz2 hs hw0 herr hr hrs hbsp h2 h4
  refine (callsIn_wide (n := 0)).1 (callsIn_of_wp_marks Try.func28 rfl trivial ?_ rfl)
  simp only [Try.ntmps28, List.size_toArray, List.length_cons, List.length_nil, Nat.reduceAdd, Nat.reduceSub, Array.replicate_succ, Array.replicate_zero, List.push_toArray, List.append_toArray, List.nil_append, List.cons_append]
  gi_wp2_with fail
  rw [← HW.out]
  refine ⟨trivial, rfl, (callsIn_wide.2 (checkMost_r bs g d m 0 HR _ _ HS.out HI.out)).mono ?_⟩
  rintro e w1 ⟨rfl, hb1⟩
  have hz1 := hb1.size
  have H2' := Lib.hid ((hb1.block w.heap.size (by omega)).trans H2.out)
  have H4' := Lib.hid ((hb1.block (w.heap.size + 1) (by omega)).trans H4.out)
  have HS1 := Lib.hid (HS.out.below hb1)
  have e0 : w1.cell? ⟨w.heap.size, 0, none⟩ = some (.slice a bs.length cap) := by rw [cell_of_heap H2'.out]; rfl
  have e1 : w1.cell? ⟨w.heap.size, 1, none⟩ = some (.int .i64 g) := by rw [cell_of_heap H2'.out]; rfl
  have hbw1 : Below w.heap.size w w1 := hb0.trans (hb1.mono (by omega))
  clear H2 H4 hb1
  gi_wp2_with fail
  refine ⟨trivial, rfl, (callsIn_wide.2 (newBoard_any bs g 0 0 _ _ HS1.out HBS.out hbl (by omega) (by omega))).mono ?_⟩
  rintro e w5 ⟨P, rfl, hb5, hBd⟩
  have hz5 := hb5.size
  have hbw5 : Below w.heap.size w w5 := hbw1.trans (hb5.mono (by omega))
  have hB4 := (hb5.block (w.heap.size + 1) (by omega)).trans H4'.out
  obtain ⟨nl, hnl⟩ : ∃ nl, nl = Value.slice none 0 0 := ⟨_, rfl⟩
  have hown5 : w5.ownsRow w5.heap.size 3 1 nl 0 [] := by rw [hnl]; exact World.ownsRow_nil _ _ _ _
  have hnlb : nl.ownBlock = none := by rw [hnl]; rfl
  rw [← hnl] at hB4
  have q4 : w5.cell? ⟨w.heap.size + 1, 0, none⟩ = some nl := by rw [cell_of_heap hB4]; rfl
  have fz4 : w5.frozen? ⟨w.heap.size + 1, 0, none⟩ = false := frozen_of_heap hB4
  have HB4 := Lib.hid hB4
  have HBd := Lib.hid hBd
  clear e0 e1 H2' H4' hBd hb5 hB4 hnl
  gi_wp2_with (gi_at_builtin; refine wpListIn_append_own _ rfl _ _ 45 rfl w5.heap.size 3 i0 (.int .i64 0) 1 8 Try.underlying45 HI0.out.1 HI0.out.2.1 HI0.out.2.2.1 HI0.out.2.2.2 rfl (by decide) _ _ _ rfl (hown5.alloc _) ⟨w5.heap.size, 0, none⟩ 1 1 [.int .i64 0] rfl rfl ?c1 ?c2 ?c3 ?c4 ?c5 ?_)
  case c1 =>
    intro j u hj
    match j, hj with
    | 0, hj => simp at hj; subst hj; exact cell_new _ _ _
    | j + 1, hj => simp at hj
  case c2 => intro u hu; simp at hu; subst hu; rfl
  case c3 => unfold maxLen; omega
  case c4 => omega
  case c5 => simp
  intro lv0 w6 hown6 hgrow _
  try simp only [Nat.zero_add, List.nil_append] at hown6
  try rw [hnlb] at hgrow
  obtain ⟨lv0', hlv0', g6, c6, rfl⟩ : ∃ v', v' = lv0 ∧ ∃ g6 c6, v' = .slice (some ⟨g6, 0, none⟩) 1 c6 := by
    rcases hown6.2 with h | ⟨g6, c6, -, h, -⟩
    · omega
    · exact ⟨_, h.symm, g6, c6, rfl⟩
  subst hlv0'
  have hb6 : Below w5.heap.size w5 w6 := (aB _ _).trans (below_grownBy hgrow (by simp) (fun q hq => by cases hq))
  have hz6 := hb6.size
  obtain ⟨N, hN⟩ : ∃ N, w.heap.size = N := ⟨_, rfl⟩
  have hB4 := (hb6.block (w.heap.size + 1) (by omega)).trans HB4.out
  have r4 : w6.cell? ⟨N + 1, 0, none⟩ = some nl := by rw [← hN, cell_of_heap hB4]; rfl
  have s4 : w6.frozen? ⟨N + 1, 0, none⟩ = false := by rw [← hN]; exact frozen_of_heap hB4
  have HN := Lib.hid hN
  have F0 : FI g bs (fun k => w1.heap.size ≤ k ∧ k < w5.heap.size) w5.heap.size P N w 0 [] (.slice (some ⟨g6, 0, none⟩) 1 c6) (w6.setCell ⟨N + 1, 0, none⟩ (.slice (some ⟨g6, 0, none⟩) 1 c6)) := by
    refine ⟨?_, by simp; omega, Marks.nil _ _, ?_, ?_, ?_⟩
    · rw [← hN]; exact (hbw5.trans (hb6.mono (by omega))).setCell (p := ⟨w.heap.size + 1, 0, none⟩) (by simp) _
    · rw [hN] at hB4; rw [heap_setCell_at hB4]; rfl
    · exact owns_keep hown6 (fun q hq => Below.heap_setCell _ _ _ _ (by have := (hown6.lt q hq).1; simp; omega)) (by simp)
    · exact (HBd.out.below hb6).cells fun b o hSb _ => World.cell?_setCell_other _ _ _ _ (fun e => by simp at e <;> omega)
  have hz0N : N + 2 ≤ w1.heap.size := by omega
  have hzN5 : N + 2 ≤ w5.heap.size := by omega
  clear q4 fz4 hB4 HB4 HBd hown5 hown6 hgrow hb6
  gi_wp2_with fail
  clear r4 s4 hN
  refine wpIn_loop (fun A W => ∃ (k : Nat) (Ds : List Nat) (lv u8 u9 u29 u30 u31 u32 u33 u34 u55 u56 u57 u58 u59 : Value), k ≤ m ∧ FI g bs (fun k => w1.heap.size ≤ k ∧ k < w5.heap.size) w5.heap.size P N w k Ds lv W ∧ A = { tmps := #[.agg #[.slice a bs.length cap, .int .i64 g, .int .i64 d], .int .i64 m, .pointer (some ⟨N, 0, none⟩), undef, .pointer (some ⟨N + 1, 0, none⟩), .int .i64 0, .int .i64 0, .pointer (some ⟨P, 0, none⟩), u8, u9, undef, undef, undef, .agg #[.slice a bs.length cap, .int .i64 g, .int .i64 d], .int .i64 m, .int .i64 0, .int .i64 0, .bool false, undef, .pointer (some ⟨N, 0, none⟩), .slice a bs.length cap, .pointer (some ⟨N, 1, none⟩), .int .i64 g, .pointer (some ⟨P, 0, none⟩), nl, .slice (some ⟨w5.heap.size, 0, none⟩) 1 1, .slice (some ⟨g6, 0, none⟩) 1 c6, .int .i64 m, .int .i64 k, u29, u30, u31, u32, u33, u34, undef, undef, undef, undef, undef, undef, undef, undef, undef, undef, undef, undef, undef, undef, undef, undef, undef, undef, undef, undef, u55, u56, u57, u58, u59, undef], defers := Ds.map mk }) (fun A _ => m - (intOf (A.tmps.getD 28 undef)).toNat) ?_ ?_
  · exact ⟨0, [], .slice (some ⟨g6, 0, none⟩) 1 c6, _, _, _, _, _, _, _, _, _, _, _, _, _, Nat.zero_le _, F0, by rw [HN.out]; rfl⟩
  rintro a' W ⟨k, Ds, lv, u8, u9, u29, u30, u31, u32, u33, u34, u55, u56, u57, u58, u59, hk, ⟨hB, hzW, hMk, hbx, hown, hbd⟩, rfl⟩
  clear F0
  by_cases hlt : k < m
  · obtain ⟨f, hf⟩ : ∃ f, fewTo g bs k = f := ⟨_, rfl⟩
    have hfl : f.length = k + 1 := by rw [← hf]; exact fewTo_length g bs k
    have hfb : ∀ x ∈ f, -1 ≤ x ∧ x ≤ (k : Int) := by rw [← hf]; exact fewTo_bd g bs k
    have HF1 : Hid (fewTo g bs (k + 1) = f ++ [bestOf f (throwsL g ((k : Int) + 1) bs)]) := by show _ = _; rw [fewTo, hf]
    rw [hf] at hown
    obtain ⟨W2, hW2⟩ : ∃ W2, (((W.alloc (.cells #[.int .i64 (-1)] 3)).alloc (.cells #[.pointer (some ⟨P, 0, none⟩)] 72)).alloc (.cells #[.int .i64 ((k : Int) + 1)] 3)) = W2 := ⟨_, rfl⟩
    have hB2 : Below W.heap.size W W2 := by rw [← hW2]; exact (((Below.refl _ _).alloc (Nat.le_refl _) _).alloc (by simp) _).alloc (by simp; omega) _
    have hZ2 : W2.heap.size = W.heap.size + 3 := by rw [← hW2]; simp
    have g9 : W2.heap[W.heap.size]? = some (.cells #[.int .i64 (-1)] 3 (0, 0)) := by
      rw [← hW2, Below.heap_alloc _ _ _ (by simp <;> omega), Below.heap_alloc _ _ _ (by simp)]
      exact World.alloc_heap_new _ _
    have gb : W2.cell? ⟨W.heap.size + 1, 0, none⟩ = some (.pointer (some ⟨P, 0, none⟩)) := by rw [← hW2]; have := cell_new (W.alloc (.cells #[.int .i64 (-1)] 3)) (.pointer (some ⟨P, 0, none⟩)) 72; rw [World.size_alloc] at this; exact bAt (aB _ _) this
    have gs : W2.cell? ⟨W.heap.size + 1 + 1, 0, none⟩ = some (.int .i64 ((k : Int) + 1)) := by rw [← hW2]; have := cell_new ((W.alloc (.cells #[.int .i64 (-1)] 3)).alloc (.cells #[.pointer (some ⟨P, 0, none⟩)] 72)) (.int .i64 ((k : Int) + 1)) 3; simpa only [World.size_alloc] using this
    have hbx2 := (hB2.block (N + 1) (by omega)).trans hbx
    have hown2 := hown.kept (grownBy_none hB2) (by cases lv.ownBlock <;> simp)
    have hownlt := hown.lt
    have hbd2 := hbd.below hB2
    have hMk2 := hMk.below hB2
    have hMkl := hMk.lt
    have hbN2 : Below N w W2 := hB.trans (hB2.mono (by omega))
    obtain ⟨hPS, vb, vc, vs, c0, c1, -, hslb, -, -, -⟩ := hbd2
    have HBX := Lib.hid hbx2
    have HOWN := Lib.hid hown2
    have HOLT := Lib.hid hownlt
    have HBD := Lib.hid (hbd.below hB2)
    have HMK := Lib.hid hMk2
    have HMKL := Lib.hid hMkl
    have HW2 := Lib.hid hW2
    have HF := Lib.hid hf
    have HFB := Lib.hid hfb
    clear hW2 hf hfb hbx hown hbx2 hown2 hbd hMk hMk2 hMkl hownlt hB
    gi_wp2_with fail
    refine ⟨trivial, rfl, (callsIn_wide.2 (throws_any _ _ _)).mono ?_⟩
    rintro e w' ⟨rfl, rfl⟩
    gi_wp2_with fail
    rw [HW2.out]
    refine wpIn_range (gf := 67) (fa := #[]) (lb := #[.pointer (some ⟨W.heap.size + 1, 0, none⟩), .pointer (some ⟨W.heap.size + 1 + 1, 0, none⟩)]) rfl (enters_of Try.func67 (by kernel_rfl) rfl)
      (throws1_in g ((k : Int) + 1) bs (W.heap.size + 1) (W.heap.size + 1 + 1) P vb W2 (fun j => j < W2.heap.size ∧ j ≠ W.heap.size) HBS.out (by omega) (by omega) gb gs c0 c1 hslb ⟨by omega, by omega⟩ ⟨by omega, by omega⟩ ⟨by have := hPS.2; omega, by have := hPS.2; omega⟩ (fun j hj hj2 => ⟨hj2, by have := hj.2; omega⟩))
      (fun pre O W' => (∀ j, O j ↔ j = W.heap.size) ∧ W'.heap[W.heap.size]? = some (.cells #[.int .i64 (bestOf f pre)] 3 (0, 0))) (fun _ _ _ _ => False)
      (fun pre O A B h _ _ _ _ hk => ⟨h.1, (hk _ (Array.getElem?_eq_some_iff.1 h.2).1 (.inl ((h.1 _).2 rfl))).trans h.2⟩) (fun _ _ _ _ _ h => h.elim)
      (fun j => j = W.heap.size) (fun j hj => by subst hj; omega) (fun j hj => ⟨hj.1, hj.2⟩) ⟨fun _ => Iff.rfl, g9⟩
      (fun b args O W' h => by subst h; rfl) ?round ?done ?stop
    case round =>
      rintro l pre ⟨y, z⟩ post args O₁ W₁ hL hl1 hl2 hnl hnl' hrel hI henc
      subst henc
      clear hI
      have hmem : (y, z) ∈ throwsL g ((k : Int) + 1) bs := by rw [hL]; simp
      obtain ⟨hyb, hao, hz, hz0'⟩ := throwsL_mem hmem
      have hwy := worth_bd (HBS.out y hyb)
      have hza := aftOk_bd hao
      obtain ⟨q, rfl⟩ : ∃ q : Nat, z = q := ⟨z.toNat, by omega⟩
      have hqk : q < f.length := by omega
      have hqk2 : q < k + 1 := by omega
      obtain ⟨gq, cq, hlv, hgq, hcell⟩ : ∃ gq cq, lv = .slice (some ⟨gq, 0, none⟩) (k + 1) cq ∧ gq < W.heap.size ∧ W₁.cell? ⟨gq, q, none⟩ = some (.int .i64 f[q]) := by
        rcases HOWN.out.2 with h | ⟨gq, cq, cur, rfl, -, -, -⟩
        · omega
        · obtain ⟨a1, cap1, har, _, _, h4⟩ := Sl.of_owns HOWN.out
          obtain ⟨b1, off1, rfl, _, hc1⟩ := h4 q _ (intsAt hqk)
          simp only [Value.slice.injEq, Option.some.injEq, Addr.mk.injEq] at har
          obtain ⟨⟨rfl, rfl, -⟩, -, -⟩ := har
          have hlt2 := (HOLT.out gq rfl).2
          refine ⟨gq, cq, rfl, hlt2, ?_⟩
          rw [Nat.zero_add] at hc1
          exact rAt hrel hc1 (by omega)
      have hpb := HFB.out _ (List.getElem_mem hqk)
      have hub := bestOf_bd (by omega) HFB.out pre
      obtain ⟨p, hp⟩ : ∃ p, f[q] = p := ⟨_, rfl⟩
      obtain ⟨u, hu⟩ : ∃ u, bestOf f pre = u := ⟨_, rfl⟩
      rw [hp] at hcell hpb
      rw [hu] at hub
      have HU := Lib.hid hu
      have HPP : Hid (f.getD q 0 = p) := by show _ = _; rw [List.getD_eq_getElem?_getD]; simp [hqk, hp]
      have hNX : bestOf f (pre ++ [(y, (q : Int))]) = bestStep f u (y, (q : Int)) := by rw [bestOf_snoc, hu]
      have HNX := Lib.hid hNX
      have y4 : W₁.cell? ⟨N + 1, 0, none⟩ = some lv := rAt hrel (by rw [cell_of_heap HBX.out]; rfl) (by omega)
      rw [hlv] at y4
      clear hao hz hyb hL hmem hp hu hlv hNX
      gi_wp2_with fail
      refine ⟨Below.refl _ _, ?_⟩
      rintro W₃ hon ⟨hO, hR3⟩
      have x4 := (hon.cell _).trans y4
      have xq := (hon.cell _).trans hcell
      rw [HU.out] at hR3
      have x9 : W₃.cell? ⟨W.heap.size, 0, none⟩ = some (.int .i64 u) := by rw [cell_of_heap hR3]; rfl
      have fz9 : W₃.frozen? ⟨W.heap.size, 0, none⟩ = false := frozen_of_heap hR3
      have hO3 : ∀ j, O₁ j → j < W₃.heap.size := fun j hj => by rw [(hO j).1 hj]; exact (Array.getElem?_eq_some_iff.1 hR3).1
      have HR3 := Lib.hid hR3
      have HO := Lib.hid hO
      clear hR3 hO y4 hcell hon
      have BS : bestStep f u (y, (q : Int)) = if p ≠ -1 ∧ (u = -1 ∨ p + 1 < u) then p + 1 else u := by simp only [bestStep, Int.toNat_natCast]; rw [HPP.out]
      have HBS2 := Lib.hid BS
      clear BS
      by_cases hp1 : p = -1
      · subst hp1
        gi_wp2_with fail
        refine ⟨O₁, Rel.refl hO3, HO.out, ?_⟩
        rw [HNX.out, HBS2.out, if_neg (fun h => h.1 rfl)]
        exact HR3.out
      have hp2 : (p == -1) = false := by simp [hp1]
      have hp3 : (p != -1) = true := by simp [hp1]
      have hset : ∀ (hc : u = -1 ∨ p + 1 < u), Rel O₁ W₃ O₁ (W₃.setCell ⟨W.heap.size, 0, none⟩ (.int .i64 (p + 1))) ∧ (∀ j, O₁ j ↔ j = W.heap.size) ∧ (W₃.setCell ⟨W.heap.size, 0, none⟩ (.int .i64 (p + 1))).heap[W.heap.size]? = some (.cells #[.int .i64 (bestOf f (pre ++ [(y, (q : Int))]))] 3 (0, 0)) := fun hc => by
        refine ⟨(Rel.refl hO3).setCell (p := ⟨W.heap.size, 0, none⟩) ((HO.out _).2 rfl) _, HO.out, ?_⟩
        rw [heap_setCell_at HR3.out, HNX.out, HBS2.out, if_pos ⟨hp1, hc⟩]; rfl
      have HSET := Lib.hid hset
      have hwr : IntKind.i64.wrap (p + 1) = p + 1 := wrap_small _ (by omega) (by omega)
      clear hset
      by_cases hu1 : u = -1
      · subst hu1
        gi_wp2_with fail
        exact ⟨O₁, HSET.out (.inl (by first | trivial | rfl))⟩
      have hu2 : (u == -1) = false := by simp [hu1]
      by_cases hlt2 : p + 1 < u
      · gi_wp2_with fail
        exact ⟨O₁, HSET.out (.inr (by omega))⟩
      · gi_wp2_with fail
        refine ⟨O₁, Rel.refl hO3, HO.out, ?_⟩
        rw [HNX.out, HBS2.out, if_neg (fun h => by rcases h.2 with h | h; exact hu1 h; omega)]
        exact HR3.out
    case done =>
      intro D O₁ W' hD hnD hrel hI hDD
      obtain ⟨hO, hR⟩ := hI
      have hO' : ∀ j, O₁ j ↔ j = W.heap.size := hO
      have hsz := hrel.size
      have hB' : Below N w W' := hbN2.trans (hrel.below (by have := hbN2.size; rw [HN.out] at this; omega) (fun j hj e => by have := hbN2.size; rw [HN.out] at this; omega))
      have hM' : Marks w5.heap.size W' (D :: Ds) := (HMK.out.rel hrel (fun E hE e => by have := HMKL.out E hE; omega)).cons hDD (by omega) (fun hE => by have := HMKL.out D hE; omega)
      have hX' : W'.heap[N + 1]? = some (.cells #[lv] 45 (0, 0)) := (hrel.block (N + 1) (by omega) (by omega)).trans HBX.out
      have hOW' : W'.ownsRow w5.heap.size 3 1 lv (k + 1) (ints f) := owns_keep HOWN.out (fun q hq => hrel.block q (by have := (HOLT.out q hq).2; omega) (by have := (HOLT.out q hq).2; omega)) hsz
      have hBD' := HBD.out.rel hrel (fun j hj e => by have := hj.2; omega)
      obtain ⟨u, hu⟩ : ∃ u, bestOf f (throwsL g ((k : Int) + 1) bs) = u := ⟨_, rfl⟩
      rw [hu] at hR
      have HF2 : Hid (fewTo g bs (k + 1) = f ++ [u]) := by show _ = _; rw [HF1.out, hu]
      have z4 : W'.cell? ⟨N + 1, 0, none⟩ = some lv := by rw [cell_of_heap hX']; rfl
      have z9 : W'.cell? ⟨W.heap.size, 0, none⟩ = some (.int .i64 u) := by rw [cell_of_heap hR]; rfl
      have HX' := Lib.hid hX'
      have HM' := Lib.hid hM'
      have HBD' := Lib.hid hBD'
      clear hu hR hX' hM' hBD' hO hO' hrel hDD g9 gb gs c0 c1 hslb
      gi_wp2_with (gi_at_builtin; refine wpListIn_append_own _ rfl _ _ 45 rfl w5.heap.size 3 i0 (.int .i64 0) 1 8 Try.underlying45 HI0.out.1 HI0.out.2.1 HI0.out.2.2.1 HI0.out.2.2.2 rfl (by decide) _ _ _ rfl (hOW'.alloc _) ⟨W'.heap.size, 0, none⟩ 1 1 [.int .i64 u] rfl rfl ?c1 ?c2 ?c3 ?c4 ?c5 ?_)
      case c1 =>
        intro j u hj
        match j, hj with
        | 0, hj => simp at hj; subst hj; exact cell_new _ _ _
        | j + 1, hj => simp at hj
      case c2 => intro u hu; simp at hu; subst hu; rfl
      case c3 => unfold maxLen; omega
      case c4 => omega
      case c5 => simp; omega
      intro lv1 w7 hown7 hgrow _
      obtain ⟨lv1', hlv1', g7, c7, rfl⟩ : ∃ v', v' = lv1 ∧ ∃ g7 c7, v' = .slice (some ⟨g7, 0, none⟩) (k + 1 + 1) c7 := by
        rcases hown7.2 with h | ⟨g7, c7, -, h, -⟩
        · omega
        · exact ⟨_, h.symm, g7, c7, rfl⟩
      subst hlv1'
      have hBa : Below W'.heap.size W' (W'.alloc (.cells #[.int .i64 u] 3)) := aB _ _
      have hol : ∀ q, lv.ownBlock = some q → w5.heap.size ≤ q := fun q hq => (HOLT.out q hq).1
      have hX7 : w7.heap[N + 1]? = some (.cells #[lv] 45 (0, 0)) := (hgrow.block (N + 1) (by simp; omega) (fun e => by have := hol _ e.symm; omega)).trans ((hBa.block (N + 1) (by omega)).trans HX'.out)
      have r4 : w7.cell? ⟨N + 1, 0, none⟩ = some lv := by rw [cell_of_heap hX7]; rfl
      have s4 : w7.frozen? ⟨N + 1, 0, none⟩ = false := frozen_of_heap hX7
      have hM7 : Marks w5.heap.size w7 (D :: Ds) := marks_grown (HM'.out.below hBa) (hOW'.alloc _) hgrow
      have hb7 : Below N w w7 := (hB'.alloc (by omega) _).grown hgrow (by first | (simp; omega) | simp) (fun q hq => by have := hol q hq; omega)
      have hz7 := hgrow.size
      rw [World.size_alloc] at hz7
      have FN : FI g bs (fun k => w1.heap.size ≤ k ∧ k < w5.heap.size) w5.heap.size P N w (k + 1) (D :: Ds) (.slice (some ⟨g7, 0, none⟩) (k + 1 + 1) c7) (w7.setCell ⟨N + 1, 0, none⟩ (.slice (some ⟨g7, 0, none⟩) (k + 1 + 1) c7)) := by
        refine ⟨hb7.setCell (p := ⟨N + 1, 0, none⟩) (by simp) _, by simp; omega, hM7.setCell _ _ (fun h => by have := hM7.low _ h; simp at this; omega), ?_, ?_, ?_⟩
        · rw [heap_setCell_at hX7]; rfl
        · rw [HF2.out, ints_append]
          exact owns_keep hown7 (fun q hq => Below.heap_setCell _ _ _ _ (by have := (hown7.lt q hq).1; simp; omega)) (by simp)
        · exact ((HBD'.out.below hBa).grown hgrow (fun j hj e => by have := hol _ e.symm; omega)).cells fun b o hSb _ => World.cell?_setCell_other _ _ _ _ (fun e => by simp at e <;> omega)
      clear z4 z9 hX7 hM7 hb7 hown7 hgrow hB' hBa
      gi_wp2_with fail
      refine ⟨⟨k + 1, D :: Ds, .slice (some ⟨g7, 0, none⟩) (k + 1 + 1) c7, _, _, _, _, _, _, _, _, _, _, _, _, _, by omega, FN, rfl⟩, ?_⟩
      simp [intOf]; omega
    case stop => intro D c pre O₁ W' _ _ _ _ h; exact h.elim
  · obtain rfl : k = m := by omega
    have z4 : W.cell? ⟨N + 1, 0, none⟩ = some lv := by rw [cell_of_heap hbx]; rfl
    have s4 : W.frozen? ⟨N + 1, 0, none⟩ = false := frozen_of_heap hbx
    obtain ⟨lv', hlv', g7, c7, rfl⟩ : ∃ v', v' = lv ∧ ∃ g7 c7, v' = .slice (some ⟨g7, 0, none⟩) (k + 1) c7 := by
      rcases hown.2 with h | ⟨g7, c7, -, h, -⟩
      · omega
      · exact ⟨_, h.symm, g7, c7, rfl⟩
    subst hlv'
    have HBX := Lib.hid hbx
    have HOWN := Lib.hid hown
    have HMK := Lib.hid hMk
    clear hbx hown hMk hbd
    gi_wp2_with fail
    have hm := HMK.out.setCell ⟨N + 1, 0, none⟩ (.slice (some ⟨g7, 0, none⟩) (k + 1) c7) (fun h => by have := HMK.out.low _ h; simp at this; omega)
    refine leave_marks Ds _ hm fun W'' hp => ?_
    have hz : W''.cell? ⟨N + 1, 0, none⟩ = some (.slice (some ⟨g7, 0, none⟩) (k + 1) c7) := (hp.cell _).trans (by rw [cell_of_heap (heap_setCell_at HBX.out _)]; rfl)
    refine ⟨.tuple #[.slice (some ⟨g7, 0, none⟩) (k + 1) c7, .int .i64 0], by simp [results, Try.results28, go_sem, hz], _, rfl, ?_, ?_⟩
    · rw [HN.out]
      exact (hB.setCell (p := ⟨N + 1, 0, none⟩) (by simp) _).trans (hp.below fun E hE => by have := HMK.out.low E hE; omega)
    · exact ((Sl.of_owns HOWN.out).cells fun b o hb _ => (hp.cell _).trans (World.cell?_setCell_other _ _ _ _ (fun e => by simp at e <;> omega))).mono fun q hq => Nat.le_trans (by have := HN.out; omega) hq
end Go.Proofs.Ytcnofoopdghjiaa

/- Chapter 2: Fewest, whole. -/
namespace Go.Proofs.Ytcnofoopdghjiaa
open Go.RowKit Go.Oche Go.Proofs

set_option maxRecDepth 100000 in
set_option maxHeartbeats 1000000 in
theorem fewest_any {S : Nat → Prop} (bs : List Int) (g d m : Int) (v : Value) (w : World) (hs : Sl S w v (ints bs)) (hi : ∀ b ∈ bs, I64 b) :
    Calls Try.prog 28 #[.agg #[v, .int .i64 g, .int .i64 d], .int .i64 m] w fun e w' => ∃ lv, e = .returned (.tuple #[lv, .int .i64 (mostErr bs g d m)]) ∧ Below w.heap.size w w' ∧ Sl (fun k => w.heap.size ≤ k) w' lv (ints (fewL bs g d m)) := by
  by_cases herr : mostErr bs g d m = 0
  · obtain ⟨hr, h1, h2⟩ := mostErr_zero herr
    obtain ⟨m, rfl⟩ : ∃ s' : Nat, m = s' := ⟨m.toNat, by omega⟩
    have := fewest_ok bs g d m v w hs hi herr
    rw [fewL, if_pos herr, herr]
    exact this
  obtain ⟨a, cap, rfl, _, _⟩ := hs.form
  simp only [ints_length] at *
  obtain ⟨w0, hw0⟩ : ∃ w0, w0 = ((w.alloc (.cells #[.slice a bs.length cap, .int .i64 g, .int .i64 d] 25)).alloc (.cells #[.slice none 0 0] 45)) := ⟨_, rfl⟩
  have hb0 : Below w.heap.size w w0 := by rw [hw0]; exact ((Below.refl _ _).alloc (Nat.le_refl _) _).alloc (by simp) _
  have hz0 : w.heap.size + 2 ≤ w0.heap.size := by rw [hw0]; simp
  have h4 : w0.heap[w.heap.size + 1]? = some (.cells #[.slice none 0 0] 45 (0, 0)) := by
    rw [hw0]; have := World.alloc_heap_new (w.alloc (.cells #[.slice a bs.length cap, .int .i64 g, .int .i64 d] 25)) (.cells #[.slice none 0 0] 45); rw [World.size_alloc] at this; exact this
  have HE := Lib.hid herr
  have f0 : (mostErr bs g d m != 0) = true := by simp [herr]
  obtain ⟨r, hr⟩ : ∃ r, mostErr bs g d m = r := ⟨_, rfl⟩
  rw [hr] at f0
  have HR := Lib.hid hr
  have HS := Lib.hid (hs.below hb0)
  have HI := Lib.hid hi
  have HW := Lib.hid hw0
  have H4 := Lib.hid h4
  clear herr hr hs hi hw0 h4
  go_enter Try.func28, Try.ntmps28
  go_wp2_with fail
  rw [← HW.out]
  refine (checkMost_r bs g d m r HR _ _ HS.out HI.out).mono ?_
  rintro e w1 ⟨rfl, hb1⟩
  have hB4 := (hb1.block (w.heap.size + 1) (by omega)).trans H4.out
  have q4 : w1.cell? ⟨w.heap.size + 1, 0, none⟩ = some (.slice none 0 0) := by rw [cell_of_heap hB4]; rfl
  have s4 : w1.frozen? ⟨w.heap.size + 1, 0, none⟩ = false := frozen_of_heap hB4
  have HB4 := Lib.hid hB4
  clear hB4
  go_wp2_with fail
  have hz : (w1.setCell ⟨w.heap.size + 1, 0, none⟩ (.slice none 0 0)).cell? ⟨w.heap.size + 1, 0, none⟩ = some (.slice none 0 0) := by rw [cell_of_heap (heap_setCell_at HB4.out _)]; rfl
  refine bodyPost_ret (v := .tuple #[.slice none 0 0, .int .i64 r]) (by simp [results, Try.results28, go_sem, hz]) rfl ⟨_, by rw [HR.out], ?_, ?_⟩
  · exact (hb0.trans (hb1.mono hb0.size)).setCell (p := ⟨w.heap.size + 1, 0, none⟩) (by simp) _
  · rw [fewL, if_neg HE.out]
    exact Sl.nil _ _
end Go.Proofs.Ytcnofoopdghjiaa

/- Chapter 2: Clip, an append to a clipped slice, and the list of the ways. -/
namespace Go.Proofs.Ytcnofoopdghjiaa
open Go.RowKit Go.Oche Go.Proofs

/-- A list of beds as a path is handed on: nothing is nil, else a slice that reads as the list. -/
def PathAt (S : Nat → Prop) (W : World) (v : Value) (xs : List Int) : Prop := (xs = [] ∧ v = .slice none 0 0) ∨ (xs ≠ [] ∧ Sl S W v (ints xs))
theorem PathAt.cells {S : Nat → Prop} {W W' : World} {v : Value} {xs : List Int} (h : PathAt S W v xs) (hc : ∀ b o, S b → (W.cell? ⟨b, o, none⟩).isSome → W'.cell? ⟨b, o, none⟩ = W.cell? ⟨b, o, none⟩) : PathAt S W' v xs := by
  rcases h with h | ⟨h1, h2⟩
  · exact .inl h
  · exact .inr ⟨h1, h2.cells hc⟩
theorem PathAt.below {S : Nat → Prop} {W W' : World} {v : Value} {xs : List Int} (h : PathAt S W v xs) (hb : Below W.heap.size W W') : PathAt S W' v xs :=
  h.cells fun b o _ hs => by obtain ⟨x, hx⟩ := Option.isSome_iff_exists.1 hs; rw [hx]; exact bAt hb hx
theorem PathAt.rel {S O O' : Nat → Prop} {W W' : World} {v : Value} {xs : List Int} (h : PathAt S W v xs) (hr : Rel O W O' W') (hS : ∀ k, S k → ¬ O k) : PathAt S W' v xs :=
  h.cells fun b o s hs => by obtain ⟨x, hx⟩ := Option.isSome_iff_exists.1 hs; rw [hx]; exact rAt hr hx (hS b s)
theorem PathAt.mono {S S' : Nat → Prop} {W : World} {v : Value} {xs : List Int} (h : PathAt S W v xs) (hS : ∀ k, S k → S' k) : PathAt S' W v xs := by
  rcases h with h | ⟨h1, h2⟩
  · exact .inl h
  · exact .inr ⟨h1, h2.mono hS⟩
theorem PathAt.sl {S : Nat → Prop} {W : World} {v : Value} {xs : List Int} (h : PathAt S W v xs) : Sl S W v (ints xs) := by
  rcases h with ⟨rfl, rfl⟩ | ⟨_, h⟩
  · exact Sl.nil _ _
  · exact h

def clipV : Value → Value
  | .slice a n _ => .slice a n n
  | v => v
theorem clip_any {S : Nat → Prop} (xs : List Int) (v : Value) (w : World) (h : PathAt S w v xs) : Calls Try.prog 71 #[v] w fun e w' => e = .returned (clipV v) ∧ w' = w := by
  rcases h with ⟨rfl, rfl⟩ | ⟨hne, hs⟩
  · go_enter Try.func71, Try.ntmps71
    go_wp2
    go_ret
    exact ⟨rfl, rfl⟩
  · obtain ⟨a, cap, rfl, h2, h3, h4⟩ := hs
    have hlen : 0 < xs.length := List.length_pos_iff.2 hne
    obtain ⟨b, off, rfl, _, _⟩ := h4 0 _ (intsAt hlen)
    simp only [ints_length] at *
    have k1 : (xs.length : Int) ≤ (cap : Int) := by omega
    clear h4 hne
    go_enter Try.func71, Try.ntmps71
    go_wp2
    all_goals go_goals
    go_ret
    exact ⟨rfl, rfl⟩

theorem owns_rows {base n : Nat} {e : TypeId} {w : World} {v : Value} {xs : List Value} (h : w.ownsRow base e 1 v n xs) : Sl (fun k => base ≤ k ∧ k < w.heap.size ∧ Row e w k) w v xs := by
  obtain ⟨hl, h | ⟨g, cap, cur, rfl, hb, hg, hn, hm, hs, ht⟩⟩ := h
  · obtain ⟨rfl, rfl⟩ := h
    have : xs = [] := List.eq_nil_of_length_eq_zero (by simpa using hl)
    subst this
    exact Sl.nil _ _
  · have hlt : g < w.heap.size := (Array.getElem?_eq_some_iff.1 hg).1
    refine ⟨some ⟨g, 0, none⟩, cap, by simp [hl], by omega, hm, fun i x hx => ⟨g, 0, rfl, ⟨hb, hlt, _, _, hg⟩, ?_⟩⟩
    have hi : i < xs.length := (List.getElem?_eq_some_iff.1 hx).1
    simp only [World.cell?, hg, Nat.zero_add]
    rw [← ht, List.getElem?_take] at hx
    split at hx
    · simpa using hx
    · cases hx
/-- The blocks where a path lies: not the consumer's, and cells of beds. -/
def POK (N0 : Nat) (O : Nat → Prop) (W : World) (k : Nat) : Prop := k < W.heap.size ∧ ¬ O k ∧ Row 61 W k ∧ N0 ≤ k
/-- One more bed behind a clipped path: always a new block. -/
theorem append_clip {S : Nat → Prop} (xs : List Int) (v : Value) (w : World) (h : PathAt S w v xs) (hl : xs.length ≤ 1000) (x : Int) (b c : Nat) (hb : w.cell? ⟨b, 0, none⟩ = some (.int .i64 x)) :
    ∃ v' w', (Builtin.append_ #[22, 22] 22 #[clipV v, .slice (some ⟨b, 0, none⟩) 1 c]).run Try.prog w = .ok v' w' ∧ Below w.heap.size w w' ∧ PathAt (fun k => w.heap.size ≤ k ∧ k < w'.heap.size ∧ Row 61 w' k) w' v' (xs ++ [x]) := by
  obtain ⟨i0, hi, hz0', hz1, hz2⟩ := info_parts info61
  have hnews : ∀ j u, [Value.int .i64 x][j]? = some u → w.cell? ((⟨b, 0, none⟩ : Addr).add j) = some u := by
    intro j u hj
    match j, hj with
    | 0, hj => simp at hj; subst hj; simpa [Addr.add] using hb
    | j + 1, hj => simp at hj
  have fin : ∀ v' w', w'.ownsRow w.heap.size 61 1 v' (xs.length + 1) (ints xs ++ [.int .i64 x]) → w.grownBy w' none → Below w.heap.size w w' ∧ PathAt (fun k => w.heap.size ≤ k ∧ k < w'.heap.size ∧ Row 61 w' k) w' v' (xs ++ [x]) := by
    intro v' w' ho hg
    refine ⟨below_grownBy hg (Nat.le_refl _) (fun q hq => by cases hq), .inr ⟨by simp, ?_⟩⟩
    rw [ints_append]
    exact owns_rows ho
  rcases h with ⟨rfl, rfl⟩ | ⟨hne, hs⟩
  · obtain ⟨v', w', hr, ho, hg, -⟩ := run_append_own (P := Try.prog) w w.heap.size 22 22 61 i0 (.int .i64 0) 1 8 Try.underlying22 hi hz0' hz1 hz2 rfl (by decide) (.slice none 0 0) 0 [] (World.ownsRow_nil _ _ _ _) ⟨b, 0, none⟩ 1 c [.int .i64 x] rfl hnews (fun u hu => by simp at hu; subst hu; rfl) (by unfold maxLen; omega) (by omega) (Nat.le_refl _)
    exact ⟨v', w', hr, fin v' w' ho hg⟩
  · obtain ⟨a, cap, rfl, h2, h3, h4⟩ := hs
    have hlen : 0 < xs.length := List.length_pos_iff.2 hne
    obtain ⟨b1, off, rfl, _, _⟩ := h4 0 _ (intsAt hlen)
    simp only [ints_length] at *
    have holds : ∀ j u, (ints xs)[j]? = some u → w.cell? ((⟨b1, off, none⟩ : Addr).add j) = some u := by
      intro j u hj
      obtain ⟨b2, off2, e, _, hc⟩ := h4 j u hj
      cases e
      rw [addr_add]; exact hc
    obtain ⟨v', w', hr, ho, hg⟩ := run_append_arg_grows (P := Try.prog) w 22 22 61 i0 (.int .i64 0) 1 8 Try.underlying22 hi hz0' hz1 hz2 rfl (by decide) ⟨b1, off, none⟩ xs.length xs.length (ints xs) (by simp) holds ⟨b, 0, none⟩ 1 c [.int .i64 x] rfl hnews (by omega) (by unfold maxLen; omega) (by omega)
    exact ⟨v', w', hr, fin v' w' ho hg⟩

/-- The ways from score s with n darts, each the list of its beds. -/
def cellN (Cs : List (List Int)) (n : Nat) (l : Int) : Int := (Cs.getD n []).getD l.toNat 0
def waysL (g : Int) (bs : List Int) (Cs : List (List Int)) : Nat → Int → List (List Int)
  | 0, _ => [[]]
  | n + 1, s => (throwsL g s bs).flatMap fun t => if 0 < cellN Cs n t.2 then (waysL g bs Cs n t.2).map (t.1 :: ·) else []
end Go.Proofs.Ytcnofoopdghjiaa

/- Chapter 2: ways, the recursion. -/
namespace Go.Proofs.Ytcnofoopdghjiaa
open Go.RowKit Go.Oche Go.Proofs
attribute [local go_sem] Oper.semAt_some

def encB (N0 : Nat) : List Int → Array Value → (Nat → Prop) → World → Prop := fun b args O W => ∃ pv, args = #[pv] ∧ PathAt (POK N0 O W) W pv b

/-- What ways does, at n darts: like an iterator, its answer says whether yield went along. -/
def WaysAt (N0 : Nat) (g : Int) (bs : List Int) (Cs : List (List Int)) (P n : Nat) : Prop :=
  ∀ (S : Nat → Prop) (s : Nat) (path : List Int) (pv : Value) (l0 : Nat) (J Jx : List (List Int) → (Nat → Prop) → World → Prop) (O : Nat → Prop) (W : World),
    Board S W P bs g Cs → (∀ k, S k → k < W.heap.size ∧ ¬ O k) → (∀ j (h : j < Cs.length), s < (Cs[j]).length) → s ≤ 1001 → path.length + n ≤ 100 → N0 ≤ W.heap.size → PathAt (POK N0 O W) W pv path →
    (∀ k, O k → k < W.heap.size) → Stab 61 W.heap.size J → Stab 61 W.heap.size Jx →
    (∀ pre b post args O₁ W₁, (waysL g bs Cs n s).map (path ++ ·) = pre ++ b :: post → Rel O W O₁ W₁ → J pre O₁ W₁ → encB N0 b args O₁ W₁ → YieldAt Fence.wide 0 Try.prog l0 args W₁ fun e W' =>
      ∃ O', Rel O₁ W₁ O' W' ∧ ((e = .returned (.bool true) ∧ J (pre ++ [b]) O' W') ∨ (e = .returned (.bool false) ∧ Jx (pre ++ [b]) O' W'))) →
    J [] O W →
    CallsIn Fence.wide 0 Try.prog 62 #[.pointer (some ⟨P, 0, none⟩), .int .i64 s, .int .i64 n, pv, .func (.yield l0) #[] #[]] W fun e W' =>
      ∃ O', Rel O W O' W' ∧ ((e = .returned (.bool true) ∧ J ((waysL g bs Cs n s).map (path ++ ·)) O' W') ∨ (e = .returned (.bool false) ∧ ∃ pre, pre <+: (waysL g bs Cs n s).map (path ++ ·) ∧ Jx pre O' W'))

/-- Blocks that are new since W may turn. -/
theorem Rel.turned {O O' : Nat → Prop} {W W' W'' : World} (h : Rel O W O' W') (D : Nat → Prop) (h1 : W''.os = W'.os) (h2 : W''.tape = W'.tape) (h3 : W''.output = W'.output) (h4 : W''.heap.size = W'.heap.size) (h5 : ∀ k, ¬ D k → W''.heap[k]? = W'.heap[k]?) (hD : ∀ k, D k → W.heap.size ≤ k) : Rel O W O' W'' :=
  ⟨h1.trans h.os, h2.trans h.tape, h3.trans h.output, by rw [h4]; exact h.size, fun k hk hn => (h5 k (fun hd => by have := hD k hd; omega)).trans (h.block k hk hn), h.own, fun k hk => by rw [h4]; exact h.lt k hk⟩
theorem Stab.turned {β : Type} {N : Nat} {J : List β → (Nat → Prop) → World → Prop} (hJ : Stab 61 N J) {pre : List β} {O : Nat → Prop} {W W' : World} (h : J pre O W) (D : Nat → Prop) (h1 : W'.os = W.os) (h2 : W'.tape = W.tape) (h3 : W'.output = W.output) (h4 : W'.heap.size = W.heap.size) (h5 : ∀ k, ¬ D k → W'.heap[k]? = W.heap[k]?) (hD : ∀ k, D k → ¬ O k ∧ N ≤ k ∧ ¬ Row 61 W k) : J pre O W' :=
  hJ pre O W W' h h1 h2 h3 (by omega) fun k _ hk => h5 k (fun hd => by have := hD k hd; rcases hk with hk | hk | hk; exact this.1 hk; omega; exact this.2.2 hk)

theorem PathAt.form {S : Nat → Prop} {W : World} {v : Value} {xs : List Int} (h : PathAt S W v xs) : ∃ a n c, v = .slice a n c := by
  obtain ⟨a, c, rfl, _⟩ := h.sl
  exact ⟨_, _, _, rfl⟩

set_option maxRecDepth 100000 in
set_option maxHeartbeats 1000000 in
theorem ways_zero (N0 : Nat) (g : Int) (bs : List Int) (Cs : List (List Int)) (P : Nat) : WaysAt N0 g bs Cs P 0 := by
  intro S s path pv l0 J Jx O W hBd hS hs hs1 hpl hN0 hpath hO hJ hJx hY h0
  obtain ⟨pa, pn, pc, rfl⟩ := hpath.form
  obtain ⟨W0, hW0⟩ : ∃ W0, (((((W.alloc (.cells #[.pointer (some ⟨P, 0, none⟩)] 72)).alloc (.cells #[.int .i64 0] 3)).alloc (.cells #[(.slice pa pn pc)] 22)).alloc (.cells #[.func (.yield l0) #[] #[]] 57)).alloc (.cells #[.bool false] 4)) = W0 := ⟨_, rfl⟩
  have hB0 : Below W.heap.size W W0 := by rw [← hW0]; exact (((((Below.refl _ _).alloc (Nat.le_refl _) _).alloc (by simp) _).alloc (by simp; omega) _).alloc (by simp; omega) _).alloc (by simp; omega) _
  have hZ0 : W0.heap.size = W.heap.size + 5 := by rw [← hW0]; simp
  have c10 : W0.heap[W.heap.size + 1 + 1 + 1 + 1]? = some (.cells #[.bool false] 4 (0, 0)) := by
    rw [← hW0]; have := World.alloc_heap_new ((((W.alloc (.cells #[.pointer (some ⟨P, 0, none⟩)] 72)).alloc (.cells #[.int .i64 0] 3)).alloc (.cells #[(.slice pa pn pc)] 22)).alloc (.cells #[.func (.yield l0) #[] #[]] 57)) (.cells #[.bool false] 4); simpa only [World.size_alloc] using this
  have c9 : W0.cell? ⟨W.heap.size + 1 + 1 + 1, 0, none⟩ = some (.func (.yield l0) #[] #[]) := by
    rw [← hW0]; have := cell_new (((W.alloc (.cells #[.pointer (some ⟨P, 0, none⟩)] 72)).alloc (.cells #[.int .i64 0] 3)).alloc (.cells #[(.slice pa pn pc)] 22)) (.func (.yield l0) #[] #[]) 57; simp only [World.size_alloc] at this; exact bAt (aB _ _) this
  have c8 : W0.cell? ⟨W.heap.size + 1 + 1, 0, none⟩ = some (.slice pa pn pc) := by
    rw [← hW0]; have := cell_new ((W.alloc (.cells #[.pointer (some ⟨P, 0, none⟩)] 72)).alloc (.cells #[.int .i64 0] 3)) (.slice pa pn pc) 22; simp only [World.size_alloc] at this; exact bAt (aB _ _) (bAt (aB _ _) this)
  have c7 : W0.cell? ⟨W.heap.size + 1, 0, none⟩ = some (.int .i64 0) := by
    rw [← hW0]; have := cell_new (W.alloc (.cells #[.pointer (some ⟨P, 0, none⟩)] 72)) (.int .i64 0) 3; simp only [World.size_alloc] at this; exact bAt (aB _ _) (bAt (aB _ _) (bAt (aB _ _) this))
  have hr0 : Rel O W O W0 := Rel.of_below hB0 hO
  have hj0 := Stab.ext hJ h0 hB0
  have HY := Lib.hid hY
  have HW0 := Lib.hid hW0
  have C10 := Lib.hid c10
  have HJ0 := Lib.hid hj0
  obtain ⟨fn, tmps, assign, body, hy, hR⟩ := HY.out [] path [] #[(.slice pa pn pc)] O W0 (by simp [waysL]) hr0 hj0 ⟨_, rfl, (hpath.below hB0).mono fun k hk => ⟨by have := hk.1; omega, hk.2.1, hk.2.2.1.keep (hB0.block k hk.1), hk.2.2.2⟩⟩
  have HR := Lib.hid hR
  rw [← hW0] at hy
  clear hW0 c10 hY hj0 hR
  refine callsIn_of_wp_marks Try.func62 rfl trivial ?_ rfl
  simp only [Try.ntmps62, List.size_toArray, List.length_cons, List.length_nil, Nat.reduceAdd, Nat.reduceSub, Array.replicate_succ, Array.replicate_zero, List.push_toArray, List.append_toArray, List.nil_append, List.cons_append]
  gi_wp2_with fail
  rw [HW0.out]
  refine ⟨rfl, RoundIn.mono HR.out ?_⟩
  have tail : ∀ (b : Bool) (O' : Nat → Prop) (W3 W'' : World), Rel O W0 O' W3 → W3.heap[W.heap.size + 1 + 1 + 1 + 1]? = some (.cells #[.bool false] 4 (0, 0)) → Passed [] (W3.setCell ⟨W.heap.size + 1 + 1 + 1 + 1, 0, none⟩ (.bool b)) W'' → Rel O W O' W'' ∧ (∀ X : List (List Int) → (Nat → Prop) → World → Prop, Stab 61 W.heap.size X → X [path] O' W3 → X [path] O' W'') := by
    intro b O' W3 W'' hr3 hM4 hp
    have h5 : ∀ k, ¬ k = W.heap.size + 1 + 1 + 1 + 1 → W''.heap[k]? = W3.heap[k]? := fun k hk => (hp.block k (by simp)).trans (Below.heap_setCell _ _ _ _ (by simpa using hk))
    have hn : ¬ O' (W.heap.size + 1 + 1 + 1 + 1) := fun h => by
      rcases hr3.own _ h with h | h
      · have := hO _ h; omega
      · omega
    refine ⟨Rel.turned (hr0.trans hr3) (fun k => k = W.heap.size + 1 + 1 + 1 + 1) hp.os hp.tape hp.output (by rw [hp.size]; simp) h5 (fun k hk => by omega), fun X hX hx => ?_⟩
    exact Stab.turned hX hx (fun k => k = W.heap.size + 1 + 1 + 1 + 1) hp.os hp.tape hp.output (by rw [hp.size]; simp) h5 (fun k hk => ⟨by rw [hk]; exact hn, by omega, fun ⟨_, _, h⟩ => by rw [hk, hM4] at h; simp at h⟩)
  rintro e W3 ⟨O', hr3, (⟨rfl, hj3⟩ | ⟨rfl, hj3⟩)⟩
  · have d10 := (hr3.block _ (by omega) (fun h => by have := hO _ h; omega)).trans C10.out
    have e10 : W3.cell? ⟨W.heap.size + 1 + 1 + 1 + 1, 0, none⟩ = some (.bool false) := by rw [cell_of_heap d10]; rfl
    have f10 : W3.frozen? ⟨W.heap.size + 1 + 1 + 1 + 1, 0, none⟩ = false := frozen_of_heap d10
    have D10 := Lib.hid d10
    have HJ3 := Lib.hid hj3
    clear d10 hj3
    gi_wp2_with fail
    refine leave_marks [] _ (Marks.nil 0 _) fun W'' hp => ?_
    have hz : W''.cell? ⟨W.heap.size + 1 + 1 + 1 + 1, 0, none⟩ = some (.bool true) := (hp.cell _).trans (by rw [cell_of_heap (heap_setCell_at D10.out _)]; rfl)
    obtain ⟨hr, hx⟩ := tail _ O' W3 W'' hr3 D10.out hp
    exact ⟨.bool true, by simp [results, Try.results62, go_sem, hz], O', hr, .inl ⟨rfl, by simpa [waysL] using hx J hJ HJ3.out⟩⟩
  · have d10 := (hr3.block _ (by omega) (fun h => by have := hO _ h; omega)).trans C10.out
    have e10 : W3.cell? ⟨W.heap.size + 1 + 1 + 1 + 1, 0, none⟩ = some (.bool false) := by rw [cell_of_heap d10]; rfl
    have f10 : W3.frozen? ⟨W.heap.size + 1 + 1 + 1 + 1, 0, none⟩ = false := frozen_of_heap d10
    have D10 := Lib.hid d10
    have HJ3 := Lib.hid hj3
    clear d10 hj3
    gi_wp2_with fail
    refine leave_marks [] _ (Marks.nil 0 _) fun W'' hp => ?_
    have hz : W''.cell? ⟨W.heap.size + 1 + 1 + 1 + 1, 0, none⟩ = some (.bool false) := (hp.cell _).trans (by rw [cell_of_heap (heap_setCell_at D10.out _)]; rfl)
    obtain ⟨hr, hx⟩ := tail _ O' W3 W'' hr3 D10.out hp
    exact ⟨.bool false, by simp [results, Try.results62, go_sem, hz], O', hr, .inr ⟨rfl, [path], by simp [waysL], hx Jx hJx HJ3.out⟩⟩
end Go.Proofs.Ytcnofoopdghjiaa
