/- The texts MpR, SR, in build order. -/
import Derived.Test.YtagfcodpgochjaaZaf
import Derived.Maps.RangeRun

/- A range over a map, in whatever order: which keys have come so far. -/
namespace Go.Oche
open Go Go.RowKit
section
variable {κ : Type} {P : Program} {enc : κ → Value}
/-- The iterator in block r has handed out the keys ks of the map in block b, in this order. -/
def SeenAt (enc : κ → Value) (W : World) (r b : Nat) (L : List (κ × Value)) (ks : List κ) : Prop :=
  ∃ (es : Array MapEntry) (clock : Nat) (seen : Array Nat) (q : List MapEntry), W.heap[b]? = some (.map es clock) ∧ W.heap[r]? = some (.mapIter (some b) clock seen clock) ∧
    es.toList.map (·.key) = L.map (fun p => enc p.1) ∧ es.toList.map (·.val) = L.map (·.2) ∧ Born es clock ∧ q.map (·.born) = seen.toList ∧ q.map (·.key) = ks.map enc ∧ (∀ e ∈ q, e ∈ es.toList) ∧ q.Nodup
theorem SeenAt.map {W : World} {r b : Nat} {L : List (κ × Value)} {ks : List κ} (h : SeenAt enc W r b L ks) : MapAt enc W b L := by
  obtain ⟨es, c, s, q, h1, h2, h3, h4, h5, _⟩ := h; exact ⟨es, c, h1, h3, h4, h5⟩
theorem SeenAt.keep {W W' : World} {r b : Nat} {L : List (κ × Value)} {ks : List κ} (h : SeenAt enc W r b L ks) (hb : W'.heap[b]? = W.heap[b]?) (hr : W'.heap[r]? = W.heap[r]?) : SeenAt enc W' r b L ks := by
  obtain ⟨es, c, s, q, h1, h2, h3⟩ := h; exact ⟨es, c, s, q, hb.trans h1, hr.trans h2, h3⟩
theorem SeenAt.lt {W : World} {r b : Nat} {L : List (κ × Value)} {ks : List κ} (h : SeenAt enc W r b L ks) : r < W.heap.size ∧ b < W.heap.size ∧ r ≠ b := by
  obtain ⟨es, c, s, q, h1, h2, _⟩ := h
  refine ⟨(Array.getElem?_eq_some_iff.1 h2).1, (Array.getElem?_eq_some_iff.1 h1).1, fun e => ?_⟩
  rw [e, h1] at h2; cases h2
theorem born_nodup {es : Array MapEntry} {clock : Nat} (h : Born es clock) : (es.toList.map (·.born)).Nodup := h.1.imp fun h => by omega
theorem born_inj {es : Array MapEntry} {clock : Nat} (h : Born es clock) {e e' : MapEntry} (he : e ∈ es.toList) (he' : e' ∈ es.toList) (hb : e'.born = e.born) : e' = e := by
  have h1 := find_born e es.toList (born_nodup h) he
  have h2 := find_born e' es.toList (born_nodup h) he'
  rw [hb, h1] at h2
  exact (Option.some.inj h2).symm
theorem MapAt.range {T K E : TypeId} (ht : P.underlying T = some (.map K E)) {W : World} {b : Nat} {L : List (κ × Value)} (h : MapAt enc W b L) :
    ∃ W', (Instr.range T (.map (some b))).run P W = .ok (.pointer (some ⟨W.heap.size, 0, none⟩)) W' ∧ SeenAt enc W' W.heap.size b L [] ∧ Below W.heap.size W W' ∧ W'.heap.size = W.heap.size + 1 := by
  obtain ⟨es, c, h1, h2, h3, h4⟩ := h
  refine ⟨_, run_range_map W T K E b es c ht h1, ⟨es, c, #[], [], ?_, World.alloc_heap_new _ _, h2, h3, h4, rfl, rfl, by simp, by simp⟩, (Below.refl _ _).alloc (Nat.le_refl _) _, by simp⟩
  exact (Below.heap_alloc _ _ _ (Array.getElem?_eq_some_iff.1 h1).1).trans h1
theorem setBlock_grown {W : World} {r : Nat} {o o' : Obj} (_h : W.heap[r]? = some o) : W.grownBy (Go.ChangeMaps.setBlock W r o') (some r) :=
  ⟨rfl, rfl, rfl, Nat.le_of_eq (by show W.heap.size = (W.heap.setIfInBounds r _).size; rw [Array.size_setIfInBounds]), fun q _ hq => by
    have hne : r ≠ q := fun e => hq (by rw [e])
    show (W.heap.setIfInBounds r _)[q]? = W.heap[q]?
    rw [Array.getElem?_setIfInBounds_ne hne]⟩
theorem SeenAt.next {dec : Value → κ} (hd : ∀ k, dec (enc k) = k) {W : World} {r b : Nat} {L : List (κ × Value)} {ks : List κ} (h : SeenAt enc W r b L ks) (ty : TypeId) :
    ((Instr.next (.pointer (some ⟨r, 0, none⟩)) false ty).run P W = .ok (.tuple #[.bool false]) W ∧ ks.Perm (L.map (·.1))) ∨
    ∃ k v W', (k, v) ∈ L ∧ ks.length < L.length ∧ (Instr.next (.pointer (some ⟨r, 0, none⟩)) false ty).run P W = .ok (.tuple #[.bool true, enc k, v]) W' ∧ SeenAt enc W' r b L (ks ++ [k]) ∧ W.grownBy W' (some r) ∧ W'.heap.size = W.heap.size ∧
      (Instr.entry (.pointer (some ⟨r, 0, none⟩))).run P W' = .ok (.tuple #[enc k, v]) W' := by
  obtain ⟨es, c, seen, q, h1, h2, h3, h4, h5, h6, h7, h8, h9⟩ := h
  have hlenL : es.toList.length = L.length := by have := congrArg List.length h4; simpa using this
  have hlenq : q.length = ks.length := by have := congrArg List.length h7; simpa using this
  have hmem : ∀ x : Nat, seen.contains x = true ↔ ∃ e ∈ q, e.born = x := fun x => by
    rw [Array.contains_iff_mem, ← Array.mem_toList_iff, ← h6, List.mem_map]
  rcases run_next_at (P := P) W ty r b c c seen es c h2 h1 h5.2 (Nat.le_refl _) with ⟨h0, hrun⟩ | ⟨e, he, w1, hw1, hrun⟩
  · left
    refine ⟨hrun, ?_⟩
    have hall : ∀ e ∈ es.toList, e ∈ q := fun e he => by
      have hc : seen.contains e.born = true := by
        cases hx : seen.contains e.born with
        | true => rfl
        | false =>
          have : e ∈ leftOf es seen := Array.mem_filter.2 ⟨by simpa using he, by simpa using hx⟩
          have hz : leftOf es seen = #[] := Array.eq_empty_of_size_eq_zero h0
          rw [hz] at this; simp at this
      obtain ⟨e', he', hb⟩ := (hmem _).1 hc
      rw [← born_inj h5 he (h8 e' he') hb]; exact he'
    have hndes : es.toList.Nodup := List.Pairwise.of_map (·.born) (fun _ _ h e => h (congrArg _ e)) (born_nodup h5)
    have hp : q.Perm es.toList := (List.perm_ext_iff_of_nodup h9 hndes).2 fun a => ⟨h8 a, hall a⟩
    have := (hp.map (·.key)).map dec
    rw [h7, h3, List.map_map, List.map_map] at this
    simpa [Function.comp_def, hd] using this
  · right
    obtain ⟨hes, hns⟩ := mem_left he
    have hnq : e ∉ q := fun hq => by
      have := (hmem e.born).2 ⟨e, hq, rfl⟩
      rw [this] at hns; cases hns
    obtain ⟨i, hi⟩ := List.getElem?_of_mem hes
    have hiL : i < L.length := by rw [← hlenL]; exact (List.getElem?_eq_some_iff.1 hi).1
    have hk : e.key = enc L[i].1 := by
      have := congrArg (fun l => l[i]?) h3
      simp only [List.getElem?_map, hi, Option.map_some, List.getElem?_eq_getElem hiL, Option.some.injEq] at this
      exact this
    have hv : e.val = L[i].2 := by
      have := congrArg (fun l => l[i]?) h4
      simp only [List.getElem?_map, hi, Option.map_some, List.getElem?_eq_getElem hiL, Option.some.injEq] at this
      exact this
    rw [hk, hv] at hrun
    have hb1 : w1.heap[b]? = some (.map es c) := by rcases hw1 with rfl | rfl <;> exact h1
    have hr1 : w1.heap[r]? = some (.mapIter (some b) c seen c) := by rcases hw1 with rfl | rfl <;> exact h2
    have hne : r ≠ b := fun e => by rw [e, h1] at h2; cases h2
    have hrlt : r < w1.heap.size := (Array.getElem?_eq_some_iff.1 hr1).1
    have hb2 : (Go.ChangeMaps.setBlock w1 r (.mapIter (some b) c (seen.push e.born) c)).heap[b]? = some (.map es c) := by
      simp [Go.ChangeMaps.setBlock, hne, hb1]
    have hr2 : (Go.ChangeMaps.setBlock w1 r (.mapIter (some b) c (seen.push e.born) c)).heap[r]? = some (.mapIter (some b) c (seen.push e.born) c) := by
      simp [Go.ChangeMaps.setBlock, hrlt]
    have hen := run_entry_at (P := P) _ r b c seen es c e hr2 hb2 hes (born_nodup h5)
    rw [hk, hv] at hen
    have hlen : (e :: q).length ≤ es.toList.length := by
      refine List.Nodup.length_le_of_subset (l₁ := e :: q) (List.nodup_cons.2 ⟨hnq, h9⟩) fun x hx => ?_
      rcases List.mem_cons.1 hx with rfl | hx
      · exact hes
      · exact h8 x hx
    refine ⟨L[i].1, L[i].2, _, List.getElem_mem hiL, ?_, hrun, ⟨es, c, _, q ++ [e], hb2, hr2, h3, h4, h5, by simp [h6], by simp [h7, hk], fun x hx => ?_, ?_⟩, ?_, ?_, hen⟩
    · have := hlen; simp only [List.length_cons] at this; omega
    · rcases List.mem_append.1 hx with hx | hx
      · exact h8 x hx
      · simp at hx; subst hx; exact hes
    · rw [List.nodup_append]
      exact ⟨h9, by simp, fun a ha b hb => by simp at hb; subst hb; exact fun e' => hnq (e' ▸ ha)⟩
    · rcases hw1 with rfl | rfl
      · exact setBlock_grown h2
      · exact ⟨rfl, rfl, rfl, Nat.le_of_eq (by show W.heap.size = (W.heap.setIfInBounds r _).size; rw [Array.size_setIfInBounds]), fun q' hq' hne' => by
          have hne2 : r ≠ q' := fun e => hne' (by rw [e])
          show (W.heap.setIfInBounds r _)[q']? = W.heap[q']?
          rw [Array.getElem?_setIfInBounds_ne hne2]⟩
    · rcases hw1 with rfl | rfl
      · show (w1.heap.setIfInBounds r _).size = w1.heap.size; rw [Array.size_setIfInBounds]
      · show (W.heap.setIfInBounds r _).size = W.heap.size; rw [Array.size_setIfInBounds]
end
end Go.Oche

/- Chapter 12: the receipts in ascending order of their numbers (sorted). -/
namespace Go.Proofs.Ytagfcodpgochjaa
open Go.RowKit Go.Oche Go.Proofs
attribute [local go_sem] Oper.semAt_some

def encM : Mv × Nat → Array Value → (Nat → Prop) → World → Prop := fun e args _ _ => args = #[mvV e.1]
theorem sortE_length (E : Rec) : (sortE E).length = E.length := by simp [sortE]
theorem owns_sliceLen {W : World} {base n : Nat} {e : TypeId} {v : Value} {xs : List Value} (h : W.ownsRow base e 1 v n xs) : sliceLen v = n := by
  rcases h.2 with ⟨rfl, rfl⟩ | ⟨g, c, cur, rfl, _⟩ <;> rfl
theorem owns_blk_of {W : World} {base n : Nat} {e : TypeId} {v : Value} {xs : List Value} (h : W.ownsRow base e 1 v n xs) (g : Nat) (hg : v.ownBlock = some g) : base ≤ g ∧ g < W.heap.size := by
  rcases h.2 with ⟨rfl, rfl⟩ | ⟨g', c, cur, rfl, hb, hh, _⟩
  · cases hg
  · cases hg; exact ⟨hb, (Array.getElem?_eq_some_iff.1 hh).1⟩
def decI : Value → Int | .int _ i => i | _ => 0
set_option maxRecDepth 100000 in
set_option maxHeartbeats 1000000 in
theorem sorted_in (l M1 M2 : Nat) (va vb : Value) (E : Rec) (w : World) (Rs : Nat → Prop) (h : LedAt w l M1 M2 va vb E) (hE : E.length ≤ 1000) (r1 : Rs l) (r2 : Rs M1) :
    IterIn 44 Try.prog 44 #[.pointer (some ⟨l, 0, none⟩)] #[] encM (sortE E) Rs w := by
  intro ly J Jx O W hBW hO hRs hJ hJx hY h0
  have hl0 := h.below hBW
  have l2 : W.cell? ⟨l, 2, none⟩ = some (.map (some M1)) := by rw [cell_of_heap hl0.box]; rfl
  have n1 := (hRs l r1).2
  have n2 := (hRs M1 r2).2
  obtain ⟨W1, hrg, hS1, hb1, hz1⟩ := MapAt.range (P := Try.prog) (T := 102) (by rfl) hl0.mv
  have HL := Lib.hid hl0
  have HY := Lib.hid hY
  have HS := Lib.hid hS1
  have HB1 := Lib.hid hb1
  have HZ1 := Lib.hid hz1
  clear hl0 hY hRs h hS1 hb1 hz1
  refine callsIn_of_wp Try.func44 rfl trivial ?_ rfl
  simp only [Try.ntmps44, List.size_toArray, List.length_cons, List.length_nil, Nat.reduceAdd, Nat.reduceSub, Array.replicate_succ, Array.replicate_zero, List.push_toArray, List.append_toArray, List.nil_append, List.cons_append]
  gi_wp2
  clear hrg
  gi_loopw [4] (fun v0 wr => ∃ (ks : List Int) (v : Value), v = v0 ∧ ks.length ≤ E.length ∧ Hid (SeenAt (Value.int .i64) wr W.heap.size M1 (recL E) ks) ∧ Hid (wr.ownsRow (W.heap.size + 1) 3 1 v ks.length (ints ks)) ∧ Hid (Below W.heap.size W wr) ∧ Hid (W.heap.size + 1 ≤ wr.heap.size)) (fun v _ => E.length - sliceLen v)
  case atStart => exact ⟨[], _, rfl, Nat.zero_le _, HS, Lib.hid (World.ownsRow_nil _ _ _ _), HB1, Lib.hid (by rw [HZ1.out]; exact Nat.le_refl _)⟩
  case round =>
    obtain ⟨ks, v, hv0, hk, HSn, HO, HB, HZ⟩ := hrel
    subst hv0
    obtain ⟨wo, rfl⟩ : ∃ wo : World, wo = wr := ⟨_, rfl⟩
    have hlt := HSn.out.lt
    rcases HSn.out.next (P := Try.prog) (dec := decI) (fun k => rfl) 0 with ⟨hnx, hperm⟩ | ⟨x, vx, w2, hmem, hlen, hnx, hS2, hg2, hz2, hen⟩
    · have HP := Lib.hid hperm
      clear hperm hlt
      gi_wp2_with fail
      refine ⟨trivial, rfl, (callsIn_wide.2 (sort_any (W.heap.size + 1) ks.length v ks wo HO.out (by omega) HZ.out)).mono ?_⟩
      rintro e w5 ⟨rfl, hs5, hb5⟩
      rw [ascL_perm HP.out] at hs5
      obtain ⟨ns, hns⟩ : ∃ ns, ascL ((recL E).map (·.1)) = ns := ⟨_, rfl⟩
      rw [hns] at hs5
      have hnl : ns.length = E.length := by rw [← hns]; simp [recL]
      have hse : sortE E = ns.map fun k => (numE E k).getD ((0, 0, 0, 0), 0) := by rw [← hns]; simp [sortE, ascL, recL, Function.comp_def]
      obtain ⟨a, cap, rfl, h2, h3⟩ := hs5.form
      simp only [ints_length] at *
      rw [hnl] at h2 hs5
      unfold maxLen at h3
      have hB5 : Below W.heap.size W w5 := HB.out.trans (hb5.mono (Nat.le_succ _))
      have HS5 := Lib.hid (hs5.lt)
      have HSE := Lib.hid hse
      have HNL := Lib.hid hnl
      have hj5 : J [] O w5 := Stab.ext hJ h0 hB5
      have HB5 := Lib.hid hB5
      have HRel5 := Lib.hid (Rel.of_below hB5 hO)
      have hO5 : ∀ k, O k → k < w5.heap.size := fun k hk => Nat.lt_of_lt_of_le (hO k hk) hB5.size
      have HL5 := Lib.hid (HL.out.below hB5)
      have l2' := bAt hB5 l2
      clear hs5 hse hnl hB5 hb5 HS HB1 HZ1 HSn HO HB HZ HP hns l2
      rw [HNL.out]
      gi_wp2
      gi_loopw [25] (fun i wr => ∃ (k : Nat) (O₁ : Nat → Prop), k ≤ E.length ∧ i = .int .i64 k ∧ Rel O w5 O₁ wr ∧ J ((sortE E).take k) O₁ wr) (fun i _ => E.length - (intOf i).toNat)
      case atStart => exact ⟨0, O, Nat.zero_le _, rfl, Rel.refl hO5, by simpa using hj5⟩
      case round =>
        obtain ⟨k, O₁, hk, rfl, hr, hj⟩ := hrel
        obtain ⟨wi, rfl⟩ : ∃ wi : World, wi = wr := ⟨_, rfl⟩
        have HJ := Lib.hid hj
        clear hj
        by_cases hlt : k < E.length
        · have hkn : k < ns.length := by rw [HNL.out]; exact hlt
          have hSk : ∀ q, ((W.heap.size + 1 ≤ q) ∧ q < w5.heap.size) → ¬ O q := fun q hq ho => by have := hO q ho; omega
          obtain ⟨b, off, hal, _, hc⟩ := (HS5.out.rel hr hSk).cell hkn
          cases hal
          obtain ⟨x, hx⟩ : ∃ x, ns[k] = x := ⟨_, rfl⟩
          rw [hx] at hc
          obtain ⟨⟨⟨y0, y1, y2, y3⟩, yi⟩, hy⟩ : ∃ y, (numE E x).getD ((0, 0, 0, 0), 0) = y := ⟨_, rfl⟩
          have l2r := rAt hr l2' n1
          have hmr : MapAt (Value.int .i64) wi M1 (recL E) := HL5.out.mv.keep (hr.block M1 HL5.out.mv.lt n2)
          have hlk : (Instr.lookup 102 (.map (some M1)) (.int .i64 x) false).run Try.prog wi = .ok (.agg #[.int .i64 y0, .int .i64 y1, .int .i64 y2, .int .i64 y3]) wi := by
            have := MapAt.lookup int_key (T := 102) (E := 44) (by rfl) (zero_mv wi) hmr x false
            rw [this, look_rec]
            cases hq : numE E x with
            | none => rw [hq] at hy; simp at hy; obtain ⟨⟨rfl, rfl, rfl, rfl⟩, rfl⟩ := hy; rfl
            | some e => rw [hq] at hy; simp at hy; subst hy; rfl
          have hkl : k < (sortE E).length := by rw [sortE_length]; exact hlt
          have hat : (sortE E)[k] = ((y0, y1, y2, y3), yi) := by
            have := HSE.out
            simp only [this, List.getElem_map, hx, hy]
          have hsplit : sortE E = (sortE E).take k ++ ((y0, y1, y2, y3), yi) :: (sortE E).drop (k + 1) := by rw [← hat, ← List.drop_eq_getElem_cons hkl, List.take_append_drop]
          have htk : (sortE E).take k ++ [((y0, y1, y2, y3), yi)] = (sortE E).take (k + 1) := by rw [List.take_succ_eq_append_getElem hkl, hat]
          have HTK := Lib.hid htk
          obtain ⟨fn, tmps, assign, body, hy', hR⟩ := HY.out ((sortE E).take k) ((y0, y1, y2, y3), yi) ((sortE E).drop (k + 1)) #[.agg #[.int .i64 y0, .int .i64 y1, .int .i64 y2, .int .i64 y3]] O₁ wi hsplit (HRel5.out.trans hr) HJ.out rfl
          have HRo := Lib.hid hR
          clear hR hsplit hx htk hat hkl HJ hy hmr
          gi_wp2_with fail
          refine ⟨rfl, RoundIn.mono HRo.out ?_⟩
          rintro e W3 ⟨O', hr3, (⟨rfl, hj3⟩ | ⟨rfl, hj3⟩)⟩
          · have HJ3 := Lib.hid (show J ((sortE E).take (k + 1)) O' W3 by rw [← HTK.out]; exact hj3)
            have hr4 := hr.trans hr3
            clear hj3 hc l2r hlk hr hr3
            gi_wp2
            go_roundw
            case rel => exact ⟨k + 1, O', by omega, by go_num, hr4, HJ3.out⟩
            case measure => simp [intOf]; omega
          · have HJ3 := Lib.hid (show Jx ((sortE E).take (k + 1)) O' W3 by rw [← HTK.out]; exact hj3)
            have hr4 := HRel5.out.trans (hr.trans hr3)
            clear hj3 hc l2r hlk hr hr3
            gi_wp2
            refine bodyPost_ret (results_none rfl _ _ _) rfl ?_
            exact ⟨⟨_, rfl⟩, O', hr4, .inr ⟨_, List.take_prefix _ _, HJ3.out⟩⟩
        · obtain rfl : k = E.length := by omega
          have hr4 := HRel5.out.trans hr
          have HJ2 : Hid (J (sortE E) O₁ wi) := Lib.hid (by have := HJ.out; rwa [← sortE_length, List.take_length] at this)
          clear HJ hr
          gi_wp2
          go_end0
          exact ⟨⟨_, rfl⟩, O₁, hr4, .inl HJ2.out⟩
    · have HO2 := Lib.hid (owns_kept HO.out (W' := w2) (fun g hg => hg2.block g (by have := owns_blk_of HO.out g hg; omega) (by have := owns_blk_of HO.out g hg; simp; omega)))
      have HB2 := Lib.hid (HB.out.trans (below_grownBy hg2 (by have := HZ.out; omega) (fun q hq => by cases hq; exact Nat.le_refl _)))
      have HS2 := Lib.hid hS2
      have HZ2 := Lib.hid hz2
      clear hS2 hg2 hz2 hmem
      obtain ⟨k, hkl⟩ : ∃ k, ks.length = k := ⟨_, rfl⟩
      rw [hkl] at HO2 hlen
      rw [show (recL E).length = E.length by simp [recL]] at hlen
      have HKL := Lib.hid hkl
      clear hkl
      gi_wp2_with (refine wpListIn_append1 open_wide rfl (.tmp 17) (.tmp 19) 22 rfl (W.heap.size + 1) 3 (.int .i64 0) 8 Try.underlying22 info3 rfl _ k _ rfl (HO2.out.alloc _) w2.heap.size 0 1 (.int .i64 x) rfl (cell_new _ _ _) rfl (by omega) (by omega) (by have := HZ.out; have := HZ2.out; simp; omega) ?_)
      intro g cap w3 hown3 hgr3 _
      have hob := fun q (hq : v.ownBlock = some q) => owns_blk_of HO2.out q hq
      have hb3 : Below W.heap.size W w3 := (HB2.out.trans ((aB _ _).mono HB2.out.size)).trans (below_grownBy hgr3 (by have := HB2.out.size; simp; omega) fun q hq => by have := hob q hq; omega)
      have hz3 : w2.heap.size + 1 ≤ w3.heap.size := by have := hgr3.size; simpa using this
      have hS3 : SeenAt (Value.int .i64) w3 W.heap.size M1 (recL E) (ks ++ [x]) := by
        have hl3 := HS2.out.lt
        have hM : M1 < W.heap.size := HL.out.mv.lt
        exact (HS2.out.keep (W' := w2.alloc (.cells #[.int .i64 x] 3)) ((aB _ _).block _ hl3.2.1) ((aB _ _).block _ hl3.1)).keep (hgr3.block _ (by simp; omega) fun e => by have := hob _ e.symm; omega) (hgr3.block _ (by simp; omega) fun e => by have := hob _ e.symm; omega)
      have HS3 := Lib.hid hS3
      have HB3 := Lib.hid hb3
      have HO3 := Lib.hid (show w3.ownsRow (W.heap.size + 1) 3 1 (.slice (some ⟨g, 0, none⟩) (k + 1) cap) (ks ++ [x]).length (ints (ks ++ [x])) by
        rw [List.length_append, HKL.out]; simpa [ints] using hown3)
      have HZ3 := Lib.hid (show W.heap.size + 1 ≤ w3.heap.size by have := HB2.out.size; omega)
      have hv : sliceLen v = k := owns_sliceLen HO2.out
      clear hob hb3 hS3 hgr3 hown3 hz3 hlt
      gi_wp2
      go_roundw
      case rel => exact ⟨ks ++ [x], _, rfl, by rw [List.length_append, HKL.out]; simp; omega, HS3, HO3, HB3, HZ3⟩
      case measure => rw [hv]; simp [sliceLen]; omega
end Go.Proofs.Ytagfcodpgochjaa
