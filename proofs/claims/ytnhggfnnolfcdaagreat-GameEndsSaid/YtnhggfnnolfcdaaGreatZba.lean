/- The texts JRows, in build order. -/
import Derived.Test.YtnhggfnnolfcdaaGreatZaz

/- A slice of rows of one's own of which one grows: the rows; one append within a region that draws its order, loads before it. -/
namespace Go.Oche
open Go Go.RowKit
structure JOne (w0 : World) (g il ia : Nat) (base : Nat) (e : TypeId) (n : Nat) (xs : List Value) (u : Value) (L : Nat → Bool) (vs : Nat → Value) (W : World) : Prop where
 os : W.os = w0.os
 tape : W.tape = w0.tape
 output : W.output = w0.output
 size : w0.heap.size ≤ W.heap.size
 block : ∀ k,k < w0.heap.size → (L ia = false ∨ k ≠ g) → W.heap[k]? = w0.heap[k]?
 lit : L il = true → L ia = false → ∃ q,vs il = .slice (some ⟨q,0,none⟩) 1 1 ∧ W.cell? ⟨q,0,none⟩ = some u
 row : L ia = true → ∃ g' c',vs ia = .slice (some ⟨g',0,none⟩) (n + 1) c' ∧ W.ownsRow base e 1 (.slice (some ⟨g',0,none⟩) (n + 1) c') (n + 1) (xs ++ [u]) ∧ (g' = g ∨ w0.heap.size ≤ g')
section
variable {w0 W W' : World} {g il ia base n : Nat} {e : TypeId} {xs : List Value} {u : Value} {L : Nat → Bool} {vs vs' : Nat → Value}
theorem JOne.congr (hc : ∀ j,L j = true → vs j = vs' j) (h : JOne w0 g il ia base e n xs u L vs W) : JOne w0 g il ia base e n xs u L vs' W :=
 ⟨h.os,h.tape,h.output,h.size,h.block,fun hl ha => hc _ hl ▸ h.lit hl ha,fun hl => hc _ hl ▸ h.row hl⟩
theorem JOne.start : JOne w0 g il ia base e n xs u (fun _ => false) vs w0.drew :=
 ⟨rfl,rfl,rfl,Nat.le_refl _,fun _ _ _ => rfl,fun h => (by cases h),fun h => (by cases h)⟩
theorem JOne.grow (h : JOne w0 g il ia base e n xs u L vs W) (hb : Below W.heap.size W W') {i : Nat} {v : Value} (h1 : il ≠ i) (h2 : ia ≠ i) : JOne w0 g il ia base e n xs u (setB L i) (updV vs i v) W':=by
 refine ⟨hb.os.trans h.os,hb.tape.trans h.tape,hb.output.trans h.output,Nat.le_trans h.size hb.size, ?_, ?_, ?_⟩
 ·rw [setB_ne h2]; exact fun k hk ho => (hb.block k (Nat.lt_of_lt_of_le hk h.size)).trans (h.block k hk ho)
 ·rw [setB_ne h1,setB_ne h2,updV_ne h1]; exact fun hl ha => let ⟨q,a,b⟩ := h.lit hl ha; ⟨q,a,bAt hb b⟩
 ·rw [setB_ne h2,updV_ne h2]; exact fun hl => let ⟨g',c',a,b,c⟩ := h.row hl; ⟨g',c',a,ownsN_below b hb,c⟩
theorem JOne.read (h : JOne w0 g il ia base e n xs u L vs W) {i : Nat} {v : Value} (h1 : il ≠ i) (h2 : ia ≠ i) : JOne w0 g il ia base e n xs u (setB L i) (updV vs i v) W:=h.grow (Below.refl _ _) h1 h2
theorem JOne.mkLit (h : JOne w0 g il ia base e n xs u L vs W) (hb : Below W.heap.size W W') {q : Nat} (hc : W'.cell? ⟨q,0,none⟩ = some u) (h2 : ia ≠ il) :
  JOne w0 g il ia base e n xs u (setB L il) (updV vs il (.slice (some ⟨q,0,none⟩) 1 1)) W':=by
 refine ⟨hb.os.trans h.os,hb.tape.trans h.tape,hb.output.trans h.output,Nat.le_trans h.size hb.size, ?_, ?_, ?_⟩
 ·rw [setB_ne h2]; exact fun k hk ho => (hb.block k (Nat.lt_of_lt_of_le hk h.size)).trans (h.block k hk ho)
 ·rw [updV_eq]; exact fun _ _ => ⟨q,rfl,hc⟩
 ·rw [setB_ne h2,updV_ne h2]; exact fun hl => let ⟨g',c',a,b,c⟩ := h.row hl; ⟨g',c',a,ownsN_below b hb,c⟩
theorem JOne.app (h : JOne w0 g il ia base e n xs u L vs W) (hg : W.grownBy W' (some g)) {g' c' : Nat} (ho : W'.ownsRow base e 1 (.slice (some ⟨g',0,none⟩) (n + 1) c') (n + 1) (xs ++ [u])) (hat : g' = g ∨ g' = W.heap.size) (_h1 : il ≠ ia) (hL : L ia = false) :
  JOne w0 g il ia base e n xs u (setB L ia) (updV vs ia (.slice (some ⟨g',0,none⟩) (n + 1) c')) W':=by
 refine ⟨hg.os.trans h.os,hg.tape.trans h.tape,hg.output.trans h.output,Nat.le_trans h.size hg.size, ?_, ?_, ?_⟩
 ·rw [setB_eq]
  intro k hk ho
  have hk2 : k ≠ g:=ho.resolve_left (by simp)
  exact (hg.block k (Nat.lt_of_lt_of_le hk h.size) (by simpa using hk2)).trans (h.block k hk (.inl hL))
 ·rw [setB_eq]; exact fun _ h => by cases h
 ·rw [updV_eq]; exact fun _ => ⟨g',c',rfl,ho,hat.imp id fun e => by rw [e]; exact h.size⟩
theorem JOne.cell (h : JOne w0 g il ia base e n xs u L vs W) {b o : Nat} {v : Value} (hc : w0.cell? ⟨b,o,none⟩ = some v) (hb : b ≠ g) : W.cell? ⟨b,o,none⟩ = some v :=
 (World.cell?_of_block (w:=w0) (h.block b (World.block_lt_of_cell? w0 _ hc) (.inr hb))).trans hc
theorem JOne.own (h : JOne w0 g il ia base e n xs u L vs W) {base' k m : Nat} {e' : TypeId} {v : Value} {ys : List Value} (ho : w0.ownsRow base' e' k v m ys) (hne : L ia = false ∨ v.ownBlock ≠ some g) : W.ownsRow base' e' k v m ys :=
 ownsN_kept ho fun q hq => h.block q (ho.lt q hq).2 (hne.imp id fun hn e => hn (by rw [← e]; exact hq))
end
abbrev RowR:=Nat × Nat × List Int
def rowV (r : RowR) : Value:=.slice (some ⟨r.1,0,none⟩) r.2.2.length r.2.1
structure Rws (B : Nat) (e : TypeId) (W : World) (gs : Nat) (R : List RowR) : Prop where
 rows : ∀ r ∈ R,W.ownsRow B e 1 (rowV r) r.2.2.length (ints r.2.2)
 nd : (gs :: R.map (·.1)).Nodup
section
variable {B : Nat} {e e' : TypeId} {W W' : World} {gs gs' : Nat} {R : List RowR}
theorem Rws.lt (h : Rws B e W gs R) {r : RowR} (hr : r ∈ R) : B ≤ r.1 ∧ r.1 < W.heap.size:=(h.rows r hr).lt r.1 rfl
theorem Rws.ne (h : Rws B e W gs R) {r : RowR} (hr : r ∈ R) : r.1 ≠ gs:=fun e => (List.nodup_cons.1 h.nd).1 (by rw [← e]; exact List.mem_map_of_mem hr)
theorem Rws.kept (h : Rws B e W gs R) (hk : ∀ r ∈ R,W'.heap[r.1]? = W.heap[r.1]?) : Rws B e W' gs R :=
 ⟨fun r hr => ownsN_kept (h.rows r hr) fun g hg => by simp only [rowV,Value.ownBlock,Option.some.injEq] at hg; rw [← hg]; exact hk r hr,h.nd⟩
theorem Rws.below (h : Rws B e W gs R) (hb : Below W.heap.size W W') : Rws B e W' gs R:=h.kept fun _ hr => hb.block _ (h.lt hr).2
theorem Rws.other (h : Rws B e W gs R) (hg : W.grownBy W' (some gs)) (hat : gs' = gs ∨ gs' = W.heap.size) : Rws B e W' gs' R:=by
 have h1:=h.kept (W':=W') fun r hr => hg.block _ (h.lt hr).2 (by simpa using h.ne hr)
 refine ⟨h1.rows, ?_⟩
 rcases hat with rfl | rfl
 ·exact h1.nd
 ·refine List.nodup_cons.2 ⟨fun hm => ?_,(List.nodup_cons.1 h.nd).2⟩
  obtain ⟨r,hr,e⟩ := List.mem_map.1 hm
  have:=(h.lt hr).2
  omega
theorem Rws.snoc (h : Rws B e W gs R) (hs : gs < W.heap.size) (hB : B ≤ W.heap.size) : Rws B e (W.alloc (.cells #[] e)) gs (R ++ [(W.heap.size,0,[])]):=by
 have h1:=h.below (W':=W.alloc (.cells #[] e)) ((Below.refl _ _).alloc (Nat.le_refl _) _)
 refine ⟨fun r hr => ?_, ?_⟩
 ·rcases List.mem_append.1 hr with hr | hr
  ·exact h1.rows r hr
  ·rw [List.mem_singleton] at hr
   subst hr
   exact World.ownsRow_made W #[] 0 hB (Nat.zero_le _) rfl
 ·rw [List.map_append,← List.cons_append,List.nodup_append]
  refine ⟨h.nd,by simp,fun a ha b hb => ?_⟩
  simp only [List.map_cons,List.map_nil,List.mem_singleton] at hb
  subst hb
  rcases List.mem_cons.1 ha with rfl | ha
  ·omega
  ·obtain ⟨r,hr,rfl⟩ := List.mem_map.1 ha
   have:=(h.lt hr).2
   omega
theorem Rws.apart (h : Rws B e W gs R) {base n g c : Nat} {xs : List Value} (ho : W.ownsRow base e' 1 (.slice (some ⟨g,0,none⟩) n c) n xs) (he : e ≠ e') {r : RowR} (hr : r ∈ R) : r.1 ≠ g:=by
 rcases ownsN_ne (h.rows r hr) ho he with h1 | h1
 ·simp [rowV,Value.ownBlock] at h1
 ·simpa [rowV,Value.ownBlock] using h1
theorem Rws.slsl (h : Rws B e W gs R) {base g c n : Nat} (ho : W.ownsRow base e' 1 (.slice (some ⟨g,0,none⟩) n c) n (R.map rowV)) (hb : B ≤ base) : SlSl (fun k => B ≤ k) W (.slice (some ⟨g,0,none⟩) n c) (R.map (·.2.2)):=by
 refine ⟨R.map rowV,(Sl.of_owns ho).mono fun k hk => Nat.le_trans hb hk,by simp,fun i hi => ?_⟩
 have hi' : i < R.length:=by simpa using hi
 refine ⟨rowV R[i],by simp [hi'], ?_⟩
 simp only [List.getElem_map]
 exact Sl.of_owns (h.rows R[i] (List.getElem_mem hi'))
theorem Rws.last {r : RowR} {g' c' gp cp base n j : Nat} {x : Int} {W0 W1 : World} (h : Rws B e W0 gs (R ++ [r])) (hp : W0.ownsRow base e' 1 (.slice (some ⟨gp,0,none⟩) n cp) n ((R ++ [r]).map rowV)) (he : e ≠ e')
  (hblk : ∀ k,k < W0.heap.size → k ≠ r.1 → W1.heap[k]? = W0.heap[k]?) (ho : W1.ownsRow B e 1 (.slice (some ⟨g',0,none⟩) (r.2.2.length + 1) c') (r.2.2.length + 1) (ints r.2.2 ++ [.int .i64 x])) (hat : g' = r.1 ∨ W0.heap.size ≤ g') (hgs : gs < W0.heap.size) (hj : j = R.length) :
  (W1.setCell ⟨gp,j,none⟩ (.slice (some ⟨g',0,none⟩) (r.2.2.length + 1) c')).ownsRow base e' 1 (.slice (some ⟨gp,0,none⟩) n cp) n ((R ++ [(g',c',r.2.2 ++ [x])]).map rowV) ∧
  Rws B e (W1.setCell ⟨gp,j,none⟩ (.slice (some ⟨g',0,none⟩) (r.2.2.length + 1) c')) gs (R ++ [(g',c',r.2.2 ++ [x])]):=by
 subst hj
 have hrl:=h.lt (r:=r) (by simp)
 have hpl:=hp.lt gp rfl
 have hrp : r.1 ≠ gp:=h.apart hp he (by simp)
 have hgp : g' ≠ gp:=by
  rcases hat with e | e
  ·rw [e]; exact hrp
  ·omega
 have hp1 : W1.ownsRow base e' 1 (.slice (some ⟨gp,0,none⟩) n cp) n ((R ++ [r]).map rowV):=ownsN_kept hp fun q hq => by
  simp only [Value.ownBlock,Option.some.injEq] at hq
  rw [← hq]; exact hblk gp hpl.2 (Ne.symm hrp)
 refine ⟨?_, ?_, ?_⟩
 ·have:=(hp1.stored R.length (.slice (some ⟨g',0,none⟩) (r.2.2.length + 1) c')).1
  rw [List.map_append,List.set_append_right _ _ (by simp)] at this
  simpa [rowV] using this
 ·intro q hq
  have nd:=h.nd
  rw [List.map_append,← List.cons_append,List.nodup_append] at nd
  rcases List.mem_append.1 hq with hq | hq
  ·have hq1:=h.lt (r:=q) (by simp [hq])
   have hq2 : q.1 ≠ r.1:=nd.2.2 q.1 (List.mem_cons_of_mem _ (List.mem_map_of_mem hq)) r.1 (by simp)
   have hq3 : q.1 ≠ gp:=h.apart hp he (by simp [hq])
   refine ownsN_kept (h.rows q (by simp [hq])) fun k hk => ?_
   simp only [rowV,Value.ownBlock,Option.some.injEq] at hk
   rw [← hk,Below.heap_setCell _ _ _ _ hq3]
   exact hblk _ hq1.2 hq2
  ·rw [List.mem_singleton] at hq
   subst hq
   have : W1.ownsRow B e 1 (rowV (g',c',r.2.2 ++ [x])) (r.2.2 ++ [x]).length (ints (r.2.2 ++ [x])):=by simpa [rowV,ints] using ho
   exact ownsN_kept this fun k hk => by
    simp only [rowV,Value.ownBlock,Option.some.injEq] at hk
    rw [← hk]; exact Below.heap_setCell _ _ _ _ hgp
 ·have nd:=h.nd
  rw [List.map_append,← List.cons_append,List.nodup_append] at nd ⊢
  refine ⟨nd.1,by simp,fun a ha b hb => ?_⟩
  simp only [List.map_cons,List.map_nil,List.mem_singleton] at hb
  subst hb
  rcases hat with e2 | e2
  ·rw [e2]; exact nd.2.2 a ha r.1 (by simp)
  ·rcases List.mem_cons.1 ha with rfl | ha
   ·omega
   ·obtain ⟨q,hq,rfl⟩ := List.mem_map.1 ha
    have:=(h.lt (r:=q) (by simp [hq])).2
    omega
end
end Go.Oche
