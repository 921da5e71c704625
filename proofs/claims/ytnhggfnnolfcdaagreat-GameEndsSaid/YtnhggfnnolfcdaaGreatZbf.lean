/- The texts Law, Opn, OpA, OpG, OpE, in build order. -/
import Derived.Test.YtnhggfnnolfcdaaGreatZbe
import Derived.WalkKit
import Derived.ProofKit
import Derived.OpenShut
import Derived.Below
import Derived.ChangeSame
import Derived.ChangeAgain
import Derived.JoinedCond
import Derived.Test.YtnhggfnnolfcdaaGreatRows
import Derived.Lib.SmallJoins
import Derived.ChangeSlices
import Derived.JoinedOf
import Derived.JoinedAt
import Derived.Deep.Strs

/- A law that makes new memory alone: what was read before is read again. -/
namespace Go.Oche
open Go Go.RowKit Go.ChangeShapes

def kidsB (P : Program) (t : TypeId) : Bool:=match P.underlying t with
 | some (.slice e) => P.cellsOf e != 0 && decide (e < P.types.size)
 | some (.pointer e) => decide (e < P.types.size)
 | some (.struct fs) => fs.toList.all fun f => decide (f.type < P.types.size)
 | some (.array _ e) => decide (e < P.types.size)
 | some (.map _ e) => decide (e < P.types.size)
 | _ => true
def sizedB (P : Program) : Bool:=(List.range P.types.size).all (kidsB P)
theorem kids_of {P : Program} (h : sizedB P = true) {t : TypeId} (hl : t < P.types.size) : kidsB P t = true:=List.all_eq_true.1 h t (List.mem_range.2 hl)

theorem mapM_keep {α β : Type} {f g : α → Option β} : ∀ {l : List α} {ys : List β},l.mapM f = some ys → (∀ x ∈ l, ∀ y ∈ ys,f x = some y → g x = some y) → l.mapM g = some ys
 | [],ys,h,_ => by simpa using h
 | x :: l,ys,h,hk => by
  rw [List.mapM_cons] at h ⊢
  cases hx : f x with
  | none => rw [hx] at h; cases h
  | some y =>
   rw [hx] at h
   cases hl : l.mapM f with
   | none => rw [hl] at h; cases h
   | some zs =>
    rw [hl] at h
    cases h
    rw [hk x (by simp) y (by simp) hx,mapM_keep hl fun x' hx' y' hy' => hk x' (by simp [hx']) y' (by simp [hy'])]
    rfl
theorem mapM_len {α β : Type} {f : α → Option β} : ∀ {l : List α} {ys : List β},l.mapM f = some ys → ys.length = l.length
 | [],ys,h => by
  have : ys = []:=by simpa using h.symm
  rw [this]; rfl
 | x :: l,ys,h => by
  rw [List.mapM_cons] at h
  cases hx : f x with
  | none => rw [hx] at h; cases h
  | some y =>
   rw [hx] at h
   cases hl : l.mapM f with
   | none => rw [hl] at h; cases h
   | some zs => rw [hl] at h; cases h; simp [mapM_len hl]

section
variable {H : Type} {enc : TypeId × Value → H} {P : Program} {W W' : World} {base : Nat}
theorem cells_keep (hc : ∀ p v,W.cell? p = some v → W'.cell? p = some v) {a : Addr} {n : Nat} {cs : List Value} (h : W.cells? base a n = some cs) : W'.cells? base a n = some cs:=by
 unfold World.cells? at h ⊢
 split at h
 ·rename_i hb
  rw [if_pos hb]
  exact mapM_keep h fun i _ y _ hy => hc _ _ hy
 ·cases h
theorem bind_keep (hc : ∀ p v,W.cell? p = some v → W'.cell? p = some v) {a : Addr} {n : Nat} {f g : List Value → Option (DataW H × List MemPlace)} {x : DataW H × List MemPlace} (h : (W.cells? base a n).bind f = some x) (hk : ∀ cs,f cs = some x → g cs = some x) : (W'.cells? base a n).bind g = some x:=by
 cases hcs : W.cells? base a n with
 | none => rw [hcs] at h; cases h
 | some cs => rw [hcs] at h; rw [cells_keep hc hcs]; exact hk cs h

theorem trod_keep (hsz : sizedB P = true) (hc : ∀ p v,W.cell? p = some v → W'.cell? p = some v) (hm : ∀ (b : Nat) es c,W.heap[b]? = some (Obj.map es c) → W'.heap[b]? = some (Obj.map es c)) :
  ∀ (fuel : Nat) (t : TypeId) (cs : List Value) (x : DataW H × List MemPlace),t < P.types.size → DataW.trod enc P W base (fun _ => true) true fuel t cs = some x → ∀ sp : Nat → Bool,(∀ p ∈ x.2,sp p.block = true) →
   DataW.trod enc P W' base sp true fuel t cs = some x:=by
 intro fuel
 induction fuel with
 | zero => intro t cs x _ h; cases h
 | succ fuel ih =>
  intro t cs x htl h sp hsp
  have hkid:=kids_of hsz htl
  unfold kidsB at hkid
  unfold DataW.trod at h ⊢
  split at h
  all_goals try exact h
  ·rename_i e a hu
   rw [hu] at hkid
   have he : e < P.types.size:=by simpa using hkid
   obtain ⟨y,hy,rfl⟩ := Option.map_eq_some_iff.1 h
   refine Option.map_eq_some_iff.2 ⟨y,bind_keep hc hy fun cs hcs => ih _ _ _ he hcs sp fun p hp => hsp p (by simp [hp]),rfl⟩
  ·rename_i e a len cap hu
   rw [hu] at hkid
   obtain ⟨hz,he⟩ : P.cellsOf e ≠ 0 ∧ e < P.types.size:=by simpa using hkid
   simp only at h ⊢
   split at h
   ·rename_i hcond
    rw [if_pos hcond]
    obtain ⟨elems,hel,h⟩ := Option.bind_eq_some_iff.1 h
    obtain ⟨rest,hrest,rfl⟩ := Option.map_eq_some_iff.1 h
    simp only [if_true] at hrest
    have hl1:=mapM_len hel
    have hl2:=mapM_len hrest
    simp only [List.length_range] at hl1 hl2
    have hx : ∀ y ∈ elems ++ rest, ∀ p ∈ y.2,sp p.block = true:=fun y hy p hp => hsp p (List.mem_append_right _ (List.mem_flatMap.2 ⟨y,hy,hp⟩))
    refine Option.bind_eq_some_iff.2 ⟨elems,mapM_keep hel fun i _ y hy hi => bind_keep hc hi fun cs hcs => ih _ _ _ he hcs sp (hx y (by simp [hy])),Option.map_eq_some_iff.2 ⟨rest, ?_,rfl⟩⟩
    by_cases hs : sp a.block = true
    ·rw [if_pos hs]
     exact mapM_keep hrest fun i _ y hy hi => bind_keep hc hi fun cs hcs => ih _ _ _ he hcs sp (hx y (by simp [hy]))
    ·rw [if_neg hs]
     have h0 : cap - len = 0:=by
      rcases Nat.eq_zero_or_pos (cap - len) with h | h
      ·exact h
      ·exfalso
       apply hs
       have hpos : 0 < (elems.length + rest.length) * P.cellsOf e:=Nat.mul_pos (by omega) (by omega)
       refine hsp (.cell a.block (a.off + 0)) (List.mem_append_left _ ?_)
       unfold MemPlace.row
       exact List.mem_map.2 ⟨0,List.mem_range.2 hpos,rfl⟩
     have : rest = []:=List.eq_nil_of_length_eq_zero (by omega)
     rw [this]
   ·cases h
  ·rename_i fs hu
   rw [hu] at hkid
   have he : ∀ f ∈ fs.toList,f.type < P.types.size:=fun f hf => by simpa using List.all_eq_true.1 hkid f hf
   split at h
   ·rename_i hl
    rw [if_pos hl]
    obtain ⟨xs,hxs,rfl⟩ := Option.map_eq_some_iff.1 h
    exact Option.map_eq_some_iff.2 ⟨xs,mapM_keep hxs fun f hff y hy hf => ih _ _ _ (he f hff) hf sp fun p hp => hsp p (List.mem_flatMap.2 ⟨y,hy,hp⟩),rfl⟩
   ·cases h
  ·rename_i n e hu
   rw [hu] at hkid
   have he : e < P.types.size:=by simpa using hkid
   split at h
   ·rename_i hl
    rw [if_pos hl]
    obtain ⟨xs,hxs,rfl⟩ := Option.map_eq_some_iff.1 h
    exact Option.map_eq_some_iff.2 ⟨xs,mapM_keep hxs fun f _ y hy hf => ih _ _ _ he hf sp fun p hp => hsp p (List.mem_flatMap.2 ⟨y,hy,hp⟩),rfl⟩
   ·cases h
  ·rename_i k e b hu
   rw [hu] at hkid
   have he : e < P.types.size:=by simpa using hkid
   split at h
   ·rename_i es clock hb
    rw [hm _ _ _ hb]
    simp only
    split at h
    ·rename_i hcond
     rw [if_pos hcond]
     obtain ⟨entries,hen,h⟩ := Option.bind_eq_some_iff.1 h
     have hplaces : ∀ y ∈ entries, ∀ p ∈ y.2,sp p.block = true:=fun y hy p hp => hsp p (by
      dsimp only at h
      split at h
      ·cases h; exact List.mem_cons_of_mem _ (List.mem_flatMap.2 ⟨y,hy,hp⟩)
      ·cases h)
     refine Option.bind_eq_some_iff.2 ⟨entries,mapM_keep hen fun z _ y hy hz => ?_,h⟩
     obtain ⟨key,hk,hz⟩ := Option.bind_eq_some_iff.1 hz
     refine Option.bind_eq_some_iff.2 ⟨key,hk, ?_⟩
     split at hz
     ·rename_i hfm
      rw [if_pos hfm]
      obtain ⟨y',hy',rfl⟩ := Option.map_eq_some_iff.1 hz
      exact Option.map_eq_some_iff.2 ⟨y',ih _ _ _ he hy' sp (hplaces _ hy),rfl⟩
     ·cases hz
    ·cases h
   ·cases h
theorem trodAll_keep (hsz : sizedB P = true) (hc : ∀ p v,W.cell? p = some v → W'.cell? p = some v) (hm : ∀ (b : Nat) es c,W.heap[b]? = some (Obj.map es c) → W'.heap[b]? = some (Obj.map es c)) :
  ∀ (ts : List TypeId) (vs : List Value) (ds : List (DataW H)) (ps : List MemPlace),(∀ t ∈ ts,t < P.types.size) → DataW.TrodAll enc P W base (fun _ => true) true ts vs ds ps → ∀ sp : Nat → Bool,(∀ p ∈ ps,sp p.block = true) → DataW.TrodAll enc P W' base sp true ts vs ds ps
 | [],[],[],_,_,h,_,_ => h
 | t :: ts,v :: vs,d :: ds,ps,hts,⟨p,q,⟨fuel,h1⟩,h2,h3⟩,sp,hsp => by
  subst h3
  exact ⟨p,q,⟨fuel,trod_keep hsz hc hm fuel t _ _ (hts t (by simp)) h1 sp fun x hx => hsp x (by simp [hx])⟩,trodAll_keep hsz hc hm ts vs ds q (fun t ht => hts t (by simp [ht])) h2 sp fun x hx => hsp x (by simp [hx]),rfl⟩
 | [],[],_ :: _,_,_,h,_,_ => h.elim
 | [],_ :: _,ds,_,_,h,_,_ => by cases ds <;> exact h.elim
 | _ :: _,[],ds,_,_,h,_,_ => by cases ds <;> exact h.elim
 | _ :: _,_ :: _,[],_,_,h,_,_ => h.elim

theorem below_keptBut (hb : Below W.heap.size W W') (may : MemPlace → Prop) : W.keptBut W' may:=by
 refine ⟨hb.os,hb.output,fun i hi => ?_⟩
 have:=hb.block i hi
 rw [this]
 cases h : W.heap[i]? with
 | none => rfl
 | some o => cases o <;> simp

theorem law_post {f : Func} {s : ChangeSpec} {apart fresh handsOn again : Bool} {args : Array Value} {ds gs : List (DataW H)} {before : List MemPlace}
  (hsz : sizedB P = true) (hts : f.params.toList.all (fun t => decide (t < P.types.size)) = true) (hW : DataW.Whole enc P f.params.toList s.vars apart W args.toList ds gs before) (hv : s.vars = []) (hb : Below W.heap.size W W')
  (hres : (s.fn H ds).results = [.lit (.bool true)]) (hargs : (s.fn H ds).args = ds) (hvars : (s.fn H ds).vars = []) {bt : TypeId} (hrt : f.resultTypes = #[bt]) (hbt : P.underlying bt = some .bool) :
  s.post enc P f apart fresh handsOn again W args (.bool true) W':=by
 have hW0:=hW
 obtain ⟨p,q,hA,hV,hps,hfz,hnd⟩ := hW
 rw [hv] at hV
 have hg : gs = [] ∧ q = []:=by
  cases gs with
  | nil => exact ⟨rfl,hV⟩
  | cons g gs => exact hV.elim
 obtain ⟨rfl,rfl⟩ := hg
 rw [List.append_nil] at hps
 subst hps
 have hc : ∀ p v,W.cell? p = some v → W'.cell? p = some v:=fun p v h => (World.cell?_of_block (w:=W) (hb.block p.block (World.block_lt_of_cell? W p h))).trans h
 have hm : ∀ (b : Nat) es c,W.heap[b]? = some (Obj.map es c) → W'.heap[b]? = some (Obj.map es c):=fun b es c h => (hb.block b (Array.getElem?_eq_some_iff.1 h).1).trans h
 have hag : ∀ sp : Nat → Bool,(∀ x ∈ before,sp x.block = true) → DataW.TrodAll enc P W' 0 sp true f.params.toList args.toList ds before:=fun sp hsp => trodAll_keep hsz hc hm _ _ _ _ (fun t ht => by simpa using List.all_eq_true.1 hts t ht) hA sp hsp
 have hlt : ∀ x ∈ before,x.block < W.heap.size:=fun x hx => hW0.lt x hx
 have hold : ∀ x ∈ before,(fun b => decide (b < W.heap.size)) x.block = true:=fun x hx => by simpa using hlt x hx
 have hR : ∀ (b : Nat) (sp : Nat → Bool) (hd : Bool),DataW.TrodAll enc P W' b sp hd f.resultTypes.toList ((Value.bool true).resultList f.resultTypes.size) (s.fn H (ds ++ [])).results []:=fun b sp hd => by
  rw [List.append_nil,hres,hrt]
  exact trodAll_cons_mk (shut_bool hbt true) trodAll_mk0
 have hR2 : ∀ sp : Nat → Bool,(∀ x ∈ before,sp x.block = true) → DataW.TrodAll enc P W' 0 sp true f.params.toList args.toList (s.fn H (ds ++ [])).args before:=fun sp hsp => by
  rw [List.append_nil,hargs]; exact hag sp hsp
 have hVV : ∀ sp : Nat → Bool,DataW.TrodVars enc P W' sp s.vars (s.fn H (ds ++ [])).vars []:=fun sp => by
  rw [List.append_nil,hvars,hv]; rfl
 refine ⟨ds,[],before,[],before,[],hW0,hR _ _ _,hR2 _ hold,hVV _,below_keptBut hb _,fun _ => ?_⟩
 refine ⟨?_,_,_,([] ++ before) ++ [],⟨[] ++ before,[],trodAll_append (hR2 _ (fun _ _ => rfl)) (hR _ _ _),hVV _,rfl, ?_, ?_⟩, ?_⟩
 ·exact ok_one hrt rfl (okWide_bool_mk hbt _)
 ·intro b off hp
  have hp' : MemPlace.cell b off ∈ before:=by simpa using hp
  have hlt':=hlt _ hp'
  have : W'.frozen? ⟨b,off,none⟩ = W.frozen? ⟨b,off,none⟩ := World.frozen?_of_block (w:=W) (hb.block b hlt')
  rw [this]
  exact hfz b off hp'
 ·intro ha
  simpa using hnd ha
 ·intro x hx _
  simpa using hx
end
end Go.Oche

/- What a law's arguments read as: slices of elements of k cells, slices of slices, rows of numbers. -/
namespace Go.Proofs.YtnhggfnnolfcdaaGreat
open Go.RowKit Go.Oche Go.Proofs Go.ChangeShapes Go.WideShapes Go.ChangeAt

theorem own : ownKnob Tryz.prog.godebug = none:=by kernel_rfl
theorem sized : sizedB Tryz.prog = true:=by kernel_rfl
def I64' (n : Int) : Prop := -9223372036854775808 ≤ n ∧ n ≤ 9223372036854775807
theorem wf_u8 {n : Int} (h : (Lit.int .u8 n).wf = true) : 0 ≤ n ∧ n ≤ 255:=by
 have:=h
 simp [Lit.wf,IntKind.min,IntKind.max,IntKind.signed,IntKind.bits] at this
 exact this
theorem choose_rows {β : Type} {R : Nat → β → Prop} : ∀ n,(∀ i,i < n → ∃ b,R i b) → ∃ xs : List β,xs.length = n ∧ ∀ i b,xs[i]? = some b → R i b
 | 0,_ => ⟨[],rfl,fun i b h => by simp at h⟩
 | n + 1,h => by
  obtain ⟨xs,h1,h2⟩ := choose_rows n fun i hi => h i (by omega)
  obtain ⟨b,hb⟩ := h n (by omega)
  refine ⟨xs ++ [b],by simp [h1],fun i b' hi => ?_⟩
  by_cases hin : i < xs.length
  ·rw [List.getElem?_append_left hin] at hi
   exact h2 i b' hi
  ·have hlt:=(List.getElem?_eq_some_iff.1 hi).1
   simp at hlt
   obtain rfl : i = xs.length:=by omega
   simp at hi
   subst hi
   rw [h1]; exact hb
section
variable {H : Type} {enc : TypeId × Value → H} {W : World} {base : Nat} {spare : Nat → Bool} {held : Bool}
theorem open_rowsN {β : Type} (row : β → List Value) (k : Nat) (Q : β → Prop) {t e : TypeId} (ht : Tryz.prog.underlying t = some (.slice e)) (hce : Tryz.prog.cellsOf e = k) (hk : 0 < k)
  (hone : ∀ n cs (y : DataW H × List MemPlace),DataW.trod enc Tryz.prog W base spare held n e cs = some y → ∃ b,cs = row b ∧ Q b) (hrow : ∀ b,(row b).length = k) {n : Nat} {v : Value} {x : DataW H × List MemPlace} (h : DataW.trod enc Tryz.prog W base spare held n t [v] = some x) :
  ∃ xs : List β,SlN k (fun _ => True) W v (xs.map row) ∧ ∀ b ∈ xs,Q b:=by
 rcases DataW.trod_slice ht h with ⟨hcs,_⟩ | ⟨a,len,cap,elems,rest,m,_,hcs,_,_,hl,hm,hlen,hel,_,_⟩
 ·simp only [List.cons.injEq,and_true] at hcs
  subst hcs
  exact ⟨[],SlN.nil _ _ _,by simp⟩
 ·simp only [List.cons.injEq,and_true] at hcs
  subst hcs
  have hall : ∀ i,i < len → ∃ b,(∀ j x,(row b)[j]? = some x → W.cell? ((a.add (i * k)).add j) = some x) ∧ Q b:=fun i hi => by
   have hy:=hel i hi
   rw [List.getElem?_eq_getElem (by omega),hce,Option.bind_eq_some_iff] at hy
   obtain ⟨cs,hcs,hy⟩ := hy
   obtain ⟨b,rfl,hb⟩ := hone _ _ _ hy
   have:=(World.cells?_some hcs)
   refine ⟨b,fun j x hx => ?_,hb⟩
   have hj : j < k:=by rw [← hrow b]; exact (List.getElem?_eq_some_iff.1 hx).1
   rw [this.2.2 j hj]; exact hx
  obtain ⟨xs,h1,h2⟩ := choose_rows len hall
  refine ⟨xs,⟨some a,cap,by rw [List.length_map,h1],by rw [List.length_map,h1]; exact hl,hm,fun i r hr => ?_⟩,fun b hb => ?_⟩
  ·rw [List.getElem?_map,Option.map_eq_some_iff] at hr
   obtain ⟨b,hb,rfl⟩ := hr
   have hi : i < len:=by rw [← h1]; exact (List.getElem?_eq_some_iff.1 hb).1
   have h0 : 0 < xs.length:=by omega
   have hsp : a.spot = none:=by
    have hr0:=hrow xs[0]
    have:=(h2 0 xs[0] (List.getElem?_eq_getElem h0)).1 0 (row xs[0])[0] (List.getElem?_eq_getElem (by omega))
    rw [Nat.zero_mul] at this
    obtain ⟨b,o,s⟩ := a
    cases s with
    | none => rfl
    | some s =>
     simp [Addr.add,World.cell?] at this
     split at this <;> cases this
   obtain ⟨b',o,sp⟩ := a
   simp only at hsp
   subst hsp
   refine ⟨hrow b,b',o,rfl,trivial,fun j x hx => ?_⟩
   have:=(h2 i b hb).1 j x hx
   rw [addr_at,addr_at] at this
   exact this
  ·obtain ⟨i,hi⟩ := List.getElem?_of_mem hb
   exact (h2 i b hi).2
theorem open_cellsT {t : TypeId} {v : Value} {d : DataW H} {p : List MemPlace} (h : DataW.Trod enc Tryz.prog W base spare held t v d p) (hv : v.cells = #[v]) : ∃ n y,DataW.trod enc Tryz.prog W base spare held n t [v] = some y:=by
 obtain ⟨n,h⟩ := h
 rw [hv] at h
 exact ⟨n,_,h⟩
end
end Go.Proofs.YtnhggfnnolfcdaaGreat

/- What a law's arguments read as: arrays of numbers, slices of them. -/
namespace Go.Proofs.YtnhggfnnolfcdaaGreat
open Go.RowKit Go.Oche Go.Proofs Go.ChangeShapes Go.WideShapes Go.ChangeAt
def row2 (kd : IntKind) (x : Int × Int) : List Value:=[.int kd x.1,.int kd x.2]
def row3 (kd : IntKind) (x : Int × Int × Int) : List Value:=[.int kd x.1,.int kd x.2.1,.int kd x.2.2]
def row4 (kd : IntKind) (x : Int × Int × Int × Int) : List Value:=[.int kd x.1,.int kd x.2.1,.int kd x.2.2.1,.int kd x.2.2.2]
section
variable {H : Type} {enc : TypeId × Value → H} {W : World} {base : Nat} {spare : Nat → Bool} {held : Bool}
theorem open_arr {kd : IntKind} {k : Nat} {t e : TypeId} (ht : Tryz.prog.underlying t = some (.array k e)) (he : Tryz.prog.underlying e = some (.int kd)) (hc : Tryz.prog.cellsOf t = k) (hce : Tryz.prog.cellsOf e = 1)
  {n : Nat} {cs : List Value} {y : DataW H × List MemPlace} (h : DataW.trod enc Tryz.prog W base spare held n t cs = some y) : ∃ zs : List Int,zs.length = k ∧ cs = zs.map (Value.int kd) ∧ ∀ z ∈ zs,(Lit.int kd z).wf = true:=by
 obtain ⟨xs,m,_,_,hl,hx,hi⟩ := DataW.trod_array ht h
 rw [hc] at hl
 have hall : ∀ i,i < k → ∃ z,cs[i]? = some (.int kd z) ∧ (Lit.int kd z).wf = true:=fun i hik => by
  have:=hi i hik
  rw [hce,Nat.mul_one,List.getElem?_eq_getElem (by omega)] at this
  have e1 : (cs.drop i).take 1 = [cs[i]]:=by
   rw [List.drop_eq_getElem_cons (by omega)]; rfl
  rw [e1] at this
  obtain ⟨z,hz,_,hw⟩ := DataW.trod_int he this
  simp only [List.cons.injEq,and_true] at hz
  exact ⟨z,by rw [List.getElem?_eq_getElem (by omega),hz],hw⟩
 obtain ⟨zs,h1,h2⟩ := choose_rows k hall
 refine ⟨zs,h1,List.ext_getElem? fun i => ?_,fun z hz => ?_⟩
 ·by_cases hik : i < k
  ·rw [List.getElem?_map,List.getElem?_eq_getElem (by omega : i < zs.length)]
   exact (h2 i zs[i] (List.getElem?_eq_getElem (by omega))).1
  ·rw [List.getElem?_eq_none (by omega),List.getElem?_eq_none (by simp; omega)]
 ·obtain ⟨i,hiz⟩ := List.getElem?_of_mem hz
  exact (h2 i z hiz).2
set_option maxRecDepth 100000 in
theorem open_nums {kd : IntKind} {t e : TypeId} (ht : Tryz.prog.underlying t = some (.slice e)) (he : Tryz.prog.underlying e = some (.int kd)) (hce : Tryz.prog.cellsOf e = 1) {n : Nat} {v : Value} {x : DataW H × List MemPlace} (h : DataW.trod enc Tryz.prog W base spare held n t [v] = some x) :
  ∃ xs : List Int,Sl (fun _ => True) W v (xs.map (Value.int kd)) ∧ ∀ b ∈ xs,(Lit.int kd b).wf = true:=by
 obtain ⟨xs,h1,h2⟩ := open_rowsN (fun z : Int => [.int kd z]) 1 (fun b => (Lit.int kd b).wf = true) ht hce (by decide) (fun n cs y hy => by
  obtain ⟨z,hz,_,hw⟩ := DataW.trod_int he hy
  exact ⟨z,hz,hw⟩) (fun b => rfl) h
 refine ⟨xs,SlN.to1 ?_,h2⟩
 have e : (xs.map (Value.int kd)).map (fun x => [x]) = xs.map (fun z => [.int kd z]):=by simp
 rw [e]; exact h1
set_option maxRecDepth 100000 in
theorem okWide_arr {k : Nat} {t e : TypeId} (ht : Tryz.prog.underlying t = some (.array k e)) (hc : Tryz.prog.cellsOf t = k) {r : Reach} {b0 : Nat} {v : Value} (h : Value.okWide Tryz.prog W r b0 t v) : ∃ xs : Array Value,v = .agg xs ∧ xs.size = k:=by
 simp only [Value.okWide,ht] at h
 obtain ⟨cs,h1,h2,_⟩ := h
 exact ⟨cs,h1,by rw [h2,hc]⟩
end
end Go.Proofs.YtnhggfnnolfcdaaGreat

/- Chapter 4: arguments in bytes. -/
namespace Go.Proofs.YtnhggfnnolfcdaaGreat
open Go.RowKit Go.Oche Go.Proofs Go.ChangeShapes Go.WideShapes Go.ChangeAt
section
variable {H : Type} {enc : TypeId × Value → H} {W : World} {base : Nat} {spare : Nat → Bool} {held : Bool} {n : Nat} {v : Value} {x : DataW H × List MemPlace}
theorem nat_u8 {z : Int} (h : (Lit.int .u8 z).wf = true) : ∃ k : Nat,z = k ∧ k ≤ 255:=by
 have:=wf_u8 h; exact ⟨z.toNat,by omega,by omega⟩
theorem open_u8c (h : DataW.trod enc Tryz.prog W base spare held n 5 [v] = some x) : ∃ k : Nat,v = .int .u8 k ∧ k ≤ 255:=by
 obtain ⟨z,hz,_,hw⟩ := DataW.trod_int Tryz.underlying5 h
 simp only [List.cons.injEq,and_true] at hz
 obtain ⟨k,rfl,hk⟩ := nat_u8 hw
 exact ⟨k,hz,hk⟩
set_option maxRecDepth 100000 in
theorem open_small {r : Reach} {b0 : Nat} {d : DataW H} {p : List MemPlace} (hv : Value.okWide Tryz.prog W r b0 23 v) (h : DataW.Trod enc Tryz.prog W base spare held 23 v d p) :
  ∃ k p l f : Nat,v = .agg #[.int .u8 k,.int .u8 p,.int .u8 l,.int .u8 f] ∧ k ≤ 255 ∧ p ≤ 255 ∧ l ≤ 255 ∧ f ≤ 255:=by
 obtain ⟨c0,c1,c2,c3,y0,y1,y2,y3,n,rfl,_,_,k0,k1,k2,k3⟩ := Joins.open_agg4 Tryz.underlying23 (by kernel_rfl) (by kernel_rfl) hv h
 obtain ⟨a,rfl,ha⟩ := open_u8c k0
 obtain ⟨b,rfl,hb⟩ := open_u8c k1
 obtain ⟨c,rfl,hc⟩ := open_u8c k2
 obtain ⟨d,rfl,hd⟩ := open_u8c k3
 exact ⟨a,b,c,d,rfl,ha,hb,hc,hd⟩
theorem open_u8n (h : DataW.trod enc Tryz.prog W base spare held n 24 [v] = some x) : ∃ ys : List Nat,Sl (fun _ => True) W v (ys.map fun (y : Nat) => Value.int .u8 y) ∧ ∀ y ∈ ys,y ≤ 255:=by
 obtain ⟨xs,h1,h2⟩ := open_nums Tryz.underlying24 Tryz.underlying5 (by kernel_rfl) h
 refine ⟨xs.map Int.toNat, ?_,fun y hy => ?_⟩
 ·have e : (xs.map Int.toNat).map (fun (y : Nat) => Value.int .u8 y) = xs.map (Value.int .u8):=by
   rw [List.map_map]
   refine List.map_congr_left fun z hz => ?_
   have:=wf_u8 (h2 z hz)
   show Value.int .u8 ((z.toNat : Nat) : Int) = Value.int .u8 z
   rw [Int.toNat_of_nonneg this.1]
  rw [e]; exact h1
 ·obtain ⟨z,hz,rfl⟩ := List.mem_map.1 hy
  have:=wf_u8 (h2 z hz); omega
end
end Go.Proofs.YtnhggfnnolfcdaaGreat

/- Chapter 4: six bytes by value. -/
namespace Go.Proofs.YtnhggfnnolfcdaaGreat
open Go.RowKit Go.Oche Go.Proofs Go.ChangeShapes Go.WideShapes Go.ChangeAt
section
variable {H : Type} {enc : TypeId × Value → H} {W : World} {base : Nat} {spare : Nat → Bool} {held : Bool} {n : Nat} {v : Value} {x : DataW H × List MemPlace}
theorem list_six {cs : List Nat} (h : cs.length = 6) : ∃ a b c d e f,cs = [a,b,c,d,e,f]:=by
 match cs,h with
 | [a,b,c,d,e,f],_ => exact ⟨a,b,c,d,e,f,rfl⟩
set_option maxRecDepth 100000 in
theorem open_six {r : Reach} {b0 : Nat} {d : DataW H} {p : List MemPlace} (hv : Value.okWide Tryz.prog W r b0 25 v) (h : DataW.Trod enc Tryz.prog W base spare held 25 v d p) :
  ∃ s0 s1 s2 s3 s4 s5 : Nat,v = .agg #[.int .u8 s0,.int .u8 s1,.int .u8 s2,.int .u8 s3,.int .u8 s4,.int .u8 s5] ∧ s0 ≤ 255 ∧ s1 ≤ 255 ∧ s2 ≤ 255 ∧ s3 ≤ 255 ∧ s4 ≤ 255 ∧ s5 ≤ 255:=by
 obtain ⟨xs,rfl,_⟩ := okWide_arr Tryz.underlying25 (by kernel_rfl) hv
 obtain ⟨m,hm⟩ := h
 obtain ⟨zs,h1,h2,h3⟩ := open_arr Tryz.underlying25 Tryz.underlying5 (by kernel_rfl) (by kernel_rfl) hm
 obtain ⟨a,b,c,d,e,f,hz⟩ := list_six (cs:=zs.map Int.toNat) (by simpa using h1)
 have h2 : xs.toList = zs.map (Value.int .u8):=h2
 have hx : xs.toList = (zs.map Int.toNat).map (fun (q : Nat) => Value.int .u8 q):=by
  rw [h2,List.map_map]
  refine List.map_congr_left fun z hz => ?_
  have:=wf_u8 (h3 z hz)
  show Value.int .u8 z = Value.int .u8 ((z.toNat : Nat) : Int)
  rw [Int.toNat_of_nonneg this.1]
 have hb : ∀ q ∈ zs.map Int.toNat,q ≤ 255:=fun q hq => by
  obtain ⟨z,hz,rfl⟩ := List.mem_map.1 hq
  have:=wf_u8 (h3 z hz); omega
 rw [hz] at hx hb
 refine ⟨a,b,c,d,e,f, ?_,hb a (by simp),hb b (by simp),hb c (by simp),hb d (by simp),hb e (by simp),hb f (by simp)⟩
 congr 1
 exact Array.toList_inj.1 hx
end
end Go.Proofs.YtnhggfnnolfcdaaGreat
