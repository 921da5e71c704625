/- The texts Law, LibA, Opn, OpA, LibB, VA, VB, MpR, in build order. -/
import Derived.Test.YtnbmgkmcaoafnaaGreatDoorZag
import Derived.WalkKit
import Derived.ProofKit
import Derived.OpenShut
import Derived.Below
import Derived.ChangeSame
import Derived.ChangeAgain
import Derived.JoinedCond
import Derived.Test.YtnbmgkmcaoafnaaGreatDoorProg
import Derived.WalkSpells
import Derived.WalkLawsBesides
import Derived.BigQuiet
import Derived.Deep.QuietTactic
import Derived.Outline
import Derived.LoopTactic
import Derived.Test.YtnbmgkmcaoafnaaGreatDoorRows
import Derived.Lib.SmallJoins
import Derived.ChangeSlices
import Derived.JoinedOf
import Derived.JoinedAt
import Derived.Deep.Strs
import Derived.Maps.RangeRun

/- A law that makes new memory alone: what was read before is read again. -/
namespace Go.Oche
open Go Go.RowKit Go.ChangeShapes

def kidsB (P : Program) (t : TypeId) : Bool:=match P.underlying t with
 | some (.slice e) => P.cellsOf e != 0 && decide (e < P.types.size)
 | some (.pointer e) => decide (e < P.types.size)
 | some (.struct fs) => fs.toList.all fun f => decide (f.type < P.types.size)
 | some (.array _ e) => decide (e < P.types.size)
 | some (.map _ e) => decide (e < P.types.size)
 | _ => true
def sizedB (P : Program) : Bool:=(List.range P.types.size).all (kidsB P)
theorem kids_of {P : Program} (h : sizedB P = true) {t : TypeId} (hl : t < P.types.size) : kidsB P t = true:=List.all_eq_true.1 h t (List.mem_range.2 hl)

theorem mapM_keep {α β : Type} {f g : α → Option β} : ∀ {l : List α} {ys : List β},l.mapM f = some ys → (∀ x ∈ l, ∀ y ∈ ys,f x = some y → g x = some y) → l.mapM g = some ys
 | [],ys,h,_ => by simpa using h
 | x :: l,ys,h,hk => by
  rw [List.mapM_cons] at h ⊢;cases hx : f x with
  | none => rw [hx] at h; cases h
  | some y =>
   rw [hx] at h;cases hl : l.mapM f with
   | none => rw [hl] at h; cases h
   | some zs =>
    rw [hl] at h;cases h;rw [hk x (by simp) y (by simp) hx,mapM_keep hl fun x' hx' y' hy' => hk x' (by simp [hx']) y' (by simp [hy'])]
    rfl
theorem mapM_len {α β : Type} {f : α → Option β} : ∀ {l : List α} {ys : List β},l.mapM f = some ys → ys.length = l.length
 | [],ys,h => by
  have : ys = []:=by simpa using h.symm
  rw [this]; rfl
 | x :: l,ys,h => by
  rw [List.mapM_cons] at h;cases hx : f x with
  | none => rw [hx] at h; cases h
  | some y =>
   rw [hx] at h;cases hl : l.mapM f with
   | none => rw [hl] at h; cases h
   | some zs => rw [hl] at h; cases h; simp [mapM_len hl]

section
variable {H : Type} {enc : TypeId × Value → H} {P : Program} {W W' : World} {base : Nat}
theorem cells_keep (hc : ∀ p v,W.cell? p = some v → W'.cell? p = some v) {a : Addr} {n : Nat} {cs : List Value} (h : W.cells? base a n = some cs) : W'.cells? base a n = some cs:=by
 unfold World.cells? at h ⊢;split at h
 ·rename_i hb
  rw [if_pos hb];exact mapM_keep h fun i _ y _ hy => hc _ _ hy
 ·cases h
theorem bind_keep (hc : ∀ p v,W.cell? p = some v → W'.cell? p = some v) {a : Addr} {n : Nat} {f g : List Value → Option (DataW H × List MemPlace)} {x : DataW H × List MemPlace} (h : (W.cells? base a n).bind f = some x) (hk : ∀ cs,f cs = some x → g cs = some x) : (W'.cells? base a n).bind g = some x:=by
 cases hcs : W.cells? base a n with
 | none => rw [hcs] at h; cases h
 | some cs => rw [hcs] at h; rw [cells_keep hc hcs]; exact hk cs h

theorem trod_keep (hsz : sizedB P = true) (hc : ∀ p v,W.cell? p = some v → W'.cell? p = some v) (hm : ∀ (b : Nat) es c,W.heap[b]? = some (Obj.map es c) → W'.heap[b]? = some (Obj.map es c)) :
  ∀ (fuel : Nat) (t : TypeId) (cs : List Value) (x : DataW H × List MemPlace),t < P.types.size → DataW.trod enc P W base (fun _ => true) true fuel t cs = some x → ∀ sp : Nat → Bool,(∀ p ∈ x.2,sp p.block = true) →
   DataW.trod enc P W' base sp true fuel t cs = some x:=by
 intro fuel
 induction fuel with
 | zero => intro t cs x _ h; cases h
 | succ fuel ih =>
  intro t cs x htl h sp hsp
  have hkid:=kids_of hsz htl;unfold kidsB at hkid;unfold DataW.trod at h ⊢;split at h
  all_goals try exact h
  ·rename_i e a hu
   rw [hu] at hkid;have he : e < P.types.size:=by simpa using hkid
   obtain ⟨y,hy,rfl⟩ := Option.map_eq_some_iff.1 h;refine Option.map_eq_some_iff.2 ⟨y,bind_keep hc hy fun cs hcs => ih _ _ _ he hcs sp fun p hp => hsp p (by simp [hp]),rfl⟩
  ·rename_i e a len cap hu
   rw [hu] at hkid;obtain ⟨hz,he⟩ : P.cellsOf e ≠ 0 ∧ e < P.types.size:=by simpa using hkid
   simp only at h ⊢;split at h
   ·rename_i hcond
    rw [if_pos hcond];obtain ⟨elems,hel,h⟩ := Option.bind_eq_some_iff.1 h;obtain ⟨rest,hrest,rfl⟩ := Option.map_eq_some_iff.1 h;simp only [if_true] at hrest;have hl1:=mapM_len hel;have hl2:=mapM_len hrest;simp only [List.length_range] at hl1 hl2;have hx : ∀ y ∈ elems ++ rest, ∀ p ∈ y.2,sp p.block = true:=fun y hy p hp => hsp p (List.mem_append_right _ (List.mem_flatMap.2 ⟨y,hy,hp⟩))
    refine Option.bind_eq_some_iff.2 ⟨elems,mapM_keep hel fun i _ y hy hi => bind_keep hc hi fun cs hcs => ih _ _ _ he hcs sp (hx y (by simp [hy])),Option.map_eq_some_iff.2 ⟨rest, ?_,rfl⟩⟩
    by_cases hs : sp a.block = true
    ·rw [if_pos hs]
     exact mapM_keep hrest fun i _ y hy hi => bind_keep hc hi fun cs hcs => ih _ _ _ he hcs sp (hx y (by simp [hy]))
    ·rw [if_neg hs]
     have h0 : cap - len = 0:=by
      rcases Nat.eq_zero_or_pos (cap - len) with h | h
      ·exact h
      ·exfalso
       apply hs
       have hpos : 0 < (elems.length + rest.length) * P.cellsOf e:=Nat.mul_pos (by omega) (by omega)
       refine hsp (.cell a.block (a.off + 0)) (List.mem_append_left _ ?_)
       unfold MemPlace.row;exact List.mem_map.2 ⟨0,List.mem_range.2 hpos,rfl⟩
     have : rest = []:=List.eq_nil_of_length_eq_zero (by omega)
     rw [this]
   ·cases h
  ·rename_i fs hu
   rw [hu] at hkid;have he : ∀ f ∈ fs.toList,f.type < P.types.size:=fun f hf => by simpa using List.all_eq_true.1 hkid f hf
   split at h
   ·rename_i hl
    rw [if_pos hl];obtain ⟨xs,hxs,rfl⟩ := Option.map_eq_some_iff.1 h;exact Option.map_eq_some_iff.2 ⟨xs,mapM_keep hxs fun f hff y hy hf => ih _ _ _ (he f hff) hf sp fun p hp => hsp p (List.mem_flatMap.2 ⟨y,hy,hp⟩),rfl⟩
   ·cases h
  ·rename_i n e hu
   rw [hu] at hkid;have he : e < P.types.size:=by simpa using hkid
   split at h
   ·rename_i hl
    rw [if_pos hl];obtain ⟨xs,hxs,rfl⟩ := Option.map_eq_some_iff.1 h;exact Option.map_eq_some_iff.2 ⟨xs,mapM_keep hxs fun f _ y hy hf => ih _ _ _ he hf sp fun p hp => hsp p (List.mem_flatMap.2 ⟨y,hy,hp⟩),rfl⟩
   ·cases h
  ·rename_i k e b hu
   rw [hu] at hkid;have he : e < P.types.size:=by simpa using hkid
   split at h
   ·rename_i es clock hb
    rw [hm _ _ _ hb];simp only;split at h
    ·rename_i hcond
     rw [if_pos hcond];obtain ⟨entries,hen,h⟩ := Option.bind_eq_some_iff.1 h;have hplaces : ∀ y ∈ entries, ∀ p ∈ y.2,sp p.block = true:=fun y hy p hp => hsp p (by
      dsimp only at h
      split at h
      ·cases h; exact List.mem_cons_of_mem _ (List.mem_flatMap.2 ⟨y,hy,hp⟩)
      ·cases h)
     refine Option.bind_eq_some_iff.2 ⟨entries,mapM_keep hen fun z _ y hy hz => ?_,h⟩
     obtain ⟨key,hk,hz⟩ := Option.bind_eq_some_iff.1 hz;refine Option.bind_eq_some_iff.2 ⟨key,hk, ?_⟩
     split at hz
     ·rename_i hfm
      rw [if_pos hfm];obtain ⟨y',hy',rfl⟩ := Option.map_eq_some_iff.1 hz;exact Option.map_eq_some_iff.2 ⟨y',ih _ _ _ he hy' sp (hplaces _ hy),rfl⟩
     ·cases hz
    ·cases h
   ·cases h
theorem trodAll_keep (hsz : sizedB P = true) (hc : ∀ p v,W.cell? p = some v → W'.cell? p = some v) (hm : ∀ (b : Nat) es c,W.heap[b]? = some (Obj.map es c) → W'.heap[b]? = some (Obj.map es c)) :
  ∀ (ts : List TypeId) (vs : List Value) (ds : List (DataW H)) (ps : List MemPlace),(∀ t ∈ ts,t < P.types.size) → DataW.TrodAll enc P W base (fun _ => true) true ts vs ds ps → ∀ sp : Nat → Bool,(∀ p ∈ ps,sp p.block = true) → DataW.TrodAll enc P W' base sp true ts vs ds ps
 | [],[],[],_,_,h,_,_ => h
 | t :: ts,v :: vs,d :: ds,ps,hts,⟨p,q,⟨fuel,h1⟩,h2,h3⟩,sp,hsp => by
  subst h3;exact ⟨p,q,⟨fuel,trod_keep hsz hc hm fuel t _ _ (hts t (by simp)) h1 sp fun x hx => hsp x (by simp [hx])⟩,trodAll_keep hsz hc hm ts vs ds q (fun t ht => hts t (by simp [ht])) h2 sp fun x hx => hsp x (by simp [hx]),rfl⟩
 | [],[],_ :: _,_,_,h,_,_ => h.elim
 | [],_ :: _,ds,_,_,h,_,_ => by cases ds <;> exact h.elim
 | _ :: _,[],ds,_,_,h,_,_ => by cases ds <;> exact h.elim
 | _ :: _,_ :: _,[],_,_,h,_,_ => h.elim

theorem below_keptBut (hb : Below W.heap.size W W') (may : MemPlace → Prop) : W.keptBut W' may:=by
 refine ⟨hb.os,hb.output,fun i hi => ?_⟩
 have:=hb.block i hi;rw [this];cases h : W.heap[i]? with
 | none => rfl
 | some o => cases o <;> simp

theorem law_post {f : Func} {s : ChangeSpec} {apart fresh handsOn again : Bool} {args : Array Value} {ds gs : List (DataW H)} {before : List MemPlace}
  (hsz : sizedB P = true) (hts : f.params.toList.all (fun t => decide (t < P.types.size)) = true) (hW : DataW.Whole enc P f.params.toList s.vars apart W args.toList ds gs before) (hv : s.vars = []) (hb : Below W.heap.size W W')
  (hres : (s.fn H ds).results = [.lit (.bool true)]) (hargs : (s.fn H ds).args = ds) (hvars : (s.fn H ds).vars = []) {bt : TypeId} (hrt : f.resultTypes = #[bt]) (hbt : P.underlying bt = some .bool) :
  s.post enc P f apart fresh handsOn again W args (.bool true) W':=by
 have hW0:=hW;obtain ⟨p,q,hA,hV,hps,hfz,hnd⟩ := hW;rw [hv] at hV;have hg : gs = [] ∧ q = []:=by
  cases gs with
  | nil => exact ⟨rfl,hV⟩
  | cons g gs => exact hV.elim
 obtain ⟨rfl,rfl⟩ := hg;rw [List.append_nil] at hps;subst hps;have hc : ∀ p v,W.cell? p = some v → W'.cell? p = some v:=fun p v h => (World.cell?_of_block (w:=W) (hb.block p.block (World.block_lt_of_cell? W p h))).trans h
 have hm : ∀ (b : Nat) es c,W.heap[b]? = some (Obj.map es c) → W'.heap[b]? = some (Obj.map es c):=fun b es c h => (hb.block b (Array.getElem?_eq_some_iff.1 h).1).trans h
 have hag : ∀ sp : Nat → Bool,(∀ x ∈ before,sp x.block = true) → DataW.TrodAll enc P W' 0 sp true f.params.toList args.toList ds before:=fun sp hsp => trodAll_keep hsz hc hm _ _ _ _ (fun t ht => by simpa using List.all_eq_true.1 hts t ht) hA sp hsp
 have hlt : ∀ x ∈ before,x.block < W.heap.size:=fun x hx => hW0.lt x hx
 have hold : ∀ x ∈ before,(fun b => decide (b < W.heap.size)) x.block = true:=fun x hx => by simpa using hlt x hx
 have hR : ∀ (b : Nat) (sp : Nat → Bool) (hd : Bool),DataW.TrodAll enc P W' b sp hd f.resultTypes.toList ((Value.bool true).resultList f.resultTypes.size) (s.fn H (ds ++ [])).results []:=fun b sp hd => by
  rw [List.append_nil,hres,hrt];exact trodAll_cons_mk (shut_bool hbt true) trodAll_mk0
 have hR2 : ∀ sp : Nat → Bool,(∀ x ∈ before,sp x.block = true) → DataW.TrodAll enc P W' 0 sp true f.params.toList args.toList (s.fn H (ds ++ [])).args before:=fun sp hsp => by
  rw [List.append_nil,hargs]; exact hag sp hsp
 have hVV : ∀ sp : Nat → Bool,DataW.TrodVars enc P W' sp s.vars (s.fn H (ds ++ [])).vars []:=fun sp => by
  rw [List.append_nil,hvars,hv]; rfl
 refine ⟨ds,[],before,[],before,[],hW0,hR _ _ _,hR2 _ hold,hVV _,below_keptBut hb _,fun _ => ?_⟩
 refine ⟨?_,_,_,([] ++ before) ++ [],⟨[] ++ before,[],trodAll_append (hR2 _ (fun _ _ => rfl)) (hR _ _ _),hVV _,rfl, ?_, ?_⟩, ?_⟩
 ·exact ok_one hrt rfl (okWide_bool_mk hbt _)
 ·intro b off hp
  have hp' : MemPlace.cell b off ∈ before:=by simpa using hp
  have hlt':=hlt _ hp';have : W'.frozen? ⟨b,off,none⟩ = W.frozen? ⟨b,off,none⟩ := World.frozen?_of_block (w:=W) (hb.block b hlt')
  rw [this];exact hfz b off hp'
 ·intro ha
  simpa using hnd ha
 ·intro x hx _
  simpa using hx
end
end Go.Oche

/- What every seat's texts begin with. -/
namespace Go.Proofs.YtnbmgkmcaoafnaaGreatDoor
open Go.RowKit Go.Oche Go.Proofs
theorem mix : Tryz.prog.follows .mixedOrders = true:=by kernel_rfl
theorem ret_int {k : IntKind} {a b : Int} (h : a = b) : Ending.returned (.int k a) = .returned (.int k b):=by rw [h]
theorem ret_bool {a b : Bool} (h : a = b) : Ending.returned (.bool a) = .returned (.bool b):=by rw [h]
theorem wrap_small (x : Int) (h1 : -9223372036854775808 ≤ x) (h2 : x ≤ 9223372036854775807) : IntKind.i64.wrap x = x:=IntWalk.i64_in _ ⟨h1,h2⟩
theorem bThen {w w1 w2 : World} (h : Below w.heap.size w w1) (h' : Below w1.heap.size w1 w2) : Below w.heap.size w w2:=h.trans (h'.mono h.size)
def isIn (n lo hi : Int) : Bool:=decide (lo ≤ n) && decide (n ≤ hi)
open Go.RowKit Go.Oche Go.Proofs Go.ChangeShapes Go.WideShapes Go.ChangeAt

theorem own : ownKnob Tryz.prog.godebug = none:=by kernel_rfl
theorem sized : sizedB Tryz.prog = true:=by kernel_rfl
def I64' (n : Int) : Prop := -9223372036854775808 ≤ n ∧ n ≤ 9223372036854775807
theorem wf_u8 {n : Int} (h : (Lit.int .u8 n).wf = true) : 0 ≤ n ∧ n ≤ 255:=by
 have:=h;simp [Lit.wf,IntKind.min,IntKind.max,IntKind.signed,IntKind.bits] at this;exact this
theorem list_two {α : Type} {cs : List α} (h : cs.length = 2) : ∃ a b,cs = [a,b]:=by
 cases cs with
 | nil => simp at h
 | cons a cs =>
  cases cs with
  | nil => simp at h
  | cons b cs =>
   cases cs with
   | nil => exact ⟨a,b,rfl⟩
   | cons c cs => simp at h
theorem list_three {α : Type} {cs : List α} (h : cs.length = 3) : ∃ a b c,cs = [a,b,c]:=by
 cases cs with
 | nil => simp at h
 | cons a cs =>
  obtain ⟨b,c,rfl⟩ := list_two (cs:=cs) (by simpa using h)
  exact ⟨a,b,c,rfl⟩
theorem choose_rows {β : Type} {R : Nat → β → Prop} : ∀ n,(∀ i,i < n → ∃ b,R i b) → ∃ xs : List β,xs.length = n ∧ ∀ i b,xs[i]? = some b → R i b
 | 0,_ => ⟨[],rfl,fun i b h => by simp at h⟩
 | n + 1,h => by
  obtain ⟨xs,h1,h2⟩ := choose_rows n fun i hi => h i (by omega)
  obtain ⟨b,hb⟩ := h n (by omega)
  refine ⟨xs ++ [b],by simp [h1],fun i b' hi => ?_⟩
  by_cases hin : i < xs.length
  ·rw [List.getElem?_append_left hin] at hi
   exact h2 i b' hi
  ·have hlt:=(List.getElem?_eq_some_iff.1 hi).1
   simp at hlt
   obtain rfl : i = xs.length:=by omega
   simp at hi
   subst hi;rw [h1]; exact hb
section
variable {H : Type} {enc : TypeId × Value → H} {W : World} {base : Nat} {spare : Nat → Bool} {held : Bool}
theorem open_rowsN {β : Type} (row : β → List Value) (k : Nat) (Q : β → Prop) {t e : TypeId} (ht : Tryz.prog.underlying t = some (.slice e)) (hce : Tryz.prog.cellsOf e = k) (hk : 0 < k)
  (hone : ∀ n cs (y : DataW H × List MemPlace),DataW.trod enc Tryz.prog W base spare held n e cs = some y → ∃ b,cs = row b ∧ Q b) (hrow : ∀ b,(row b).length = k) {n : Nat} {v : Value} {x : DataW H × List MemPlace} (h : DataW.trod enc Tryz.prog W base spare held n t [v] = some x) :
  ∃ xs : List β,SlN k (fun _ => True) W v (xs.map row) ∧ ∀ b ∈ xs,Q b:=by
 rcases DataW.trod_slice ht h with ⟨hcs,_⟩ | ⟨a,len,cap,elems,rest,m,_,hcs,_,_,hl,hm,hlen,hel,_,_⟩
 ·simp only [List.cons.injEq,and_true] at hcs
  subst hcs;exact ⟨[],SlN.nil _ _ _,by simp⟩
 ·simp only [List.cons.injEq,and_true] at hcs
  subst hcs;have hall : ∀ i,i < len → ∃ b,(∀ j x,(row b)[j]? = some x → W.cell? ((a.add (i * k)).add j) = some x) ∧ Q b:=fun i hi => by
   have hy:=hel i hi;rw [List.getElem?_eq_getElem (by omega),hce,Option.bind_eq_some_iff] at hy
   obtain ⟨cs,hcs,hy⟩ := hy;obtain ⟨b,rfl,hb⟩ := hone _ _ _ hy;have:=(World.cells?_some hcs)
   refine ⟨b,fun j x hx => ?_,hb⟩
   have hj : j < k:=by rw [← hrow b]; exact (List.getElem?_eq_some_iff.1 hx).1
   rw [this.2.2 j hj]; exact hx
  obtain ⟨xs,h1,h2⟩ := choose_rows len hall;refine ⟨xs,⟨some a,cap,by rw [List.length_map,h1],by rw [List.length_map,h1]; exact hl,hm,fun i r hr => ?_⟩,fun b hb => ?_⟩
  ·rw [List.getElem?_map,Option.map_eq_some_iff] at hr
   obtain ⟨b,hb,rfl⟩ := hr;have hi : i < len:=by rw [← h1]; exact (List.getElem?_eq_some_iff.1 hb).1
   have h0 : 0 < xs.length:=by omega
   have hsp : a.spot = none:=by
    have hr0:=hrow xs[0];have:=(h2 0 xs[0] (List.getElem?_eq_getElem h0)).1 0 (row xs[0])[0] (List.getElem?_eq_getElem (by omega))
    rw [Nat.zero_mul] at this;obtain ⟨b,o,s⟩ := a;cases s with
    | none => rfl
    | some s =>
     simp [Addr.add,World.cell?] at this
     split at this <;> cases this
   obtain ⟨b',o,sp⟩ := a;simp only at hsp;subst hsp;refine ⟨hrow b,b',o,rfl,trivial,fun j x hx => ?_⟩
   have:=(h2 i b hb).1 j x hx;rw [addr_at,addr_at] at this;exact this
  ·obtain ⟨i,hi⟩ := List.getElem?_of_mem hb
   exact (h2 i b hi).2
end
open Go.RowKit Go.Oche Go.Proofs Go.ChangeShapes Go.WideShapes Go.ChangeAt
def row2 (kd : IntKind) (x : Int × Int) : List Value:=[.int kd x.1,.int kd x.2]
def row3 (kd : IntKind) (x : Int × Int × Int) : List Value:=[.int kd x.1,.int kd x.2.1,.int kd x.2.2]
def row4 (kd : IntKind) (x : Int × Int × Int × Int) : List Value:=[.int kd x.1,.int kd x.2.1,.int kd x.2.2.1,.int kd x.2.2.2]
section
variable {H : Type} {enc : TypeId × Value → H} {W : World} {base : Nat} {spare : Nat → Bool} {held : Bool}
theorem open_arr {kd : IntKind} {k : Nat} {t e : TypeId} (ht : Tryz.prog.underlying t = some (.array k e)) (he : Tryz.prog.underlying e = some (.int kd)) (hc : Tryz.prog.cellsOf t = k) (hce : Tryz.prog.cellsOf e = 1)
  {n : Nat} {cs : List Value} {y : DataW H × List MemPlace} (h : DataW.trod enc Tryz.prog W base spare held n t cs = some y) : ∃ zs : List Int,zs.length = k ∧ cs = zs.map (Value.int kd) ∧ ∀ z ∈ zs,(Lit.int kd z).wf = true:=by
 obtain ⟨xs,m,_,_,hl,hx,hi⟩ := DataW.trod_array ht h;rw [hc] at hl;have hall : ∀ i,i < k → ∃ z,cs[i]? = some (.int kd z) ∧ (Lit.int kd z).wf = true:=fun i hik => by
  have:=hi i hik;rw [hce,Nat.mul_one,List.getElem?_eq_getElem (by omega)] at this
  have e1 : (cs.drop i).take 1 = [cs[i]]:=by
   rw [List.drop_eq_getElem_cons (by omega)]; rfl
  rw [e1] at this;obtain ⟨z,hz,_,hw⟩ := DataW.trod_int he this;simp only [List.cons.injEq,and_true] at hz;exact ⟨z,by rw [List.getElem?_eq_getElem (by omega),hz],hw⟩
 obtain ⟨zs,h1,h2⟩ := choose_rows k hall;refine ⟨zs,h1,List.ext_getElem? fun i => ?_,fun z hz => ?_⟩
 ·by_cases hik : i < k
  ·rw [List.getElem?_map,List.getElem?_eq_getElem (by omega : i < zs.length)]
   exact (h2 i zs[i] (List.getElem?_eq_getElem (by omega))).1
  ·rw [List.getElem?_eq_none (by omega),List.getElem?_eq_none (by simp; omega)]
 ·obtain ⟨i,hiz⟩ := List.getElem?_of_mem hz
  exact (h2 i z hiz).2
theorem open_arr2 {kd : IntKind} {t e : TypeId} (ht : Tryz.prog.underlying t = some (.array 2 e)) (he : Tryz.prog.underlying e = some (.int kd)) (hc : Tryz.prog.cellsOf t = 2) (hce : Tryz.prog.cellsOf e = 1)
  {n : Nat} {cs : List Value} {y : DataW H × List MemPlace} (h : DataW.trod enc Tryz.prog W base spare held n t cs = some y) : ∃ b : Int × Int,cs = row2 kd b ∧ (Lit.int kd b.1).wf = true ∧ (Lit.int kd b.2).wf = true:=by
 obtain ⟨zs,h1,rfl,h2⟩ := open_arr ht he hc hce h;obtain ⟨a,b,rfl⟩ := list_two h1;exact ⟨(a,b),rfl,h2 a (by simp),h2 b (by simp)⟩
theorem open_arr3 {kd : IntKind} {t e : TypeId} (ht : Tryz.prog.underlying t = some (.array 3 e)) (he : Tryz.prog.underlying e = some (.int kd)) (hc : Tryz.prog.cellsOf t = 3) (hce : Tryz.prog.cellsOf e = 1)
  {n : Nat} {cs : List Value} {y : DataW H × List MemPlace} (h : DataW.trod enc Tryz.prog W base spare held n t cs = some y) : ∃ b : Int × Int × Int,cs = row3 kd b ∧ (Lit.int kd b.1).wf = true ∧ (Lit.int kd b.2.1).wf = true ∧ (Lit.int kd b.2.2).wf = true:=by
 obtain ⟨zs,h1,rfl,h2⟩ := open_arr ht he hc hce h;obtain ⟨a,b,c,rfl⟩ := list_three h1;exact ⟨(a,b,c),rfl,h2 a (by simp),h2 b (by simp),h2 c (by simp)⟩
set_option maxRecDepth 100000 in
theorem open_nums {kd : IntKind} {t e : TypeId} (ht : Tryz.prog.underlying t = some (.slice e)) (he : Tryz.prog.underlying e = some (.int kd)) (hce : Tryz.prog.cellsOf e = 1) {n : Nat} {v : Value} {x : DataW H × List MemPlace} (h : DataW.trod enc Tryz.prog W base spare held n t [v] = some x) :
  ∃ xs : List Int,Sl (fun _ => True) W v (xs.map (Value.int kd)) ∧ ∀ b ∈ xs,(Lit.int kd b).wf = true:=by
 obtain ⟨xs,h1,h2⟩ := open_rowsN (fun z : Int => [.int kd z]) 1 (fun b => (Lit.int kd b).wf = true) ht hce (by decide) (fun n cs y hy => by
  obtain ⟨z,hz,_,hw⟩ := DataW.trod_int he hy;exact ⟨z,hz,hw⟩) (fun b => rfl) h
 refine ⟨xs,SlN.to1 ?_,h2⟩
 have e : (xs.map (Value.int kd)).map (fun x => [x]) = xs.map (fun z => [.int kd z]):=by simp
 rw [e]; exact h1
end
open Go.RowKit Go.Oche Go.Proofs

def outB (lo hi n : Int) : Bool:=decide (n < lo) || decide (hi < n)
def idxOut (lo hi : Int) (xs : List Int) : Int:=if xs.any (outB lo hi) then (xs.findIdx (outB lo hi) : Nat) else -1

theorem within1_any (n lo hi : Int) (pl ph : Addr) (w : World) (hl : w.cell? pl = some (.int .i64 lo)) (hh : w.cell? ph = some (.int .i64 hi)) :
  Calls Tryz.prog 90 #[.int .i64 n,.pointer (some pl),.pointer (some ph)] w fun e w' => e = .returned (.bool (outB lo hi n)) ∧ w = w':=by
 go_enter Tryz.func90,Tryz.ntmps90
 go_wp2
 all_goals (go_ret; refine ⟨ret_bool ?_,rfl⟩; simp [outB]; try omega)

theorem idxOut_hit {lo hi : Int} {xs : List Int} {k : Nat} (hk : k < xs.length) (hp : ∀ j,j < k → ∀ h : j < xs.length,outB lo hi xs[j] = false) (h : outB lo hi xs[k] = true) : idxOut lo hi xs = k:=by
 have h1 : xs.any (outB lo hi) = true:=List.any_eq_true.2 ⟨xs[k],List.getElem_mem hk,h⟩;have h2 : xs.findIdx (outB lo hi) = k:=by
  refine (List.findIdx_eq hk).2 ⟨h,fun j hj => ?_⟩
  simpa using hp j hj (by omega)
 simp [idxOut,h1,h2]
theorem idxOut_miss {lo hi : Int} {xs : List Int} (hp : ∀ j,j < xs.length → ∀ h : j < xs.length,outB lo hi xs[j] = false) : idxOut lo hi xs = -1:=by
 have h1 : xs.any (outB lo hi) = false:=by
  rw [List.any_eq_false];intro x hx;obtain ⟨j,hj,rfl⟩ := List.mem_iff_getElem.1 hx;simp [hp j hj hj]
 simp [idxOut,h1]

theorem indexFunc_any {S : Nat → Prop} (lo hi : Int) (xs : List Int) (v : Value) (pl ph : Addr) (w : World) (hs : Sl S w v (ints xs)) (hl : w.cell? pl = some (.int .i64 lo)) (hh : w.cell? ph = some (.int .i64 hi)) :
  Calls Tryz.prog 119 #[v,.func (.func 90) #[] #[.pointer (some pl),.pointer (some ph)]] w fun e w' => e = .returned (.int .i64 (idxOut lo hi xs)) ∧ w = w':=by
 obtain ⟨a,cap,rfl,h2,h3,h4⟩ := hs;simp only [ints_length] at *;unfold maxLen at h3
 go_enter Tryz.func119,Tryz.ntmps119
 go_wp2

 go_loop [5,8] (fun _ i => ∃ k : Nat,k ≤ xs.length ∧ i = .int .i64 k ∧ ∀ j,j < k → ∀ h : j < xs.length,outB lo hi xs[j] = false) (fun _ i => xs.length - (intOf i).toNat)
 case atStart => exact ⟨0,Nat.zero_le _,rfl,fun j hj => by omega⟩
 case round =>
  obtain ⟨k,hk,rfl,hp⟩ := hrel;by_cases hlt : k < xs.length
  ·obtain ⟨b,off,rfl,_,hc⟩ := h4 k _ (intsAt hlt)
   clear h4;cases ho : outB lo hi xs[k]
   all_goals
    have HO:=Lib.hid ho;have HP:=Lib.hid hp;clear ho hp
    go_wp2_with (go_at_call 90; refine (within1_any xs[k] lo hi _ _ _ hl hh).mono ?_; rintro e w' ⟨rfl,rfl⟩; rw [HO.out])
   ·go_round
    case rel => exact ⟨k + 1,by omega,by go_num,fun j hj h => by
     by_cases hjk : j = k
     ·subst hjk; exact HO.out
     ·exact HP.out j (by omega) h⟩
    case measure => simp [intOf]; omega
   ·go_ret
    exact ⟨ret_int (idxOut_hit hlt HP.out HO.out).symm,rfl⟩
  ·obtain rfl : k = xs.length:=by omega
   have HP:=Lib.hid hp;clear hp h4;go_wp2
   go_ret
   exact ⟨ret_int (idxOut_miss fun j hj h => HP.out j hj h).symm,rfl⟩

theorem containsFunc_any {S : Nat → Prop} (lo hi : Int) (xs : List Int) (v : Value) (pl ph : Addr) (w : World) (hs : Sl S w v (ints xs)) (hl : w.cell? pl = some (.int .i64 lo)) (hh : w.cell? ph = some (.int .i64 hi)) :
  Calls Tryz.prog 73 #[v,.func (.func 90) #[] #[.pointer (some pl),.pointer (some ph)]] w fun e w' => e = .returned (.bool (xs.any (outB lo hi))) ∧ w = w':=by
 go_enter Tryz.func73,Tryz.ntmps73
 go_wp2_with (go_at_call 119; refine (indexFunc_any lo hi xs _ _ _ _ hs hl hh).mono ?_; rintro e w' ⟨rfl,rfl⟩)
 go_ret
 refine ⟨ret_bool ?_,rfl⟩
 unfold idxOut;cases xs.any (outB lo hi) <;> simp <;> omega

theorem within_any {S : Nat → Prop} (lo hi : Int) (xs : List Int) (v : Value) (w : World) (hs : Sl S w v (ints xs)) :
  Calls Tryz.prog 48 #[.int .i64 lo,.int .i64 hi,v] w fun e w' => e = .returned (.bool (!xs.any (outB lo hi))) ∧ Below w.heap.size w w':=by
 have hb : Below w.heap.size w ((w.alloc (.cells #[.int .i64 lo] 3)).alloc (.cells #[.int .i64 hi] 3)):=((Below.refl _ _).alloc (Nat.le_refl _) _).alloc (by simp) _
 have hs':=hs.below hb;have H:=Lib.hid hs';clear hs hs';obtain ⟨a,cap,hv⟩ : ∃ a cap,v = .slice a xs.length cap:=by obtain ⟨a,cap,h,_⟩ := H.out; exact ⟨a,cap,by simpa using h⟩
 subst hv
 go_enter Tryz.func48,Tryz.ntmps48
 go_wp2_with (go_at_call 73; refine (containsFunc_any lo hi xs _ _ _ _ H.out (by simp) (by simp)).mono ?_; rintro e w' ⟨rfl,rfl⟩)
 go_ret
 exact ⟨rfl,hb⟩

theorem out_one (lo hi n : Int) : (!([n] : List Int).any (outB lo hi)) = isIn n lo hi:=by
 simp [outB,isIn]; rw [Bool.eq_iff_iff]; simp
open Go.RowKit Go.Oche Go.Proofs

structure Lg where
 start : Int
 gin : Int
 gout : Int
 beds : List Int
 players : Int
 turns : Int
 won : Bool
structure Std where
 left : Int
 inn : Bool
deriving DecidableEq
structure En where
 left : Int
 inn : Bool
 bust : Bool
 won : Bool
deriving DecidableEq
structure Ht where
 score : Int
 hin : Bool
 hout : Bool
deriving DecidableEq
def En.std (x : En) : Std:=⟨x.left,x.inn⟩
def Std.en (s : Std) : En:=⟨s.left,s.inn,false,false⟩
def isBed5 (b : Int) : Bool:=(isIn (b.tdiv 100) 1 4 && isIn (b.tmod 100) 1 20) || (b == 125) || (b == 225)
def opens5 (b g : Int) : Bool:=if g = 1 then b.tdiv 100 == 2 else if g = 2 then decide (2 ≤ b.tdiv 100) else true
def low5 (g : Int) : Int:=if g = 0 then 1 else 2
def okCount (l : Lg) : Bool:=isIn l.start 2 1001 && isIn l.gin 0 2 && isIn l.gout 0 2
def checkL (l : Lg) : Int :=
 if 82 < l.beds.length then 5
 else if okCount l = false ∨ l.beds = [] ∨ ¬ l.beds.Pairwise (· < ·) ∨ (∃ b ∈ l.beds,isBed5 b = false) then 2
 else if isIn l.players 1 4 = false ∨ isIn l.turns 0 60 = false ∨ (l.won = true ∧ l.turns = 0) then 2 else 0
def hitB5 (l : Lg) (b : Int) : Ht:=⟨b.tdiv 100 * b.tmod 100,opens5 b l.gin,opens5 b l.gout⟩
def miss5 : Ht:=⟨0,false,false⟩
def dart5 (l : Lg) (s : Std) (h : Ht) : En × Bool :=
 if (s.inn || h.hin) = false ∨ h.score = 0 then (⟨s.left,s.inn || h.hin,false,false⟩,true)
 else if s.left - h.score = 0 ∧ h.hout = true then (⟨0,true,false,true⟩,false)
 else if s.left - h.score < low5 l.gout then (⟨0,false,true,false⟩,false)
 else (⟨s.left - h.score,true,false,false⟩,true)
def hits5 (l : Lg) : List Ht:=miss5 :: l.beds.map (hitB5 l)
def from5 (l : Lg) : Nat → Std → List (En × Nat)
 | 0,s => [(s.en,0)]
 | k + 1,s => (hits5 l).flatMap fun h => if (dart5 l s h).2 = true then (from5 l k (dart5 l s h).1.std).map fun p => (p.1,p.2 + 1) else [((dart5 l s h).1,1)]
def noBust (s : Std) (x : En) : En:=if x.bust = true then s.en else x
def vis5 (l : Lg) (s : Std) : List (En × Nat):=(from5 l 3 s).map fun p => (noBust s p.1,p.2)

structure Sm where
 ways : Nat
 lo : Nat
 hi : Nat
deriving DecidableEq
def Sm.one (d : Nat) : Sm:=⟨1,d,d⟩
def Sm.add (a b : Sm) : Sm:=⟨a.ways + b.ways,min a.lo b.lo,max a.hi b.hi⟩
def Sm.shift (a : Sm) (d : Nat) : Sm:=⟨a.ways,a.lo + d,a.hi + d⟩
def Sm.scale (a : Sm) (k : Nat) : Sm:=⟨a.ways * k,a.lo,a.hi⟩
def addO : Option Sm → Option Sm → Option Sm
 | none,b => b
 | some a,none => some a
 | some a,some b => some (a.add b)
@[simp] theorem addO_none (a : Option Sm) : addO a none = a:=by cases a <;> rfl
@[simp] theorem none_addO (a : Option Sm) : addO none a = a:=rfl
theorem addO_comm (a b : Option Sm) : addO a b = addO b a:=by
 cases a <;> cases b <;> simp [addO,Sm.add,Nat.add_comm,Nat.min_comm,Nat.max_comm]
theorem addO_assoc (a b c : Option Sm) : addO (addO a b) c = addO a (addO b c):=by
 cases a <;> cases b <;> cases c <;> simp [addO,Sm.add,Nat.add_assoc,Nat.min_assoc,Nat.max_assoc]
def agg {κ : Type} [DecidableEq κ] : List (κ × Nat) → κ → Option Sm
 | [],_ => none
 | p :: l,x => addO (if p.1 = x then some (Sm.one p.2) else none) (agg l x)
section
variable {κ ι : Type} [DecidableEq κ] [DecidableEq ι]
theorem agg_append (a b : List (κ × Nat)) (x : κ) : agg (a ++ b) x = addO (agg a x) (agg b x):=by
 induction a with
 | nil => rfl
 | cons p a ih => rw [List.cons_append,agg,agg,ih,addO_assoc]
theorem agg_perm {a b : List (κ × Nat)} (h : a.Perm b) (x : κ) : agg a x = agg b x:=by
 induction h with
 | nil => rfl
 | cons p _ ih => rw [agg,agg,ih]
 | swap p q l => simp only [agg]; rw [← addO_assoc,← addO_assoc,addO_comm (if q.1 = x then _ else _)]
 | trans _ _ h1 h2 => rw [h1,h2]
theorem agg_none {l : List (κ × Nat)} {x : κ} : agg l x = none ↔ ∀ p ∈ l,p.1 ≠ x:=by
 induction l with
 | nil => simp [agg]
 | cons p l ih =>
  rw [agg];by_cases h : p.1 = x
  ·rw [if_pos h]
   cases e : agg l x <;> simp [addO,h]
  ·rw [if_neg h,none_addO,ih]; simp [h]
theorem agg_some {l : List (κ × Nat)} {x : κ} : (agg l x).isSome = true ↔ ∃ p ∈ l,p.1 = x:=by
 rw [← Option.ne_none_iff_isSome,ne_eq,agg_none];simp
theorem agg_ways {l : List (κ × Nat)} {x : κ} {s : Sm} (h : agg l x = some s) : s.ways ≤ l.length ∧ s.lo ≤ s.hi ∧ 1 ≤ s.ways:=by
 induction l generalizing s with
 | nil => cases h
 | cons p l ih =>
  rw [agg] at h;by_cases hp : p.1 = x
  ·rw [if_pos hp] at h
   cases e : agg l x with
   | none => rw [e] at h; cases h; simp [Sm.one]
   | some t =>
    rw [e] at h; cases h;have:=ih e;simp [Sm.add,Sm.one]; omega
  ·rw [if_neg hp,none_addO] at h
   have:=ih h;simp; omega
theorem agg_bounds {l : List (κ × Nat)} {x : κ} {s : Sm} (h : agg l x = some s) : (∀ p ∈ l,p.1 = x → s.lo ≤ p.2 ∧ p.2 ≤ s.hi) ∧ (∃ p ∈ l,p.1 = x ∧ p.2 = s.lo) ∧ (∃ p ∈ l,p.1 = x ∧ p.2 = s.hi):=by
 induction l generalizing s with
 | nil => cases h
 | cons p l ih =>
  rw [agg] at h;by_cases hp : p.1 = x
  ·rw [if_pos hp] at h
   cases e : agg l x with
   | none =>
    rw [e] at h; cases h;have hn:=agg_none.1 e;refine ⟨fun q hq hx => ?_,⟨p,by simp,hp,rfl⟩,⟨p,by simp,hp,rfl⟩⟩
    rcases List.mem_cons.1 hq with rfl | hq
    ·simp [Sm.one]
    ·exact (hn q hq hx).elim
   | some t =>
    rw [e] at h; cases h;obtain ⟨h1,⟨a,ha,ha1,ha2⟩,⟨b,hb,hb1,hb2⟩⟩ := ih e;refine ⟨fun q hq hx => ?_, ?_, ?_⟩
    ·rcases List.mem_cons.1 hq with rfl | hq
     ·simp [Sm.add,Sm.one]; omega
     ·have:=h1 q hq hx; simp [Sm.add,Sm.one]; omega
    ·by_cases c : p.2 ≤ t.lo
     ·exact ⟨p,by simp,hp,by simp [Sm.add,Sm.one]; omega⟩
     ·exact ⟨a,by simp [ha],ha1,by simp [Sm.add,Sm.one]; omega⟩
    ·by_cases c : t.hi ≤ p.2
     ·exact ⟨p,by simp,hp,by simp [Sm.add,Sm.one]; omega⟩
     ·exact ⟨b,by simp [hb],hb1,by simp [Sm.add,Sm.one]; omega⟩
  ·rw [if_neg hp,none_addO] at h
   obtain ⟨h1,⟨a,ha,ha1,ha2⟩,⟨b,hb,hb1,hb2⟩⟩ := ih h;refine ⟨fun q hq hx => ?_,⟨a,by simp [ha],ha1,ha2⟩,⟨b,by simp [hb],hb1,hb2⟩⟩
   rcases List.mem_cons.1 hq with rfl | hq
   ·exact (hp hx).elim
   ·exact h1 q hq hx
theorem agg_shift (l : List (κ × Nat)) (d : Nat) (x : κ) : agg (l.map fun p => (p.1,p.2 + d)) x = (agg l x).map (Sm.shift · d):=by
 induction l with
 | nil => rfl
 | cons p l ih =>
  rw [List.map_cons,agg,agg,ih];by_cases h : p.1 = x
  ·simp only [if_pos h]
   cases agg l x <;> simp [addO,Sm.add,Sm.one,Sm.shift,Nat.add_min_add_right,Nat.add_max_add_right]
  ·simp only [if_neg h,none_addO]
def times {α : Type} (k : Nat) (l : List α) : List α := (List.replicate k l).flatten
theorem agg_times (l : List (κ × Nat)) (x : κ) : ∀ k,0 < k → agg (times k l) x = (agg l x).map (Sm.scale · k)
 | 0,h => by omega
 | 1,_ => by
  unfold times;simp only [List.replicate_one,List.flatten_cons,List.flatten_nil,List.append_nil];cases agg l x <;> simp [Sm.scale]
 | k + 2,_ => by
  have ih:=agg_times l x (k + 1) (by omega)
  unfold times at ih ⊢;rw [List.replicate_succ,List.flatten_cons,agg_append,ih];cases agg l x <;> simp [addO,Sm.add,Sm.scale,Nat.mul_add]; omega
end
open Go.RowKit Go.Oche Go.Proofs

section
variable {α β κ ι : Type} [DecidableEq α] [DecidableEq κ] [DecidableEq ι]
theorem count_flat (f : α → Nat) (b : α) : ∀ {ks : List α},ks.Nodup → (ks.flatMap fun a => List.replicate (f a) a).count b = if b ∈ ks then f b else 0
 | [],_ => by simp
 | a :: ks,h => by
  rw [List.nodup_cons] at h;rw [List.flatMap_cons,List.count_append,count_flat f b h.2,List.count_replicate];by_cases e : a = b
  ·subst e; simp [h.1]
  ·have e' : ¬ b = a:=fun q => e q.symm
   simp [e,e']
theorem perm_counts {H ks : List α} (hn : ks.Nodup) (hm : ∀ a,a ∈ ks ↔ a ∈ H) : H.Perm (ks.flatMap fun a => List.replicate (H.count a) a):=by
 rw [List.perm_iff_count];intro b;rw [count_flat _ b hn];by_cases h : b ∈ ks
 ·rw [if_pos h]
 ·rw [if_neg h]; exact List.count_eq_zero.2 fun q => h ((hm b).2 q)
theorem flat_replicate {ξ ζ : Type} (n : Nat) (a : ξ) (f : ξ → List ζ) : (List.replicate n a).flatMap f = times n (f a):=by
 unfold times
 induction n with
 | zero => rfl
 | succ n ih => rw [List.replicate_succ,List.flatMap_cons,ih,List.replicate_succ,List.flatten_cons]
theorem flat_counts {H ks : List α} (hn : ks.Nodup) (hm : ∀ a,a ∈ ks ↔ a ∈ H) (f : α → List β) : (H.flatMap f).Perm (ks.flatMap fun a => times (H.count a) (f a)):=by
 refine ((perm_counts hn hm).flatMap_right f).trans (List.Perm.of_eq ?_)
 rw [List.flatMap_assoc]
 congr 1
 funext a
 exact flat_replicate _ _ _
theorem perm_keys {B : List (κ × Nat)} : ∀ {ks : List κ},ks.Nodup → (∀ p ∈ B,p.1 ∈ ks) → B.Perm (ks.flatMap fun x => B.filter fun p => decide (p.1 = x)):=by
 intro ks hn hm
 rw [List.perm_iff_count];intro p;have key : ∀ (l : List κ),l.Nodup → (l.flatMap fun x => B.filter fun p => decide (p.1 = x)).count p = if p.1 ∈ l then B.count p else 0:=by
  intro l
  induction l with
  | nil => intro _; simp
  | cons x l ih =>
   intro h
   rw [List.nodup_cons] at h;rw [List.flatMap_cons,List.count_append,ih h.2];by_cases e : p.1 = x
   ·subst e
    rw [List.count_filter (by simp)]
    simp [h.1]
   ·have e2 : p ∉ B.filter fun p => decide (p.1 = x):=fun q => e (by simpa using (List.mem_filter.1 q).2)
    rw [List.count_eq_zero.2 e2];simp [e]
 rw [key ks hn];by_cases h : p ∈ B
 ·rw [if_pos (hm p h)]
 ·rw [List.count_eq_zero.2 h]; split <;> rfl
theorem agg_filter_map (B : List (κ × Nat)) (x : κ) (f : κ → ι) (y : ι) : agg ((B.filter fun p => decide (p.1 = x)).map fun p => (f p.1,p.2)) y = if f x = y then agg B x else none:=by
 induction B with
 | nil => simp [agg]
 | cons p B ih =>
  by_cases h : p.1 = x
  ·rw [List.filter_cons_of_pos (by simpa using h),List.map_cons,agg,ih,agg,if_pos h]
   simp only;rw [h];by_cases e : f x = y
   ·rw [if_pos e,if_pos e,if_pos e]
   ·rw [if_neg e,if_neg e,if_neg e]; rfl
  ·rw [List.filter_cons_of_neg (by simpa using h),ih,agg,if_neg h,none_addO]
def aggF (B : List (κ × Nat)) (f : κ → ι) : List κ → ι → Option Sm
 | [],_ => none
 | x :: ks,y => addO (aggF B f ks y) (if f x = y then agg B x else none)
theorem aggF_snoc (B : List (κ × Nat)) (f : κ → ι) (x : κ) (y : ι) : ∀ ks,aggF B f (ks ++ [x]) y = addO (aggF B f ks y) (if f x = y then agg B x else none)
 | [] => rfl
 | z :: ks => by
  rw [List.cons_append,aggF,aggF_snoc B f x y ks,aggF,addO_assoc,addO_assoc,addO_comm (if f x = y then _ else _)]
theorem aggF_flat (B : List (κ × Nat)) (f : κ → ι) (y : ι) : ∀ ks,aggF B f ks y = agg (ks.flatMap fun x => (B.filter fun p => decide (p.1 = x)).map fun p => (f p.1,p.2)) y
 | [] => rfl
 | x :: ks => by
  rw [aggF,List.flatMap_cons,agg_append,agg_filter_map,aggF_flat B f y ks,addO_comm]
theorem aggF_all {B : List (κ × Nat)} (f : κ → ι) {ks : List κ} (hn : ks.Nodup) (hm : ∀ p ∈ B,p.1 ∈ ks) (y : ι) : aggF B f ks y = agg (B.map fun p => (f p.1,p.2)) y:=by
 rw [aggF_flat,agg_perm ((perm_keys hn hm).map fun p => (f p.1,p.2)) y,List.map_flatMap]
end
def con5 (l : Lg) (k : Nat) (s : Std) (h : Ht) : List (En × Nat) :=
 if (dart5 l s h).2 = true then (from5 l k (dart5 l s h).1.std).map fun p => (p.1,p.2 + 1) else [((dart5 l s h).1,1)]
theorem from5_succ (l : Lg) (k : Nat) (s : Std) : from5 l (k + 1) s = (hits5 l).flatMap (con5 l k s):=rfl
def aggH (l : Lg) (k : Nat) (s : Std) : List Ht → En → Option Sm
 | [],_ => none
 | h :: hs,x => addO (aggH l k s hs x) ((agg (con5 l k s h) x).map (Sm.scale · ((hits5 l).count h)))
theorem aggH_snoc (l : Lg) (k : Nat) (s : Std) (h : Ht) (x : En) : ∀ hs,aggH l k s (hs ++ [h]) x = addO (aggH l k s hs x) ((agg (con5 l k s h) x).map (Sm.scale · ((hits5 l).count h)))
 | [] => rfl
 | g :: hs => by
  rw [List.cons_append,aggH,aggH_snoc l k s h x hs,aggH,addO_assoc,addO_assoc,addO_comm (Option.map _ (agg (con5 l k s h) x))]
theorem aggH_flat (l : Lg) (k : Nat) (s : Std) (x : En) : ∀ hs,(∀ h ∈ hs,h ∈ hits5 l) → aggH l k s hs x = agg (hs.flatMap fun h => times ((hits5 l).count h) (con5 l k s h)) x
 | [],_ => rfl
 | h :: hs,hm => by
  rw [aggH,List.flatMap_cons,agg_append,agg_times _ _ _ (List.count_pos_iff.2 (hm h (by simp))),aggH_flat l k s x hs (fun g hg => hm g (by simp [hg])),addO_comm]
theorem aggH_all (l : Lg) (k : Nat) (s : Std) {hs : List Ht} (hn : hs.Nodup) (hm : ∀ h,h ∈ hs ↔ h ∈ hits5 l) (x : En) : aggH l k s hs x = agg (from5 l (k + 1) s) x:=by
 rw [aggH_flat l k s x hs fun h hh => (hm h).1 hh,from5_succ]
 exact (agg_perm (flat_counts hn hm _) x).symm
theorem con5_goes {l : Lg} {k : Nat} {s : Std} {h : Ht} (hg : (dart5 l s h).2 = true) (x : En) : agg (con5 l k s h) x = (agg (from5 l k (dart5 l s h).1.std) x).map (Sm.shift · 1):=by
 unfold con5; rw [if_pos hg,agg_shift]
theorem con5_ends {l : Lg} {k : Nat} {s : Std} {h : Ht} (hg : (dart5 l s h).2 = false) (x : En) : agg (con5 l k s h) x = if (dart5 l s h).1 = x then some (Sm.one 1) else none:=by
 unfold con5; rw [if_neg (by simp [hg])]; simp [agg]
theorem hits_len (l : Lg) : (hits5 l).length = l.beds.length + 1:=by simp [hits5]
theorem from_len (l : Lg) : ∀ (k : Nat) (s : Std),(from5 l k s).length ≤ (l.beds.length + 1) ^ k
 | 0,s => by simp [from5]
 | k + 1,s => by
  rw [from5_succ];have key : ∀ hs : List Ht,(hs.flatMap (con5 l k s)).length ≤ hs.length * (l.beds.length + 1) ^ k:=by
   intro hs
   induction hs with
   | nil => simp
   | cons h hs ih =>
    rw [List.flatMap_cons,List.length_append,List.length_cons,Nat.succ_mul];have h1 : (con5 l k s h).length ≤ (l.beds.length + 1) ^ k:=by
     unfold con5;split
     ·rw [List.length_map]; exact from_len l k _
     ·exact Nat.one_le_pow _ _ (by omega)
    omega
  have:=key (hits5 l);rw [hits_len,Nat.mul_comm] at this;rw [Nat.pow_succ]; exact this
theorem from_darts (l : Lg) : ∀ (k : Nat) (s : Std), ∀ p ∈ from5 l k s,p.2 ≤ k
 | 0,s,p,hp => by simp [from5] at hp; simp [hp]
 | k + 1,s,p,hp => by
  rw [from5_succ] at hp;obtain ⟨h,_,hp⟩ := List.mem_flatMap.1 hp;unfold con5 at hp;split at hp
  ·obtain ⟨q,hq,rfl⟩ := List.mem_map.1 hp
   have:=from_darts l k _ q hq;simp; omega
  ·simp at hp; simp [hp]
end Go.Proofs.YtnbmgkmcaoafnaaGreatDoor

/- A range over a map, in whatever order: which keys have come so far. -/
namespace Go.Oche
open Go Go.RowKit
section
variable {κ : Type} {P : Program} {enc : κ → Value}
def SeenAt (enc : κ → Value) (W : World) (r b : Nat) (L : List (κ × Value)) (ks : List κ) : Prop :=
 ∃ (es : Array MapEntry) (clock : Nat) (seen : Array Nat) (q : List MapEntry),W.heap[b]? = some (.map es clock) ∧ W.heap[r]? = some (.mapIter (some b) clock seen clock) ∧
  es.toList.map (·.key) = L.map (fun p => enc p.1) ∧ es.toList.map (·.val) = L.map (·.2) ∧ Born es clock ∧ q.map (·.born) = seen.toList ∧ q.map (·.key) = ks.map enc ∧ (∀ e ∈ q,e ∈ es.toList) ∧ q.Nodup
theorem SeenAt.map {W : World} {r b : Nat} {L : List (κ × Value)} {ks : List κ} (h : SeenAt enc W r b L ks) : MapAt enc W b L:=by
 obtain ⟨es,c,s,q,h1,h2,h3,h4,h5,_⟩ := h; exact ⟨es,c,h1,h3,h4,h5⟩
theorem SeenAt.keep {W W' : World} {r b : Nat} {L : List (κ × Value)} {ks : List κ} (h : SeenAt enc W r b L ks) (hb : W'.heap[b]? = W.heap[b]?) (hr : W'.heap[r]? = W.heap[r]?) : SeenAt enc W' r b L ks:=by
 obtain ⟨es,c,s,q,h1,h2,h3⟩ := h; exact ⟨es,c,s,q,hb.trans h1,hr.trans h2,h3⟩
theorem SeenAt.lt {W : World} {r b : Nat} {L : List (κ × Value)} {ks : List κ} (h : SeenAt enc W r b L ks) : r < W.heap.size ∧ b < W.heap.size ∧ r ≠ b:=by
 obtain ⟨es,c,s,q,h1,h2,_⟩ := h;refine ⟨(Array.getElem?_eq_some_iff.1 h2).1,(Array.getElem?_eq_some_iff.1 h1).1,fun e => ?_⟩
 rw [e,h1] at h2; cases h2
theorem born_nodup {es : Array MapEntry} {clock : Nat} (h : Born es clock) : (es.toList.map (·.born)).Nodup:=h.1.imp fun h => by omega
theorem born_inj {es : Array MapEntry} {clock : Nat} (h : Born es clock) {e e' : MapEntry} (he : e ∈ es.toList) (he' : e' ∈ es.toList) (hb : e'.born = e.born) : e' = e:=by
 have h1:=find_born e es.toList (born_nodup h) he;have h2:=find_born e' es.toList (born_nodup h) he';rw [hb,h1] at h2;exact (Option.some.inj h2).symm
theorem MapAt.range {T K E : TypeId} (ht : P.underlying T = some (.map K E)) {W : World} {b : Nat} {L : List (κ × Value)} (h : MapAt enc W b L) :
  ∃ W',(Instr.range T (.map (some b))).run P W = .ok (.pointer (some ⟨W.heap.size,0,none⟩)) W' ∧ SeenAt enc W' W.heap.size b L [] ∧ Below W.heap.size W W' ∧ W'.heap.size = W.heap.size + 1:=by
 obtain ⟨es,c,h1,h2,h3,h4⟩ := h;refine ⟨_,run_range_map W T K E b es c ht h1,⟨es,c, #[],[], ?_,World.alloc_heap_new _ _,h2,h3,h4,rfl,rfl,by simp,by simp⟩,(Below.refl _ _).alloc (Nat.le_refl _) _,by simp⟩
 exact (Below.heap_alloc _ _ _ (Array.getElem?_eq_some_iff.1 h1).1).trans h1
theorem setBlock_grown {W : World} {r : Nat} {o o' : Obj} (_h : W.heap[r]? = some o) : W.grownBy (Go.ChangeMaps.setBlock W r o') (some r) :=
 ⟨rfl,rfl,rfl,Nat.le_of_eq (by show W.heap.size = (W.heap.setIfInBounds r _).size; rw [Array.size_setIfInBounds]),fun q _ hq => by
  have hne : r ≠ q:=fun e => hq (by rw [e])
  show (W.heap.setIfInBounds r _)[q]? = W.heap[q]?
  rw [Array.getElem?_setIfInBounds_ne hne]⟩
theorem SeenAt.next {dec : Value → κ} (hd : ∀ k,dec (enc k) = k) {W : World} {r b : Nat} {L : List (κ × Value)} {ks : List κ} (h : SeenAt enc W r b L ks) (ty : TypeId) :
  ((Instr.next (.pointer (some ⟨r,0,none⟩)) false ty).run P W = .ok (.tuple #[.bool false]) W ∧ ks.Perm (L.map (·.1))) ∨
  ∃ k v W',(k,v) ∈ L ∧ ks.length < L.length ∧ (Instr.next (.pointer (some ⟨r,0,none⟩)) false ty).run P W = .ok (.tuple #[.bool true,enc k,v]) W' ∧ SeenAt enc W' r b L (ks ++ [k]) ∧ W.grownBy W' (some r) ∧ W'.heap.size = W.heap.size ∧
   (Instr.entry (.pointer (some ⟨r,0,none⟩))).run P W' = .ok (.tuple #[enc k,v]) W':=by
 obtain ⟨es,c,seen,q,h1,h2,h3,h4,h5,h6,h7,h8,h9⟩ := h;have hlenL : es.toList.length = L.length:=by have:=congrArg List.length h4; simpa using this
 have hlenq : q.length = ks.length:=by have:=congrArg List.length h7; simpa using this
 have hmem : ∀ x : Nat,seen.contains x = true ↔ ∃ e ∈ q,e.born = x:=fun x => by
  rw [Array.contains_iff_mem,← Array.mem_toList_iff,← h6,List.mem_map]
 rcases run_next_at (P:=P) W ty r b c c seen es c h2 h1 h5.2 (Nat.le_refl _) with ⟨h0,hrun⟩ | ⟨e,he,w1,hw1,hrun⟩
 ·left
  refine ⟨hrun, ?_⟩
  have hall : ∀ e ∈ es.toList,e ∈ q:=fun e he => by
   have hc : seen.contains e.born = true:=by
    cases hx : seen.contains e.born with
    | true => rfl
    | false =>
     have : e ∈ leftOf es seen:=Array.mem_filter.2 ⟨by simpa using he,by simpa using hx⟩
     have hz : leftOf es seen = #[]:=Array.eq_empty_of_size_eq_zero h0;rw [hz] at this; simp at this
   obtain ⟨e',he',hb⟩ := (hmem _).1 hc;rw [← born_inj h5 he (h8 e' he') hb]; exact he'
  have hndes : es.toList.Nodup:=List.Pairwise.of_map (·.born) (fun _ _ h e => h (congrArg _ e)) (born_nodup h5)
  have hp : q.Perm es.toList:=(List.perm_ext_iff_of_nodup h9 hndes).2 fun a => ⟨h8 a,hall a⟩
  have:=(hp.map (·.key)).map dec
  rw [h7,h3,List.map_map,List.map_map] at this
  simpa [Function.comp_def,hd] using this
 ·right
  obtain ⟨hes,hns⟩ := mem_left he;have hnq : e ∉ q:=fun hq => by
   have:=(hmem e.born).2 ⟨e,hq,rfl⟩;rw [this] at hns; cases hns
  obtain ⟨i,hi⟩ := List.getElem?_of_mem hes
  have hiL : i < L.length:=by rw [← hlenL]; exact (List.getElem?_eq_some_iff.1 hi).1
  have hk : e.key = enc L[i].1:=by
   have:=congrArg (fun l => l[i]?) h3
   simp only [List.getElem?_map,hi,Option.map_some,List.getElem?_eq_getElem hiL,Option.some.injEq] at this
   exact this
  have hv : e.val = L[i].2:=by
   have:=congrArg (fun l => l[i]?) h4
   simp only [List.getElem?_map,hi,Option.map_some,List.getElem?_eq_getElem hiL,Option.some.injEq] at this
   exact this
  rw [hk,hv] at hrun;have hb1 : w1.heap[b]? = some (.map es c):=by rcases hw1 with rfl | rfl <;> exact h1
  have hr1 : w1.heap[r]? = some (.mapIter (some b) c seen c):=by rcases hw1 with rfl | rfl <;> exact h2
  have hne : r ≠ b:=fun e => by rw [e,h1] at h2; cases h2
  have hrlt : r < w1.heap.size:=(Array.getElem?_eq_some_iff.1 hr1).1
  have hb2 : (Go.ChangeMaps.setBlock w1 r (.mapIter (some b) c (seen.push e.born) c)).heap[b]? = some (.map es c):=by
   simp [Go.ChangeMaps.setBlock,hne,hb1]
  have hr2 : (Go.ChangeMaps.setBlock w1 r (.mapIter (some b) c (seen.push e.born) c)).heap[r]? = some (.mapIter (some b) c (seen.push e.born) c):=by
   simp [Go.ChangeMaps.setBlock,hrlt]
  have hen:=run_entry_at (P:=P) _ r b c seen es c e hr2 hb2 hes (born_nodup h5);rw [hk,hv] at hen;have hlen : (e :: q).length ≤ es.toList.length:=by
   refine List.Nodup.length_le_of_subset (l₁ := e :: q) (List.nodup_cons.2 ⟨hnq,h9⟩) fun x hx => ?_
   rcases List.mem_cons.1 hx with rfl | hx
   ·exact hes
   ·exact h8 x hx
  refine ⟨L[i].1,L[i].2,_,List.getElem_mem hiL, ?_,hrun,⟨es,c,_,q ++ [e],hb2,hr2,h3,h4,h5,by simp [h6],by simp [h7,hk],fun x hx => ?_, ?_⟩, ?_, ?_,hen⟩
  ·have:=hlen; simp only [List.length_cons] at this; omega
  ·rcases List.mem_append.1 hx with hx | hx
   ·exact h8 x hx
   ·simp at hx; subst hx; exact hes
  ·rw [List.nodup_append]
   exact ⟨h9,by simp,fun a ha b hb => by simp at hb; subst hb; exact fun e' => hnq (e' ▸ ha)⟩
  ·rcases hw1 with rfl | rfl
   ·exact setBlock_grown h2
   ·exact ⟨rfl,rfl,rfl,Nat.le_of_eq (by show W.heap.size = (W.heap.setIfInBounds r _).size; rw [Array.size_setIfInBounds]),fun q' hq' hne' => by
     have hne2 : r ≠ q':=fun e => hne' (by rw [e])
     show (W.heap.setIfInBounds r _)[q']? = W.heap[q']?
     rw [Array.getElem?_setIfInBounds_ne hne2]⟩
  ·rcases hw1 with rfl | rfl
   ·show (w1.heap.setIfInBounds r _).size = w1.heap.size; rw [Array.size_setIfInBounds]
   ·show (W.heap.setIfInBounds r _).size = W.heap.size; rw [Array.size_setIfInBounds]
end
end Go.Oche
