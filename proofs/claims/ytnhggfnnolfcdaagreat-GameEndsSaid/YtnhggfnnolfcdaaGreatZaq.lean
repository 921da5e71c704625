/- The texts AppN, Cpy, Cpy2, HV, SeqW, IB, IC, in build order. -/
import Derived.Test.YtnhggfnnolfcdaaGreatZap
import Derived.Lib.LazyBuf

/- Appending to a row of one's own, with elements of any size; what that leaves behind a box. -/
namespace Go.Oche
open Go Go.RowKit
section
variable {P : Program} {ops : Array Oper} {Q : Exit → Act → World → Prop} {o : Oper} {rest : List Oper} {a : Act} {w : World}
theorem opOK_appendN_at (s x : Operand) (t : TypeId) (ho : o.op = .call { callee:=.builtin .append,args:=#[s,x],argTypes:=#[t,t] })
  (base : Nat) (e : TypeId) (z : Value) (size bytes : Nat) (ht : P.underlying t = some (.slice e)) (hi : (P.info? e).map (fun i => (i.zero,i.size,i.bytes)) = some (some z,size,bytes)) (hzs : z.cells.size = size) (hsz : 0 < size)
  (v : Value) (n : Nat) (xs : List Value) (hs : a.eval s = v) (hown : w.ownsRow base e size v n xs) (b off m c : Nat) (news : List Value) (hx : a.eval x = .slice (some ⟨b,off,none⟩) m c) (hl : news.length = m * size) (hnews : ∀ j u,news[j]? = some u → w.cell? ⟨b,off + j,none⟩ = some u) (h1 : ∀ u ∈ news,u.oneCell' = true)
  (h63 : n + m ≤ 100000) (hbytes : bytes ≤ 1000) (hbase : base ≤ w.heap.size) :
  opOK P o a w (fun v' w' => w'.ownsRow base e size v' (n + m) (xs ++ news) ∧ w.grownBy w' v.ownBlock ∧ (v'.ownBlock = v.ownBlock ∨ v'.ownBlock = some w.heap.size)):=by
 obtain ⟨i,hi,hz0,hz1,hz2⟩ := info_parts hi
 have hmul : (n + m) * bytes ≤ 100000 * 1000:=Nat.mul_le_mul h63 hbytes
 obtain ⟨v',w',hr,h2,h3,h4,h5⟩ := run_append_own_at (P:=P) w base t o.type e i z size bytes ht hi hz0 hz1 hz2 hzs hsz v n xs hown ⟨b,off,none⟩ m c news hl
  (fun j y hj => by rw [addr_at]; exact hnews j y hj) h1 (by unfold maxLen; omega) (by omega) hbase
 unfold opOK execOp
 simp only [ho,resolve,invoke,builtin,Sem.run_bind,Sem.run_pure,Result.andThen_ok,List.map_toArray,List.map_cons,List.map_nil,hs,hx,hr]
 exact ⟨h2,h3,h5⟩
theorem wpList_appendN (hg : o.guard = none) (s x : Operand) (t : TypeId) (ho : o.op = .call { callee:=.builtin .append,args:=#[s,x],argTypes:=#[t,t] })
  (base : Nat) (e : TypeId) (z : Value) (size bytes : Nat) (ht : P.underlying t = some (.slice e)) (hi : (P.info? e).map (fun i => (i.zero,i.size,i.bytes)) = some (some z,size,bytes)) (hzs : z.cells.size = size) (hsz : 0 < size)
  (v : Value) (n : Nat) (xs : List Value) (hs : a.eval s = v) (hown : w.ownsRow base e size v n xs) (b off m c : Nat) (news : List Value) (hx : a.eval x = .slice (some ⟨b,off,none⟩) m c) (hl : news.length = m * size) (hnews : ∀ j u,news[j]? = some u → w.cell? ⟨b,off + j,none⟩ = some u) (h1 : ∀ u ∈ news,u.oneCell' = true)
  (h63 : n + m ≤ 100000) (hbytes : bytes ≤ 1000) (hbase : base ≤ w.heap.size)
  (hK : ∀ v' w',w'.ownsRow base e size v' (n + m) (xs ++ news) → w.grownBy w' v.ownBlock → (v'.ownBlock = v.ownBlock ∨ v'.ownBlock = some w.heap.size) → wpList P ops Q rest (a.put o.dst v') w') : wpList P ops Q (o :: rest) a w :=
 wpList_opOK hg (opOK_appendN_at s x t ho base e z size bytes ht hi hzs hsz v n xs hs hown b off m c news hx hl hnews h1 h63 hbytes hbase) fun v' w' ⟨h1,h2,h3⟩ => hK v' w' h1 h2 h3
structure BoxRow (bx : Nat) (tb e : TypeId) (size n : Nat) (xs : List Value) (O : Nat → Prop) (lv : Value) (W : World) : Prop where
 o : ∀ k,O k ↔ k = bx ∨ lv.ownBlock = some k
 box : W.heap[bx]? = some (.cells #[lv] tb (0,0))
 row : W.ownsRow (bx + 1) e size lv n xs
theorem BoxRow.stab {bx : Nat} {tb e : TypeId} {size n : Nat} {xs : List Value} {O : Nat → Prop} {lv : Value} {A B : World} (h : BoxRow bx tb e size n xs O lv A) (hk : ∀ k,k < A.heap.size → O k → B.heap[k]? = A.heap[k]?) : BoxRow bx tb e size n xs O lv B :=
 ⟨h.o,(hk bx (Array.getElem?_eq_some_iff.1 h.box).1 ((h.o bx).2 (.inl rfl))).trans h.box,ownsN_kept h.row fun g hg => hk g (h.row.lt g hg).2 ((h.o g).2 (.inr hg))⟩
theorem BoxRow.more {bx : Nat} {tb e : TypeId} {size n m : Nat} {xs news : List Value} {O : Nat → Prop} {lv lv' : Value} {W Wa Wb : World} (h : BoxRow bx tb e size n xs O lv W) (hb : Below W.heap.size W Wa)
  (ho : Wb.ownsRow (bx + 1) e size lv' (n + m) (xs ++ news)) (hg : Wa.grownBy Wb lv.ownBlock) (hat : lv'.ownBlock = lv.ownBlock ∨ lv'.ownBlock = some Wa.heap.size) :
  BoxRow bx tb e size (n + m) (xs ++ news) (fun k => k = bx ∨ lv'.ownBlock = some k) lv' (Wb.setCell ⟨bx,0,none⟩ lv') ∧ Rel O W (fun k => k = bx ∨ lv'.ownBlock = some k) (Wb.setCell ⟨bx,0,none⟩ lv') ∧
   Wb.cell? ⟨bx,0,none⟩ = some lv ∧ Wb.frozen? ⟨bx,0,none⟩ = false:=by
 have hbl : bx < W.heap.size:=(Array.getElem?_eq_some_iff.1 h.box).1
 have hba : bx < Wa.heap.size:=Nat.lt_of_lt_of_le hbl hb.size
 have hbx : Wb.heap[bx]? = some (.cells #[lv] tb (0,0)):=(hg.block bx hba (fun e => by have:=(h.row.lt bx e.symm).1; omega)).trans ((hb.block bx hbl).trans h.box)
 have hne : ∀ g,lv'.ownBlock = some g → g ≠ bx:=fun g hg e => by have:=(ho.lt g hg).1; omega
 refine ⟨⟨fun _ => Iff.rfl,by rw [heap_setCell_at hbx]; rfl,ownsN_kept ho fun g hg => Below.heap_setCell _ _ _ _ (hne g hg)⟩,⟨hg.os.trans hb.os,hg.tape.trans hb.tape,hg.output.trans hb.output, ?_,fun k hk hn => ?_,fun k hk => ?_,fun k hk => ?_⟩,by rw [cell_of_heap hbx]; rfl,frozen_of_heap hbx⟩
 ·have:=hg.size; have:=hb.size; simp; omega
 ·have h1 : ¬ k = bx:=fun e => hn ((h.o k).2 (.inl e))
  have h2 : ¬ lv.ownBlock = some k:=fun e => hn ((h.o k).2 (.inr e))
  rw [Below.heap_setCell _ _ _ _ h1,hg.block k (Nat.lt_of_lt_of_le hk hb.size) (fun e => h2 e.symm)]
  exact hb.block k hk
 ·rcases hk with rfl | hk
  ·exact .inl ((h.o k).2 (.inl rfl))
  ·rcases hat with e | e
   ·exact .inl ((h.o k).2 (.inr (e.symm.trans hk)))
   ·rw [e] at hk; cases hk; exact .inr hb.size
 ·rcases hk with rfl | hk
  ·have:=hg.size; simp; omega
  ·have:=(ho.lt k hk).2; simpa using this
end
end Go.Oche

/- append([]T{}, l...): a copy of one's own. -/
namespace Go.Oche
open Go Go.RowKit
section
variable {P : Program} {w : World}
theorem run_append_empty (t ty e : TypeId) (i : TypeInfo) (z : Value) (ht : P.underlying t = some (.slice e)) (hi : P.info? e = some i) (_hz : i.zero = some z) (b : Addr) (a : Option Addr) (cap : Nat) :
  (Builtin.append_ #[t,t] ty #[.slice (some b) 0 0,.slice a 0 cap]).run P w = .ok (.slice (some b) 0 0) w:=by
 cases a <;> simp [Builtin.append_,run_underlying ht,sizeOf,typeInfo,hi,Builtin.lenOf,Builtin.firstCells,loadCells,loadCellsFrom,storeCells,Sem.run_pure]
theorem flat_len {size : Nat} : ∀ {rows : List (List Value)},(∀ r ∈ rows,r.length = size) → rows.flatten.length = rows.length * size
 | [],_ => by simp
 | r :: rows,h => by rw [List.flatten_cons,List.length_append,h r (by simp),flat_len (fun r hr => h r (by simp [hr])),List.length_cons,Nat.add_mul]; omega
theorem opOK_copy {o : Oper} {a : Act} (s x : Operand) (t : TypeId) (ho : o.op = .call { callee:=.builtin .append,args:=#[s,x],argTypes:=#[t,t] })
  (base : Nat) (e : TypeId) (z : Value) (size bytes : Nat) (ht : P.underlying t = some (.slice e)) (hi : (P.info? e).map (fun i => (i.zero,i.size,i.bytes)) = some (some z,size,bytes)) (hzs : z.cells.size = size) (hsz : 0 < size)
  (g : Nat) (hs : a.eval s = .slice (some ⟨g,0,none⟩) 0 0) (hown : w.ownsRow base e size (.slice (some ⟨g,0,none⟩) 0 0) 0 []) {S : Nat → Prop} (v : Value) (rows : List (List Value)) (hx : a.eval x = v) (hsl : SlN size S w v rows) (h1 : ∀ r ∈ rows, ∀ u ∈ r,u.oneCell' = true)
  (h63 : rows.length ≤ 100000) (hbytes : bytes ≤ 1000) (hbase : base ≤ w.heap.size) :
  opOK P o a w (fun v' w' => Below base w w' ∧ SlN size (fun k => base ≤ k) w' v' rows):=by
 obtain ⟨i,hi',hz0,hz1,hz2⟩ := info_parts hi
 obtain ⟨al,cap,rfl,hc1,hc2,hcell⟩ := hsl
 by_cases h0 : rows = []
 ·subst h0
  unfold opOK execOp
  simp only [ho,resolve,invoke,builtin,Sem.run_bind,Sem.run_pure,Result.andThen_ok,List.map_toArray,List.map_cons,List.map_nil,hs,hx,List.length_nil,run_append_empty t o.type e i z ht hi' hz0]
  exact ⟨⟨rfl,rfl,rfl,Nat.le_refl _,fun _ _ => rfl⟩,_,_,rfl,Nat.le_refl _,Nat.zero_le _,fun i r hr => by simp at hr⟩
 ·have hlen : 0 < rows.length:=List.length_pos_iff.2 h0
  have hr : ∀ r ∈ rows,r.length = size:=fun r hr => by
   obtain ⟨i,hi⟩ := List.getElem?_of_mem hr
   exact (hcell i r hi).1
  obtain ⟨_,b,off,rfl,_,_⟩ := hcell 0 rows[0] (List.getElem?_eq_getElem hlen)
  have hfl : rows.flatten.length = rows.length * size:=flat_len hr
  refine opOK_mono (opOK_appendN_at s x t ho base e z size bytes ht hi hzs hsz _ 0 [] hs hown b off rows.length cap rows.flatten hx hfl (fun j u hj => ?_) (fun u hu => ?_) (by omega) hbytes hbase) ?_
  ·have hjl : j < rows.length * size:=by rw [← hfl]; exact (List.getElem?_eq_some_iff.1 hj).1
   have hi2 : j / size < rows.length:=(Nat.div_lt_iff_lt_mul hsz).2 hjl
   have hr2:=hr rows[j / size] (List.getElem_mem hi2)
   have hm : j % size < size:=Nat.mod_lt _ hsz
   obtain ⟨_,b',off',hal,_,hc⟩ := hcell (j / size) _ (List.getElem?_eq_getElem hi2)
   cases hal
   have h3:=SlN.of_owns.flat_at (n:=0) (c:=0) (rows:=[]) hr (List.getElem?_eq_getElem hi2) (List.getElem?_eq_getElem (by rw [hr2]; exact hm))
   have hj2 : j / size * size + j % size = j:=by rw [Nat.mul_comm]; exact Nat.div_add_mod j size
   rw [hj2,hj] at h3
   have h4:=hc (j % size) _ (List.getElem?_eq_getElem (by rw [hr2]; exact hm))
   rw [Nat.add_assoc,hj2] at h4
   rw [h4,h3]
  ·obtain ⟨r,hr3,hu⟩ := List.mem_flatten.1 hu
   exact h1 r hr3 u hu
  ·rintro v' w' ⟨hown',hg,_⟩
   rw [Nat.zero_add,List.nil_append] at hown'
   refine ⟨below_grownBy hg hbase fun k hk => ?_, ?_⟩
   ·cases hk
    rcases hown.2 with ⟨h,_⟩ | ⟨g',c',cur,h,hb,_⟩
    ·cases h
    ·cases h; exact hb
   ·rcases hown'.2 with ⟨_,h⟩ | ⟨g',c',cur,rfl,hb,_,hc3,hc4,_⟩
    ·omega
    ·exact (SlN.of_owns hown' hr rfl hc3 hc4).mono fun k hk => by rw [hk]; exact hb
theorem wpList_copy {ops : Array Oper} {rest : List Oper} {Q : Exit → Act → World → Prop} {o : Oper} {a : Act} (hg : o.guard = none) (s x : Operand) (t : TypeId) (ho : o.op = .call { callee:=.builtin .append,args:=#[s,x],argTypes:=#[t,t] })
  (e : TypeId) (z : Value) (size bytes : Nat) (ht : P.underlying t = some (.slice e)) (hi : (P.info? e).map (fun i => (i.zero,i.size,i.bytes)) = some (some z,size,bytes)) (hzs : z.cells.size = size) (hsz : 0 < size)
  (hs : a.eval s = .slice (some ⟨w.heap.size,0,none⟩) 0 0) {S : Nat → Prop} (v : Value) (rows : List (List Value)) (hx : a.eval x = v) (hsl : SlN size S w v rows) (h1 : ∀ r ∈ rows, ∀ u ∈ r,u.oneCell' = true)
  (h63 : rows.length ≤ 100000) (hbytes : bytes ≤ 1000)
  (hK : ∀ v' w',Below w.heap.size w w' → SlN size (fun k => w.heap.size ≤ k) w' v' rows → wpList P ops Q rest (a.put o.dst v') w') : wpList P ops Q (o :: rest) a (w.alloc (.cells #[] e)) :=
 wpList_opOK hg (opOK_copy s x t ho w.heap.size e z size bytes ht hi hzs hsz w.heap.size hs (World.ownsRow_made w #[] 0 (Nat.le_refl _) (Nat.zero_le _) (by simp)) v rows hx (hsl.below (aB _ _)) h1 h63 hbytes (by simp)) fun v' w' ⟨h1,h2⟩ => hK v' w' ((aB w _).trans h1) h2
theorem Sl.toN {S : Nat → Prop} {v : Value} {xs : List Value} (h : Sl S w v xs) : SlN 1 S w v (xs.map fun x => [x]):=by
 obtain ⟨a,cap,rfl,h2,h3,h4⟩ := h
 refine ⟨a,cap,by simp,by simpa using h2,h3,fun i r hr => ?_⟩
 rw [List.getElem?_map,Option.map_eq_some_iff] at hr
 obtain ⟨x,hx,rfl⟩ := hr
 obtain ⟨b,off,e,s,c⟩ := h4 i x hx
 refine ⟨rfl,b,off,e,s,fun j y hj => ?_⟩
 match j,hj with
 | 0,hj => cases hj; simpa using c
 | j + 1,hj => simp at hj
theorem SlN.to1 {S : Nat → Prop} {v : Value} {xs : List Value} (h : SlN 1 S w v (xs.map fun x => [x])) : Sl S w v xs:=by
 obtain ⟨a,cap,rfl,h2,h3,h4⟩ := h
 refine ⟨a,cap,by simp,by simpa using h2,h3,fun i x hx => ?_⟩
 obtain ⟨_,b,off,e,s,c⟩ := h4 i [x] (by simp [hx])
 exact ⟨b,off,e,s,by simpa using c 0 x rfl⟩
end
end Go.Oche

/- append([]T{}, l...) once more: the copy is a row of one's own. -/
namespace Go.Oche
open Go Go.RowKit
section
variable {P : Program} {w : World}
theorem wpList_copyO {ops : Array Oper} {rest : List Oper} {Q : Exit → Act → World → Prop} {o : Oper} {a : Act} (hg : o.guard = none) (s x : Operand) (t : TypeId) (ho : o.op = .call { callee:=.builtin .append,args:=#[s,x],argTypes:=#[t,t] })
  (e : TypeId) (z : Value) (bytes : Nat) (ht : P.underlying t = some (.slice e)) (hi : (P.info? e).map (fun i => (i.zero,i.size,i.bytes)) = some (some z,1,bytes)) (hzs : z.cells.size = 1)
  (hs : a.eval s = .slice (some ⟨w.heap.size,0,none⟩) 0 0) {S : Nat → Prop} (v : Value) (xs : List Value) (hx : a.eval x = v) (hsl : Sl S w v xs) (h1 : ∀ u ∈ xs,u.oneCell' = true) (h0 : 0 < xs.length)
  (h63 : xs.length ≤ 100000) (hbytes : bytes ≤ 1000)
  (hK : ∀ v' w',Below w.heap.size w w' → w'.ownsRow w.heap.size e 1 v' xs.length xs → wpList P ops Q rest (a.put o.dst v') w') : wpList P ops Q (o :: rest) a (w.alloc (.cells #[] e)):=by
 obtain ⟨al,cap,rfl,hc1,hc2,hcell⟩ := hsl
 obtain ⟨b,off,rfl,_,_⟩ := hcell 0 xs[0] (List.getElem?_eq_getElem h0)
 refine wpList_opOK hg (opOK_appendN_at s x t ho w.heap.size e z 1 bytes ht hi hzs (by decide) _ 0 [] hs (World.ownsRow_made w #[] 0 (Nat.le_refl _) (Nat.zero_le _) (by simp)) b off xs.length cap xs hx (by omega) (fun j u hj => ?_) h1 (by omega) hbytes (by simp)) ?_
 ·obtain ⟨b',off',hal,_,hc⟩ := hcell j u hj
  cases hal
  exact bAt (aB _ _) hc
 ·rintro v' w' ⟨hown',hgr,_⟩
  rw [Nat.zero_add,List.nil_append] at hown'
  exact hK v' w' ((aB w _).trans (below_grownBy hgr (by simp) fun k hk => by cases hk; exact Nat.le_refl _)) hown'
end
end Go.Oche

/- Chapter 4: a game of its own that stands so (clone). -/
namespace Go.Proofs.YtnhggfnnolfcdaaGreat
open Go.RowKit Go.Oche Go.Proofs
def zPlr : Value:=.agg #[.int .i64 0,.int .i64 0,.int .i64 0,.int .i64 0,.int .i64 0,.int .i64 0,.int .i64 0,.int .i64 0,.bool false]
theorem info_plr : (Tryz.prog.info? 80).map (fun i => (i.zero,i.size,i.bytes)) = some (some zPlr,9,72):=by kernel_rfl
theorem pls_one (l : List Plr) : ∀ u ∈ plsFlat l,u.oneCell' = true:=by
 intro u hu
 unfold plsFlat at hu
 obtain ⟨r,hr,hu⟩ := List.mem_flatten.1 hu
 obtain ⟨p,_,rfl⟩ := List.mem_map.1 hr
 unfold plrRow at hu
 simp only [List.mem_cons,List.mem_append,List.mem_map,List.not_mem_nil,or_false] at hu
 rcases hu with rfl | ⟨m,_,rfl⟩ | rfl <;> rfl
theorem eql_some_nil (w : World) {t e : TypeId} (a : Addr) (n c : Nat) (ht : Tryz.prog.underlying t = some (.slice e)) : (binOp .eql t (.slice (some a) n c) (.slice none 0 0)).run Tryz.prog w = .ok (.bool false) w:=by
 have h : ∀ d : Nat,(Op.equalIn (d + 1) t (.slice (some a) n c) (.slice none 0 0)).run Tryz.prog w = .ok false w:=fun d => by
  simp [Op.equalIn,run_underlying ht]
 simp only [binOp]
 simp [Op.equal,Op.maxDepth,h 9999]
theorem PlsAt.of_owns {w : World} {base n : Nat} {v : Value} {l : List Plr} (h : w.ownsRow base 80 9 v n (plsFlat l)) (hn : l.length = n) (h7 : Sevens l) (h0 : 0 < n) : ∃ g c,v = .slice (some ⟨g,0,none⟩) n c ∧ base ≤ g ∧ PlsAt w g l ∧ n ≤ c ∧ c ≤ 9223372036854775807:=by
 rcases h.2 with ⟨_,h⟩ | ⟨g,cap,cur,rfl,hb,hg,hnc,hcm,hcs,htake⟩
 ·omega
 ·refine ⟨g,cap,rfl,hb,⟨h7,cur.toList.drop (n * 9), ?_⟩,hnc,by unfold maxLen at hcm; omega⟩
  rw [hg]
  congr 2
  rw [← htake,List.take_append_drop]
theorem sl_nil_any {S S' : Nat → Prop} {w w' : World} {v : Value} {xs : List Value} (h : Sl S w v xs) (hx : xs = []) : Sl S' w' v xs:=by
 obtain ⟨a,c,e,l1,l2,_⟩ := h
 exact ⟨a,c,e,l1,l2,fun i x hx' => by subst hx; simp at hx'⟩
theorem PlsAt.flat {w : World} {pb : Nat} {l : List Plr} (h : PlsAt w pb l) (j : Nat) (u : Value) (hj : (plsFlat l)[j]? = some u) : w.cell? ⟨pb,j,none⟩ = some u:=by
 obtain ⟨_,rest,hb⟩ := h
 rw [cell_of_heap hb,List.getElem?_toArray,List.getElem?_append_left (List.getElem?_eq_some_iff.1 hj).1]; exact hj
set_option maxRecDepth 100000 in
set_option maxHeartbeats 4000000 in
theorem cloneP_any (pb n cap : Nat) (l : List Plr) (hn : l.length = n) (w : World) (hP : PlsAt w pb l) (h0 : 0 < n) (h8 : n ≤ 8) (hc : n ≤ cap ∧ cap ≤ 9223372036854775807) :
  Calls Tryz.prog 51 #[.slice (some ⟨pb,0,none⟩) n cap] w fun e w' => ∃ g c,e = .returned (.slice (some ⟨g,0,none⟩) n c) ∧ Below w.heap.size w w' ∧ w.heap.size ≤ g ∧ PlsAt w' g l ∧ n ≤ c ∧ c ≤ 9223372036854775807:=by
 have HP:=Lib.hid hP
 have HN:=Lib.hid hn
 have heq:=fun w => eql_some_nil w ⟨pb,0,none⟩ n cap Tryz.underlying34
 clear hP hn
 go_enter Tryz.func51,Tryz.ntmps51
 go_wp2_with (at_builtin; refine wpList_appendN rfl (.tmp 5) (.tmp 6) 34 rfl w.heap.size 80 zPlr 9 72 Tryz.underlying34 info_plr rfl (by decide) _ 0 [] rfl (World.ownsRow_made w #[] 0 (Nat.le_refl _) (Nat.zero_le _) (by simp)) pb 0 n cap (plsFlat l) rfl (by rw [plsFlat_len HP.out.1,HN.out]; omega) (fun j u hj => by rw [Nat.zero_add]; exact bAt (aB _ _) (HP.out.flat j u hj)) (pls_one l) (by omega) (by decide) (by simp) ?_)
 rintro v w' hown hg _
 obtain ⟨g,c,rfl,hbg,hP',hc1,hc2⟩ := PlsAt.of_owns hown HN.out HP.out.1 h0
 have HP':=Lib.hid hP'
 have HB:=Lib.hid ((aB w (.cells #[] 80)).trans (below_grownBy hg (by simp) fun k hk => by cases hk; exact Nat.le_refl _))
 clear hown hg hP'
 go_wp2
 go_ret
 exact ⟨g,c,rfl,HB.out,hbg,HP'.out,hc1,hc2⟩
set_option maxRecDepth 100000 in
set_option maxHeartbeats 4000000 in
theorem clone_any (t pb cap : Nat) (r : Rul) (g : Gam) (wv nv : Value) (M : Int) (w : World) (h : TabAt w t pb r g cap wv nv) (hi : Inv r M g) (hw0 : g.win = []) :
  Calls Tryz.prog 36 #[.pointer (some ⟨t,0,none⟩)] w fun e w' => ∃ t' pb' cap',e = .returned (.pointer (some ⟨t',0,none⟩)) ∧ Below w.heap.size w w' ∧ TabAt w' t' pb' r g cap' wv nv ∧ w.heap.size ≤ t' ∧ w.heap.size ≤ pb':=by
 have hn:=h.cap
 have hne:=h.ne
 have hpl:=players_of hi.ok
 have hlen:=hi.len
 have hpl2:=hi.pl
 obtain ⟨n,hnn⟩ : ∃ n,g.pls.length = n:=⟨_,rfl⟩
 obtain ⟨LV,hLV⟩ : ∃ LV,lawV r nv = LV:=⟨_,rfl⟩
 have hbox:=h.box
 unfold tabA at hbox
 rw [hnn,hLV] at hbox
 have hh : ∀ j,w.cell? ⟨t,j,none⟩ = _:=fun j => cell_of_heap (o:=j) hbox
 have r3:=hh 3
 simp only [List.getElem?_toArray,List.getElem?_cons_zero,List.getElem?_cons_succ] at r3
 have hl1 : LV.oneCell' = true:=by rw [← hLV]; rfl
 have hw1 : wv.oneCell' = true:=by obtain ⟨_,_,e,_⟩ := h.win.form; rw [e]; rfl
 have hn1 : nv.oneCell' = true:=by obtain ⟨_,_,e,_⟩ := h.num.form; rw [e]; rfl
 have h0 : 0 < n:=by omega
 have h8 : n ≤ 8:=by omega
 rw [hnn] at hn
 have HWN:=Lib.hid hw0
 have HT:=Lib.hid h
 have HNN:=Lib.hid hnn
 have HLV:=Lib.hid hLV
 have H1:=Lib.hid (And.intro hl1 (And.intro hw1 hn1))
 have HPB:=Lib.hid (show pb < w.heap.size from h.pls.lt)
 have HBX:=Lib.hid hbox
 clear h hi hw0 hh hbox hnn hLV hl1 hw1 hn1 hlen hpl2 hpl
 obtain ⟨w1,hw1⟩ : ∃ w1,w.alloc (.cells #[.int .i64 g.round,.int .i64 g.player,.int .i64 g.darts,.slice (some ⟨pb,0,none⟩) n cap,wv,LV,.int .i64 r.kind,.int .i64 r.players,.int .i64 r.last,.bool r.bull,.bool r.jump,.int .i64 r.rounds,.bool r.cut,nv,.int .i64 r.lives,.bool r.own,.bool (hitB g 0),.bool (hitB g 1),.bool (hitB g 2),.bool (hitB g 3),.bool (hitB g 4)] 69) = w1:=⟨_,rfl⟩
 have hb1 : Below w.heap.size w w1:=by rw [← hw1]; exact aB _ _
 replace r3:=bAt (aB w (.cells #[.int .i64 g.round,.int .i64 g.player,.int .i64 g.darts,.slice (some ⟨pb,0,none⟩) n cap,wv,LV,.int .i64 r.kind,.int .i64 r.players,.int .i64 r.last,.bool r.bull,.bool r.jump,.int .i64 r.rounds,.bool r.cut,nv,.int .i64 r.lives,.bool r.own,.bool (hitB g 0),.bool (hitB g 1),.bool (hitB g 2),.bool (hitB g 3),.bool (hitB g 4)] 69)) r3
 obtain ⟨q,hq⟩ : ∃ q,w.heap.size = q:=⟨_,rfl⟩
 have k1 : w1.heap[q]? = some (.cells #[.int .i64 g.round,.int .i64 g.player,.int .i64 g.darts,.slice (some ⟨pb,0,none⟩) n cap,wv,LV,.int .i64 r.kind,.int .i64 r.players,.int .i64 r.last,.bool r.bull,.bool r.jump,.int .i64 r.rounds,.bool r.cut,nv,.int .i64 r.lives,.bool r.own,.bool (hitB g 0),.bool (hitB g 1),.bool (hitB g 2),.bool (hitB g 3),.bool (hitB g 4)] 69 (0,0)):=by rw [← hw1,← hq]; exact World.alloc_heap_new _ _
 have HT1:=Lib.hid (HT.out.below hb1)
 have K1:=Lib.hid k1
 have HB1:=Lib.hid hb1
 have HW1:=Lib.hid hw1
 have HQ:=Lib.hid hq
 have HNE:=Lib.hid hne
 clear hb1 k1 hw1 hq hne
 go_enter Tryz.func36,Tryz.ntmps36
 go_wp2_with (first | (refine wpList_opOK (o:=⟨some 6,Op.load 69 (.tmp 5),_,_,_,_⟩) (R:=fun v w' => v = .agg #[.int .i64 g.round,.int .i64 g.player,.int .i64 g.darts,.slice (some ⟨pb,0,none⟩) n cap,wv,LV,.int .i64 r.kind,.int .i64 r.players,.int .i64 r.last,.bool r.bull,.bool r.jump,.int .i64 r.rounds,.bool r.cut,nv,.int .i64 r.lives,.bool r.own,.bool (hitB g 0),.bool (hitB g 1),.bool (hitB g 2),.bool (hitB g 3),.bool (hitB g 4)] ∧ w = w') rfl (opOK_load_row 69 (.tmp 5) rfl t #[.int .i64 g.round,.int .i64 g.player,.int .i64 g.darts,.slice (some ⟨pb,0,none⟩) n cap,wv,LV,.int .i64 r.kind,.int .i64 r.players,.int .i64 r.last,.bool r.bull,.bool r.jump,.int .i64 r.rounds,.bool r.cut,nv,.int .i64 r.lives,.bool r.own,.bool (hitB g 0),.bool (hitB g 1),.bool (hitB g 2),.bool (hitB g 3),.bool (hitB g 4)] rfl 69 (0,0) HBX.out _ Tryz.underlying69 rfl (by kernel_rfl) ⟨rfl,rfl⟩) ?_; rintro _ _ ⟨rfl,rfl⟩) | (refine wpList_opOK (o:=⟨none,Op.store 69 (.tmp 3) (.tmp 6),_,_,_,_⟩) (R:=fun _ w' => w.alloc (.cells #[.int .i64 g.round,.int .i64 g.player,.int .i64 g.darts,.slice (some ⟨pb,0,none⟩) n cap,wv,LV,.int .i64 r.kind,.int .i64 r.players,.int .i64 r.last,.bool r.bull,.bool r.jump,.int .i64 r.rounds,.bool r.cut,nv,.int .i64 r.lives,.bool r.own,.bool (hitB g 0),.bool (hitB g 1),.bool (hitB g 2),.bool (hitB g 3),.bool (hitB g 4)] 69) = w') rfl (opOK_store_row 69 (.tmp 3) (.tmp 6) rfl w.heap.size #[.int .i64 g.round,.int .i64 g.player,.int .i64 g.darts,.slice (some ⟨pb,0,none⟩) n cap,wv,LV,.int .i64 r.kind,.int .i64 r.players,.int .i64 r.last,.bool r.bull,.bool r.jump,.int .i64 r.rounds,.bool r.cut,nv,.int .i64 r.lives,.bool r.own,.bool (hitB g 0),.bool (hitB g 1),.bool (hitB g 2),.bool (hitB g 3),.bool (hitB g 4)] rfl rfl _ _ (World.alloc_heap_new _ _) (by kernel_rfl) rfl (by simp only [List.all_toArray,List.all_cons,List.all_nil,H1.out.1,H1.out.2.1,H1.out.2.2,Bool.and_true]; rfl) (World.setRow_alloc_new _ _ _ _).symm) ?_; rintro _ _ rfl))
 rw [HW1.out,HQ.out]
 refine (cloneP_any pb n cap g.pls HNN.out w1 HT1.out.pls h0 h8 hn).mono ?_
 rintro e w2 ⟨g2,c,rfl,hb2,hg2,hP2,hc1,hc2⟩
 have k2:=(hb2.block _ (Array.getElem?_eq_some_iff.1 K1.out).1).trans K1.out
 have c3 : w2.cell? ⟨q,3,none⟩ = some (.slice (some ⟨pb,0,none⟩) n cap):=by rw [cell_of_heap k2]; rfl
 have f3:=frozen_of_heap (o:=3) k2
 have hq1 : q < w1.heap.size:=(Array.getElem?_eq_some_iff.1 K1.out).1
 have hTab : TabAt (w2.setCell ⟨q,3,none⟩ (.slice (some ⟨g2,0,none⟩) n c)) q g2 r g c wv nv:=by
  have hT2:=HT1.out.below hb2
  have hlw : ∀ {v : Value} {l : List Value},Sl (fun k => ¬ TO t pb k) w v l → Sl (fun k => ¬ TO q g2 k) w2 v l:=fun hs =>
   ((hs.lt.below HB1.out).below hb2).mono fun k hk e => by have:=HQ.out; rcases e with e | e <;> (have:=hk.2; have:=HB1.out.size; omega)
  refine ⟨?_, ?_,sl_nil_any HT.out.win (by rw [HWN.out]; rfl),sl_set (hlw HT.out.num) _ (fun k hk e => hk (.inl e)),by omega,by rw [HNN.out]; exact ⟨hc1,hc2⟩⟩
  ·rw [heap_setCell_at k2]
   unfold tabA
   rw [HNN.out,HLV.out]; rfl
  ·exact hP2.other _ (by show q ≠ g2; omega)
 have HTAB:=Lib.hid hTab
 have HB3 : Hid (Below w.heap.size w (w2.setCell ⟨q,3,none⟩ (.slice (some ⟨g2,0,none⟩) n c))):=Lib.hid ((HB1.out.trans (hb2.mono HB1.out.size)).setCell (by show w.heap.size ≤ q; rw [HQ.out]; exact Nat.le_refl _) _)
 have HG2 : Hid (w.heap.size ≤ g2):=Lib.hid (by have:=HB1.out.size; omega)
 clear hb2 hg2 hP2 k2 hq1 hTab r3
 go_wp2
 go_returns
 exact ⟨q,g2,c,rfl,HB3.out,HTAB.out,by rw [HQ.out]; exact Nat.le_refl _,HG2.out⟩
end Go.Proofs.YtnhggfnnolfcdaaGreat

/- A region that draws its order, walked in the text's order (Seq), all of it. -/
namespace Go.Oche
open Go Go.RowKit
end Go.Oche

/- Chapter 4: two games that stand the same (same). -/
namespace Go.Proofs.YtnhggfnnolfcdaaGreat
open Go.RowKit Go.Oche Go.Proofs
theorem take_eq_succ {α : Type} {l l' : List α} {k : Nat} (h : l.take k = l'.take k) (h1 : k < l.length) (h2 : k < l'.length) (he : l[k] = l'[k]) : l.take (k + 1) = l'.take (k + 1):=by
 rw [List.take_succ_eq_append_getElem h1,List.take_succ_eq_append_getElem h2,h,he]
set_option maxRecDepth 100000 in
set_option maxHeartbeats 4000000 in
theorem equalP_any (p1 c1 p2 c2 n : Nat) (l1 l2 : List Plr) (hn1 : l1.length = n) (hn2 : l2.length = n) (w : World) (h1 : PlsAt w p1 l1) (h2 : PlsAt w p2 l2) (h8 : n ≤ 1000) :
  Calls Tryz.prog 55 #[.slice (some ⟨p1,0,none⟩) n c1,.slice (some ⟨p2,0,none⟩) n c2] w fun e w' => e = .returned (.bool (decide (l1 = l2))) ∧ Below w.heap.size w w':=by
 obtain ⟨eb,heb⟩ : ∃ eb,decide (l1 = l2) = eb:=⟨_,rfl⟩
 rw [heb]
 have HEB:=Lib.hid heb
 have H1:=Lib.hid h1
 have H2:=Lib.hid h2
 have HN1:=Lib.hid hn1
 have HN2:=Lib.hid hn2
 clear heb h1 h2 hn1 hn2
 go_enter Tryz.func55,Tryz.ntmps55
 go_wp2_with fail
 go_loopw [5,13] (fun _ iv wr => ∃ k : Nat,k ≤ n ∧ iv = .int .i64 k ∧ Hid (l1.take k = l2.take k) ∧ Hid (Below w.heap.size w wr)) (fun _ iv _ => n - (intOf iv).toNat)
 case atStart => exact ⟨0,by omega,by go_num,Lib.hid (by simp),Lib.hid (Below.refl _ _)⟩
 case round =>
  obtain ⟨k,hk,rfl,HK,HB⟩ := hrel
  obtain ⟨wo,rfl⟩ : ∃ wo : World,wo = wr:=⟨_,rfl⟩
  by_cases hlt : k < n
  ·have HX : Hid (∃ (a : k < l1.length) (b : k < l2.length),True):=Lib.hid ⟨by rw [HN1.out]; exact hlt,by rw [HN2.out]; exact hlt,trivial⟩
   obtain ⟨x,HX1⟩ : ∃ x,Hid (∃ h : k < l1.length,l1[k] = x):=⟨_,Lib.hid ⟨HX.out.1,rfl⟩⟩
   obtain ⟨y,HY1⟩ : ∃ y,Hid (∃ h : k < l2.length,l2[k] = y):=⟨_,Lib.hid ⟨HX.out.2.1,rfl⟩⟩
   obtain ⟨b,hb⟩ : ∃ b,(!decide (x = y)) = b:=⟨_,rfl⟩
   have HBB:=Lib.hid hb
   clear hb
   go_wp2_with fail
   refine wp_region_seq 9 [.is (.slice (some ⟨p1,0,none⟩) n c1),.is (.int .i64 k),.is (.pointer (some ⟨p1,k * 9,none⟩)),.is (plrV x),.is (.slice (some ⟨p2,0,none⟩) n c2),.is (.int .i64 k),.is (.pointer (some ⟨p2,k * 9,none⟩)),.is (plrV y),.is (.bool b)] rfl mix (by kernel_rfl) (by kernel_rfl) ?seqm
   case seqm =>
    simp only [List.take_succ_cons,List.take_zero]
    iterate 3
     refine seq_on (by rfl) (fun w3 hb3 _ => ?_) ?_
     ·have ha:=H1.out.below (HB.out.trans (hb3.mono HB.out.size))
      have hc:=H2.out.below (HB.out.trans (hb3.mono HB.out.size))
      obtain ⟨q1,e1⟩ := HX1.out
      obtain ⟨q2,e2⟩ := HY1.out
      simp [opOK,go_sem,hlt,Below.refl]
      try exact rfl
     simp only [Act.put,List.setIfInBounds_toArray,List.set_cons_succ,List.set_cons_zero]
    refine seq_on (by rfl) (fun w3 hb3 hH => ?_) ?_
    ·have ha:=H1.out.below (HB.out.trans (hb3.mono HB.out.size))
     have hc:=H2.out.below (HB.out.trans (hb3.mono HB.out.size))
     obtain ⟨q1,e1⟩ := HX1.out
     obtain ⟨q2,e2⟩ := HY1.out
     rw [← e1]
     exact opOK_load_plr (.tmp 18) rfl p1 k l1 q1 (by simp [Act.eval]) ha ⟨rfl,Below.refl _ _⟩
    simp only [Act.put,List.setIfInBounds_toArray,List.set_cons_succ,List.set_cons_zero]
    iterate 3
     refine seq_on (by rfl) (fun w3 hb3 _ => ?_) ?_
     ·have ha:=H1.out.below (HB.out.trans (hb3.mono HB.out.size))
      have hc:=H2.out.below (HB.out.trans (hb3.mono HB.out.size))
      obtain ⟨q1,e1⟩ := HX1.out
      obtain ⟨q2,e2⟩ := HY1.out
      simp [opOK,go_sem,hlt,Below.refl]
      try exact rfl
     simp only [Act.put,List.setIfInBounds_toArray,List.set_cons_succ,List.set_cons_zero]
    refine seq_on (by rfl) (fun w3 hb3 hH => ?_) ?_
    ·have ha:=H1.out.below (HB.out.trans (hb3.mono HB.out.size))
     have hc:=H2.out.below (HB.out.trans (hb3.mono HB.out.size))
     obtain ⟨q1,e1⟩ := HX1.out
     obtain ⟨q2,e2⟩ := HY1.out
     rw [← e2]
     exact opOK_load_plr (.tmp 22) rfl p2 k l2 q2 (by simp [Act.eval]) hc ⟨rfl,Below.refl _ _⟩
    simp only [Act.put,List.setIfInBounds_toArray,List.set_cons_succ,List.set_cons_zero]
    refine seq_on (by rfl) (fun w3 hb3 hH => ?_) ?_
    ·have ha:=H1.out.below (HB.out.trans (hb3.mono HB.out.size))
     have hc:=H2.out.below (HB.out.trans (hb3.mono HB.out.size))
     obtain ⟨q1,e1⟩ := HX1.out
     obtain ⟨q2,e2⟩ := HY1.out
     exact opOK_neq_plr (.tmp 19) (.tmp 23) _ rfl x y (by rw [← e1]; exact H1.out.1 _ (List.getElem_mem q1)) (by rw [← e2]; exact H2.out.1 _ (List.getElem_mem q2)) (by simp [Act.eval]) (by simp [Act.eval]) ⟨by rw [HBB.out],Below.refl _ _⟩
    simp only [Act.put,List.setIfInBounds_toArray,List.set_cons_succ,List.set_cons_zero]
    refine seq_end fun w3 hb3 _ => ?_
    simp only [List.drop_succ_cons,List.drop_zero]
    have HB4:=Lib.hid (HB.out.trans (hb3.mono HB.out.size))
    clear hb3
    cases b
    ·have HK2 : Hid (l1.take (k + 1) = l2.take (k + 1)):=Lib.hid (by
      obtain ⟨q1,e1⟩ := HX1.out
      obtain ⟨q2,e2⟩ := HY1.out
      have : x = y:=by have:=HBB.out; simpa using this
      exact take_eq_succ HK.out q1 q2 (by rw [e1,e2,this]))
     go_wp2
     go_roundw
     case rel => exact ⟨k + 1,by omega,by go_num,HK2,HB4⟩
     case measure => simp [intOf]; omega
    ·have hf : eb = false:=by
      obtain ⟨q1,e1⟩ := HX1.out
      obtain ⟨q2,e2⟩ := HY1.out
      have : ¬ x = y:=by have:=HBB.out; simpa using this
      rw [← HEB.out,decide_eq_false]
      intro e
      subst e
      exact this (by rw [← e1,← e2])
     have HF:=Lib.hid hf
     clear hf
     go_wp2
     go_ret
     exact ⟨ret_bool HF.out.symm,HB4.out⟩
  ·obtain rfl : k = n:=by omega
   have HF : Hid (eb = true):=Lib.hid (by
    rw [← HEB.out,decide_eq_true_eq]
    have:=HK.out
    rwa [List.take_of_length_le (by rw [HN1.out]; exact Nat.le_refl _),List.take_of_length_le (by rw [HN2.out]; exact Nat.le_refl _)] at this)
   go_wp2
   go_ret
   exact ⟨ret_bool HF.out.symm,HB.out⟩
set_option maxRecDepth 100000 in
set_option maxHeartbeats 4000000 in
theorem equalI_any {S S' : Nat → Prop} (v1 v2 : Value) (l1 l2 : List Int) (w : World) (h1 : Sl S w v1 (ints l1)) (h2 : Sl S' w v2 (ints l2)) :
  Calls Tryz.prog 56 #[v1,v2] w fun e w' => e = .returned (.bool (decide (l1 = l2))) ∧ Below w.heap.size w w':=by
 obtain ⟨a1,c1,rfl,p1,q1⟩ := h1.form
 obtain ⟨a2,c2,rfl,p2,q2⟩ := h2.form
 unfold maxLen at q1 q2
 simp only [ints_length] at h1 h2 p1 p2 ⊢
 obtain ⟨eb,heb⟩ : ∃ eb,decide (l1 = l2) = eb:=⟨_,rfl⟩
 rw [heb]
 obtain ⟨n,hn1⟩ : ∃ n,l1.length = n:=⟨_,rfl⟩
 obtain ⟨m,hn2⟩ : ∃ m,l2.length = m:=⟨_,rfl⟩
 rw [hn1] at h1
 rw [hn2] at h2
 rw [hn1,hn2]
 have hnm : n ≤ 9223372036854775807 ∧ m ≤ 9223372036854775807:=by omega
 obtain ⟨lb,hlb⟩ : ∃ lb,((n : Int) != (m : Int)) = lb:=⟨_,rfl⟩
 have hlb2 : (n != m) = lb:=by rw [← hlb,Bool.eq_iff_iff]; simp; omega
 have HEB:=Lib.hid heb
 have H1:=Lib.hid h1
 have H2:=Lib.hid h2
 have HN1:=Lib.hid hn1
 have HN2:=Lib.hid hn2
 have HLB:=Lib.hid hlb
 clear heb h1 h2 hn1 hn2 q1 q2 p1 p2
 cases lb
 ·have hm : m = n:=by have:=HLB.out; simp at this; omega
  subst hm
  clear hlb hlb2
  go_enter Tryz.func56,Tryz.ntmps56
  go_wp2_with fail
  go_loopw [5,13] (fun _ iv wr => ∃ k : Nat,k ≤ m ∧ iv = .int .i64 k ∧ Hid (l1.take k = l2.take k) ∧ Hid (Below w.heap.size w wr)) (fun _ iv _ => m - (intOf iv).toNat)
  case atStart => exact ⟨0,by omega,by go_num,Lib.hid (by simp),Lib.hid (Below.refl _ _)⟩
  case round =>
   obtain ⟨k,hk,rfl,HK,HB⟩ := hrel
   obtain ⟨wo,rfl⟩ : ∃ wo : World,wo = wr:=⟨_,rfl⟩
   by_cases hlt : k < m
   ·have hx1 : k < l1.length:=by rw [HN1.out]; exact hlt
    have hx2 : k < l2.length:=by rw [HN2.out]; exact hlt
    obtain ⟨b1,o1,hal1,_,hc1⟩ := (H1.out.below HB.out).cell hx1
    obtain ⟨b2,o2,hal2,_,hc2⟩ := (H2.out.below HB.out).cell hx2
    cases hal1
    cases hal2
    obtain ⟨x,hX1⟩ : ∃ x,l1[k] = x:=⟨_,rfl⟩
    obtain ⟨y,hY1⟩ : ∃ y,l2[k] = y:=⟨_,rfl⟩
    rw [hX1] at hc1
    rw [hY1] at hc2
    obtain ⟨b,hb⟩ : ∃ b,(x != y) = b:=⟨_,rfl⟩
    have HBB:=Lib.hid hb
    have HX1 : Hid (∃ h : k < l1.length,l1[k] = x):=Lib.hid ⟨hx1,hX1⟩
    have HY1 : Hid (∃ h : k < l2.length,l2[k] = y):=Lib.hid ⟨hx2,hY1⟩
    clear hb hX1 hY1 hx1 hx2
    go_wp2_with fail
    refine wp_region_seq 9 [.is (.slice (some ⟨b1,o1,none⟩) m c1),.is (.int .i64 k),.is (.pointer (some ⟨b1,o1 + k,none⟩)),.is (.int .i64 x),.is (.slice (some ⟨b2,o2,none⟩) m c2),.is (.int .i64 k),.is (.pointer (some ⟨b2,o2 + k,none⟩)),.is (.int .i64 y),.is (.bool b)] rfl mix (by kernel_rfl) (by kernel_rfl) ?seqm
    case seqm =>
     simp only [List.take_succ_cons,List.take_zero]
     iterate 9
      refine seq_on (by rfl) (fun w3 hb3 _ => ?_) ?_
      ·have ha:=bAt hb3 hc1
       have hc:=bAt hb3 hc2
       simp [opOK,go_sem,hlt,ha,hc,HBB.out,Below.refl]
       try exact rfl
      simp only [Act.put,List.setIfInBounds_toArray,List.set_cons_succ,List.set_cons_zero]
     refine seq_end fun w3 hb3 _ => ?_
     simp only [List.drop_succ_cons,List.drop_zero]
     have HB4:=Lib.hid (HB.out.trans (hb3.mono HB.out.size))
     clear hb3 hc1 hc2
     cases b
     ·have HK2 : Hid (l1.take (k + 1) = l2.take (k + 1)):=Lib.hid (by
       obtain ⟨q1,e1⟩ := HX1.out
       obtain ⟨q2,e2⟩ := HY1.out
       have : x = y:=by have:=HBB.out; simpa using this
       exact take_eq_succ HK.out q1 q2 (by rw [e1,e2,this]))
      go_wp2
      go_roundw
      case rel => exact ⟨k + 1,by omega,by go_num,HK2,HB4⟩
      case measure => simp [intOf]; omega
     ·have hf : eb = false:=by
       obtain ⟨q1,e1⟩ := HX1.out
       obtain ⟨q2,e2⟩ := HY1.out
       have : ¬ x = y:=by have:=HBB.out; simpa using this
       rw [← HEB.out,decide_eq_false]
       intro e
       subst e
       exact this (by rw [← e1,← e2])
      have HF:=Lib.hid hf
      clear hf
      go_wp2
      go_ret
      exact ⟨ret_bool HF.out.symm,HB4.out⟩
   ·obtain rfl : k = m:=by omega
    have HF : Hid (eb = true):=Lib.hid (by
     rw [← HEB.out,decide_eq_true_eq]
     have:=HK.out
     rwa [List.take_of_length_le (by rw [HN1.out]; exact Nat.le_refl _),List.take_of_length_le (by rw [HN2.out]; exact Nat.le_refl _)] at this)
    go_wp2
    go_ret
    exact ⟨ret_bool HF.out.symm,HB.out⟩
 ·have hf : eb = false:=by
   rw [← HEB.out,decide_eq_false]
   intro e
   have:=HLB.out
   subst e
   have h1:=HN1.out
   have h2:=HN2.out
   simp at this; omega
  have HF:=Lib.hid hf
  clear hf
  go_enter Tryz.func56,Tryz.ntmps56
  go_wp2
  go_ret
  exact ⟨ret_bool HF.out.symm,Below.refl _ _⟩
set_option maxRecDepth 100000 in
set_option maxHeartbeats 4000000 in
theorem same_any (t1 pb1 cap1 t2 pb2 cap2 : Nat) (r : Rul) (g1 g2 : Gam) (wv1 nv1 wv2 nv2 : Value) (M1 M2 : Int) (w : World) (h1 : TabAt w t1 pb1 r g1 cap1 wv1 nv1) (h2 : TabAt w t2 pb2 r g2 cap2 wv2 nv2) (i1 : Inv r M1 g1) (i2 : Inv r M2 g2) :
  Calls Tryz.prog 40 #[.pointer (some ⟨t1,0,none⟩),.pointer (some ⟨t2,0,none⟩)] w fun e w' => e = .returned (.bool (decide (g1.pls = g2.pls) && decide (g1.win = g2.win))) ∧ Below w.heap.size w w':=by
 obtain ⟨n,hn1⟩ : ∃ n,g1.pls.length = n:=⟨_,rfl⟩
 have hn2 : g2.pls.length = n:=by have:=i1.len; have:=i2.len; omega
 have h8 : n ≤ 1000:=by have:=players_of i1.ok; have:=i1.len; omega
 obtain ⟨eb1,he1⟩ : ∃ eb,decide (g1.pls = g2.pls) = eb:=⟨_,rfl⟩
 obtain ⟨eb2,he2⟩ : ∃ eb,decide (g1.win = g2.win) = eb:=⟨_,rfl⟩
 rw [he1,he2]
 have HE1 : Hid (∀ w3,Below w.heap.size w w3 → Calls Tryz.prog 55 #[.slice (some ⟨pb1,0,none⟩) n cap1,.slice (some ⟨pb2,0,none⟩) n cap2] w3 fun e w' => e = .returned (.bool eb1) ∧ Below w3.heap.size w3 w'):=Lib.hid fun w3 hb => by
  rw [← he1]; exact equalP_any pb1 cap1 pb2 cap2 n _ _ hn1 hn2 w3 (h1.below hb).pls (h2.below hb).pls h8
 have HE2 : Hid (∀ w3,Below w.heap.size w w3 → Calls Tryz.prog 56 #[wv1,wv2] w3 fun e w' => e = .returned (.bool eb2) ∧ Below w3.heap.size w3 w'):=Lib.hid fun w3 hb => by
  rw [← he2]; exact equalI_any wv1 wv2 _ _ w3 (h1.below hb).win (h2.below hb).win
 have HT1:=Lib.hid h1
 have HT2:=Lib.hid h2
 have HN1:=Lib.hid hn1
 have HN2:=Lib.hid hn2
 clear h1 h2 i1 i2 hn1 hn2 he1 he2
 go_enter Tryz.func40,Tryz.ntmps40
 go_wp2_with fail
 cases eb1
 ·refine wp_region_seq 24 [.is (.pointer (some ⟨t1,0,none⟩)),.is (.pointer (some ⟨t1,0,none⟩)),.is (.pointer (some ⟨t1,0,none⟩)),.is (.pointer (some ⟨t1,3,none⟩)),.is (.slice (some ⟨pb1,0,none⟩) n cap1),.is (.pointer (some ⟨t2,0,none⟩)),.is (.pointer (some ⟨t2,0,none⟩)),.is (.pointer (some ⟨t2,0,none⟩)),.is (.pointer (some ⟨t2,3,none⟩)),.is (.slice (some ⟨pb2,0,none⟩) n cap2),.is (.bool false),.is (.bool false),.is undef,.is undef,.is undef,.is undef,.is undef,.is undef,.is undef,.is undef,.is undef,.is undef,.is undef,.is (.bool false)] rfl mix (by kernel_rfl) (by kernel_rfl) ?seqm
  case seqm =>
   simp only [List.take_succ_cons,List.take_zero]
   iterate 10
    refine seq_on (by rfl) (fun w3 hb3 _ => ?_) ?_
    ·have a3:=(HT1.out.below hb3).at_ (j:=3) rfl
     have a4:=(HT1.out.below hb3).at_ (j:=4) rfl
     have c3:=(HT2.out.below hb3).at_ (j:=3) rfl
     have c4:=(HT2.out.below hb3).at_ (j:=4) rfl
     rw [HN1.out] at a3
     rw [HN2.out] at c3
     simp [opOK,go_sem,a3,c3,Below.refl]
     try exact rfl
    simp only [Act.put,List.setIfInBounds_toArray,List.set_cons_succ,List.set_cons_zero]
   refine seq_on (by rfl) (fun w3 hb3 hH => ?_) ?_
   ·have a3:=(HT1.out.below hb3).at_ (j:=3) rfl
    have a4:=(HT1.out.below hb3).at_ (j:=4) rfl
    have c3:=(HT2.out.below hb3).at_ (j:=3) rfl
    have c4:=(HT2.out.below hb3).at_ (j:=4) rfl
    rw [HN1.out] at a3
    rw [HN2.out] at c3
    refine opOK_call (f:=55) (args:=#[.slice (some ⟨pb1,0,none⟩) n cap1,.slice (some ⟨pb2,0,none⟩) n cap2]) (by simp [go_sem]) ?_
    exact (HE1.out w3 hb3).mono fun e W' ⟨he,hb⟩ => ⟨_,he,rfl,hb⟩
   simp only [Act.put,List.setIfInBounds_toArray,List.set_cons_succ,List.set_cons_zero]
   refine seq_on (by rfl) (fun w3 hb3 _ => ?_) ?_
   ·have a3:=(HT1.out.below hb3).at_ (j:=3) rfl
    have a4:=(HT1.out.below hb3).at_ (j:=4) rfl
    have c3:=(HT2.out.below hb3).at_ (j:=3) rfl
    have c4:=(HT2.out.below hb3).at_ (j:=4) rfl
    rw [HN1.out] at a3
    rw [HN2.out] at c3
    simp [opOK,go_sem,Below.refl]
    try exact rfl
   simp only [Act.put,List.setIfInBounds_toArray,List.set_cons_succ,List.set_cons_zero]
   iterate 11
    refine seq_off (by rfl) ?_
    simp only [Act.put,List.setIfInBounds_toArray,List.set_cons_succ,List.set_cons_zero]
   refine seq_on (by rfl) (fun w3 hb3 _ => ?_) ?_
   ·have a3:=(HT1.out.below hb3).at_ (j:=3) rfl
    have a4:=(HT1.out.below hb3).at_ (j:=4) rfl
    have c3:=(HT2.out.below hb3).at_ (j:=3) rfl
    have c4:=(HT2.out.below hb3).at_ (j:=4) rfl
    rw [HN1.out] at a3
    rw [HN2.out] at c3
    simp [opOK,go_sem,Below.refl]
    try exact rfl
   simp only [Act.put,List.setIfInBounds_toArray,List.set_cons_succ,List.set_cons_zero]
   refine seq_end fun w3 hb3 _ => ?_
   simp only [List.drop_succ_cons,List.drop_zero]
   have HB4:=Lib.hid hb3
   clear hb3
   go_wp2
   go_ret
   exact ⟨ret_bool (by simp),HB4.out⟩
 ·refine wp_region_seq 24 [.is (.pointer (some ⟨t1,0,none⟩)),.is (.pointer (some ⟨t1,0,none⟩)),.is (.pointer (some ⟨t1,0,none⟩)),.is (.pointer (some ⟨t1,3,none⟩)),.is (.slice (some ⟨pb1,0,none⟩) n cap1),.is (.pointer (some ⟨t2,0,none⟩)),.is (.pointer (some ⟨t2,0,none⟩)),.is (.pointer (some ⟨t2,0,none⟩)),.is (.pointer (some ⟨t2,3,none⟩)),.is (.slice (some ⟨pb2,0,none⟩) n cap2),.is (.bool true),.is (.bool true),.is (.pointer (some ⟨t1,0,none⟩)),.is (.pointer (some ⟨t1,0,none⟩)),.is (.pointer (some ⟨t1,0,none⟩)),.is (.pointer (some ⟨t1,4,none⟩)),.is (wv1),.is (.pointer (some ⟨t2,0,none⟩)),.is (.pointer (some ⟨t2,0,none⟩)),.is (.pointer (some ⟨t2,0,none⟩)),.is (.pointer (some ⟨t2,4,none⟩)),.is (wv2),.is (.bool eb2),.is (.bool eb2)] rfl mix (by kernel_rfl) (by kernel_rfl) ?seqm
  case seqm =>
   simp only [List.take_succ_cons,List.take_zero]
   iterate 10
    refine seq_on (by rfl) (fun w3 hb3 _ => ?_) ?_
    ·have a3:=(HT1.out.below hb3).at_ (j:=3) rfl
     have a4:=(HT1.out.below hb3).at_ (j:=4) rfl
     have c3:=(HT2.out.below hb3).at_ (j:=3) rfl
     have c4:=(HT2.out.below hb3).at_ (j:=4) rfl
     rw [HN1.out] at a3
     rw [HN2.out] at c3
     simp [opOK,go_sem,a3,c3,Below.refl]
     try exact rfl
    simp only [Act.put,List.setIfInBounds_toArray,List.set_cons_succ,List.set_cons_zero]
   refine seq_on (by rfl) (fun w3 hb3 hH => ?_) ?_
   ·have a3:=(HT1.out.below hb3).at_ (j:=3) rfl
    have a4:=(HT1.out.below hb3).at_ (j:=4) rfl
    have c3:=(HT2.out.below hb3).at_ (j:=3) rfl
    have c4:=(HT2.out.below hb3).at_ (j:=4) rfl
    rw [HN1.out] at a3
    rw [HN2.out] at c3
    refine opOK_call (f:=55) (args:=#[.slice (some ⟨pb1,0,none⟩) n cap1,.slice (some ⟨pb2,0,none⟩) n cap2]) (by simp [go_sem]) ?_
    exact (HE1.out w3 hb3).mono fun e W' ⟨he,hb⟩ => ⟨_,he,rfl,hb⟩
   simp only [Act.put,List.setIfInBounds_toArray,List.set_cons_succ,List.set_cons_zero]
   iterate 11
    refine seq_on (by rfl) (fun w3 hb3 _ => ?_) ?_
    ·have a3:=(HT1.out.below hb3).at_ (j:=3) rfl
     have a4:=(HT1.out.below hb3).at_ (j:=4) rfl
     have c3:=(HT2.out.below hb3).at_ (j:=3) rfl
     have c4:=(HT2.out.below hb3).at_ (j:=4) rfl
     rw [HN1.out] at a3
     rw [HN2.out] at c3
     simp [opOK,go_sem,a4,c4,Below.refl]
     try exact rfl
    simp only [Act.put,List.setIfInBounds_toArray,List.set_cons_succ,List.set_cons_zero]
   refine seq_on (by rfl) (fun w3 hb3 hH => ?_) ?_
   ·have a3:=(HT1.out.below hb3).at_ (j:=3) rfl
    have a4:=(HT1.out.below hb3).at_ (j:=4) rfl
    have c3:=(HT2.out.below hb3).at_ (j:=3) rfl
    have c4:=(HT2.out.below hb3).at_ (j:=4) rfl
    rw [HN1.out] at a3
    rw [HN2.out] at c3
    refine opOK_call (f:=56) (args:=#[wv1,wv2]) (by simp [go_sem]) ?_
    exact (HE2.out w3 hb3).mono fun e W' ⟨he,hb⟩ => ⟨_,he,rfl,hb⟩
   simp only [Act.put,List.setIfInBounds_toArray,List.set_cons_succ,List.set_cons_zero]
   refine seq_on (by rfl) (fun w3 hb3 _ => ?_) ?_
   ·have a3:=(HT1.out.below hb3).at_ (j:=3) rfl
    have a4:=(HT1.out.below hb3).at_ (j:=4) rfl
    have c3:=(HT2.out.below hb3).at_ (j:=3) rfl
    have c4:=(HT2.out.below hb3).at_ (j:=4) rfl
    rw [HN1.out] at a3
    rw [HN2.out] at c3
    simp [opOK,go_sem,Below.refl]
    try exact rfl
   simp only [Act.put,List.setIfInBounds_toArray,List.set_cons_succ,List.set_cons_zero]
   refine seq_end fun w3 hb3 _ => ?_
   simp only [List.drop_succ_cons,List.drop_zero]
   have HB4:=Lib.hid hb3
   clear hb3
   go_wp2
   go_ret
   exact ⟨ret_bool (by simp),HB4.out⟩
end Go.Proofs.YtnhggfnnolfcdaaGreat

/- Chapter 4: the game that is played (playing), the beds that do something (Useful). -/
namespace Go.Proofs.YtnhggfnnolfcdaaGreat
open Go.RowKit Go.Oche Go.Proofs
def PlayingPost (r : Rul) (nv : Value) (w : World) (x : Option Gam × Nat × Int) (e : Ending) (w' : World) : Prop :=
 Below w.heap.size w w' ∧ ((∃ er p,er ≠ 0 ∧ (x.1 = none ∧ x.2.2 = er ∨ (∃ g,x.1 = some g ∧ g.win ≠ []) ∧ er = 9) ∧ e = .returned (.tuple #[.pointer p,.int .i64 er])) ∨
  ∃ g t pb cap wv,x = (some g,0,0) ∧ g.win = [] ∧ e = .returned (.tuple #[.pointer (some ⟨t,0,none⟩),.int .i64 0]) ∧ TabAt w' t pb r g cap wv nv ∧ w.heap.size ≤ t ∧ w.heap.size ≤ pb)
theorem playF_err {r : Rul} : ∀ (l : List Int) (k : Nat) (g : Gam) (a : Nat) (e : Int),playF r g k l = (none,a,e) → e ≠ 0
 | [],k,g,a,e,h => by rw [playF] at h; cases h
 | b :: l,k,g,a,e,h => by
  cases hb : okBed b
  ·rw [playF_bad hb] at h; cases h; decide
  by_cases hw : g.win = []
  ·rw [playF_on hb hw] at h; exact playF_err l _ _ _ _ h
  ·rw [playF_over hb hw] at h; cases h; decide
theorem playG_err {r : Rul} {l : List Int} {a : Nat} {e : Int} (h : playG r l = (none,a,e)) : e ≠ 0:=by
 unfold playG at h
 split at h
 ·cases h; assumption
 ·split at h
  ·cases h; decide
  ·exact playF_err _ _ _ _ _ h
theorem playG_good {r : Rul} {l : List Int} {g : Gam} {a : Nat} {e : Int} (h : playG r l = (some g,a,e)) : Good r l.length g ∧ l.length ≤ 600:=by
 unfold playG at h
 split at h
 ·cases h
 ·rename_i h0
  split at h
  ·cases h
  ·have:=(playF_good l 0 _ (Good.init (by simpa using h0)) _ _ _ h).1
   rw [Nat.zero_add] at this
   exact ⟨this,by omega⟩
set_option maxRecDepth 100000 in
set_option maxHeartbeats 4000000 in
theorem playing_any {S S' : Nat → Prop} (r : Rul) (va : Option Addr) (nl vc : Nat) (da : Option Addr) (n dc : Nat) (darts : List Int) (hn : darts.length = n) (h64 : ∀ b ∈ darts, -9223372036854775808 ≤ b ∧ b ≤ 9223372036854775807) (w : World) (hs : Sl S w (.slice va nl vc) (ints r.nums)) (hd : Sl S' w (.slice da n dc) (ints darts)) :
  Calls Tryz.prog 13 #[.agg #[.int .i64 r.kind,.int .i64 r.players,.int .i64 r.last,.bool r.bull,.bool r.jump,.int .i64 r.rounds,.bool r.cut,.slice va nl vc,.int .i64 r.lives,.bool r.own],.slice da n dc] w (PlayingPost r (.slice va nl vc) w (playG r darts)):=by
 obtain ⟨w0,hw0⟩ : ∃ w0,w.alloc (.cells #[.int .i64 r.kind,.int .i64 r.players,.int .i64 r.last,.bool r.bull,.bool r.jump,.int .i64 r.rounds,.bool r.cut,.slice va nl vc,.int .i64 r.lives,.bool r.own] 29) = w0:=⟨_,rfl⟩
 have hb0 : Below w.heap.size w w0:=by rw [← hw0]; exact aB _ _
 have hc:=open_any r va nl vc da n dc darts hn h64 w0 (hs.below hb0) (hd.below hb0)
 obtain ⟨x,hx⟩ : ∃ x,playG r darts = x:=⟨_,rfl⟩
 rw [hx] at hc ⊢
 have HC:=Lib.hid hc
 have HX:=Lib.hid hx
 have HB0:=Lib.hid hb0
 have HW0:=Lib.hid hw0
 clear hs hd hc hx hb0 hw0 h64 hn
 go_enter Tryz.func13,Tryz.ntmps13
 go_wp2_with fail
 rw [HW0.out]
 refine HC.out.mono ?_
 rintro e w1 ⟨hb1,(⟨a,er,he,rfl⟩ | ⟨g,t,pb,cap,wv,he,rfl,ht,q1,q2⟩)⟩
 ·have hne : er ≠ 0:=playG_err (by rw [HX.out]; exact he)
  have eb : (er == 0) = false:=by simp [hne]
  have HB1:=Lib.hid (bThen HB0.out hb1)
  have HR : Hid (er ≠ 0 ∧ x.1 = none ∧ x.2.2 = er):=Lib.hid ⟨hne,by rw [he],by rw [he]⟩
  clear hb1 he hne
  go_wp2
  go_returns
  exact ⟨HB1.out,.inl ⟨er,none,HR.out.1,.inl HR.out.2,rfl⟩⟩
 ·have HB1:=Lib.hid (bThen HB0.out hb1)
  have HT:=Lib.hid ht
  have HE:=Lib.hid he
  have HQ : Hid (w.heap.size ≤ t ∧ w.heap.size ≤ pb):=Lib.hid (by have:=HB0.out.size; omega)
  obtain ⟨ov,hov⟩ : ∃ ov,(!g.win.isEmpty) = ov:=⟨_,rfl⟩
  have HOV:=Lib.hid hov
  clear hb1 ht he q1 q2 hov
  go_wp2_with fail
  refine (isOver_r t pb cap r g wv _ ov HOV w1 HT.out).mono ?_
  rintro e w2 ⟨rfl,rfl⟩
  cases ov
  ·have hw : g.win = []:=by have:=HOV.out; simpa using this
   have HW:=Lib.hid hw
   clear hw
   go_wp2
   go_returns
   exact ⟨HB1.out,.inr ⟨g,t,pb,cap,wv,HE.out,HW.out,rfl,HT.out,HQ.out.1,HQ.out.2⟩⟩
  ·have hw : g.win ≠ []:=by have:=HOV.out; simpa using this
   have HW:=Lib.hid hw
   clear hw
   go_wp2
   go_returns
   exact ⟨HB1.out,.inl ⟨9,_,by decide,.inr ⟨⟨g,by rw [HE.out],HW.out⟩,rfl⟩,rfl⟩⟩
end Go.Proofs.YtnhggfnnolfcdaaGreat
