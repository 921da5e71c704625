/- The texts App, App1, Two, LibA, GA, GB, GC, GD, GE, in build order. -/
import Derived.Test.YtnhggfnnolfcdaaGreatZab
import Derived.RangeFuncBox
import Derived.Maps.AppendAt
import Derived.Laws.OwnMore
import Derived.Test.YtnhggfnnolfcdaaGreatProg
import Derived.WalkKit
import Derived.WalkSpells
import Derived.WalkLawsBesides
import Derived.BigQuiet
import Derived.Deep.QuietTactic
import Derived.Outline
import Derived.LoopTactic

/- Appending one element to a slice of one's own. -/
namespace Go.Oche
open Go Go.RowKit
theorem grownBy_trans {w w' w'' : World} {row : Option Nat} (h : w.grownBy w' row) (k : w'.grownBy w'' row) : w.grownBy w'' row :=
 ⟨k.os.trans h.os,k.tape.trans h.tape,k.output.trans h.output,Nat.le_trans h.size k.size,fun i hi hn => (k.block i (Nat.lt_of_lt_of_le hi h.size) hn).trans (h.block i hi hn)⟩
theorem grownBy_below {w w' : World} (row : Option Nat) (h : Below w.heap.size w w') : w.grownBy w' row:=⟨h.os,h.tape,h.output,h.size,fun k hk _ => h.block k hk⟩
theorem below_grownBy {w w' : World} {row : Option Nat} (h : w.grownBy w' row) {B : Nat} (hB : B ≤ w.heap.size) (hr : ∀ k,row = some k → B ≤ k) : Below B w w' :=
 ⟨h.os,h.tape,h.output,h.size,fun k hk => h.block k (by omega) (fun e => by have:=hr k e.symm; omega)⟩
theorem owns_ne {w : World} {base n : Nat} {e e' : TypeId} {v : Value} {xs : List Value} (h : w.ownsRow base e 1 v n xs) {k : Nat} {c : Array Value} {f : Nat × Nat} (hk : w.heap[k]? = some (.cells c e' f)) (he : e ≠ e') : some k ≠ v.ownBlock:=by
 rcases h.2 with ⟨rfl,_⟩ | ⟨g,cap,cur,rfl,_,hg,_⟩
 ·simp [Value.ownBlock]
 ·intro hh
  simp only [Value.ownBlock,Option.some.injEq] at hh
  subst hh
  rw [hg] at hk
  simp at hk
  exact he hk.2.1
theorem IntBlk.ne {w : World} {base n m : Nat} {e t : TypeId} {v : Value} {xs : List Value} {R : Nat} {f : Nat → Int} (h : IntBlk w R t m f) (ho : w.ownsRow base e 1 v n xs) (he : e ≠ t) : some R ≠ v.ownBlock:=by
 obtain ⟨A,h1,_⟩ := h; exact owns_ne ho h1 he
theorem wpList_opOK {P : Program} {ops : Array Oper} {Q : Exit → Act → World → Prop} {o : Oper} {rest : List Oper} {a : Act} {w : World} {R : Value → World → Prop} (hg : o.guard = none) (h : opOK P o a w R)
  (hK : ∀ v w',R v w' → wpList P ops Q rest (a.put o.dst v) w') : wpList P ops Q (o :: rest) a w :=
 wpList_plain hg fun _ hk => wp_of_opOK h fun v w' hr => hk _ _ (hK v w' hr)
theorem wpListIn_opOK {F : Fence} (hF : Open F) {P : Program} {ops : Array Oper} {Q : Exit → Act → World → Prop} {o : Oper} {rest : List Oper} {a : Act} {w : World} {R : Value → World → Prop} (hg : o.guard = none) (hnd : ∀ c,o.op ≠ .defer c) (h : opOK P o a w R)
  (hK : ∀ v w',R v w' → wpListIn F 0 P ops Q rest (a.put o.dst v) w') : wpListIn F 0 P ops Q (o :: rest) a w :=
 wpListIn_plain hg fun _ hk => wpIn_of_opOK hF hnd h fun v w' hr => hk _ _ (hK v w' hr)
end Go.Oche

/- Appending one element to a slice of one's own, in a list of operations. -/
namespace Go.Oche
open Go Go.RowKit
section
variable {P : Program} {ops : Array Oper} {Q : Exit → Act → World → Prop} {o : Oper} {rest : List Oper} {a : Act} {w : World}
theorem opOK_append1_at (s x : Operand) (t : TypeId) (ho : o.op = .call { callee:=.builtin .append,args:=#[s,x],argTypes:=#[t,t] })
  (base : Nat) (e : TypeId) (z : Value) (bytes : Nat) (ht : P.underlying t = some (.slice e)) (hi : (P.info? e).map (fun i => (i.zero,i.size,i.bytes)) = some (some z,1,bytes)) (hzs : z.cells.size = 1)
  (v : Value) (n : Nat) (xs : List Value) (hs : a.eval s = v) (hown : w.ownsRow base e 1 v n xs) (b off c : Nat) (u : Value) (hx : a.eval x = .slice (some ⟨b,off,none⟩) 1 c) (hc : w.cell? ⟨b,off,none⟩ = some u) (h1 : u.oneCell' = true)
  (h63 : n + 1 ≤ 100000) (hbytes : bytes ≤ 1000) (hbase : base ≤ w.heap.size) :
  opOK P o a w (fun v' w' => ∃ g cap,v' = .slice (some ⟨g,0,none⟩) (n + 1) cap ∧ w'.ownsRow base e 1 v' (n + 1) (xs ++ [u]) ∧ w.grownBy w' v.ownBlock ∧ (v.ownBlock = some g ∨ g = w.heap.size)):=by
 obtain ⟨i,hi,hz0,hz1,hz2⟩ := info_parts hi
 have hmul : (n + 1) * bytes ≤ 100000 * 1000:=Nat.mul_le_mul h63 hbytes
 obtain ⟨v',w',hr,h2,h3,h4,h5⟩ := run_append_own_at (P:=P) w base t o.type e i z 1 bytes ht hi hz0 hz1 hz2 hzs (by decide) v n xs hown ⟨b,off,none⟩ 1 c [u] rfl
  (fun j y hj => by
   match j,hj with
   | 0,hj => simp at hj; subst hj; simpa [Addr.add] using hc
   | j + 1,hj => simp at hj)
  (fun y hy => by simp at hy; subst hy; exact h1) (by unfold maxLen; omega) (by omega) hbase
 unfold opOK execOp
 simp only [ho,resolve,invoke,builtin,Sem.run_bind,Sem.run_pure,Result.andThen_ok,List.map_toArray,List.map_cons,List.map_nil,hs,hx,hr]
 obtain ⟨g,cap,rfl⟩ := ownsRow_succ h2
 refine ⟨g,cap,rfl,h2,h3, ?_⟩
 simp only [Value.ownBlock] at h5
 rcases h5 with h5 | h5
 ·exact .inl h5.symm
 ·exact .inr (Option.some.inj h5)
theorem wpList_append1 (hg : o.guard = none) (s x : Operand) (t : TypeId) (ho : o.op = .call { callee:=.builtin .append,args:=#[s,x],argTypes:=#[t,t] })
  (base : Nat) (e : TypeId) (z : Value) (bytes : Nat) (ht : P.underlying t = some (.slice e)) (hi : (P.info? e).map (fun i => (i.zero,i.size,i.bytes)) = some (some z,1,bytes)) (hzs : z.cells.size = 1)
  (v : Value) (n : Nat) (xs : List Value) (hs : a.eval s = v) (hown : w.ownsRow base e 1 v n xs) (b off c : Nat) (u : Value) (hx : a.eval x = .slice (some ⟨b,off,none⟩) 1 c) (hc : w.cell? ⟨b,off,none⟩ = some u) (h1 : u.oneCell' = true)
  (h63 : n + 1 ≤ 100000) (hbytes : bytes ≤ 1000) (hbase : base ≤ w.heap.size)
  (hK : ∀ g cap w',w'.ownsRow base e 1 (.slice (some ⟨g,0,none⟩) (n + 1) cap) (n + 1) (xs ++ [u]) → w.grownBy w' v.ownBlock → (v.ownBlock = some g ∨ g = w.heap.size) → wpList P ops Q rest (a.put o.dst (.slice (some ⟨g,0,none⟩) (n + 1) cap)) w') :
  wpList P ops Q (o :: rest) a w :=
 wpList_opOK hg (opOK_append1_at s x t ho base e z bytes ht hi hzs v n xs hs hown b off c u hx hc h1 h63 hbytes hbase) fun _ _ ⟨g,cap,e,h1,h2,h3⟩ => by subst e; exact hK g cap _ h1 h2 h3
theorem wpListIn_append1 {F : Fence} (hF : Open F) (hg : o.guard = none) (s x : Operand) (t : TypeId) (ho : o.op = .call { callee:=.builtin .append,args:=#[s,x],argTypes:=#[t,t] })
  (base : Nat) (e : TypeId) (z : Value) (bytes : Nat) (ht : P.underlying t = some (.slice e)) (hi : (P.info? e).map (fun i => (i.zero,i.size,i.bytes)) = some (some z,1,bytes)) (hzs : z.cells.size = 1)
  (v : Value) (n : Nat) (xs : List Value) (hs : a.eval s = v) (hown : w.ownsRow base e 1 v n xs) (b off c : Nat) (u : Value) (hx : a.eval x = .slice (some ⟨b,off,none⟩) 1 c) (hc : w.cell? ⟨b,off,none⟩ = some u) (h1 : u.oneCell' = true)
  (h63 : n + 1 ≤ 100000) (hbytes : bytes ≤ 1000) (hbase : base ≤ w.heap.size)
  (hK : ∀ g cap w',w'.ownsRow base e 1 (.slice (some ⟨g,0,none⟩) (n + 1) cap) (n + 1) (xs ++ [u]) → w.grownBy w' v.ownBlock → (v.ownBlock = some g ∨ g = w.heap.size) → wpListIn F 0 P ops Q rest (a.put o.dst (.slice (some ⟨g,0,none⟩) (n + 1) cap)) w') :
  wpListIn F 0 P ops Q (o :: rest) a w :=
 wpListIn_opOK hF hg (fun c hc => by rw [ho] at hc; cases hc) (opOK_append1_at s x t ho base e z bytes ht hi hzs v n xs hs hown b off c u hx hc h1 h63 hbytes hbase) fun _ _ ⟨g,cap,e,h1,h2,h3⟩ => by subst e; exact hK g cap _ h1 h2 h3
end
end Go.Oche

/- Two slices of one's own that grow side by side; a store into one. -/
namespace Go.Oche
open Go Go.RowKit
theorem owns_kept {W W' : World} {base n : Nat} {e : TypeId} {v : Value} {xs : List Value} (h : W.ownsRow base e 1 v n xs) (hk : ∀ g,v.ownBlock = some g → W'.heap[g]? = W.heap[g]?) : W'.ownsRow base e 1 v n xs:=by
 refine ⟨h.1, ?_⟩
 rcases h.2 with h | ⟨g,cap,cur,rfl,h1,h2,h3⟩
 ·exact .inl h
 ·exact .inr ⟨g,cap,cur,rfl,h1,by rw [hk g (by simp [Value.ownBlock])]; exact h2,h3⟩
theorem owns_blk {W : World} {base n g c : Nat} {e : TypeId} {xs : List Value} (h : W.ownsRow base e 1 (.slice (some ⟨g,0,none⟩) n c) n xs) : base ≤ g ∧ g < W.heap.size:=by
 rcases h.2 with ⟨h',_⟩ | ⟨g',cap',cur,h',hb,hg,_⟩
 ·simp at h'
 ·simp only [Value.slice.injEq,Option.some.injEq,Addr.mk.injEq,and_true,true_and] at h'
  obtain ⟨rfl,rfl⟩ := h'
  exact ⟨hb,(Array.getElem?_eq_some_iff.1 hg).1⟩
structure Two (B : Nat) (e e' : TypeId) (W : World) (g c g' c' n m : Nat) (xs ys : List Value) : Prop where
 o : W.ownsRow B e 1 (.slice (some ⟨g,0,none⟩) n c) n xs
 o' : W.ownsRow B e' 1 (.slice (some ⟨g',0,none⟩) m c') m ys
 ne : g ≠ g'
section
variable {B : Nat} {e e' : TypeId} {W W' : World} {g c g' c' n m h d : Nat} {xs ys zs : List Value}
theorem Two.below (t : Two B e e' W g c g' c' n m xs ys) (hb : Below W.heap.size W W') : Two B e e' W' g c g' c' n m xs ys :=
 ⟨owns_kept t.o (fun q hq => by cases hq; exact hb.block g (owns_blk t.o).2),owns_kept t.o' (fun q hq => by cases hq; exact hb.block g' (owns_blk t.o').2),t.ne⟩
theorem Two.grown {ob : Obj} (t : Two B e e' W g c g' c' n m xs ys) (ho : W'.ownsRow B e 1 (.slice (some ⟨h,0,none⟩) (n + 1) d) (n + 1) zs) (hg : (W.alloc ob).grownBy W' (some g)) (hat : some g = some h ∨ h = W.heap.size + 1) :
  Two B e e' W' h d g' c' (n + 1) m zs ys ∧ W.heap.size ≤ W'.heap.size ∧ ∀ b,b ≤ W.heap.size → Below b W W' ∨ g < b:=by
 have l1:=owns_blk t.o
 have l2:=owns_blk t.o'
 have hs:=hg.size
 rw [World.size_alloc] at hs
 have hkeep : ∀ k,k < W.heap.size → k ≠ g → W'.heap[k]? = W.heap[k]? := fun k hk hne => by
  rw [hg.block k (by simp; omega) (fun e => hne (by cases e; rfl)),Below.heap_alloc _ _ _ hk]
 refine ⟨⟨ho,owns_kept t.o' (fun q hq => by cases hq; exact hkeep g' l2.2 fun e => t.ne e.symm), ?_⟩,by omega,fun b hb => ?_⟩
 ·rcases hat with hat | hat
  ·cases hat; exact t.ne
  ·omega
 ·by_cases hgb : g < b
  ·exact .inr hgb
  ·exact .inl ⟨hg.os.trans rfl,hg.tape.trans rfl,hg.output.trans rfl,by omega,fun k hk => hkeep k (by omega) (by omega)⟩
end
end Go.Oche

/- What every seat's texts begin with. -/
namespace Go.Proofs.YtnhggfnnolfcdaaGreat
open Go.RowKit Go.Oche Go.Proofs
theorem mix : Tryz.prog.follows .mixedOrders = true:=by kernel_rfl
theorem ret_int {k : IntKind} {a b : Int} (h : a = b) : Ending.returned (.int k a) = .returned (.int k b):=by rw [h]
theorem ret_bool {a b : Bool} (h : a = b) : Ending.returned (.bool a) = .returned (.bool b):=by rw [h]
theorem wrap_small (x : Int) (h1 : -9223372036854775808 ≤ x) (h2 : x ≤ 9223372036854775807) : IntKind.i64.wrap x = x:=IntWalk.i64_in _ ⟨h1,h2⟩
theorem bThen {w w1 w2 : World} (h : Below w.heap.size w w1) (h' : Below w1.heap.size w1 w2) : Below w.heap.size w w2:=h.trans (h'.mono h.size)
theorem bDrew (w : World) (n : Nat) : Below w.heap.size w (w.drewN n):=⟨rfl,rfl,rfl,Nat.le_refl _,fun _ _ => rfl⟩
def isIn (n lo hi : Int) : Bool:=decide (lo ≤ n) && decide (n ≤ hi)
end Go.Proofs.YtnhggfnnolfcdaaGreat

/- Chapter 4, games, in plain Lean: rules, darts, the next player, who wins. -/
namespace Go.Proofs.YtnhggfnnolfcdaaGreat
open Go.RowKit Go.Oche Go.Proofs

structure Rul where
 kind : Int
 players : Int
 last : Int
 bull : Bool
 jump : Bool
 rounds : Int
 cut : Bool
 nums : List Int
 lives : Int
 own : Bool
structure Plr where
 pts : Int
 mks : List Int
 kl : Bool
instance : Inhabited Plr:=⟨⟨0,[0,0,0,0,0,0,0],false⟩⟩
structure Gam where
 round : Nat
 player : Nat
 darts : Nat
 pls : List Plr
 win : List Int
 hit : List Bool
def okRul (r : Rul) : Bool :=
 if r.kind = 1 then isIn r.last 1 20 && (r.rounds == 0) && !r.cut && r.nums.isEmpty && (r.lives == 0) && !r.own && isIn r.players 1 8
 else if r.kind = 2 then isIn r.rounds 1 20 && (r.last == 0) && !r.bull && !r.jump && r.nums.isEmpty && (r.lives == 0) && !r.own && isIn r.players 2 8
 else if r.kind = 3 then isIn r.rounds 1 20 && (r.last == 0) && !r.bull && !r.jump && !r.cut && r.nums.isEmpty && (r.lives == 0) && !r.own && isIn r.players 2 8
 else if r.kind = 4 then r.nums.all (fun n => isIn n 1 20) && decide r.nums.Nodup && ((r.nums.length : Int) == r.players) && isIn r.lives 1 9 && (r.last == 0) && !r.bull && !r.jump && (r.rounds == 0) && !r.cut && isIn r.players 2 8
 else false
def checkR (r : Rul) : Int:=if 8 < r.nums.length then 5 else if okRul r = true then 0 else 2
def okBed (b : Int) : Bool:=(b == 0) || (b == 125) || (b == 225) || (isIn (b.tdiv 100) 1 4 && isIn (b.tmod 100) 1 20)
def cmp3 (a b : Int) : Int:=if a < b then -1 else if b < a then 1 else 0
def sumM (p : Plr) : Int:=p.mks.sum
def cmpP (r : Rul) (a b : Plr) : Int :=
 if r.kind = 2 then
  let c:=if r.cut = true then cmp3 a.pts b.pts else cmp3 b.pts a.pts
  if c = 0 then cmp3 (sumM b) (sumM a) else c
 else cmp3 b.pts a.pts
def plr (g : Gam) (p : Nat) : Plr:=g.pls.getD p default
def isOutG (r : Rul) (g : Gam) (p : Nat) : Bool:=(r.kind == 4) && ((plr g p).pts == 0)
def setP (g : Gam) (p : Nat) (x : Plr) : Gam:={ g with pls:=g.pls.set p x }
def targetsR (r : Rul) : Int:=if r.bull = true then r.last + 1 else r.last
def dartRound (r : Rul) (g : Gam) (f n : Int) : Gam × List Int :=
 let p:=plr g g.player
 let over:=decide (r.last < p.pts + 1)
 let target:=if over = true then 25 else p.pts + 1
 let most:=if over = true then targetsR r else r.last
 if n = target then
  let q:=min most (p.pts + if r.jump = true then f else 1)
  (setP g g.player { p with pts:=q },if q = targetsR r then [(g.player : Int)] else [])
 else (g,[])
def placeN (n : Int) : Option Nat:=if n = 25 then some 6 else if isIn n 15 20 = true then some (n - 15).toNat else none
def extraG (r : Rul) (g : Gam) (i : Nat) (points : Int) : Gam :=
 let open_:=(List.range g.pls.length).any fun k => k != g.player && decide ((plr g k).mks.getD i 0 < 3)
 let l:=if r.cut = true then g.pls.mapIdx (fun k p => if k ≠ g.player ∧ p.mks.getD i 0 < 3 then { p with pts:=p.pts + points } else p) else g.pls
 let g1:={ g with pls:=l }
 if open_ = true ∧ r.cut = false then setP g1 g.player { plr g1 g.player with pts:=(plr g1 g.player).pts + points } else g1
def cric (r : Rul) (g : Gam) (f n : Int) : Gam :=
 match placeN n with
 | none => g
 | some i => extraG r (setP g g.player { plr g g.player with mks:=(plr g g.player).mks.set i ((plr g g.player).mks.getD i 0 + min f (3 - (plr g g.player).mks.getD i 0)) }) i (n * (f - min f (3 - (plr g g.player).mks.getD i 0)))
def beatenG (r : Rul) (g : Gam) : Bool:=(List.range g.pls.length).any fun k => k != g.player && (if r.cut = true then decide ((plr g k).pts < (plr g g.player).pts) else decide ((plr g g.player).pts < (plr g k).pts))
def dartCricket (r : Rul) (g : Gam) (f n : Int) : Gam × List Int :=
 (cric r g f n,if sumM (plr (cric r g f n) (cric r g f n).player) < 21 then [] else if beatenG r (cric r g f n) = true then [] else [((cric r g f n).player : Int)])
def dartShanghai (g : Gam) (f n : Int) : Gam × List Int :=
 if n = g.round + 1 then
  let p:=plr g g.player
  let h:=g.hit.set f.toNat true
  ({ setP g g.player { p with pts:=p.pts + f * n } with hit:=h },if (h.getD 1 false && h.getD 2 false && h.getD 3 false) = true then [(g.player : Int)] else [])
 else (g,[])
def leftG (r : Rul) (g : Gam) : List Int:=((List.range g.pls.length).filter fun k => !isOutG r g k).map fun (k : Nat) => (k : Int)
def dartKiller (r : Rul) (g : Gam) (f n : Int) : Gam × List Int :=
 match r.nums.findIdx? (· == n) with
 | none => (g,[])
 | some i =>
  if f ≠ 2 ∨ isOutG r g i = true then (g,[])
  else
   let p:=plr g g.player
   let g2:=if (i ≠ g.player ∧ p.kl = true) ∨ (i = g.player ∧ p.kl = true ∧ r.own = true) then setP g i { plr g i with pts:=(plr g i).pts - 1 }
    else if i = g.player then setP g i { p with kl:=true } else g
   (g2,if 1 < (leftG r g2).length then [] else leftG r g2)
def dartG (r : Rul) (g : Gam) (f n : Int) : Gam × List Int :=
 if r.kind = 1 then dartRound r g f n else if r.kind = 2 then dartCricket r g f n else if r.kind = 3 then dartShanghai g f n else dartKiller r g f n
def bestG (r : Rul) (l : List Plr) : List Int:=((List.range l.length).filter fun i => (List.range l.length).all fun k => decide (0 ≤ cmpP r (l.getD k default) (l.getD i default))).map fun (k : Nat) => (k : Int)
def stepP (n p rd : Nat) : Nat × Nat:=if p + 1 = n then (0,rd + 1) else (p + 1,rd)
def nextP (r : Rul) (g : Gam) : Nat → Nat → Nat → Nat × Nat
 | 0,p,rd => stepP g.pls.length p rd
 | k + 1,p,rd => if isOutG r g (stepP g.pls.length p rd).1 = true then nextP r g k (stepP g.pls.length p rd).1 (stepP g.pls.length p rd).2 else stepP g.pls.length p rd
def nextG (r : Rul) (g : Gam) : Gam :=
 let q:=nextP r g g.pls.length g.player g.round
 if 0 < r.rounds ∧ (q.2 : Int) = r.rounds then { g with win:=if r.kind = 2 ∨ r.kind = 3 then bestG r g.pls else [] }
 else { g with player:=q.1,round:=q.2,darts:=0,hit:=List.replicate 5 false }
def throwG (r : Rul) (g : Gam) (f n : Int) : Gam :=
 let d:=dartG r { g with darts:=g.darts + 1 } f n
 let g2 : Gam:={ d.1 with win:=d.2 }
 if d.2 = [] ∧ (g2.darts = 3 ∨ isOutG r g2 g2.player = true) then nextG r g2 else g2
def initG (r : Rul) : Gam:=⟨0,0,0,List.replicate r.players.toNat ⟨if r.kind = 4 then r.lives else 0,List.replicate 7 0,false⟩,[],List.replicate 5 false⟩
def playF (r : Rul) : Gam → Nat → List Int → Option Gam × Nat × Int
 | g,_,[] => (some g,0,0)
 | g,i,b :: l => if okBed b = false then (none,i,2) else if g.win ≠ [] then (none,i,9) else playF r (throwG r g (b.tdiv 100) (b.tmod 100)) (i + 1) l
def playG (r : Rul) (l : List Int) : Option Gam × Nat × Int :=
 if checkR r ≠ 0 then (none,0,checkR r) else if 600 < l.length then (none,0,5) else playF r (initG r) 0 l
end Go.Proofs.YtnhggfnnolfcdaaGreat

/- Chapter 4, games, in plain Lean: what stays true of a game dart by dart. -/
namespace Go.Proofs.YtnhggfnnolfcdaaGreat
open Go.RowKit Go.Oche Go.Proofs

structure PlOk (r : Rul) (p : Plr) : Prop where
 len : p.mks.length = 7
 mlo : ∀ m ∈ p.mks,0 ≤ m
 mhi : ∀ m ∈ p.mks,m ≤ 3
 mz : r.kind ≠ 2 → ∀ m ∈ p.mks,m = 0
 nn : 0 ≤ p.pts
 top : r.kind = 1 → p.pts ≤ targetsR r
 liv : r.kind = 4 → p.pts ≤ r.lives
 kn : r.kind ≠ 4 → p.kl = false
def alive (r : Rul) (g : Gam) : Nat:=(leftG r g).length
structure Inv (r : Rul) (M : Int) (g : Gam) : Prop where
 ok : checkR r = 0
 len : (g.pls.length : Int) = r.players
 pl : g.player < g.pls.length
 each : ∀ p ∈ g.pls,PlOk r p ∧ p.pts ≤ M
 hit : g.hit.length = 5
structure Run (r : Rul) (M : Int) (g : Gam) : Prop extends Inv r M g where
 win : g.win = []
 rd : 0 < r.rounds → (g.round : Int) < r.rounds
 less : r.kind = 1 → ∀ p ∈ g.pls,p.pts < targetsR r
 two : r.kind = 4 → 2 ≤ alive r g
 inn : isOutG r g g.player = false

theorem checkR_kind {r : Rul} (h : checkR r = 0) : okRul r = true:=by
 unfold checkR at h; split at h
 ·cases h
 ·split at h
  ·assumption
  ·cases h
theorem kind_of {r : Rul} (h : checkR r = 0) : r.kind = 1 ∨ r.kind = 2 ∨ r.kind = 3 ∨ r.kind = 4:=by
 have:=checkR_kind h
 unfold okRul at this
 split at this
 ·exact .inl ‹_›
 split at this
 ·exact .inr (.inl ‹_›)
 split at this
 ·exact .inr (.inr (.inl ‹_›))
 split at this
 ·exact .inr (.inr (.inr ‹_›))
 ·cases this
theorem ok1 {r : Rul} (h : checkR r = 0) (k : r.kind = 1) : 1 ≤ r.last ∧ r.last ≤ 20 ∧ r.rounds = 0 ∧ r.cut = false ∧ r.nums = [] ∧ r.lives = 0 ∧ r.own = false ∧ 1 ≤ r.players ∧ r.players ≤ 8:=by
 have:=checkR_kind h
 simp [okRul,k,isIn] at this
 simp_all
theorem ok2 {r : Rul} (h : checkR r = 0) (k : r.kind = 2) : 1 ≤ r.rounds ∧ r.rounds ≤ 20 ∧ r.last = 0 ∧ r.bull = false ∧ r.jump = false ∧ r.nums = [] ∧ r.lives = 0 ∧ r.own = false ∧ 2 ≤ r.players ∧ r.players ≤ 8:=by
 have:=checkR_kind h
 simp [okRul,k,isIn] at this
 simp_all
theorem ok3 {r : Rul} (h : checkR r = 0) (k : r.kind = 3) : 1 ≤ r.rounds ∧ r.rounds ≤ 20 ∧ r.last = 0 ∧ r.bull = false ∧ r.jump = false ∧ r.cut = false ∧ r.nums = [] ∧ r.lives = 0 ∧ r.own = false ∧ 2 ≤ r.players ∧ r.players ≤ 8:=by
 have:=checkR_kind h
 simp [okRul,k,isIn] at this
 simp_all
theorem ok4 {r : Rul} (h : checkR r = 0) (k : r.kind = 4) : (∀ n ∈ r.nums,1 ≤ n ∧ n ≤ 20) ∧ r.nums.Nodup ∧ (r.nums.length : Int) = r.players ∧ 1 ≤ r.lives ∧ r.lives ≤ 9 ∧ r.last = 0 ∧ r.bull = false ∧ r.jump = false ∧ r.rounds = 0 ∧ r.cut = false ∧ 2 ≤ r.players ∧ r.players ≤ 8:=by
 have:=checkR_kind h
 simp [okRul,k,isIn] at this
 simp_all
theorem players_of {r : Rul} (h : checkR r = 0) : 1 ≤ r.players ∧ r.players ≤ 8:=by
 rcases kind_of h with k | k | k | k
 ·have:=ok1 h k; omega
 ·have:=ok2 h k; omega
 ·have:=ok3 h k; omega
 ·have:=ok4 h k; omega
end Go.Proofs.YtnhggfnnolfcdaaGreat

/- Chapter 4, games, in plain Lean: what the reference computes, and that it is the same. -/
namespace Go.Proofs.YtnhggfnnolfcdaaGreat
open Go.RowKit Go.Oche Go.Proofs

/-! The reference, in its own form. -/
def roundR (r : Rul) (g : Gam) (f n : Int) : Gam × List Int :=
 let p:=plr g g.player
 let step:=if r.jump = true then f else 1
 let q:=if p.pts < r.last ∧ n = p.pts + 1 then min r.last (p.pts + step) else if p.pts = r.last ∧ n = 25 then min (targetsR r) (p.pts + step) else p.pts
 (setP g g.player { p with pts:=q },if q = targetsR r then [(g.player : Int)] else [])
def markR (r : Rul) (i : Nat) (n : Int) (g : Gam) : Gam :=
 let p:=plr g g.player
 if p.mks.getD i 0 < 3 then setP g g.player { p with mks:=p.mks.set i (p.mks.getD i 0 + 1) } else extraG r g i n
def marksR (r : Rul) (i : Nat) (n : Int) : Nat → Gam → Gam
 | 0,g => g
 | k + 1,g => marksR r i n k (markR r i n g)
def wonR (r : Rul) (g : Gam) : Bool:=(sumM (plr g g.player) == 21) && !(List.range g.pls.length).any fun k => (!r.cut && decide ((plr g g.player).pts < (plr g k).pts)) || (r.cut && decide ((plr g k).pts < (plr g g.player).pts))
def cricM (r : Rul) (g : Gam) (f n : Int) : Gam :=
 match placeN n with
 | none => g
 | some i => marksR r i n f.toNat g
def cricketR (r : Rul) (g : Gam) (f n : Int) : Gam × List Int :=
 (cricM r g f n,if wonR r (cricM r g f n) = true then [((cricM r g f n).player : Int)] else [])
def killR (r : Rul) (f n : Int) (g : Gam) : List Nat → Gam
 | [] => g
 | i :: l => if f ≠ 2 ∨ n ≠ r.nums.getD i 0 ∨ isOutG r g i = true then killR r f n g l
  else if i = g.player ∧ (plr g g.player).kl = false then setP g i { plr g i with kl:=true }
  else if (i ≠ g.player ∧ (plr g g.player).kl = true) ∨ (i = g.player ∧ r.own = true) then setP g i { plr g i with pts:=(plr g i).pts - 1 } else g
def killerR (r : Rul) (g : Gam) (f n : Int) : Gam × List Int :=
 let g2:=killR r f n g (List.range g.pls.length)
 (g2,if (leftG r g2).length = 1 then [(leftG r g2).getD 0 0] else [])
def dartR (r : Rul) (g : Gam) (f n : Int) : Gam × List Int :=
 if r.kind = 1 then roundR r g f n else if r.kind = 2 then cricketR r g f n else if r.kind = 3 then dartShanghai g f n else killerR r g f n
def betterR (r : Rul) (x y : Plr) : Bool:=if x.pts ≠ y.pts then decide (y.pts < x.pts) != (decide (r.kind = 2) && r.cut) else decide (sumM y < sumM x)
def bestR (r : Rul) (l : List Plr) : List Int:=((List.range l.length).filter fun i => (List.range l.length).all fun k => !betterR r (l.getD k default) (l.getD i default)).map fun (k : Nat) => (k : Int)
def nextR (r : Rul) (g : Gam) : Gam :=
 let q:=nextP r g g.pls.length g.player g.round
 if 0 < r.rounds ∧ (q.2 : Int) = r.rounds then { g with win:=bestR r g.pls }
 else { g with player:=q.1,round:=q.2,darts:=0,hit:=List.replicate 5 false }
def throwR (r : Rul) (g : Gam) (f n : Int) : Gam :=
 let d:=dartR r { g with darts:=g.darts + 1 } f n
 let g2 : Gam:={ d.1 with win:=d.2 }
 if d.2 ≠ [] ∨ (g2.darts < 3 ∧ isOutG r g2 g2.player = false) then g2 else nextR r g2

/-! Some small things. -/
theorem getD_of {α : Type} [Inhabited α] {l : List α} {i : Nat} (h : i < l.length) (d : α) : l.getD i d = l[i]:=by simp [List.getD,h]
theorem plr_mem {g : Gam} {p : Nat} (h : p < g.pls.length) : plr g p ∈ g.pls:=by
 unfold plr; rw [getD_of h]; exact List.getElem_mem h
theorem plr_setP {g : Gam} {p k : Nat} {x : Plr} (h : p < g.pls.length) : plr (setP g p x) k = if k = p then x else plr g k:=by
 unfold plr setP
 simp only [List.getD_eq_getElem?_getD,List.getElem?_set]
 by_cases e : k = p
 ·subst e; simp [h]
 ·rw [if_neg (by omega),if_neg e]
theorem setP_len {g : Gam} {p : Nat} {x : Plr} : (setP g p x).pls.length = g.pls.length:=by simp [setP]
/-! Cricket. -/
def openB (g : Gam) (i : Nat) : Bool:=(List.range g.pls.length).any fun k => k != g.player && decide ((plr g k).mks.getD i 0 < 3)
def extraAt (r : Rul) (g : Gam) (i : Nat) (pt : Int) (k : Nat) : Int :=
 if r.cut = true then (if k ≠ g.player ∧ (plr g k).mks.getD i 0 < 3 then pt else 0) else if k = g.player ∧ openB g i = true then pt else 0
theorem extra_len {r : Rul} {g : Gam} {i : Nat} {pt : Int} : (extraG r g i pt).pls.length = g.pls.length:=by
 unfold extraG
 cases r.cut <;> simp <;> split <;> simp [setP_len]
theorem extra_rest {r : Rul} {g : Gam} {i : Nat} {pt : Int} : (extraG r g i pt).player = g.player ∧ (extraG r g i pt).darts = g.darts ∧ (extraG r g i pt).round = g.round ∧ (extraG r g i pt).hit = g.hit ∧ (extraG r g i pt).win = g.win:=by
 unfold extraG
 cases r.cut <;> simp [setP] <;> split <;> simp
theorem extra_plr {r : Rul} {g : Gam} {i : Nat} {pt : Int} (hp : g.player < g.pls.length) {k : Nat} (hk : k < g.pls.length) :
  plr (extraG r g i pt) k = { plr g k with pts:=(plr g k).pts + extraAt r g i pt k }:=by
 unfold extraG extraAt
 cases hc : r.cut
 ·simp only [Bool.false_eq_true,if_false,and_true]
  by_cases ho : openB g i = true
  ·rw [if_pos (by unfold openB at ho; exact ho),show ({ g with pls:=g.pls } : Gam) = g from rfl,plr_setP hp]
   by_cases e : k = g.player
   ·subst e; simp [ho]
   ·simp [e]
  ·rw [if_neg (by unfold openB at ho; exact ho),show ({ g with pls:=g.pls } : Gam) = g from rfl]
   simp [ho]
 ·simp only [if_true,Bool.true_eq_false,and_false,if_false]
  unfold plr
  simp only [List.getD_eq_getElem?_getD,List.getElem?_mapIdx,List.getElem?_eq_getElem hk,Option.map_some,Option.getD_some]
  split <;> simp
theorem gam_ext {a b : Gam} (hl : a.pls.length = b.pls.length) (he : ∀ k,k < a.pls.length → plr a k = plr b k) (h1 : a.player = b.player) (h2 : a.darts = b.darts) (h3 : a.round = b.round) (h4 : a.hit = b.hit) (h5 : a.win = b.win) : a = b:=by
 have : a.pls = b.pls:=List.ext_getElem hl fun i i1 i2 => by
  have:=he i i1
  unfold plr at this
  rwa [getD_of i1,getD_of i2] at this
 cases a; cases b; simp_all
end Go.Proofs.YtnhggfnnolfcdaaGreat

/- Chapter 4, games, in plain Lean: the reference's dart is the code's, as long as a game is not over. -/
namespace Go.Proofs.YtnhggfnnolfcdaaGreat
open Go.RowKit Go.Oche Go.Proofs

theorem PlOk.same {r : Rul} {p q : Plr} (h : PlOk r p) (hm : q.mks = p.mks) (h0 : 0 ≤ q.pts) (h1 : r.kind = 1 → q.pts ≤ targetsR r) (h4 : r.kind = 4 → q.pts ≤ r.lives) (hk : r.kind ≠ 4 → q.kl = p.kl) : PlOk r q :=
 ⟨by rw [hm]; exact h.len,by rw [hm]; exact h.mlo,by rw [hm]; exact h.mhi,by rw [hm]; exact h.mz,h0,h1,h4,fun k => by rw [hk k]; exact h.kn k⟩
theorem sum_le {l : List Int} {b : Int} (h : ∀ m ∈ l,m ≤ b) : l.sum ≤ b * l.length:=by
 induction l with
 | nil => simp
 | cons x l ih =>
  have h1:=h x (by simp)
  have h2:=ih fun m hm => h m (by simp [hm])
  simp only [List.sum_cons,List.length_cons]
  push_cast
  rw [Int.mul_add]; omega
theorem sum_nn {l : List Int} (h : ∀ m ∈ l,0 ≤ m) : 0 ≤ l.sum:=by
 induction l with
 | nil => simp
 | cons x l ih =>
  have h1:=h x (by simp)
  have h2:=ih fun m hm => h m (by simp [hm])
  simp only [List.sum_cons]; omega
theorem PlOk.sum {r : Rul} {p : Plr} (h : PlOk r p) : 0 ≤ sumM p ∧ sumM p ≤ 21:=⟨sum_nn h.mlo,by have:=sum_le h.mhi; rw [h.len] at this; unfold sumM; omega⟩
theorem placeN_lt {n : Int} {i : Nat} (h : placeN n = some i) : i < 7:=by
 unfold placeN at h
 split at h
 ·cases h; omega
 ·split at h
  ·rename_i h1; simp [isIn] at h1; cases h; omega
  ·cases h
theorem PlOk.mark {r : Rul} {p : Plr} (h : PlOk r p) (k : r.kind = 2) (i : Nat) (m : Int) (h0 : 0 ≤ m) (h3 : m ≤ 3) (x : Int) (hx : 0 ≤ x) : PlOk r { p with pts:=x,mks:=p.mks.set i m } :=
 ⟨by simp [h.len],fun a ha => by rcases List.mem_or_eq_of_mem_set ha with q | rfl; exact h.mlo a q; exact h0,fun a ha => by rcases List.mem_or_eq_of_mem_set ha with q | rfl; exact h.mhi a q; exact h3,
  fun hk => (hk k).elim,hx,fun hk => by omega,fun hk => by omega,h.kn⟩
theorem mark_bd {r : Rul} {p : Plr} (h : PlOk r p) {i : Nat} : 0 ≤ p.mks.getD i 0 ∧ p.mks.getD i 0 ≤ 3:=by
 by_cases hi : i < p.mks.length
 ·rw [getD_of hi]; exact ⟨h.mlo _ (List.getElem_mem hi),h.mhi _ (List.getElem_mem hi)⟩
 ·rw [List.getD_eq_getElem?_getD,List.getElem?_eq_none (by omega)]; simp
theorem cric_rest {r : Rul} {g : Gam} {f n : Int} : (cric r g f n).player = g.player ∧ (cric r g f n).darts = g.darts ∧ (cric r g f n).round = g.round ∧ (cric r g f n).hit = g.hit ∧ (cric r g f n).win = g.win ∧ (cric r g f n).pls.length = g.pls.length:=by
 unfold cric
 cases placeN n with
 | none => simp
 | some i => simp [extra_rest,extra_len,setP_len]; simp [setP]
theorem cric_plr {r : Rul} {g : Gam} {f n : Int} (hp : g.player < g.pls.length) {i : Nat} (hi : placeN n = some i) {k : Nat} (hk : k < g.pls.length) :
  plr (cric r g f n) k = ⟨(plr g k).pts + extraAt r (setP g g.player { plr g g.player with mks:=(plr g g.player).mks.set i ((plr g g.player).mks.getD i 0 + min f (3 - (plr g g.player).mks.getD i 0)) }) i (n * (f - min f (3 - (plr g g.player).mks.getD i 0))) k,
   if k = g.player then (plr g g.player).mks.set i ((plr g g.player).mks.getD i 0 + min f (3 - (plr g g.player).mks.getD i 0)) else (plr g k).mks,(plr g k).kl⟩ := by
 unfold cric
 rw [hi]
 dsimp only
 rw [extra_plr (by rw [setP_len]; exact hp) (by rw [setP_len]; exact hk),plr_setP hp]
 by_cases e : k = g.player
 ·subst e; simp
 ·simp [e]
theorem extraAt_nn {r : Rul} {g : Gam} {i : Nat} {pt : Int} (h : 0 ≤ pt) (k : Nat) : 0 ≤ extraAt r g i pt k ∧ extraAt r g i pt k ≤ pt:=by unfold extraAt; split <;> split <;> omega
theorem placeN_bd {n : Int} {i : Nat} (h : placeN n = some i) : 0 < n ∧ n ≤ 25:=by
 unfold placeN at h
 split at h
 ·omega
 ·split at h
  ·rename_i h1; simp [isIn] at h1; omega
  ·cases h
theorem cric_pts {r : Rul} {g : Gam} {f n : Int} (hp : g.player < g.pls.length) (hf : 0 ≤ f ∧ f ≤ 4) (hm : 0 ≤ (plr g g.player).mks.getD ((placeN n).getD 0) 0 ∧ (plr g g.player).mks.getD ((placeN n).getD 0) 0 ≤ 3) {k : Nat} (hk : k < g.pls.length) :
  (plr g k).pts ≤ (plr (cric r g f n) k).pts ∧ (plr (cric r g f n) k).pts ≤ (plr g k).pts + 100:=by
 cases hi : placeN n with
 | none => unfold cric; rw [hi]; dsimp only; omega
 | some i =>
  rw [cric_plr hp hi hk]
  dsimp only
  rw [hi] at hm
  simp only [Option.getD_some] at hm
  have hb:=placeN_bd hi
  have h1 : 0 ≤ n * (f - min f (3 - (plr g g.player).mks.getD i 0)):=Int.mul_nonneg (by omega) (by omega)
  have h2 : n * (f - min f (3 - (plr g g.player).mks.getD i 0)) ≤ 25 * 4:=Int.mul_le_mul (by omega) (by omega) (by omega) (by omega)
  generalize setP g g.player _ = g2
  have:=extraAt_nn (r:=r) (g:=g2) (i:=i) h1 k
  omega
theorem cric_ok {r : Rul} {M : Int} {g : Gam} (h : Inv r M g) (k2 : r.kind = 2) {f n : Int} (hf : 0 ≤ f ∧ f ≤ 4) : Inv r (M + 100) (cric r g f n):=by
 refine ⟨h.ok,by rw [cric_rest.2.2.2.2.2]; exact h.len,by rw [cric_rest.2.2.2.2.2,cric_rest.1]; exact h.pl,fun p hp => ?_,by rw [cric_rest.2.2.2.1]; exact h.hit⟩
 obtain ⟨k,hk,rfl⟩ := List.getElem_of_mem hp
 have hk' : k < g.pls.length:=by rwa [cric_rest.2.2.2.2.2] at hk
 have e : (cric r g f n).pls[k] = plr (cric r g f n) k:=by unfold plr; rw [getD_of hk]
 have hP:=h.each _ (plr_mem hk')
 have hme:=h.each _ (plr_mem h.pl)
 rw [e]
 have hpt:=cric_pts (r:=r) (n:=n) h.pl hf (mark_bd hme.1) hk'
 refine ⟨?_,by omega⟩
 cases hi : placeN n with
 | none =>
  have : cric r g f n = g:=by unfold cric; rw [hi]
  rw [this]; exact hP.1
 | some i =>
  have hq : 0 ≤ (plr (cric r g f n) k).pts:=by have:=hP.1.nn; omega
  have hb:=mark_bd hme.1 (i:=i)
  rw [cric_plr h.pl hi hk'] at hq ⊢
  by_cases ek : k = g.player
  ·subst ek
   rw [if_pos rfl]
   exact hP.1.mark k2 i _ (by omega) (by omega) _ hq
  ·rw [if_neg ek]
   exact hP.1.same rfl hq (fun q => by omega) (fun q => by omega) (fun _ => rfl)
end Go.Proofs.YtnhggfnnolfcdaaGreat

/- Chapter 4, games, in plain Lean: killer, the best ones, and the whole dart: the reference and the code. -/
namespace Go.Proofs.YtnhggfnnolfcdaaGreat
open Go.RowKit Go.Oche Go.Proofs

theorem countP_but {α : Type} {p q : α → Bool} {i : α} : ∀ {l : List α},l.Nodup → (∀ k ∈ l,k ≠ i → p k = true → q k = true) → l.countP p ≤ l.countP q + 1
 | [],_,_ => by simp
 | x :: l,hn,h => by
  rw [List.nodup_cons] at hn
  by_cases e : x = i
  ·have : l.countP p ≤ l.countP q:=List.countP_mono_left fun k hk hp => h k (by simp [hk]) (by rintro rfl; exact hn.1 (e ▸ hk)) hp
   rw [List.countP_cons,List.countP_cons]; split <;> omega
  ·have:=countP_but (p:=p) (q:=q) (i:=i) hn.2 fun k hk => h k (by simp [hk])
   have hx:=h x (by simp) e
   rw [List.countP_cons,List.countP_cons]
   by_cases hp : p x = true
   ·rw [if_pos hp,if_pos (hx hp)]; omega
   ·rw [if_neg hp]; omega
theorem alive_count (r : Rul) (g : Gam) : alive r g = (List.range g.pls.length).countP fun k => !isOutG r g k:=by
 unfold alive leftG; rw [List.length_map,List.countP_eq_length_filter]
theorem alive_set (r : Rul) (g : Gam) (i : Nat) (x : Plr) : alive r g ≤ alive r (setP g i x) + 1:=by
 rw [alive_count,alive_count,setP_len]
 refine countP_but (i:=i) List.nodup_range fun k hk hne => ?_
 unfold isOutG plr setP
 simp only [List.getD_eq_getElem?_getD,List.getElem?_set]
 rw [if_neg (by omega)]; exact id
def killHit (r : Rul) (g : Gam) (i : Nat) : Gam :=
 if (i ≠ g.player ∧ (plr g g.player).kl = true) ∨ (i = g.player ∧ (plr g g.player).kl = true ∧ r.own = true) then setP g i { plr g i with pts:=(plr g i).pts - 1 }
 else if i = g.player then setP g i { plr g g.player with kl:=true } else g
theorem left_len (r : Rul) (g : Gam) : (leftG r g).length = alive r g:=rfl
theorem killHit_len (r : Rul) (g : Gam) (i : Nat) : alive r g ≤ alive r (killHit r g i) + 1:=by
 unfold killHit
 split
 ·exact alive_set r g i _
 split
 ·exact alive_set r g i _
 ·omega
theorem Run.dart {r : Rul} {M : Int} {g : Gam} (h : Run r M g) (d : Nat) : Run r M { g with darts:=d } :=
 ⟨⟨h.ok,h.len,h.pl,h.each,h.hit⟩,h.win,h.rd,h.less,h.two,h.inn⟩
end Go.Proofs.YtnhggfnnolfcdaaGreat
