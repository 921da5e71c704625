/- The texts MV, XA, Cpy4, XB, EF, EG, BBlk, EO, AppK, in build order. -/
import Derived.Test.YtnhggfnnolfcdaaGreatZbb
import Derived.ArgAppend

/- Chapter 4, in plain Lean: what is true of all games that are played one after another. -/
namespace Go.Proofs.YtnhggfnnolfcdaaGreat
open Go.RowKit Go.Oche Go.Proofs
structure TurnOk (r : Rul) (n len : Nat) (g : Gam) : Prop where
 over : g.win ≠ [] → n + 1 = len ∧ 1 ≤ g.darts ∧ g.darts ≤ 3
 live : g.win = [] → Live r (9 + 100 * n) g
 turn : g.win = [] → Turn r n g
 good : Good r n g
theorem games_len (r : Rul) (ys : List Nat) : (gamesS r ys).length = (dartsS r ys).length + 1:=by simp [gamesS,dartsS]
theorem lastS_games (r : Rul) : ∀ (l : List Nat) (g : Gam),(g :: (playS r g l).map (·.2))[(playS r g l).length]? = some (lastS r g l)
 | [],g => by simp [playS,lastS]
 | y :: l,g => by
  rw [playS,lastS]
  by_cases hw : g.win = []
  ·rw [if_pos hw,if_pos hw,List.length_cons,List.getElem?_cons_succ,List.map_cons]
   exact lastS_games r l (stepS r g y)
  ·rw [if_neg hw,if_neg hw]; rfl
theorem games_last (r : Rul) (ys : List Nat) : (gamesS r ys)[(dartsS r ys).length]? = some (lastS r (initG r) ys):=by
 unfold gamesS dartsS; rw [List.length_map]; exact lastS_games r ys (initG r)
end Go.Proofs.YtnhggfnnolfcdaaGreat

/- Chapter 4: what the plain laws begin with: a play's states in memory. -/
namespace Go.Proofs.YtnhggfnnolfcdaaGreat
open Go.RowKit Go.Oche Go.Proofs
theorem StsV.at_ {S : Nat → Prop} {w : World} {a : Option Addr} {n c : Nat} {gs : List Gam} (h : StsV S w (.slice a n c) gs) {i : Nat} {g : Gam} (hi : gs[i]? = some g) : ∃ b o pa pc wa wc,a = some ⟨b,o,none⟩ ∧
  (∀ j x,[Value.int .i64 g.round,.int .i64 g.player,.int .i64 g.darts,.slice pa g.pls.length pc,.slice wa g.win.length wc][j]? = some x → w.cell? ⟨b,o + i * 5 + j,none⟩ = some x) ∧
  SlN 9 S w (.slice pa g.pls.length pc) (g.pls.map plrRow) ∧ Sevens g.pls ∧ Sl S w (.slice wa g.win.length wc) (ints g.win):=by
 obtain ⟨rows,h1,h2⟩ := h
 obtain ⟨r,hr,hl,pa,pc,wa,wc,e,h3,h7,h4⟩ := h2.2 i g hi
 have hil : i < rows.length:=(List.getElem?_eq_some_iff.1 hr).1
 obtain ⟨b,o,ea, -, -,hc⟩ := h1.cell hil
 have hre : rows[i] = r:=by rw [List.getElem?_eq_getElem hil] at hr; exact Option.some.inj hr
 refine ⟨b,o,pa,pc,wa,wc,ea,fun j x hx => hc j x ?_,h3,h7,h4⟩
 rw [hre]
 simp only [Value.agg.injEq] at e
 have e2 : r = [Value.int .i64 g.round,.int .i64 g.player,.int .i64 g.darts,.slice pa g.pls.length pc,.slice wa g.win.length wc]:=by
  have:=congrArg Array.toList e
  simp at this; exact this
 rw [e2]; exact hx
theorem StsV.len {S : Nat → Prop} {w : World} {v : Value} {gs : List Gam} (h : StsV S w v gs) : ∃ a c,v = .slice a gs.length c ∧ gs.length ≤ c ∧ c ≤ maxLen:=by
 obtain ⟨rows,h1,h2⟩ := h
 obtain ⟨a,c,e,l1,l2⟩ := h1.form
 rw [h2.1] at e l1
 exact ⟨a,c,e,l1,l2⟩
theorem play_r {S : Nat → Prop} (k p l f : Nat) (hk : k ≤ 255) (hp : p ≤ 255) (hl : l ≤ 255) (hf : f ≤ 255) (ys : List Nat) (hys : ∀ y ∈ ys,y ≤ 255) (most : Nat) (hmost : most ≤ 500) (r : Rul) (hr : rulS k p l f = r) (D : Nat) (hD : (dartsS r (ys.take most)).length = D) (bv : Value) (w : World) (hb : Sl S w bv (ys.map fun (y : Nat) => Value.int .u8 y)) :
  Calls Tryz.prog 4 #[.agg #[.int .u8 k,.int .u8 p,.int .u8 l,.int .u8 f],bv,.int .i64 most] w fun e w' => ∃ na nl nc da dc sa sc,e = .returned (.tuple #[.agg #[.int .i64 r.kind,.int .i64 r.players,.int .i64 r.last,.bool r.bull,.bool r.jump,.int .i64 r.rounds,.bool r.cut,.slice na nl nc,.int .i64 r.lives,.bool r.own],.slice da D dc,.slice sa (D + 1) sc,.bool true]) ∧ Below w.heap.size w w' ∧
   Sl (fun _ => True) w' (.slice na nl nc) (ints r.nums) ∧ nl ≤ 8 ∧ Sl (fun _ => True) w' (.slice da D dc) (ints (dartsS r (ys.take most))) ∧ StsV (fun _ => True) w' (.slice sa (D + 1) sc) (gamesS r (ys.take most)):=by
 have hc:=playS_any k p l f hk hp hl hf ys hys most hmost bv w hb
 have hrc:=rulS_check k p l f
 rw [hr] at hc hrc
 refine hc.mono ?_
 rintro e w' ⟨na,nl,nc,dv,sv,rfl,hb',hs1,hs2,hs3⟩
 obtain ⟨da,dc,rfl,_,_⟩ := hs2.form
 obtain ⟨sa,sc,rfl,_,_⟩ := hs3.len
 rw [ints_length,hD] at hs2
 rw [games_len,hD] at hs3
 rw [ints_length,hD,games_len,hD]
 have hnl : r.nums.length = nl:=by obtain ⟨_,_,e,_⟩ := hs1.form; rw [ints_length] at e; cases e; rfl
 refine ⟨na,nl,nc,da,dc,sa,sc,rfl,hb',hs1, ?_,hs2,hs3⟩
 rw [← hnl]
 rcases kind_of hrc with q | q | q | q
 ·rw [(ok1 hrc q).2.2.2.2.1]; simp
 ·rw [(ok2 hrc q).2.2.2.2.2.1]; simp
 ·rw [(ok3 hrc q).2.2.2.2.2.2.1]; simp
 ·have:=ok4 hrc q; have h1:=this.2.2.1; have h2:=this.2.2.2.2.2.2.2.2.2.2; omega
end Go.Proofs.YtnhggfnnolfcdaaGreat

/- append([]T{}, l...) once more: the copy is a row of one's own, also where l is empty. -/
namespace Go.Oche
open Go Go.RowKit
section
variable {P : Program} {w : World}
theorem wpList_copyE {ops : Array Oper} {rest : List Oper} {Q : Exit → Act → World → Prop} {o : Oper} {a : Act} (hg : o.guard = none) (s x : Operand) (t : TypeId) (ho : o.op = .call { callee:=.builtin .append,args:=#[s,x],argTypes:=#[t,t] })
  (e : TypeId) (z : Value) (bytes : Nat) (ht : P.underlying t = some (.slice e)) (hi : (P.info? e).map (fun i => (i.zero,i.size,i.bytes)) = some (some z,1,bytes)) (hzs : z.cells.size = 1)
  (hs : a.eval s = .slice (some ⟨w.heap.size,0,none⟩) 0 0) {S : Nat → Prop} (v : Value) (xs : List Value) (hx : a.eval x = v) (hsl : Sl S w v xs) (h1 : ∀ u ∈ xs,u.oneCell' = true)
  (h63 : xs.length ≤ 100000) (hbytes : bytes ≤ 1000)
  (hK : ∀ g c w',Below w.heap.size w w' → w'.ownsRow w.heap.size e 1 (.slice (some ⟨g,0,none⟩) xs.length c) xs.length xs → wpList P ops Q rest (a.put o.dst (.slice (some ⟨g,0,none⟩) xs.length c)) w') : wpList P ops Q (o :: rest) a (w.alloc (.cells #[] e)):=by
 by_cases h0 : 0 < xs.length
 ·refine wpList_copyO hg s x t ho e z bytes ht hi hzs hs v xs hx hsl h1 h0 h63 hbytes fun v' w' hb ho => ?_
  obtain ⟨g,c,rfl⟩ : ∃ g c,v' = .slice (some ⟨g,0,none⟩) xs.length c:=by
   rcases ho.2 with ⟨_,h⟩ | ⟨g,c,cur,h,_⟩
   ·omega
   ·exact ⟨g,c,h⟩
  exact hK g c w' hb ho
 ·have hn : xs = []:=List.eq_nil_of_length_eq_zero (by omega)
  subst hn
  obtain ⟨al,cap,rfl,hc1,hc2,hcell⟩ := hsl
  obtain ⟨i,hi',hz0,hz1,hz2⟩ := info_parts hi
  refine wpList_opOK hg (R:=fun v' w' => v' = .slice (some ⟨w.heap.size,0,none⟩) 0 0 ∧ w' = w.alloc (.cells #[] e)) ?_ ?_
  ·unfold opOK execOp
   simp only [ho,resolve,invoke,builtin,Sem.run_bind,Sem.run_pure,Result.andThen_ok,List.map_toArray,List.map_cons,List.map_nil,hs,hx,List.length_nil,run_append_empty t o.type e i z ht hi' hz0]
   first | exact ⟨rfl,rfl⟩ | simp
  ·rintro _ _ ⟨rfl,rfl⟩
   exact hK w.heap.size 0 _ (aB _ _) (World.ownsRow_made w #[] 0 (Nat.le_refl _) (Nat.zero_le _) (by simp))
end
end Go.Oche

/- Chapter 4: darts copied, as a row of one's own; a game after one dart more. -/
namespace Go.Proofs.YtnhggfnnolfcdaaGreat
open Go.RowKit Go.Oche Go.Proofs
theorem ints_oneC (xs : List Int) : ∀ u ∈ ints xs,u.oneCell' = true:=by
 intro u hu
 obtain ⟨z,_,rfl⟩ := List.mem_map.1 hu
 rfl
set_option maxRecDepth 100000 in
set_option maxHeartbeats 1000000 in
theorem copiedE_any {S : Nat → Prop} (xs : List Int) (n : Nat) (hn : xs.length = n) (v : Value) (w : World) (hs : Sl S w v (ints xs)) (hl : n ≤ 100000) :
  Calls Tryz.prog 7 #[v] w fun e w' => ∃ g c,e = .returned (.slice (some ⟨g,0,none⟩) n c) ∧ Below w.heap.size w w' ∧ w'.ownsRow w.heap.size 45 1 (.slice (some ⟨g,0,none⟩) n c) n (ints xs):=by
 have HS:=Lib.hid hs
 have HN:=Lib.hid hn
 clear hs hn
 go_enter Tryz.func7,Tryz.ntmps7
 go_wp2_with (at_builtin; refine wpList_copyE rfl (.tmp 3) (.tmp 4) 30 rfl 45 (.int .i64 0) 8 Tryz.underlying30 info_bed rfl rfl _ _ rfl HS.out (ints_oneC xs) (by rw [ints_length,HN.out]; exact hl) (by decide) ?_)
 intro g c w1 hb1 ho1
 rw [HN.out] at ho1
 try rw [ints_length]
 rw [HN.out]
 have HB:=Lib.hid hb1
 have HO:=Lib.hid ho1
 clear hb1 ho1
 go_wp2
 go_ret
 exact ⟨g,c,rfl,HB.out,HO.out⟩
end Go.Proofs.YtnhggfnnolfcdaaGreat

/- Chapter 4: the shortest lists of darts with which the next player wins (Soon). -/
namespace Go.Proofs.YtnhggfnnolfcdaaGreat
open Go.RowKit Go.Oche Go.Proofs

theorem soon1_any (b : Int) (hb : okBed b = true) (w : World) : Calls Tryz.prog 17 #[.int .i64 b] w fun e w' => e = .returned (.bool false) ∧ Below w.heap.size w w':=by
 have HNEW:=Lib.hid (newHit_r b true (Lib.hid hb) (by have:=okBed_bd hb; omega) w)
 clear hb
 go_enter Tryz.func17,Tryz.ntmps17
 go_wp2_with fail
 refine HNEW.out.mono ?_
 rintro e w1 ⟨rfl,hb1⟩
 have HB:=Lib.hid (bThen hb1 (aB w1 (.cells #[.int .i64 (b.tdiv 100),.int .i64 (b.tmod 100)] 61)))
 clear hb1
 go_wp2
 go_ret
 exact ⟨ret_bool rfl,HB.out⟩
set_option maxRecDepth 100000 in
set_option maxHeartbeats 4000000 in
theorem bad_any {S : Nat → Prop} (a : Option Addr) (n c : Nat) (xs : List Int) (hn : xs.length = n) (hob : ∀ b ∈ xs,okBed b = true) (w : World) (hs : Sl S w (.slice a n c) (ints xs)) :
  Calls Tryz.prog 16 #[.slice a n c,.func (.func 17) #[] #[]] w fun e w' => e = .returned (.bool false) ∧ Below w.heap.size w w':=by
 have hl:=hs.len
 rw [ints_length,hn] at hl
 unfold maxLen at hl
 have HN:=Lib.hid hn
 have HS:=Lib.hid hs
 have HOB:=Lib.hid hob
 clear hn hs hob
 go_enter Tryz.func16,Tryz.ntmps16
 go_wp2_with fail
 refine Calls.mono (R:=fun e w' => e = .returned (.int .i64 (-1)) ∧ Below w.heap.size w w') ?_ ?_
 ·go_enter Tryz.func34,Tryz.ntmps34
  go_wp2_with fail
  go_loopw [5,8] (fun _ iv wr => ∃ k : Nat,k ≤ n ∧ iv = .int .i64 k ∧ Hid (Below w.heap.size w wr)) (fun _ iv _ => n - (intOf iv).toNat)
  case atStart => exact ⟨0,by omega,by go_num,Lib.hid (Below.refl _ _)⟩
  case round =>
   obtain ⟨k,hk,rfl,HB⟩ := hrel
   obtain ⟨wo,rfl⟩ : ∃ wo : World,wo = wr:=⟨_,rfl⟩
   by_cases hlt : k < n
   ·have hx1 : k < xs.length:=by rw [HN.out]; exact hlt
    obtain ⟨b1,o1,hal1,_,hc1⟩ := (HS.out.below HB.out).cell hx1
    cases hal1
    obtain ⟨x,hX1⟩ : ∃ x,xs[k] = x:=⟨_,rfl⟩
    rw [hX1] at hc1
    have HX : Hid (okBed x = true):=Lib.hid (HOB.out x (by rw [← hX1]; exact List.getElem_mem hx1))
    clear hX1 hx1
    go_wp2_with fail
    refine (soon1_any x HX.out wo).mono ?_
    rintro e w1 ⟨rfl,hb1⟩
    have HB1:=Lib.hid (HB.out.trans (hb1.mono HB.out.size))
    clear hb1 hc1
    go_wp2
    go_roundw
    case rel => exact ⟨k + 1,by omega,by go_num,HB1⟩
    case measure => simp [intOf]; omega
   ·obtain rfl : k = n:=by omega
    go_wp2
    go_ret
    exact ⟨rfl,HB.out⟩
 ·rintro e w1 ⟨rfl,hb1⟩
  have HB1:=Lib.hid hb1
  clear hb1
  go_wp2
  go_ret
  exact ⟨ret_bool (by decide),HB1.out⟩
theorem eql_nil_nil (w : World) {t e : TypeId} (ht : Tryz.prog.underlying t = some (.slice e)) : (binOp .eql t (.slice none 0 0) (.slice none 0 0)).run Tryz.prog w = .ok (.bool true) w:=by
 have h : ∀ d : Nat,(Op.equalIn (d + 1) t (.slice none 0 0) (.slice none 0 0)).run Tryz.prog w = .ok true w:=fun d => by
  simp [Op.equalIn,run_underlying ht]
 simp only [binOp]
 simp [Op.equal,Op.maxDepth,h 9999]
set_option maxRecDepth 100000 in
set_option maxHeartbeats 4000000 in
theorem cloneB_any {base : Nat} (xs : List Int) (n : Nat) (v : Value) (w : World) (ho : w.ownsRow base 45 1 v n (ints xs)) (hl : n ≤ 1000) :
  Calls Tryz.prog 20 #[v] w fun e w' => ∃ a c,e = .returned (.slice a n c) ∧ Below w.heap.size w w' ∧ Sl (fun _ => True) w' (.slice a n c) (ints xs):=by
 have hxl:=rowLen ho
 rw [ints_length] at hxl
 rcases ho.2 with ⟨rfl,rfl⟩ | ⟨g,c,cur,rfl,_⟩
 ·have HS:=Lib.hid ((Sl.of_owns ho).mono (S':=fun _ => True) fun _ _ => trivial)
  have heq:=fun w => eql_nil_nil w Tryz.underlying30
  clear ho hxl
  go_enter Tryz.func20,Tryz.ntmps20
  go_wp2
  go_ret
  exact ⟨none,0,rfl,Below.refl _ _,HS.out⟩
 ·have HS:=Lib.hid (Sl.of_owns ho)
  have HXL:=Lib.hid hxl
  have heq:=fun w => eql_some_nil w ⟨g,0,none⟩ n c Tryz.underlying30
  clear ho hxl
  go_enter Tryz.func20,Tryz.ntmps20
  go_wp2_with (at_builtin; refine wpList_copyE rfl (.tmp 5) (.tmp 6) 30 rfl 45 (.int .i64 0) 8 Tryz.underlying30 info_bed rfl rfl _ _ rfl HS.out (ints_oneC xs) (by rw [ints_length,HXL.out]; omega) (by decide) ?_)
  intro g2 c2 w1 hb1 ho1
  try rw [ints_length] at ho1
  rw [HXL.out] at ho1
  try rw [ints_length]
  rw [HXL.out]
  have HB:=Lib.hid hb1
  have HO:=Lib.hid ((Sl.of_owns ho1).mono (S':=fun _ => True) fun _ _ => trivial)
  clear hb1 ho1
  go_wp2
  go_ret
  exact ⟨_,c2,rfl,HB.out,HO.out⟩
set_option maxRecDepth 100000 in
set_option maxHeartbeats 4000000 in
theorem compactB_any {S : Nat → Prop} (xs : List Int) (a : Option Addr) (n c : Nat) (hn : xs.length = n) (w : World) (hs : Sl S w (.slice a n c) (ints xs)) (hd : xs.Pairwise (· < ·)) :
  Calls Tryz.prog 19 #[.slice a n c] w fun e w' => e = .returned (.slice a n c) ∧ Below w.heap.size w w':=by
 have hl:=hs.len
 rw [ints_length,hn] at hl
 unfold maxLen at hl
 have HN:=Lib.hid hn
 have HS:=Lib.hid hs
 have HD:=Lib.hid hd
 clear hn hs hd
 go_enter Tryz.func19,Tryz.ntmps19
 by_cases h2 : n < 2
 ·have d0 : decide ((n : Int) < 2) = true:=decide_eq_true (by omega)
  have d0n : decide (n < 2) = true:=decide_eq_true h2
  go_wp2
  go_ret
  exact ⟨rfl,Below.refl _ _⟩
 ·have d0 : decide ((n : Int) < 2) = false:=decide_eq_false (by omega)
  have d0n : decide (n < 2) = false:=decide_eq_false h2
  go_wp2_with fail
  go_loopw [3] (fun iv wr => ∃ k : Nat,1 ≤ k ∧ k ≤ n ∧ iv = .int .i64 k ∧ Hid (Below w.heap.size w wr)) (fun iv _ => n - (intOf iv).toNat)
  case atStart => exact ⟨1,by omega,by omega,by go_num,Lib.hid (Below.refl _ _)⟩
  case round =>
   obtain ⟨k,hk1,hk,rfl,HB⟩ := hrel
   obtain ⟨wo,rfl⟩ : ∃ wo : World,wo = wr:=⟨_,rfl⟩
   by_cases hlt : k < n
   ·have hx1 : k < xs.length:=by rw [HN.out]; exact hlt
    have hx0 : k - 1 < xs.length:=by omega
    obtain ⟨b1,o1,hal1,_,hc1⟩ := (HS.out.below HB.out).cell hx1
    obtain ⟨b0,o0,hal0,_,hc0⟩ := (HS.out.below HB.out).cell hx0
    cases hal1
    cases hal0
    obtain ⟨x,hX1⟩ : ∃ x,xs[k] = x:=⟨_,rfl⟩
    obtain ⟨y,hY1⟩ : ∃ y,xs[k - 1] = y:=⟨_,rfl⟩
    rw [hX1] at hc1
    rw [hY1] at hc0
    have hne : (x == y) = false:=by
     rw [beq_eq_false_iff_ne,← hX1,← hY1]
     have:=List.pairwise_iff_getElem.1 HD.out (k - 1) k hx0 hx1 (by omega)
     omega
    obtain ⟨m,hm⟩ : ∃ m,k - 1 = m:=⟨_,rfl⟩
    have hwm : IntKind.i64.wrap ((k : Int) - 1) = (m : Int):=by rw [wrap_small _ (by omega) (by omega)]; omega
    have hmn : m < n:=by omega
    rw [hm] at hc0
    clear hX1 hY1 hx1 hx0 hm
    go_wp2_with fail
    go_quiet (fail)
    generalize hwd : World.drewN _ _ = wd
    have HB1:=Lib.hid (HB.out.trans ((show Below wo.heap.size wo wd by rw [← hwd]; exact bDrew _ _).mono HB.out.size))
    clear hwd hc0 hc1
    go_wp2
    go_roundw
    case rel => exact ⟨k + 1,by omega,by omega,by go_num,HB1⟩
    case measure => simp [intOf]; omega
   ·obtain rfl : k = n:=by omega
    go_wp2
    go_ret
    exact ⟨rfl,HB.out⟩
end Go.Proofs.YtnhggfnnolfcdaaGreat

/- Chapter 4: Soon. -/
namespace Go.Proofs.YtnhggfnnolfcdaaGreat
open Go.RowKit Go.Oche Go.Proofs

theorem valuesB_any {S : Nat → Prop} (cs : List Int) (v : Value) (w : World) (hs : Sl S w v (ints cs)) :
  Calls Tryz.prog 15 #[v] w fun e w' => ∃ pb,e = .returned (.func (.func 33) #[] #[.pointer (some ⟨pb,0,none⟩)]) ∧ Below w.heap.size w w' ∧ w'.cell? ⟨pb,0,none⟩ = some v:=by
 obtain ⟨a,cap,rfl,h2,h3⟩ := hs.form
 simp only [ints_length] at *
 clear hs
 go_enter Tryz.func15,Tryz.ntmps15
 go_wp2
 go_ret
 exact ⟨_,rfl,aB _ _,by simp⟩
theorem bSet {N : Nat} {W0 W : World} (h : Below N W0 W) (b : Nat) (x : Value) (hb : N ≤ b) : Below N W0 (W.setCell ⟨b,0,none⟩ x) :=
 ⟨h.os,h.tape,h.output,by simpa using h.size,fun k hk => (Below.heap_setCell _ _ _ _ (by simp only; omega)).trans (h.block k hk)⟩
theorem cell_set0 {W : World} {b : Nat} {u x : Value} {t : TypeId} (h : W.heap[b]? = some (.cells #[u] t (0,0))) : (W.setCell ⟨b,0,none⟩ x).cell? ⟨b,0,none⟩ = some x:=by
 rw [cell_of_heap (heap_setCell_at (o:=0) h x)]; rfl
theorem Ways.slsl {bx : Nat} {O : Nat → Prop} {ws : List (List Int)} {W : World} (h : Ways bx O ws W) {lv : Value} (hc : W.cell? ⟨bx,0,none⟩ = some lv) : SlSl (fun q => q ≠ bx) W lv ws:=by
 obtain ⟨lv',us,h1,h2,h3⟩ := h.ex
 have e : lv' = lv:=by rw [cell_of_heap h1.box] at hc; simpa using hc
 subst e
 refine ⟨us,(Sl.of_owns h1.row).mono (fun q hq => by omega),h2,fun i hi => ?_⟩
 obtain ⟨u,e,hs⟩ := h3 i hi
 exact ⟨u,e,hs.mono fun q hq e => hq ((h1.o q).2 (.inl e))⟩
theorem slsl_set {bx : Nat} {ws : List (List Int)} {W : World} {lv x : Value} (h : SlSl (fun q => q ≠ bx) W lv ws) : SlSl (fun _ => True) (W.setCell ⟨bx,0,none⟩ x) lv ws :=
 (h.cells fun b o hb _ => World.cell?_of_block (w:=W) (Below.heap_setCell _ _ _ _ hb)).mono fun _ _ => trivial
theorem pow12 {L k : Nat} (hL : L ≤ 12) (hk : k ≤ 2) : L ^ (k + 1) ≤ 1728 :=
 Nat.le_trans (Nat.pow_le_pow_left hL _) (Nat.le_trans (Nat.pow_le_pow_right (by omega) (show k + 1 ≤ 3 by omega)) (by decide))
theorem soonR_step {r : Rul} {beds : List Int} {g : Gam} {k m : Nat} (hk : 0 < k) : soonR r beds g k m = if winR r beds m g [] = [] then soonR r beds g (k - 1) (m + 1) else winR r beds m g []:=by
 obtain ⟨j,rfl⟩ : ∃ j,k = j + 1:=⟨k - 1,by omega⟩
 rw [soonR]; rfl
def SoonPost (r : Rul) (beds : List Int) (w : World) (x : Option Gam × Nat × Int) (e : Ending) (w' : World) : Prop :=
 Below w.heap.size w w' ∧ ((∃ er : Int,er ≠ 0 ∧ (∀ g,x = (some g,0,0) → g.win ≠ [] ∧ er = 9) ∧ e = .returned (.tuple #[.slice none 0 0,.int .i64 er])) ∨
  ∃ g bs v,x = (some g,0,0) ∧ g.win = [] ∧ bs.Perm beds ∧ e = .returned (.tuple #[v,.int .i64 0]) ∧ SlSl (fun _ => True) w' v (soonG r bs g))
set_option maxRecDepth 100000 in
set_option maxHeartbeats 16000000 in
theorem soon_any {S S' S'' : Nat → Prop} (r : Rul) (va : Option Addr) (nl vc : Nat) (da : Option Addr) (n dc : Nat) (darts : List Int) (hn : darts.length = n) (h64 : ∀ b ∈ darts, -9223372036854775808 ≤ b ∧ b ≤ 9223372036854775807) (ba : Option Addr) (L bc : Nat) (beds : List Int) (hL : beds.length = L) (hL12 : L ≤ 12) (hob : ∀ b ∈ beds,okBed b = true) (hnd : beds.Nodup)
  (w : World) (hs : Sl S w (.slice va nl vc) (ints r.nums)) (hd : Sl S' w (.slice da n dc) (ints darts)) (hb : Sl S'' w (.slice ba L bc) (ints beds)) :
  Calls Tryz.prog 5 #[.agg #[.int .i64 r.kind,.int .i64 r.players,.int .i64 r.last,.bool r.bull,.bool r.jump,.int .i64 r.rounds,.bool r.cut,.slice va nl vc,.int .i64 r.lives,.bool r.own],.slice da n dc,.slice ba L bc] w (SoonPost r beds w (playG r darts)):=by
 obtain ⟨w0,hw0⟩ : ∃ w0,(w.alloc (.cells #[.int .i64 r.kind,.int .i64 r.players,.int .i64 r.last,.bool r.bull,.bool r.jump,.int .i64 r.rounds,.bool r.cut,.slice va nl vc,.int .i64 r.lives,.bool r.own] 29)).alloc (.cells #[.slice none 0 0] 37) = w0:=⟨_,rfl⟩
 obtain ⟨bx,hbx⟩ : ∃ bx,w.heap.size + 1 = bx:=⟨_,rfl⟩
 have hb0 : Below w.heap.size w w0:=by rw [← hw0]; exact (aB _ _).alloc (by simp) _
 have hsz0 : w0.heap.size = bx + 1:=by rw [← hw0,← hbx]; simp
 have hbox : w0.heap[bx]? = some (.cells #[.slice none 0 0] 37 (0,0)):=by rw [← hw0,← hbx]; exact heap_two _ _ _
 have hc:=playing_any r va nl vc da n dc darts hn h64 w0 (hs.below hb0) (hd.below hb0)
 obtain ⟨x,hx⟩ : ∃ x,playG r darts = x:=⟨_,rfl⟩
 rw [hx] at hc ⊢
 have HC:=Lib.hid hc
 have HX:=Lib.hid hx
 have HB0:=Lib.hid hb0
 have HW0:=Lib.hid hw0
 have HBX:=Lib.hid (And.intro hbx hsz0)
 have HBOX:=Lib.hid hbox
 have HNV : Hid (Sl (fun q => q < bx) w0 (.slice va nl vc) (ints r.nums)):=Lib.hid ((hs.lt.below hb0).mono fun q hq => by omega)
 have HBD:=Lib.hid (hb.lt.below hb0)
 have HLN:=Lib.hid hL
 have HOB:=Lib.hid hob
 have HND:=Lib.hid hnd
 have hdn : darts.length ≤ 600 ∨ 600 < darts.length:=by omega
 clear hs hd hb hc hx hb0 hw0 h64 hn hL hob hnd hsz0 hbx hbox hdn
 go_enter Tryz.func5,Tryz.ntmps5
 go_wp2_with fail
 rw [HW0.out,HBX.out.1]
 go_wp2_with fail
 refine HC.out.mono ?_
 rintro e w1 ⟨hb1,(⟨er,p,hne,hcs,rfl⟩ | ⟨g,t,pb,cap,wv,he,hw,rfl,ht,q1,q2⟩)⟩
 ·have eb : (er != 0) = true:=by simp [hne]
  have HB1:=Lib.hid hb1
  have HR:=Lib.hid (And.intro hne hcs)
  have HBD1:=Lib.hid (HBD.out.below hb1)
  clear hb1 hne hcs
  go_wp2_with fail
  refine (valuesB_any beds _ w1 HBD1.out).mono ?_
  rintro e w2 ⟨pbx,rfl,hb2,hc2⟩
  have HB2:=Lib.hid (bThen HB1.out hb2)
  have HBD2:=Lib.hid (HBD1.out.below hb2)
  have HC2:=Lib.hid hc2
  clear hb2 hc2
  go_wp2_with fail
  refine (sortedB_any beds pbx _ w2 HC2.out HBD2.out (by have:=HLN.out; omega)).mono ?_
  rintro e w3 ⟨v3,ys,rfl,hb3,ho3, -, -⟩
  obtain ⟨a3,c3,rfl⟩ := owns_form ho3
  have hb3':=bThen HB2.out hb3
  have k3 : w3.heap[bx]? = some (.cells #[.slice none 0 0] 37 (0,0)):=(hb3'.block bx (by have:=HBX.out.2; omega)).trans HBOX.out
  have cb : w3.cell? ⟨bx,0,none⟩ = some (.slice none 0 0):=by rw [cell_of_heap k3]; rfl
  have fb : w3.frozen? ⟨bx,0,none⟩ = false:=frozen_of_heap k3
  have cb2 : (w3.setCell ⟨bx,0,none⟩ (.slice none 0 0)).cell? ⟨bx,0,none⟩ = some (.slice none 0 0):=cell_set0 k3
  have HB3:=Lib.hid (bThen HB0.out hb3')
  clear hb3 ho3 hb3' k3
  go_wp2
  refine bodyPost_ret (v:=.tuple #[.slice none 0 0,.int .i64 er]) (by simp [results,Tryz.results5,go_sem,cb2]) rfl ?_
  refine ⟨?_,.inl ⟨er,HR.out.1,fun g e => ?_,rfl⟩⟩
  ·exact bSet HB3.out bx _ (by have:=HBX.out.1; omega)
  ·rw [e] at HR
   rcases HR.out.2 with ⟨h,_⟩ | ⟨⟨g',h1,h2⟩,h3⟩
   ·cases h
   ·cases h1; exact ⟨h2,h3⟩
 ·have HB1:=Lib.hid hb1
  have HT:=Lib.hid ht
  have HE:=Lib.hid he
  have HWN:=Lib.hid hw
  have HQ : Hid (bx < t ∧ bx < pb):=Lib.hid (by have:=HBX.out.2; omega)
  have hgd:=playG_good (by rw [HX.out]; exact he : playG r darts = (some g,0,0))
  have HLV:=Lib.hid (hgd.1.live hw)
  have HM : Hid ((9 + 100 * (darts.length : Int)) ≤ 700000):=Lib.hid (by have:=hgd.2; omega)
  have HRD : Hid (g.round < 90000):=Lib.hid (by have:=hgd.1.rd; have:=hgd.2; omega)
  obtain ⟨M,hM⟩ : ∃ M,(9 + 100 * (darts.length : Int)) = M:=⟨_,rfl⟩
  rw [hM] at HLV HM
  have HBD1:=Lib.hid (HBD.out.below hb1)
  have HNV1:=Lib.hid (HNV.out.below hb1)
  clear hb1 ht he hw q1 q2 hgd hM
  go_wp2_with fail
  refine (valuesB_any beds _ w1 HBD1.out).mono ?_
  rintro e w2 ⟨pbx,rfl,hb2,hc2⟩
  have HB2:=Lib.hid (bThen HB1.out hb2)
  have HT2:=Lib.hid (HT.out.below hb2)
  have HBD2:=Lib.hid (HBD1.out.below hb2)
  have HNV2:=Lib.hid (HNV1.out.below hb2)
  have HC2:=Lib.hid hc2
  clear hb2 hc2 HT HNV1
  go_wp2_with fail
  refine (sortedB_any beds pbx _ w2 HC2.out HBD2.out (by have:=HLN.out; omega)).mono ?_
  rintro e w3 ⟨v3,bs,rfl,hb3,ho3,hp3,hs3⟩
  rw [HLN.out] at ho3
  obtain ⟨a3,c3,rfl⟩ := owns_form ho3
  have hb3':=bThen HB2.out hb3
  have k3 : w3.heap[bx]? = some (.cells #[.slice none 0 0] 37 (0,0)):=(hb3'.block bx (by have:=HBX.out.2; omega)).trans HBOX.out
  have hlt : bs.Pairwise (· < ·):=by
   have hn3:=hp3.nodup_iff.2 HND.out
   refine (List.pairwise_and_iff.2 ⟨hs3,hn3⟩).imp fun ⟨h1,h2⟩ => by omega
  have HB3:=Lib.hid hb3'
  have HT3:=Lib.hid (HT2.out.below hb3)
  have HBD3:=Lib.hid (HBD2.out.below hb3)
  have HNV3:=Lib.hid (HNV2.out.below hb3)
  have HO3:=Lib.hid ho3
  have HP3:=Lib.hid hp3
  have HLT:=Lib.hid hlt
  have HK3:=Lib.hid k3
  have HBO : Hid (bx + 1 ≤ w2.heap.size):=Lib.hid (by have:=HB2.out.size; have:=HBX.out.2; omega)
  clear hb3 ho3 hp3 hs3 hb3' k3 hlt HT2 HNV2 HBD2
  have hl12n : decide (20 < L) = false:=decide_eq_false (by omega)
  have hl12 : decide ((20 : Int) < (L : Int)) = false:=decide_eq_false (by omega)
  go_wp2_with fail
  refine (bad_any ba L bc beds HLN.out HOB.out w3 HBD3.out).mono ?_
  rintro e w4 ⟨rfl,hb4⟩
  have HT4:=Lib.hid (HT3.out.below hb4)
  have HNV4:=Lib.hid (HNV3.out.below hb4)
  have HO4:=Lib.hid (ownsN_below HO3.out hb4)
  have HB4:=Lib.hid (bThen HB3.out hb4)
  clear hb4 HT3 HNV3 HO3
  go_wp2_with fail
  refine (cloneB_any bs L _ w4 HO4.out (by omega)).mono ?_
  rintro e w5 ⟨a5,c5,rfl,hb5,hs5⟩
  have HT5:=Lib.hid (HT4.out.below hb5)
  have HNV5:=Lib.hid (HNV4.out.below hb5)
  have HO5:=Lib.hid (ownsN_below HO4.out hb5)
  have HB5:=Lib.hid (bThen HB4.out hb5)
  have HS5:=Lib.hid hs5
  clear hb5 hs5 HT4 HNV4 HO4
  go_wp2_with fail
  refine (compactB_any bs a5 L c5 (by rw [HP3.out.length_eq,HLN.out]) w5 HS5.out HLT.out).mono ?_
  rintro e w6 ⟨rfl,hb6⟩
  have HT6:=Lib.hid (HT5.out.below hb6)
  have HNV6:=Lib.hid (HNV5.out.below hb6)
  have HO6:=Lib.hid (ownsN_below HO5.out hb6)
  have hb6':=bThen HB5.out hb6
  have k6 : w6.heap[bx]? = some (.cells #[.slice none 0 0] 37 (0,0)):=(hb6'.block bx (by have:=HBX.out.2; omega)).trans HBOX.out
  have HB6:=Lib.hid hb6'
  have HWY : Hid (Ways bx (fun k => k = bx) [] w6):=Lib.hid ⟨⟨.slice none 0 0,[],⟨fun k => by simp [Value.ownBlock],k6,World.ownsRow_nil _ _ _ _⟩,rfl,fun i hi => by simp at hi⟩⟩
  have HBX6 : Hid (bx < w6.heap.size):=Lib.hid (Array.getElem?_eq_some_iff.1 k6).1
  clear hb6 hb6' k6 HT5 HNV5 HO5 hl12 hl12n HS5
  have hlc:=HO6.out
  go_wp2_with fail
  clear hlc
  obtain ⟨d,hd⟩ : ∃ d,g.darts = d:=⟨_,rfl⟩
  have hd3 : d < 3:=by rw [← hd]; exact HLV.out.darts
  have HD:=Lib.hid hd
  clear hd
  go_loopw [10] (fun mv wr => ∃ (m : Nat) (O : Nat → Prop) (ws : List (List Int)),1 ≤ m ∧ m ≤ 4 - d ∧ mv = .int .i64 m ∧ Hid (Ways bx O ws wr) ∧ Hid (Rel (fun k => k = bx) w6 O wr) ∧ Hid (soonG r bs g = if ws = [] then soonR r bs g (4 - d - m) m else ws) ∧ ws.length ≤ 60000) (fun mv _ => 4 - (intOf mv).toNat)
  case atStart => exact ⟨1,_,[],by omega,by omega,by go_num,HWY,Lib.hid (Rel.refl fun k hk => by have:=HBX6.out; omega),Lib.hid (by rw [if_pos rfl]; unfold soonG; rw [HD.out,show 4 - d - 1 = 3 - d by omega]),by simp⟩
  case round =>
   obtain ⟨m,O,ws,hm1,hm4,rfl,HW,HR,HS,hws⟩ := hrel
   obtain ⟨wo,rfl⟩ : ∃ wo : World,wo = wr:=⟨_,rfl⟩
   have HTo : Hid (TabAt wo t pb r g cap wv (.slice va nl vc)):=Lib.hid (HT6.out.relW HWN.out HNV6.out HR.out (fun q hq e => by have:=HQ.out; rcases hq with h | h <;> omega) (fun q hq => by omega))
   have HNVo : Hid (Sl (fun q => q < bx) wo (.slice va nl vc) (ints r.nums)):=Lib.hid ((sl_rel HNV6.out HR.out fun q hq e => by omega).mono fun q hq => hq.1)
   have HBSo : Hid (Sl (fun q => ¬ O q) wo (.slice a3 L c3) (ints bs)):=Lib.hid ((sl_rel ((Sl.of_owns HO6.out).mono (S':=fun q => bx < q) fun q hq => by have:=HBO.out; omega) HR.out fun q hq e => by omega).mono fun q hq => hq.2)
   have HTO : Hid (∀ q,TO t pb q → ¬ O q):=Lib.hid fun q hq e => by
    have h1:=HT6.out.lt q hq
    rcases HR.out.own q e with h2 | h2
    ·have:=HQ.out; rcases hq with h | h <;> omega
    ·omega
   obtain ⟨lv,us,hB,hul, -⟩ := HW.out.ex
   have cb : wo.cell? ⟨bx,0,none⟩ = some lv:=by rw [cell_of_heap hB.box]; rfl
   obtain ⟨la,lc,rfl⟩ := owns_form hB.row
   have kb:=Lib.hid hB.box
   rw [hul] at cb
   have fb : wo.frozen? ⟨bx,0,none⟩ = false:=frozen_of_heap hB.box
   have c2 : wo.cell? ⟨t,2,none⟩ = some (.int .i64 d):=by rw [← HD.out]; exact HTo.out.at_ rfl
   have HSS : Hid (SlSl (fun q => q ≠ bx) wo (.slice la ws.length lc) ws):=Lib.hid (HW.out.slsl cb)
   have hsub : IntKind.i64.wrap (3 - (d : Int)) = 3 - (d : Int):=wrap_small _ (by omega) (by omega)
   obtain ⟨wl,hwl⟩ : ∃ wl,ws.length = wl:=⟨_,rfl⟩
   rw [hwl] at cb HSS
   have HWL:=Lib.hid hwl
   have hws' : wl ≤ 60000:=by omega
   have hexit : (¬ (m : Int) ≤ 3 - (d : Int) ∨ ¬ wl = 0) → soonG r bs g = ws:=by
    intro h
    rw [HS.out]
    rcases h with h | h
    ·by_cases e : ws = []
     ·rw [if_pos e,e,show 4 - d - m = 0 by omega]; rfl
     ·rw [if_neg e]
    ·rw [if_neg (by intro e; rw [e] at hwl; simp at hwl; omega)]
   have HEX:=Lib.hid hexit
   clear hul hB hwl hws hexit
   by_cases h1 : (m : Int) ≤ 3 - (d : Int)
   ·have e1 : decide ((m : Int) ≤ 3 - (d : Int)) = true:=decide_eq_true h1
    by_cases h2 : wl = 0
    ·obtain rfl : ws = []:=List.eq_nil_of_length_eq_zero (by rw [HWL.out,h2])
     subst h2
     obtain ⟨k,hkm⟩ : ∃ k,m = k + 1:=⟨m - 1,by omega⟩
     have HKM:=Lib.hid hkm
     have HK2 : Hid (k ≤ 2):=Lib.hid (by omega)
     have HSO : Hid (soonG r bs g = soonR r bs g (4 - d - m) m):=Lib.hid (by have:=HS.out; rwa [if_pos rfl] at this)
     have HST:=Lib.hid (soonR_step (r:=r) (beds:=bs) (g:=g) (k:=4 - d - m) (m:=m) (by omega))
     have HMB : Hid (m + 1 ≤ 4 - d):=Lib.hid (by omega)
     clear HS h1 hkm
     go_wp2_with fail
     refine (win_any r (.slice va nl vc) bx a3 L c3 bs (by rw [HP3.out.length_eq,HLN.out]) (by omega) (fun b hb => HOB.out b (HP3.out.mem_iff.1 hb)) k _ (by have:=HKM.out; omega) HK2.out t pb cap g wv none 0 0 [] rfl (by have:=HK2.out; omega) M O [] wo HTo.out HWN.out HLV.out (by have:=HM.out; have:=HK2.out; omega) (by have:=HRD.out; have:=HK2.out; omega) HNVo.out HTO.out ⟨none,0,rfl,Nat.le_refl _,Nat.zero_le _,fun i x hx => by simp at hx⟩ (fun _ => ⟨rfl,rfl⟩) HBSo.out HW.out ?_).mono ?_
     ·have:=pow12 hL12 HK2.out
      simp only [List.length_nil]; omega
     ·rintro e w7 ⟨rfl,O7,hW7,hR7⟩
      have HW7:=Lib.hid hW7
      have HR7:=Lib.hid hR7
      have HLW : Hid ((winR r bs (k + 1) g []).length ≤ 60000):=Lib.hid (by
       have h1:=winR_len r bs (k + 1) g []
       have h2:=pow12 hL12 HK2.out
       rw [HP3.out.length_eq,HLN.out] at h1
       omega)
      clear hW7 hR7 cb c2 fb
      go_wp2
      go_roundw
      case rel => exact ⟨m + 1,O7,winR r bs m g [],by omega,HMB.out,by go_num,by have h:=HW7.out; rw [← HKM.out] at h; exact Lib.hid h,Lib.hid (HR.out.trans HR7.out),Lib.hid (by
       rw [HSO.out,HST.out,show 4 - d - m - 1 = 4 - d - (m + 1) by omega]),by rw [HKM.out]; exact HLW.out⟩
      case measure => have:=HMB.out; simp [intOf]; omega
    ·have HF : Hid (soonG r bs g = ws):=Lib.hid (HEX.out (.inr h2))
     have e2 : ((wl : Int) == 0) = false:=by rw [beq_eq_false_iff_ne]; omega
     clear h1 h2
     have cs2 : (wo.setCell ⟨bx,0,none⟩ (.slice la wl lc)).cell? ⟨bx,0,none⟩ = some (.slice la wl lc):=cell_set0 kb.out
     have HBw : Hid (Below w.heap.size w wo):=Lib.hid (HB0.out.trans ((HB6.out.mono HB0.out.size).trans (HR.out.below (by have:=HB6.out.size; have:=HB0.out.size; omega) fun k hk e => by have:=HBX.out.1; omega)))
     go_wp2
     refine bodyPost_ret (v:=.tuple #[.slice la wl lc,.int .i64 0]) (by simp [results,Tryz.results5,go_sem,cs2]) rfl ?_
     refine ⟨bSet HBw.out bx _ (by have:=HBX.out.1; omega),.inr ⟨g,bs,_,HE.out,HWN.out,HP3.out,rfl, ?_⟩⟩
     rw [HF.out]; exact slsl_set HSS.out
   ·have HF : Hid (soonG r bs g = ws):=Lib.hid (HEX.out (.inl h1))
    have e1 : decide ((m : Int) ≤ 3 - (d : Int)) = false:=decide_eq_false h1
    clear h1
    have cs2 : (wo.setCell ⟨bx,0,none⟩ (.slice la wl lc)).cell? ⟨bx,0,none⟩ = some (.slice la wl lc):=cell_set0 kb.out
    have HBw : Hid (Below w.heap.size w wo):=Lib.hid (HB0.out.trans ((HB6.out.mono HB0.out.size).trans (HR.out.below (by have:=HB6.out.size; have:=HB0.out.size; omega) fun k hk e => by have:=HBX.out.1; omega)))
    go_wp2
    refine bodyPost_ret (v:=.tuple #[.slice la wl lc,.int .i64 0]) (by simp [results,Tryz.results5,go_sem,cs2]) rfl ?_
    refine ⟨bSet HBw.out bx _ (by have:=HBX.out.1; omega),.inr ⟨g,bs,_,HE.out,HWN.out,HP3.out,rfl, ?_⟩⟩
    rw [HF.out]; exact slsl_set HSS.out
end Go.Proofs.YtnhggfnnolfcdaaGreat

/- A block of truth values of one's own. -/
namespace Go.Oche
open Go Go.RowKit
def BoolBlk (W : World) (R : Nat) (t : TypeId) (n : Nat) (f : Nat → Bool) : Prop :=
 ∃ A : Array Value,W.heap[R]? = some (.cells A t (0,0)) ∧ A.size = n ∧ ∀ j,j < n → A[j]? = some (.bool (f j))
section
variable {W W' : World} {R : Nat} {t : TypeId} {n : Nat} {f g : Nat → Bool}
theorem BoolBlk.cell (h : BoolBlk W R t n f) {j : Nat} (hj : j < n) : W.cell? ⟨R,j,none⟩ = some (.bool (f j)):=by
 obtain ⟨A,h1,h2,h3⟩ := h
 rw [cell_of_heap h1]; exact h3 j hj
theorem BoolBlk.frozen (h : BoolBlk W R t n f) (j : Nat) : W.frozen? ⟨R,j,none⟩ = false:=by
 obtain ⟨A,h1,_⟩ := h; exact frozen_of_heap h1
theorem BoolBlk.set (h : BoolBlk W R t n f) (i : Nat) (v : Bool) : BoolBlk (W.setCell ⟨R,i,none⟩ (.bool v)) R t n (fun j => if j = i then v else f j):=by
 obtain ⟨A,h1,h2,h3⟩ := h
 refine ⟨_,heap_setCell_at h1 _,by simp [h2],fun j hj => ?_⟩
 rw [Array.getElem?_setIfInBounds]
 by_cases e : i = j
 ·subst e; simp [h2,hj]
 ·have e' : ¬ j = i:=fun h => e h.symm
  simp only [if_neg e,if_neg e']; exact h3 j hj
theorem BoolBlk.keep (h : BoolBlk W R t n f) (hk : W'.heap[R]? = W.heap[R]?) : BoolBlk W' R t n f:=by
 obtain ⟨A,h1,h2⟩ := h; exact ⟨A,hk.trans h1,h2⟩
theorem BoolBlk.lt (h : BoolBlk W R t n f) : R < W.heap.size:=by
 obtain ⟨A,h1,_⟩ := h; exact (Array.getElem?_eq_some_iff.1 h1).1
theorem BoolBlk.below (h : BoolBlk W R t n f) (hb : Below W.heap.size W W') : BoolBlk W' R t n f:=h.keep (hb.block R h.lt)
theorem BoolBlk.congr (h : BoolBlk W R t n f) (e : ∀ j,j < n → f j = g j) : BoolBlk W R t n g:=by
 obtain ⟨A,h1,h2,h3⟩ := h; exact ⟨A,h1,h2,fun j hj => by rw [h3 j hj,e j hj]⟩
theorem BoolBlk.made (W : World) (t : TypeId) (n : Nat) : BoolBlk (W.alloc (.cells (madeCells #[.bool false] n) t)) W.heap.size t n (fun _ => false) :=
 ⟨_,World.alloc_heap_new _ _,size_madeCells _ _,fun j hj => by
  rw [← Array.getElem?_toList,toList_madeCells_one]; simp [hj]⟩
end
end Go.Oche

/- Chapter 4: own, whose numbers are a row of one's own. -/
namespace Go.Proofs.YtnhggfnnolfcdaaGreat
open Go.RowKit Go.Oche Go.Proofs
set_option maxRecDepth 100000 in
set_option maxHeartbeats 4000000 in
theorem ownE_any {S : Nat → Prop} (r : Rul) (va : Option Addr) (nl vc : Nat) (w : World) (hs : Sl S w (.slice va nl vc) (ints r.nums)) (hl : nl ≤ 100000) :
  Calls Tryz.prog 6 #[.agg #[.int .i64 r.kind,.int .i64 r.players,.int .i64 r.last,.bool r.bull,.bool r.jump,.int .i64 r.rounds,.bool r.cut,.slice va nl vc,.int .i64 r.lives,.bool r.own]] w fun e w' => ∃ vg vd,e = .returned (.agg #[.int .i64 r.kind,.int .i64 r.players,.int .i64 r.last,.bool r.bull,.bool r.jump,.int .i64 r.rounds,.bool r.cut,.slice (some ⟨vg,0,none⟩) nl vd,.int .i64 r.lives,.bool r.own]) ∧ Below w.heap.size w w' ∧ w'.ownsRow w.heap.size 3 1 (.slice (some ⟨vg,0,none⟩) nl vd) nl (ints r.nums):=by
 have hnl : r.nums.length = nl:=by obtain ⟨_,_,e,_⟩ := hs.form; rw [ints_length] at e; cases e; rfl
 obtain ⟨w1,hw1⟩ : ∃ w1,(w.alloc (.cells #[.int .i64 r.kind,.int .i64 r.players,.int .i64 r.last,.bool r.bull,.bool r.jump,.int .i64 r.rounds,.bool r.cut,.slice va nl vc,.int .i64 r.lives,.bool r.own] 29)).alloc (.cells #[.int .i64 0,.int .i64 0,.int .i64 0,.bool false,.bool false,.int .i64 0,.bool false,.slice none 0 0,.int .i64 0,.bool false] 29) = w1:=⟨_,rfl⟩
 have hb1 : Below w.heap.size w w1:=by rw [← hw1]; exact (aB _ _).alloc (by simp) _
 have k0 : w1.heap[w.heap.size]? = some (.cells #[.int .i64 r.kind,.int .i64 r.players,.int .i64 r.last,.bool r.bull,.bool r.jump,.int .i64 r.rounds,.bool r.cut,.slice va nl vc,.int .i64 r.lives,.bool r.own] 29 (0,0)):=by rw [← hw1]; exact heap_old (World.alloc_heap_new _ _)
 have k1 : w1.heap[w.heap.size + 1]? = some (.cells #[.int .i64 0,.int .i64 0,.int .i64 0,.bool false,.bool false,.int .i64 0,.bool false,.slice none 0 0,.int .i64 0,.bool false] 29 (0,0)):=by rw [← hw1]; have:=World.alloc_heap_new (w.alloc (.cells #[.int .i64 r.kind,.int .i64 r.players,.int .i64 r.last,.bool r.bull,.bool r.jump,.int .i64 r.rounds,.bool r.cut,.slice va nl vc,.int .i64 r.lives,.bool r.own] 29)) (.cells #[.int .i64 0,.int .i64 0,.int .i64 0,.bool false,.bool false,.int .i64 0,.bool false,.slice none 0 0,.int .i64 0,.bool false] 29); simpa using this
 have hz : w1.heap.size = w.heap.size + 2:=by rw [← hw1]; simp
 obtain ⟨q,hq⟩ : ∃ q,w.heap.size = q:=⟨_,rfl⟩
 rw [hq] at k0 k1 hz
 have c7 : (w1.alloc (.cells #[] 3)).cell? ⟨q,7,none⟩ = some (.slice va nl vc):=bAt (aB _ _) (by rw [cell_of_heap k0]; rfl)
 have HS:=Lib.hid (hs.below hb1)
 have HB1:=Lib.hid hb1
 have K0:=Lib.hid k0
 have K1:=Lib.hid k1
 have HZ:=Lib.hid hz
 have HQ:=Lib.hid hq
 have HW1:=Lib.hid hw1
 have HNL:=Lib.hid hnl
 clear hs hb1 k0 k1 hz hw1 hnl
 go_enter Tryz.func6,Tryz.ntmps6
 go_wp2_with (at_builtin; refine wpList_copyE rfl (.tmp 3) (.tmp 5) 27 rfl 3 (.int .i64 0) 8 Tryz.underlying27 info3 rfl (by simp [Act.eval,hq]) _ _ rfl (by rw [HW1.out]; exact HS.out) (ints_oneC r.nums) (by simp; have:=HNL.out; omega) (by decide) ?_)
 intro vg vd w2 hb2 ho2
 have hnl:=HNL.out
 rw [hnl] at ho2
 try rw [ints_length]
 rw [hnl]
 rw [HW1.out] at hb2
 have k0:=(hb2.block q (by omega)).trans K0.out
 have k1:=(hb2.block (q + 1) (by omega)).trans K1.out
 have c7' : w2.cell? ⟨q,7,none⟩ = some (.slice va nl vc):=by rw [cell_of_heap k0]; rfl
 have f7:=frozen_of_heap (o:=7) k0
 obtain ⟨w3,hw3⟩ : ∃ w3,w2.setCell ⟨q,7,none⟩ (.slice (some ⟨vg,0,none⟩) nl vd) = w3:=⟨_,rfl⟩
 have k3 : w3.heap[q]? = some (.cells #[.int .i64 r.kind,.int .i64 r.players,.int .i64 r.last,.bool r.bull,.bool r.jump,.int .i64 r.rounds,.bool r.cut,.slice (some ⟨vg,0,none⟩) nl vd,.int .i64 r.lives,.bool r.own] 29 (0,0)):=by rw [← hw3,heap_setCell_at k0]; rfl
 have k31 : w3.heap[q + 1]? = some (.cells #[.int .i64 0,.int .i64 0,.int .i64 0,.bool false,.bool false,.int .i64 0,.bool false,.slice none 0 0,.int .i64 0,.bool false] 29 (0,0)):=by rw [← hw3]; exact (Below.heap_setCell _ _ _ _ (by show q + 1 ≠ q; omega)).trans k1
 obtain ⟨w4,hw4⟩ : ∃ w4,w3.setRow (q + 1) #[.int .i64 r.kind,.int .i64 r.players,.int .i64 r.last,.bool r.bull,.bool r.jump,.int .i64 r.rounds,.bool r.cut,.slice (some ⟨vg,0,none⟩) nl vd,.int .i64 r.lives,.bool r.own] = w4:=⟨_,rfl⟩
 have k4 : w4.heap[q + 1]? = some (.cells #[.int .i64 r.kind,.int .i64 r.players,.int .i64 r.last,.bool r.bull,.bool r.jump,.int .i64 r.rounds,.bool r.cut,.slice (some ⟨vg,0,none⟩) nl vd,.int .i64 r.lives,.bool r.own] 29 (0,0)):=by rw [← hw4]; exact setRow_heap _ _ _ _ _ _ k31
 have hb4 : Below q w w4:=by
  rw [← hw4,← hw3]
  have h1 : Below q w w2:=by have:=HB1.out; rw [hq] at this; exact this.trans (hb2.mono (by omega))
  exact below_setRow (h1.setCell (by show q ≤ q; omega) _) (by omega) _
 have HB4 : Hid (Below w.heap.size w w4):=Lib.hid (by rw [hq]; exact hb4)
 have H4 : Hid (w4.ownsRow w.heap.size 3 1 (.slice (some ⟨vg,0,none⟩) nl vd) nl (ints r.nums)):=Lib.hid (by
  rw [hq]
  refine ownsN_base (ownsN_kept ho2 fun g hg => ?_) (by have:=HZ.out; omega)
  have hge:=(ho2.lt g hg).1
  rw [← hw4,setRow_other _ _ _ _ (by have:=HZ.out; omega),← hw3]
  exact Below.heap_setCell _ _ _ _ (by show g ≠ q; have:=HZ.out; omega))
 have hh : ∀ j,w4.cell? ⟨q + 1,j,none⟩ = _:=fun j => cell_of_heap (o:=j) k4
 have r0:=hh 0
 have r1:=hh 1
 have r2:=hh 2
 have r3:=hh 3
 have r4:=hh 4
 have r5:=hh 5
 have r6:=hh 6
 have r7:=hh 7
 have r8:=hh 8
 have r9:=hh 9
 simp only [List.getElem?_toArray,List.getElem?_cons_zero,List.getElem?_cons_succ] at r0 r1 r2 r3 r4 r5 r6 r7 r8 r9
 have HW3:=Lib.hid hw3
 have HW4:=Lib.hid hw4
 have K3:=Lib.hid k3
 have K31:=Lib.hid k31
 clear ho2 hb2 k0 k1 hw3 k3 k31 hw4 k4 hb4 hh hnl c7
 go_wp2_with (first | (rw [HW3.out]; refine wpList_opOK (o:=⟨some 8,Op.load 29 (.tmp 1),_,_,_,_⟩) (R:=fun v w' => v = .agg #[.int .i64 r.kind,.int .i64 r.players,.int .i64 r.last,.bool r.bull,.bool r.jump,.int .i64 r.rounds,.bool r.cut,.slice (some ⟨vg,0,none⟩) nl vd,.int .i64 r.lives,.bool r.own] ∧ w3 = w') rfl (opOK_load_row 29 (.tmp 1) rfl q #[.int .i64 r.kind,.int .i64 r.players,.int .i64 r.last,.bool r.bull,.bool r.jump,.int .i64 r.rounds,.bool r.cut,.slice (some ⟨vg,0,none⟩) nl vd,.int .i64 r.lives,.bool r.own] rfl 29 (0,0) K3.out _ Tryz.underlying29 rfl (by kernel_rfl) ⟨rfl,rfl⟩) ?_; rintro _ _ ⟨rfl,rfl⟩) | (refine wpList_opOK (o:=⟨none,Op.store 29 (.tmp 2) (.tmp 8),_,_,_,_⟩) (R:=fun _ w' => w4 = w') rfl (opOK_store_row 29 (.tmp 2) (.tmp 8) rfl (q + 1) #[.int .i64 r.kind,.int .i64 r.players,.int .i64 r.last,.bool r.bull,.bool r.jump,.int .i64 r.rounds,.bool r.cut,.slice (some ⟨vg,0,none⟩) nl vd,.int .i64 r.lives,.bool r.own] rfl rfl _ _ K31.out (by kernel_rfl) rfl (by simp [Value.oneCell']) HW4.out.symm) ?_; rintro _ _ rfl))
 try simp only [Exit.inBlock,Exit.then]
 refine bodyPost_ret (by simp [results,Tryz.results6,go_sem,r0,r1,r2,r3,r4,r5,r6,r7,r8,r9]; try rfl) rfl ?_
 exact ⟨vg,vd,rfl,HB4.out,H4.out⟩
end Go.Proofs.YtnhggfnnolfcdaaGreat

/- append of a slice to a row of one's own, which stays a row of its own. -/
namespace Go.Oche
open Go Go.RowKit
section
variable {P : Program} {ops : Array Oper} {rest : List Oper} {o : Oper} {a : Act} {Q : Exit → Act → World → Prop} {w : World}
theorem opOK_appendK (s x : Operand) (t : TypeId) (ho : o.op = .call { callee:=.builtin .append,args:=#[s,x],argTypes:=#[t,t] })
  (base : Nat) (e : TypeId) (z : Value) (bytes : Nat) (ht : P.underlying t = some (.slice e)) (hi : (P.info? e).map (fun i => (i.zero,i.size,i.bytes)) = some (some z,1,bytes)) (hzs : z.cells.size = 1)
  (g n cap : Nat) (xs : List Value) (hs : a.eval s = .slice (some ⟨g,0,none⟩) n cap) (hown : w.ownsRow base e 1 (.slice (some ⟨g,0,none⟩) n cap) n xs) (b off m c : Nat) (news : List Value) (hx : a.eval x = .slice (some ⟨b,off,none⟩) m c) (hl : news.length = m) (hnews : ∀ j u,news[j]? = some u → w.cell? ⟨b,off + j,none⟩ = some u) (h1 : ∀ u ∈ news,u.oneCell' = true)
  (h63 : n + m ≤ 100000) (hbytes : bytes ≤ 1000) (hbase : base ≤ w.heap.size) :
  opOK P o a w fun v' w' => ∃ g' c',v' = .slice (some ⟨g',0,none⟩) (n + m) c' ∧ w'.ownsRow base e 1 v' (n + m) (xs ++ news) ∧ w'.ownsRow base e 1 (.slice (some ⟨g,0,none⟩) n cap) n xs ∧ w.grownBy w' (some g) ∧ (g' = g ∨ w.heap.size ≤ g'):=by
 obtain ⟨i,hi',hz0,hz1,hz2⟩ := info_parts hi
 have hxl : xs.length = n:=by have:=hown.1; simpa using this
 have hmul : (n + m) * bytes ≤ 100000 * 1000:=Nat.mul_le_mul h63 hbytes
 rcases hown.2 with ⟨h,_⟩ | ⟨g0,cap0,cur,e0,hbg,hg,hnc,hcm,hcs,htake⟩
 ·cases h
 simp only [Value.slice.injEq,Option.some.injEq,Addr.mk.injEq,and_true,true_and] at e0
 obtain ⟨rfl,rfl⟩ := e0
 have hnw : ∀ j u,news[j]? = some u → w.cell? ((⟨b,off,none⟩ : Addr).add j) = some u:=fun j u hj => by rw [addr_at]; exact hnews j u hj
 simp only [Nat.mul_one] at hcs htake
 by_cases hroom : n + m ≤ cap
 ·have hfit : n * i.size + news.length ≤ cur.size:=by rw [hz1,hcs,hl]; omega
  have hr:=run_append_room (P:=P) w t o.type e i ht hi' g n cap cur hg ⟨b,off,none⟩ m c news (by rw [hz1]; omega) hnw h1 hroom hfit
  rw [hz1] at hr
  simp only [Nat.mul_one] at hr
  have hh:=setRow_heap w g cur (cur.toList.take n ++ news ++ cur.toList.drop (n + news.length)).toArray e (0,0) hg
  have hsz : (cur.toList.take n ++ news ++ cur.toList.drop (n + news.length)).toArray.size = cap:=by
   simp only [List.size_toArray,List.length_append,List.length_take,List.length_drop,Array.length_toList]; omega
  unfold opOK execOp
  simp only [ho,resolve,invoke,builtin,Sem.run_bind,Sem.run_pure,Result.andThen_ok,List.map_toArray,List.map_cons,List.map_nil,hs,hx,hr]
  refine ⟨g,cap,rfl,⟨by simp [hxl,hl],.inr ⟨g,cap,_,rfl,hbg,hh,hroom,hcm,by rw [hsz,Nat.mul_one], ?_⟩⟩,⟨by simp [hxl],.inr ⟨g,cap,_,rfl,hbg,hh,by omega,hcm,by rw [hsz,Nat.mul_one], ?_⟩⟩,⟨rfl,rfl,rfl,by simp,fun k _ hk => setRow_other w g k _ (fun e => hk (by rw [e]))⟩,.inl rfl⟩
  ·rw [htake,Nat.mul_one,show n + m = (xs ++ news).length by simp [hxl,hl]]
   exact List.take_left
  ·rw [htake,Nat.mul_one,List.append_assoc,← hxl]
   exact List.take_left
 ·have holds : ∀ j u,xs[j]? = some u → w.cell? ((⟨g,0,none⟩ : Addr).add j) = some u:=hown.cells (g:=g) rfl
  obtain ⟨v',W',hr,ho',hgr⟩ := run_append_arg_grows (P:=P) w t o.type e i z 1 bytes ht hi' hz0 hz1 hz2 hzs (by decide) ⟨g,0,none⟩ n cap xs (by omega) holds ⟨b,off,none⟩ m c news (by omega) hnw (by omega) (by unfold maxLen; omega) (by omega)
  have hb : Below w.heap.size w W':=below_grownBy hgr (Nat.le_refl _) (fun k hk => by cases hk)
  have hv : ∃ g' c',v' = .slice (some ⟨g',0,none⟩) (n + m) c' ∧ w.heap.size ≤ g':=by
   rcases ho'.2 with ⟨_,h⟩ | ⟨g',c',cur',e1,hb1,_⟩
   ·omega
   ·exact ⟨g',c',e1,hb1⟩
  obtain ⟨g',c',rfl,hge⟩ := hv
  unfold opOK execOp
  simp only [ho,resolve,invoke,builtin,Sem.run_bind,Sem.run_pure,Result.andThen_ok,List.map_toArray,List.map_cons,List.map_nil,hs,hx,hr]
  refine ⟨g',c',rfl,ownsN_base ho' hbase,ownsN_below hown hb,⟨hgr.os,hgr.tape,hgr.output,hgr.size,fun k hk hne => hgr.block k hk (by simp)⟩, ?_⟩
  exact .inr hge
end
end Go.Oche
