/- The texts HT, GH, HU, in build order. -/
import Derived.Test.YtnhggfnnolfcdaaGreatZao
import Derived.Handy

/- Chapter 4: a new table (newTable). -/
namespace Go.Proofs.YtnhggfnnolfcdaaGreat
open Go.RowKit Go.Oche Go.Proofs
theorem check_r {S : Nat → Prop} (r : Rul) (va : Option Addr) (nl vc : Nat) (er : Int) (he : Hid (checkR r = er)) (w : World) (hs : Sl S w (.slice va nl vc) (ints r.nums)) :
  Calls Tryz.prog 58 #[.agg #[.int .i64 r.kind,.int .i64 r.players,.int .i64 r.last,.bool r.bull,.bool r.jump,.int .i64 r.rounds,.bool r.cut,.slice va nl vc,.int .i64 r.lives,.bool r.own]] w fun e w' => e = .returned (.int .i64 er) ∧ Below w.heap.size w w':=by
 rw [← he.out]; exact check_any r (.slice va nl vc) w hs
def zP : Plr:=⟨0,[0,0,0,0,0,0,0],false⟩
def bP (r : Rul) : Plr:=⟨if r.kind = 4 then r.lives else 0,[0,0,0,0,0,0,0],false⟩
theorem kind_key : KeyEq Tryz.prog 26 (Value.int .i64):=KeyEq.int (q:=.i64) Tryz.underlying26
theorem zero_law (w : World) : (zeroValue 66).run Tryz.prog w = .ok .nilIface w:=by kernel_rfl
theorem make_plrs (n : Nat) (h1 : 1 ≤ n) (h8 : n ≤ 8) (w : World) : (Instr.makeSlice 34 (.int .i64 n) (.int .i64 n)).run Tryz.prog w = .ok (.slice (some ⟨w.heap.size,0,none⟩) n n) (w.alloc (.cells (plsFlat (List.replicate n zP)).toArray 80)):=by
 obtain rfl | rfl | rfl | rfl | rfl | rfl | rfl | rfl : n = 1 ∨ n = 2 ∨ n = 3 ∨ n = 4 ∨ n = 5 ∨ n = 6 ∨ n = 7 ∨ n = 8:=by omega
 all_goals kernel_rfl
theorem pls_made (n : Nat) (w : World) : PlsAt (w.alloc (.cells (plsFlat (List.replicate n zP)).toArray 80)) w.heap.size (List.replicate n zP) :=
 ⟨fun p hp => by rw [(List.mem_replicate.1 hp).2]; rfl,[],by rw [List.append_nil]; exact World.alloc_heap_new _ _⟩
theorem begin_law (pb : Nat) (r : Rul) (va : Option Addr) (nl vc : Nat) (hk : r.kind = 1 ∨ r.kind = 2 ∨ r.kind = 3 ∨ r.kind = 4) :
  ∃ F, Enters Tryz.prog F ∧ (∀ w, (method 271 (lawT r) (.agg #[.int .i64 r.kind, .int .i64 r.players, .int .i64 r.last, .bool r.bull, .bool r.jump, .int .i64 r.rounds, .bool r.cut, .slice va nl vc, .int .i64 r.lives, .bool r.own]) "oche/game.begin").run Tryz.prog w = .ok (F, .agg #[.int .i64 r.kind, .int .i64 r.players, .int .i64 r.last, .bool r.bull, .bool r.jump, .int .i64 r.rounds, .bool r.cut, .slice va nl vc, .int .i64 r.lives, .bool r.own]) w) ∧
   ∀ w (l : List Plr) (i : Nat) (hi : i < l.length),PlsAt w pb l → l[i] = zP → Calls Tryz.prog F #[.agg #[.int .i64 r.kind,.int .i64 r.players,.int .i64 r.last,.bool r.bull,.bool r.jump,.int .i64 r.rounds,.bool r.cut,.slice va nl vc,.int .i64 r.lives,.bool r.own],.pointer (some ⟨pb,i * 9,none⟩)] w fun e w' => (∃ v,e = .returned v) ∧ PlsAt w' pb (l.set i (bP r)) ∧ Rel (fun q => q = pb) w (fun q => q = pb) w':=by
 have hsame : ∀ (l : List Plr) (i : Nat) (hi : i < l.length),l[i] = zP → r.kind ≠ 4 → l.set i (bP r) = l:=fun l i hi h0 k => by
  have : bP r = l[i]:=by rw [h0]; unfold bP zP; rw [if_neg k]
  rw [this]; exact List.set_getElem_self hi
 rcases hk with k | k | k | k
 ·refine ⟨98,enters_of Tryz.func98 (by kernel_rfl) rfl,fun w => ?_,fun w l i hi hP h0 => ?_⟩
  ·rw [lawT,if_pos k]; exact m_begin1 _ w
  ·have hs:=hsame l i hi h0 (by omega)
   have HR : Hid (Rel (fun q => q = pb) w (fun q => q = pb) w):=Lib.hid (Rel.refl fun q hq => by rw [hq]; exact hP.lt)
   have HP:=Lib.hid hP
   have HS:=Lib.hid hs
   clear hP hs hsame h0 k
   go_enter Tryz.func98,Tryz.ntmps98
   go_wp2
   go_end0
   exact ⟨⟨_,rfl⟩,by rw [HS.out]; exact HP.out.below (aB _ _),HR.out.ext (aB _ _)⟩
 ·refine ⟨107,enters_of Tryz.func107 (by kernel_rfl) rfl,fun w => ?_,fun w l i hi hP h0 => ?_⟩
  ·rw [lawT,if_neg (by omega),if_pos k]; exact m_begin2 _ w
  ·have hs:=hsame l i hi h0 (by omega)
   have HR : Hid (Rel (fun q => q = pb) w (fun q => q = pb) w):=Lib.hid (Rel.refl fun q hq => by rw [hq]; exact hP.lt)
   have HP:=Lib.hid hP
   have HS:=Lib.hid hs
   clear hP hs hsame h0 k
   go_enter Tryz.func107,Tryz.ntmps107
   go_wp2
   go_end0
   exact ⟨⟨_,rfl⟩,by rw [HS.out]; exact HP.out.below (aB _ _),HR.out.ext (aB _ _)⟩
 ·refine ⟨119,enters_of Tryz.func119 (by kernel_rfl) rfl,fun w => ?_,fun w l i hi hP h0 => ?_⟩
  ·rw [lawT,if_neg (by omega),if_neg (by omega),if_pos k]; exact m_begin3 _ w
  ·have hs:=hsame l i hi h0 (by omega)
   have HR : Hid (Rel (fun q => q = pb) w (fun q => q = pb) w):=Lib.hid (Rel.refl fun q hq => by rw [hq]; exact hP.lt)
   have HP:=Lib.hid hP
   have HS:=Lib.hid hs
   clear hP hs hsame h0 k
   go_enter Tryz.func119,Tryz.ntmps119
   go_wp2
   go_end0
   exact ⟨⟨_,rfl⟩,by rw [HS.out]; exact HP.out.below (aB _ _),HR.out.ext (aB _ _)⟩
 ·refine ⟨123,enters_of Tryz.func123 (by kernel_rfl) rfl,fun w => ?_,fun w l i hi hP h0 => ?_⟩
  ·rw [lawT,if_neg (by omega),if_neg (by omega),if_neg (by omega)]; exact m_begin4 _ w
  ·have HR : Hid (Rel (fun q => q = pb) w (fun q => q = pb) w):=Lib.hid (Rel.refl fun q hq => by rw [hq]; exact hP.lt)
   have hPa:=hP.below (aB w (.cells #[.int .i64 r.kind,.int .i64 r.players,.int .i64 r.last,.bool r.bull,.bool r.jump,.int .i64 r.rounds,.bool r.cut,.slice va nl vc,.int .i64 r.lives,.bool r.own] 113))
   have px : (w.alloc (.cells #[.int .i64 r.kind,.int .i64 r.players,.int .i64 r.last,.bool r.bull,.bool r.jump,.int .i64 r.rounds,.bool r.cut,.slice va nl vc,.int .i64 r.lives,.bool r.own] 113)).cell? ⟨pb,i * 9,none⟩ = some (.int .i64 l[i].pts):=hPa.pts hi
   have pf:=hPa.free (i * 9)
   have hset:=hPa.setPts hi r.lives
   have hbp : ({ l[i] with pts:=r.lives } : Plr) = bP r:=by rw [h0]; unfold bP zP; rw [if_pos k]
   rw [hbp] at hset
   have HSET:=Lib.hid hset
   clear hP hPa hsame h0 k hset hbp
   go_enter Tryz.func123,Tryz.ntmps123
   go_wp2
   go_end0
   exact ⟨⟨_,rfl⟩,HSET.out,(HR.out.ext (aB _ _)).setCell rfl _⟩
set_option maxRecDepth 100000 in
set_option maxHeartbeats 4000000 in
theorem newTable_ok {S : Nat → Prop} (r : Rul) (va : Option Addr) (nl vc : Nat) (hc : checkR r = 0) (w : World) (hs : Sl S w (.slice va nl vc) (ints r.nums)) :
  Calls Tryz.prog 45 #[.agg #[.int .i64 r.kind,.int .i64 r.players,.int .i64 r.last,.bool r.bull,.bool r.jump,.int .i64 r.rounds,.bool r.cut,.slice va nl vc,.int .i64 r.lives,.bool r.own]] w fun e w' => ∃ t pb cap,e = .returned (.tuple #[.pointer (some ⟨t,0,none⟩),.int .i64 0]) ∧ Below w.heap.size w w' ∧ TabAt w' t pb r (initG r) cap (.slice none 0 0) (.slice va nl vc) ∧ w.heap.size ≤ t ∧ w.heap.size ≤ pb:=by
 have HC:=Lib.hid hc
 have HS:=Lib.hid hs
 have HNL:=Lib.hid (sl_same hs)
 obtain ⟨w0,hw0⟩ : ∃ w0,w.alloc (.cells #[.int .i64 r.kind,.int .i64 r.players,.int .i64 r.last,.bool r.bull,.bool r.jump,.int .i64 r.rounds,.bool r.cut,.slice va nl vc,.int .i64 r.lives,.bool r.own] 29) = w0:=⟨_,rfl⟩
 have hb0 : Below w.heap.size w w0:=by rw [← hw0]; exact aB _ _
 obtain ⟨q,hq⟩ : ∃ q,w.heap.size = q:=⟨_,rfl⟩
 have KQ : Hid (w0.heap[q]? = some (.cells #[.int .i64 r.kind,.int .i64 r.players,.int .i64 r.last,.bool r.bull,.bool r.jump,.int .i64 r.rounds,.bool r.cut,.slice va nl vc,.int .i64 r.lives,.bool r.own] 29 (0,0))):=Lib.hid (by rw [← hw0,← hq]; exact World.alloc_heap_new _ _)
 have HB0:=Lib.hid hb0
 have HW0:=Lib.hid hw0
 have HQ:=Lib.hid hq
 clear hb0 hw0 hq hc hs
 go_enter Tryz.func45,Tryz.ntmps45
 go_wp2_with fail
 rw [HW0.out,HQ.out]
 (with_reducible refine (check_r r va nl vc 0 HC w0 (HS.out.below HB0.out)).mono ?_)
 rintro e w1 ⟨rfl,hb1⟩
 have KQ1:=Lib.hid ((hb1.block _ (Array.getElem?_eq_some_iff.1 KQ.out).1).trans KQ.out)
 have HB1:=Lib.hid (bThen HB0.out hb1)
 have hmm := @run_makeMap Tryz.prog
 obtain ⟨M,hM⟩ : ∃ M,w1.heap.size = M:=⟨_,rfl⟩
 obtain ⟨w2,hw2⟩ : ∃ w2,w1.alloc (.map #[] 0) = w2:=⟨_,rfl⟩
 have hM0 : MapAt (Value.int .i64) w2 M []:=by rw [← hw2,← hM]; exact MapAt.made _ _
 obtain ⟨w3,u1,hM1,g1⟩ := MapAt.update kind_key (T:=114) (E:=66) (by rfl) hM0 1 (.iface 110 (.agg #[.int .i64 r.kind,.int .i64 r.players,.int .i64 r.last,.bool r.bull,.bool r.jump,.int .i64 r.rounds,.bool r.cut,.slice va nl vc,.int .i64 r.lives,.bool r.own]))
 obtain ⟨w4,u2,hM2,g2⟩ := MapAt.update kind_key (T:=114) (E:=66) (by rfl) hM1 2 (.iface 111 (.agg #[.int .i64 r.kind,.int .i64 r.players,.int .i64 r.last,.bool r.bull,.bool r.jump,.int .i64 r.rounds,.bool r.cut,.slice va nl vc,.int .i64 r.lives,.bool r.own]))
 obtain ⟨w5,u3,hM3,g3⟩ := MapAt.update kind_key (T:=114) (E:=66) (by rfl) hM2 3 (.iface 112 (.agg #[.int .i64 r.kind,.int .i64 r.players,.int .i64 r.last,.bool r.bull,.bool r.jump,.int .i64 r.rounds,.bool r.cut,.slice va nl vc,.int .i64 r.lives,.bool r.own]))
 obtain ⟨w6,u4,hM4,g4⟩ := MapAt.update kind_key (T:=114) (E:=66) (by rfl) hM3 4 (.iface 113 (.agg #[.int .i64 r.kind,.int .i64 r.players,.int .i64 r.last,.bool r.bull,.bool r.jump,.int .i64 r.rounds,.bool r.cut,.slice va nl vc,.int .i64 r.lives,.bool r.own]))
 have hqM : q < M:=by rw [← hM]; exact (Array.getElem?_eq_some_iff.1 KQ1.out).1
 have hq2 : w2.heap[q]? = some (.cells #[.int .i64 r.kind,.int .i64 r.players,.int .i64 r.last,.bool r.bull,.bool r.jump,.int .i64 r.rounds,.bool r.cut,.slice va nl vc,.int .i64 r.lives,.bool r.own] 29 (0,0)):=by rw [← hw2]; exact heap_old KQ1.out
 have gq : ∀ {X Y : World},X.grownBy Y (some M) → X.heap[q]? = some (.cells #[.int .i64 r.kind,.int .i64 r.players,.int .i64 r.last,.bool r.bull,.bool r.jump,.int .i64 r.rounds,.bool r.cut,.slice va nl vc,.int .i64 r.lives,.bool r.own] 29 (0,0)) → Y.heap[q]? = some (.cells #[.int .i64 r.kind,.int .i64 r.players,.int .i64 r.last,.bool r.bull,.bool r.jump,.int .i64 r.rounds,.bool r.cut,.slice va nl vc,.int .i64 r.lives,.bool r.own] 29 (0,0)):=fun g h => (g.block q (Array.getElem?_eq_some_iff.1 h).1 (fun e => by simp at e; omega)).trans h
 have hq3:=gq g1 hq2
 have hq4:=gq g2 hq3
 have hq5:=gq g3 hq4
 have hq6:=gq g4 hq5
 have hB2 : Below w.heap.size w w2:=by rw [← hw2]; exact bThen HB1.out (aB _ _)
 have hMs : w.heap.size ≤ M:=by rw [← hM]; exact HB1.out.size
 have gB : ∀ {X Y : World},X.grownBy Y (some M) → Below w.heap.size w X → Below w.heap.size w Y:=fun g h => h.trans (below_grownBy g h.size fun q hq => by cases hq; exact hMs)
 have hB6:=gB g4 (gB g3 (gB g2 (gB g1 hB2)))
 have hkd:=kind_of HC.out
 have hlk : (Instr.lookup 114 (.map (some M)) (.int .i64 r.kind) false).run Tryz.prog w6 = .ok (.iface (lawT r) (.agg #[.int .i64 r.kind,.int .i64 r.players,.int .i64 r.last,.bool r.bull,.bool r.jump,.int .i64 r.rounds,.bool r.cut,.slice va nl vc,.int .i64 r.lives,.bool r.own])) w6:=by
  have:=MapAt.lookup kind_key (T:=114) (E:=66) (by rfl) (zero_law w6) hM4 r.kind false
  rw [this]
  congr 1
  unfold lawT
  rcases hkd with k | k | k | k <;> rw [k] <;> rfl
 have r2_0 : w2.cell? ⟨q,0,none⟩ = (#[.int .i64 r.kind,.int .i64 r.players,.int .i64 r.last,.bool r.bull,.bool r.jump,.int .i64 r.rounds,.bool r.cut,.slice va nl vc,.int .i64 r.lives,.bool r.own] : Array Value)[0]? := cell_of_heap (o:=0) hq2
 have r2_1 : w2.cell? ⟨q,1,none⟩ = (#[.int .i64 r.kind,.int .i64 r.players,.int .i64 r.last,.bool r.bull,.bool r.jump,.int .i64 r.rounds,.bool r.cut,.slice va nl vc,.int .i64 r.lives,.bool r.own] : Array Value)[1]? := cell_of_heap (o:=1) hq2
 have r2_2 : w2.cell? ⟨q,2,none⟩ = (#[.int .i64 r.kind,.int .i64 r.players,.int .i64 r.last,.bool r.bull,.bool r.jump,.int .i64 r.rounds,.bool r.cut,.slice va nl vc,.int .i64 r.lives,.bool r.own] : Array Value)[2]? := cell_of_heap (o:=2) hq2
 have r2_3 : w2.cell? ⟨q,3,none⟩ = (#[.int .i64 r.kind,.int .i64 r.players,.int .i64 r.last,.bool r.bull,.bool r.jump,.int .i64 r.rounds,.bool r.cut,.slice va nl vc,.int .i64 r.lives,.bool r.own] : Array Value)[3]? := cell_of_heap (o:=3) hq2
 have r2_4 : w2.cell? ⟨q,4,none⟩ = (#[.int .i64 r.kind,.int .i64 r.players,.int .i64 r.last,.bool r.bull,.bool r.jump,.int .i64 r.rounds,.bool r.cut,.slice va nl vc,.int .i64 r.lives,.bool r.own] : Array Value)[4]? := cell_of_heap (o:=4) hq2
 have r2_5 : w2.cell? ⟨q,5,none⟩ = (#[.int .i64 r.kind,.int .i64 r.players,.int .i64 r.last,.bool r.bull,.bool r.jump,.int .i64 r.rounds,.bool r.cut,.slice va nl vc,.int .i64 r.lives,.bool r.own] : Array Value)[5]? := cell_of_heap (o:=5) hq2
 have r2_6 : w2.cell? ⟨q,6,none⟩ = (#[.int .i64 r.kind,.int .i64 r.players,.int .i64 r.last,.bool r.bull,.bool r.jump,.int .i64 r.rounds,.bool r.cut,.slice va nl vc,.int .i64 r.lives,.bool r.own] : Array Value)[6]? := cell_of_heap (o:=6) hq2
 have r2_7 : w2.cell? ⟨q,7,none⟩ = (#[.int .i64 r.kind,.int .i64 r.players,.int .i64 r.last,.bool r.bull,.bool r.jump,.int .i64 r.rounds,.bool r.cut,.slice va nl vc,.int .i64 r.lives,.bool r.own] : Array Value)[7]? := cell_of_heap (o:=7) hq2
 have r2_8 : w2.cell? ⟨q,8,none⟩ = (#[.int .i64 r.kind,.int .i64 r.players,.int .i64 r.last,.bool r.bull,.bool r.jump,.int .i64 r.rounds,.bool r.cut,.slice va nl vc,.int .i64 r.lives,.bool r.own] : Array Value)[8]? := cell_of_heap (o:=8) hq2
 have r2_9 : w2.cell? ⟨q,9,none⟩ = (#[.int .i64 r.kind,.int .i64 r.players,.int .i64 r.last,.bool r.bull,.bool r.jump,.int .i64 r.rounds,.bool r.cut,.slice va nl vc,.int .i64 r.lives,.bool r.own] : Array Value)[9]? := cell_of_heap (o:=9) hq2
 have r3_0 : w3.cell? ⟨q,0,none⟩ = (#[.int .i64 r.kind,.int .i64 r.players,.int .i64 r.last,.bool r.bull,.bool r.jump,.int .i64 r.rounds,.bool r.cut,.slice va nl vc,.int .i64 r.lives,.bool r.own] : Array Value)[0]? := cell_of_heap (o:=0) hq3
 have r3_1 : w3.cell? ⟨q,1,none⟩ = (#[.int .i64 r.kind,.int .i64 r.players,.int .i64 r.last,.bool r.bull,.bool r.jump,.int .i64 r.rounds,.bool r.cut,.slice va nl vc,.int .i64 r.lives,.bool r.own] : Array Value)[1]? := cell_of_heap (o:=1) hq3
 have r3_2 : w3.cell? ⟨q,2,none⟩ = (#[.int .i64 r.kind,.int .i64 r.players,.int .i64 r.last,.bool r.bull,.bool r.jump,.int .i64 r.rounds,.bool r.cut,.slice va nl vc,.int .i64 r.lives,.bool r.own] : Array Value)[2]? := cell_of_heap (o:=2) hq3
 have r3_3 : w3.cell? ⟨q,3,none⟩ = (#[.int .i64 r.kind,.int .i64 r.players,.int .i64 r.last,.bool r.bull,.bool r.jump,.int .i64 r.rounds,.bool r.cut,.slice va nl vc,.int .i64 r.lives,.bool r.own] : Array Value)[3]? := cell_of_heap (o:=3) hq3
 have r3_4 : w3.cell? ⟨q,4,none⟩ = (#[.int .i64 r.kind,.int .i64 r.players,.int .i64 r.last,.bool r.bull,.bool r.jump,.int .i64 r.rounds,.bool r.cut,.slice va nl vc,.int .i64 r.lives,.bool r.own] : Array Value)[4]? := cell_of_heap (o:=4) hq3
 have r3_5 : w3.cell? ⟨q,5,none⟩ = (#[.int .i64 r.kind,.int .i64 r.players,.int .i64 r.last,.bool r.bull,.bool r.jump,.int .i64 r.rounds,.bool r.cut,.slice va nl vc,.int .i64 r.lives,.bool r.own] : Array Value)[5]? := cell_of_heap (o:=5) hq3
 have r3_6 : w3.cell? ⟨q,6,none⟩ = (#[.int .i64 r.kind,.int .i64 r.players,.int .i64 r.last,.bool r.bull,.bool r.jump,.int .i64 r.rounds,.bool r.cut,.slice va nl vc,.int .i64 r.lives,.bool r.own] : Array Value)[6]? := cell_of_heap (o:=6) hq3
 have r3_7 : w3.cell? ⟨q,7,none⟩ = (#[.int .i64 r.kind,.int .i64 r.players,.int .i64 r.last,.bool r.bull,.bool r.jump,.int .i64 r.rounds,.bool r.cut,.slice va nl vc,.int .i64 r.lives,.bool r.own] : Array Value)[7]? := cell_of_heap (o:=7) hq3
 have r3_8 : w3.cell? ⟨q,8,none⟩ = (#[.int .i64 r.kind,.int .i64 r.players,.int .i64 r.last,.bool r.bull,.bool r.jump,.int .i64 r.rounds,.bool r.cut,.slice va nl vc,.int .i64 r.lives,.bool r.own] : Array Value)[8]? := cell_of_heap (o:=8) hq3
 have r3_9 : w3.cell? ⟨q,9,none⟩ = (#[.int .i64 r.kind,.int .i64 r.players,.int .i64 r.last,.bool r.bull,.bool r.jump,.int .i64 r.rounds,.bool r.cut,.slice va nl vc,.int .i64 r.lives,.bool r.own] : Array Value)[9]? := cell_of_heap (o:=9) hq3
 have r4_0 : w4.cell? ⟨q,0,none⟩ = (#[.int .i64 r.kind,.int .i64 r.players,.int .i64 r.last,.bool r.bull,.bool r.jump,.int .i64 r.rounds,.bool r.cut,.slice va nl vc,.int .i64 r.lives,.bool r.own] : Array Value)[0]? := cell_of_heap (o:=0) hq4
 have r4_1 : w4.cell? ⟨q,1,none⟩ = (#[.int .i64 r.kind,.int .i64 r.players,.int .i64 r.last,.bool r.bull,.bool r.jump,.int .i64 r.rounds,.bool r.cut,.slice va nl vc,.int .i64 r.lives,.bool r.own] : Array Value)[1]? := cell_of_heap (o:=1) hq4
 have r4_2 : w4.cell? ⟨q,2,none⟩ = (#[.int .i64 r.kind,.int .i64 r.players,.int .i64 r.last,.bool r.bull,.bool r.jump,.int .i64 r.rounds,.bool r.cut,.slice va nl vc,.int .i64 r.lives,.bool r.own] : Array Value)[2]? := cell_of_heap (o:=2) hq4
 have r4_3 : w4.cell? ⟨q,3,none⟩ = (#[.int .i64 r.kind,.int .i64 r.players,.int .i64 r.last,.bool r.bull,.bool r.jump,.int .i64 r.rounds,.bool r.cut,.slice va nl vc,.int .i64 r.lives,.bool r.own] : Array Value)[3]? := cell_of_heap (o:=3) hq4
 have r4_4 : w4.cell? ⟨q,4,none⟩ = (#[.int .i64 r.kind,.int .i64 r.players,.int .i64 r.last,.bool r.bull,.bool r.jump,.int .i64 r.rounds,.bool r.cut,.slice va nl vc,.int .i64 r.lives,.bool r.own] : Array Value)[4]? := cell_of_heap (o:=4) hq4
 have r4_5 : w4.cell? ⟨q,5,none⟩ = (#[.int .i64 r.kind,.int .i64 r.players,.int .i64 r.last,.bool r.bull,.bool r.jump,.int .i64 r.rounds,.bool r.cut,.slice va nl vc,.int .i64 r.lives,.bool r.own] : Array Value)[5]? := cell_of_heap (o:=5) hq4
 have r4_6 : w4.cell? ⟨q,6,none⟩ = (#[.int .i64 r.kind,.int .i64 r.players,.int .i64 r.last,.bool r.bull,.bool r.jump,.int .i64 r.rounds,.bool r.cut,.slice va nl vc,.int .i64 r.lives,.bool r.own] : Array Value)[6]? := cell_of_heap (o:=6) hq4
 have r4_7 : w4.cell? ⟨q,7,none⟩ = (#[.int .i64 r.kind,.int .i64 r.players,.int .i64 r.last,.bool r.bull,.bool r.jump,.int .i64 r.rounds,.bool r.cut,.slice va nl vc,.int .i64 r.lives,.bool r.own] : Array Value)[7]? := cell_of_heap (o:=7) hq4
 have r4_8 : w4.cell? ⟨q,8,none⟩ = (#[.int .i64 r.kind,.int .i64 r.players,.int .i64 r.last,.bool r.bull,.bool r.jump,.int .i64 r.rounds,.bool r.cut,.slice va nl vc,.int .i64 r.lives,.bool r.own] : Array Value)[8]? := cell_of_heap (o:=8) hq4
 have r4_9 : w4.cell? ⟨q,9,none⟩ = (#[.int .i64 r.kind,.int .i64 r.players,.int .i64 r.last,.bool r.bull,.bool r.jump,.int .i64 r.rounds,.bool r.cut,.slice va nl vc,.int .i64 r.lives,.bool r.own] : Array Value)[9]? := cell_of_heap (o:=9) hq4
 have r5_0 : w5.cell? ⟨q,0,none⟩ = (#[.int .i64 r.kind,.int .i64 r.players,.int .i64 r.last,.bool r.bull,.bool r.jump,.int .i64 r.rounds,.bool r.cut,.slice va nl vc,.int .i64 r.lives,.bool r.own] : Array Value)[0]? := cell_of_heap (o:=0) hq5
 have r5_1 : w5.cell? ⟨q,1,none⟩ = (#[.int .i64 r.kind,.int .i64 r.players,.int .i64 r.last,.bool r.bull,.bool r.jump,.int .i64 r.rounds,.bool r.cut,.slice va nl vc,.int .i64 r.lives,.bool r.own] : Array Value)[1]? := cell_of_heap (o:=1) hq5
 have r5_2 : w5.cell? ⟨q,2,none⟩ = (#[.int .i64 r.kind,.int .i64 r.players,.int .i64 r.last,.bool r.bull,.bool r.jump,.int .i64 r.rounds,.bool r.cut,.slice va nl vc,.int .i64 r.lives,.bool r.own] : Array Value)[2]? := cell_of_heap (o:=2) hq5
 have r5_3 : w5.cell? ⟨q,3,none⟩ = (#[.int .i64 r.kind,.int .i64 r.players,.int .i64 r.last,.bool r.bull,.bool r.jump,.int .i64 r.rounds,.bool r.cut,.slice va nl vc,.int .i64 r.lives,.bool r.own] : Array Value)[3]? := cell_of_heap (o:=3) hq5
 have r5_4 : w5.cell? ⟨q,4,none⟩ = (#[.int .i64 r.kind,.int .i64 r.players,.int .i64 r.last,.bool r.bull,.bool r.jump,.int .i64 r.rounds,.bool r.cut,.slice va nl vc,.int .i64 r.lives,.bool r.own] : Array Value)[4]? := cell_of_heap (o:=4) hq5
 have r5_5 : w5.cell? ⟨q,5,none⟩ = (#[.int .i64 r.kind,.int .i64 r.players,.int .i64 r.last,.bool r.bull,.bool r.jump,.int .i64 r.rounds,.bool r.cut,.slice va nl vc,.int .i64 r.lives,.bool r.own] : Array Value)[5]? := cell_of_heap (o:=5) hq5
 have r5_6 : w5.cell? ⟨q,6,none⟩ = (#[.int .i64 r.kind,.int .i64 r.players,.int .i64 r.last,.bool r.bull,.bool r.jump,.int .i64 r.rounds,.bool r.cut,.slice va nl vc,.int .i64 r.lives,.bool r.own] : Array Value)[6]? := cell_of_heap (o:=6) hq5
 have r5_7 : w5.cell? ⟨q,7,none⟩ = (#[.int .i64 r.kind,.int .i64 r.players,.int .i64 r.last,.bool r.bull,.bool r.jump,.int .i64 r.rounds,.bool r.cut,.slice va nl vc,.int .i64 r.lives,.bool r.own] : Array Value)[7]? := cell_of_heap (o:=7) hq5
 have r5_8 : w5.cell? ⟨q,8,none⟩ = (#[.int .i64 r.kind,.int .i64 r.players,.int .i64 r.last,.bool r.bull,.bool r.jump,.int .i64 r.rounds,.bool r.cut,.slice va nl vc,.int .i64 r.lives,.bool r.own] : Array Value)[8]? := cell_of_heap (o:=8) hq5
 have r5_9 : w5.cell? ⟨q,9,none⟩ = (#[.int .i64 r.kind,.int .i64 r.players,.int .i64 r.last,.bool r.bull,.bool r.jump,.int .i64 r.rounds,.bool r.cut,.slice va nl vc,.int .i64 r.lives,.bool r.own] : Array Value)[9]? := cell_of_heap (o:=9) hq5
 have r6_0 : w6.cell? ⟨q,0,none⟩ = (#[.int .i64 r.kind,.int .i64 r.players,.int .i64 r.last,.bool r.bull,.bool r.jump,.int .i64 r.rounds,.bool r.cut,.slice va nl vc,.int .i64 r.lives,.bool r.own] : Array Value)[0]? := cell_of_heap (o:=0) hq6
 have r6_1 : w6.cell? ⟨q,1,none⟩ = (#[.int .i64 r.kind,.int .i64 r.players,.int .i64 r.last,.bool r.bull,.bool r.jump,.int .i64 r.rounds,.bool r.cut,.slice va nl vc,.int .i64 r.lives,.bool r.own] : Array Value)[1]? := cell_of_heap (o:=1) hq6
 have r6_2 : w6.cell? ⟨q,2,none⟩ = (#[.int .i64 r.kind,.int .i64 r.players,.int .i64 r.last,.bool r.bull,.bool r.jump,.int .i64 r.rounds,.bool r.cut,.slice va nl vc,.int .i64 r.lives,.bool r.own] : Array Value)[2]? := cell_of_heap (o:=2) hq6
 have r6_3 : w6.cell? ⟨q,3,none⟩ = (#[.int .i64 r.kind,.int .i64 r.players,.int .i64 r.last,.bool r.bull,.bool r.jump,.int .i64 r.rounds,.bool r.cut,.slice va nl vc,.int .i64 r.lives,.bool r.own] : Array Value)[3]? := cell_of_heap (o:=3) hq6
 have r6_4 : w6.cell? ⟨q,4,none⟩ = (#[.int .i64 r.kind,.int .i64 r.players,.int .i64 r.last,.bool r.bull,.bool r.jump,.int .i64 r.rounds,.bool r.cut,.slice va nl vc,.int .i64 r.lives,.bool r.own] : Array Value)[4]? := cell_of_heap (o:=4) hq6
 have r6_5 : w6.cell? ⟨q,5,none⟩ = (#[.int .i64 r.kind,.int .i64 r.players,.int .i64 r.last,.bool r.bull,.bool r.jump,.int .i64 r.rounds,.bool r.cut,.slice va nl vc,.int .i64 r.lives,.bool r.own] : Array Value)[5]? := cell_of_heap (o:=5) hq6
 have r6_6 : w6.cell? ⟨q,6,none⟩ = (#[.int .i64 r.kind,.int .i64 r.players,.int .i64 r.last,.bool r.bull,.bool r.jump,.int .i64 r.rounds,.bool r.cut,.slice va nl vc,.int .i64 r.lives,.bool r.own] : Array Value)[6]? := cell_of_heap (o:=6) hq6
 have r6_7 : w6.cell? ⟨q,7,none⟩ = (#[.int .i64 r.kind,.int .i64 r.players,.int .i64 r.last,.bool r.bull,.bool r.jump,.int .i64 r.rounds,.bool r.cut,.slice va nl vc,.int .i64 r.lives,.bool r.own] : Array Value)[7]? := cell_of_heap (o:=7) hq6
 have r6_8 : w6.cell? ⟨q,8,none⟩ = (#[.int .i64 r.kind,.int .i64 r.players,.int .i64 r.last,.bool r.bull,.bool r.jump,.int .i64 r.rounds,.bool r.cut,.slice va nl vc,.int .i64 r.lives,.bool r.own] : Array Value)[8]? := cell_of_heap (o:=8) hq6
 have r6_9 : w6.cell? ⟨q,9,none⟩ = (#[.int .i64 r.kind,.int .i64 r.players,.int .i64 r.last,.bool r.bull,.bool r.jump,.int .i64 r.rounds,.bool r.cut,.slice va nl vc,.int .i64 r.lives,.bool r.own] : Array Value)[9]? := cell_of_heap (o:=9) hq6
 simp only [List.getElem?_toArray,List.getElem?_cons_zero,List.getElem?_cons_succ] at r2_0 r2_1 r2_2 r2_3 r2_4 r2_5 r2_6 r2_7 r2_8 r2_9 r3_0 r3_1 r3_2 r3_3 r3_4 r3_5 r3_6 r3_7 r3_8 r3_9 r4_0 r4_1 r4_2 r4_3 r4_4 r4_5 r4_6 r4_7 r4_8 r4_9 r5_0 r5_1 r5_2 r5_3 r5_4 r5_5 r5_6 r5_7 r5_8 r5_9 r6_0 r6_1 r6_2 r6_3 r6_4 r6_5 r6_6 r6_7 r6_8 r6_9
 obtain ⟨n,hn⟩ : ∃ n : Nat,r.players = n:=⟨r.players.toNat,by have:=players_of HC.out; omega⟩
 have hn8 : 1 ≤ n ∧ n ≤ 8:=by have:=players_of HC.out; omega
 have HNP:=Lib.hid hn
 obtain ⟨tt,htt⟩ : ∃ tt,w6.heap.size = tt:=⟨_,rfl⟩
 obtain ⟨LT,hLT⟩ : ∃ LT,lawT r = LT:=⟨_,rfl⟩
 rw [hLT] at hlk
 have HLT:=Lib.hid hLT
 have HTT:=Lib.hid htt
 have HB6:=Lib.hid hB6
 have HQ6:=Lib.hid hq6
 have HKD:=Lib.hid hkd
 have HM:=Lib.hid hM
 have HW2:=Lib.hid hw2
 clear hb1 hq2 hq3 hq4 hq5 hq6 gq gB hB2 hB6 g1 g2 g3 g4 hM0 hM1 hM2 hM3 hM4 hn hLT hkd
 have hmk : ∀ w',(Instr.makeSlice 34 (.int .i64 r.players) (.int .i64 r.players)).run Tryz.prog w' = .ok (.slice (some ⟨w'.heap.size,0,none⟩) n n) (w'.alloc (.cells (plsFlat (List.replicate n zP)).toArray 80)):=fun w' => by rw [HNP.out]; exact make_plrs n hn8.1 hn8.2 w'
 obtain ⟨FP,hFP⟩ : ∃ FP,(plsFlat (List.replicate n zP)).toArray = FP:=⟨_,rfl⟩
 have HFP:=Lib.hid hFP
 rw [hFP] at hmk
 clear hFP
 have p1 : (w6.alloc (.cells #[.int .i64 0,.int .i64 0,.int .i64 0,.slice none 0 0,.slice none 0 0,.iface LT (.agg #[.int .i64 r.kind,.int .i64 r.players,.int .i64 r.last,.bool r.bull,.bool r.jump,.int .i64 r.rounds,.bool r.cut,.slice va nl vc,.int .i64 r.lives,.bool r.own]),.int .i64 r.kind,.int .i64 r.players,.int .i64 r.last,.bool r.bull,.bool r.jump,.int .i64 r.rounds,.bool r.cut,.slice va nl vc,.int .i64 r.lives,.bool r.own,.bool false,.bool false,.bool false,.bool false,.bool false] 69)).cell? ⟨q,1,none⟩ = some (.int .i64 r.players):=bAt (aB _ _) r6_1
 obtain ⟨w8,hw8⟩ : ∃ w8,(w6.alloc (.cells #[.int .i64 0,.int .i64 0,.int .i64 0,.slice (some ⟨tt + 1,0,none⟩) n n,.slice none 0 0,.iface LT (.agg #[.int .i64 r.kind,.int .i64 r.players,.int .i64 r.last,.bool r.bull,.bool r.jump,.int .i64 r.rounds,.bool r.cut,.slice va nl vc,.int .i64 r.lives,.bool r.own]),.int .i64 r.kind,.int .i64 r.players,.int .i64 r.last,.bool r.bull,.bool r.jump,.int .i64 r.rounds,.bool r.cut,.slice va nl vc,.int .i64 r.lives,.bool r.own,.bool false,.bool false,.bool false,.bool false,.bool false] 69)).alloc (.cells FP 80) = w8:=⟨_,rfl⟩
 have hP8 : PlsAt w8 (tt + 1) (List.replicate n zP):=by
  have:=pls_made n (w6.alloc (.cells #[.int .i64 0,.int .i64 0,.int .i64 0,.slice (some ⟨tt + 1,0,none⟩) n n,.slice none 0 0,.iface LT (.agg #[.int .i64 r.kind,.int .i64 r.players,.int .i64 r.last,.bool r.bull,.bool r.jump,.int .i64 r.rounds,.bool r.cut,.slice va nl vc,.int .i64 r.lives,.bool r.own]),.int .i64 r.kind,.int .i64 r.players,.int .i64 r.last,.bool r.bull,.bool r.jump,.int .i64 r.rounds,.bool r.cut,.slice va nl vc,.int .i64 r.lives,.bool r.own,.bool false,.bool false,.bool false,.bool false,.bool false] 69))
  rw [HFP.out,hw8,show (w6.alloc (.cells #[.int .i64 0,.int .i64 0,.int .i64 0,.slice (some ⟨tt + 1,0,none⟩) n n,.slice none 0 0,.iface LT (.agg #[.int .i64 r.kind,.int .i64 r.players,.int .i64 r.last,.bool r.bull,.bool r.jump,.int .i64 r.rounds,.bool r.cut,.slice va nl vc,.int .i64 r.lives,.bool r.own]),.int .i64 r.kind,.int .i64 r.players,.int .i64 r.last,.bool r.bull,.bool r.jump,.int .i64 r.rounds,.bool r.cut,.slice va nl vc,.int .i64 r.lives,.bool r.own,.bool false,.bool false,.bool false,.bool false,.bool false] 69)).heap.size = tt + 1 by rw [← htt]; simp] at this
  exact this
 have hT8 : w8.heap[tt]? = some (.cells #[.int .i64 0,.int .i64 0,.int .i64 0,.slice (some ⟨tt + 1,0,none⟩) n n,.slice none 0 0,.iface LT (.agg #[.int .i64 r.kind,.int .i64 r.players,.int .i64 r.last,.bool r.bull,.bool r.jump,.int .i64 r.rounds,.bool r.cut,.slice va nl vc,.int .i64 r.lives,.bool r.own]),.int .i64 r.kind,.int .i64 r.players,.int .i64 r.last,.bool r.bull,.bool r.jump,.int .i64 r.rounds,.bool r.cut,.slice va nl vc,.int .i64 r.lives,.bool r.own,.bool false,.bool false,.bool false,.bool false,.bool false] 69 (0,0)):=by rw [← hw8,← htt]; exact heap_old (World.alloc_heap_new _ _)
 have hB8 : Below w.heap.size w w8:=by rw [← hw8]; exact bThen HB6.out ((aB _ _).alloc (by simp) _)
 have hs8 : w.heap.size ≤ tt:=by rw [← htt]; exact HB6.out.size
 obtain ⟨FB,hFB,hmB,hcB⟩ := begin_law (tt + 1) r va nl vc HKD.out
 rw [HLT.out] at hmB
 have HP8:=Lib.hid hP8
 have HT8:=Lib.hid hT8
 have HB8:=Lib.hid hB8
 have HFB:=Lib.hid hFB
 have HMB:=Lib.hid hmB
 have HCB:=Lib.hid hcB
 have HW8:=Lib.hid hw8
 clear hP8 hT8 hB8 hFB hmB hcB hw8
 go_wp2_with fail
 rw [HW8.out]
 clear hmk p1 u1 u2 u3 u4 hlk hw2 hM htt r2_0 r2_1 r2_2 r2_3 r2_4 r2_5 r2_6 r2_7 r2_8 r2_9 r3_0 r3_1 r3_2 r3_3 r3_4 r3_5 r3_6 r3_7 r3_8 r3_9 r4_0 r4_1 r4_2 r4_3 r4_4 r4_5 r4_6 r4_7 r4_8 r4_9 r5_0 r5_1 r5_2 r5_3 r5_4 r5_5 r5_6 r5_7 r5_8 r5_9 r6_0 r6_1 r6_2 r6_3 r6_4 r6_5 r6_6 r6_7 r6_8 r6_9
 go_loopw [7,47] (fun _ iv wr => ∃ k : Nat,k ≤ n ∧ iv = .int .i64 k ∧ Hid (PlsAt wr (tt + 1) (List.replicate k (bP r) ++ List.replicate (n - k) zP)) ∧ Hid (Rel (fun q => q = tt + 1) w8 (fun q => q = tt + 1) wr)) (fun _ iv _ => n - (intOf iv).toNat)
 case atStart => exact ⟨0,by omega,by go_num,Lib.hid (by simpa using HP8.out),Lib.hid (Rel.refl fun q hq => by rw [hq]; exact HP8.out.lt)⟩
 case round =>
  obtain ⟨k,hk,rfl,HP,HR⟩ := hrel
  obtain ⟨wo,rfl⟩ : ∃ wo : World,wo = wr:=⟨_,rfl⟩
  have hTo : wo.heap[tt]? = some (.cells #[.int .i64 0,.int .i64 0,.int .i64 0,.slice (some ⟨tt + 1,0,none⟩) n n,.slice none 0 0,.iface LT (.agg #[.int .i64 r.kind,.int .i64 r.players,.int .i64 r.last,.bool r.bull,.bool r.jump,.int .i64 r.rounds,.bool r.cut,.slice va nl vc,.int .i64 r.lives,.bool r.own]),.int .i64 r.kind,.int .i64 r.players,.int .i64 r.last,.bool r.bull,.bool r.jump,.int .i64 r.rounds,.bool r.cut,.slice va nl vc,.int .i64 r.lives,.bool r.own,.bool false,.bool false,.bool false,.bool false,.bool false] 69 (0,0)):=(HR.out.block tt (Array.getElem?_eq_some_iff.1 HT8.out).1 (by omega)).trans HT8.out
  have HTO:=Lib.hid hTo
  clear hTo
  by_cases hlt : k < n
  ·have hkl : k < (List.replicate k (bP r) ++ List.replicate (n - k) zP).length:=by simp; omega
   have hat : (List.replicate k (bP r) ++ List.replicate (n - k) zP)[k] = zP:=by rw [List.getElem_append_right (by simp)]; simp
   have hnx : (List.replicate k (bP r) ++ List.replicate (n - k) zP).set k (bP r) = List.replicate (k + 1) (bP r) ++ List.replicate (n - (k + 1)) zP:=by
    rw [List.set_append_right _ _ (by simp)]
    rw [show n - k = n - (k + 1) + 1 by omega,List.replicate_succ]
    simp only [List.length_replicate,Nat.sub_self,List.set_cons_zero]
    rw [List.replicate_succ',List.append_assoc]; rfl
   have HKL : Hid (∃ h : k < (List.replicate k (bP r) ++ List.replicate (n - k) zP).length,(List.replicate k (bP r) ++ List.replicate (n - k) zP)[k] = zP):=Lib.hid ⟨hkl,hat⟩
   have HNX:=Lib.hid hnx
   clear hkl hat hnx
   go_wp2_with fail
   refine wp_region_gen 14 (fun i v _ => match i with
    | 0 | 1 | 4 | 5 | 6 => v = .pointer (some ⟨tt,0,none⟩)
    | 2 => v = .pointer (some ⟨tt,5,none⟩)
    | 3 | 12 => v = .iface LT (.agg #[.int .i64 r.kind,.int .i64 r.players,.int .i64 r.last,.bool r.bull,.bool r.jump,.int .i64 r.rounds,.bool r.cut,.slice va nl vc,.int .i64 r.lives,.bool r.own])
    | 7 => v = .pointer (some ⟨tt,3,none⟩)
    | 8 => v = .slice (some ⟨tt + 1,0,none⟩) n n
    | 9 => v = .int .i64 k
    | 10 => v = .pointer (some ⟨tt + 1,k * 9,none⟩)
    | _ => True) (JSt 13 [] (fun W => Below wo.heap.size wo W) (fun W => PlsAt W (tt + 1) (List.replicate (k + 1) (bP r) ++ List.replicate (n - (k + 1)) zP) ∧ Rel (fun q => q = tt + 1) w8 (fun q => q = tt + 1) W)) mix (by kernel_rfl) (JSt.start ⟨rfl,rfl,rfl,Nat.le_refl _,fun _ _ => rfl⟩) ?_ ?_
   ·have hTT : ∀ (L : Nat → Bool) (W : World),(L 13 = false → Below wo.heap.size wo W) → (L 13 = true → Rel (fun q => q = tt + 1) w8 (fun q => q = tt + 1) W) → W.heap[tt]? = some (.cells #[.int .i64 0,.int .i64 0,.int .i64 0,.slice (some ⟨tt + 1,0,none⟩) n n,.slice none 0 0,.iface LT (.agg #[.int .i64 r.kind,.int .i64 r.players,.int .i64 r.last,.bool r.bull,.bool r.jump,.int .i64 r.rounds,.bool r.cut,.slice va nl vc,.int .i64 r.lives,.bool r.own]),.int .i64 r.kind,.int .i64 r.players,.int .i64 r.last,.bool r.bull,.bool r.jump,.int .i64 r.rounds,.bool r.cut,.slice va nl vc,.int .i64 r.lives,.bool r.own,.bool false,.bool false,.bool false,.bool false,.bool false] 69 (0,0)):=fun L W h1 h2 => by
     cases h : L 13
     ·exact ((h1 h).block tt (Array.getElem?_eq_some_iff.1 HTO.out).1).trans HTO.out
     ·exact ((h2 h).block tt (Array.getElem?_eq_some_iff.1 HT8.out).1 (by omega)).trans HT8.out
    refine ⟨?_, ?_, ?_, ?_, ?_, ?_, ?_, ?_, ?_, ?_, ?_, ?_, ?_, ?_,trivial⟩
    all_goals refine gen_plain rfl fun a W L hSi hJ hpre ht' => ?_
    all_goals
     have hTW:=hTT L W (fun h => hJ.off h) (fun h => (hJ.on h).2)
     simp [Region.binds] at hpre
    ·have t6:=ht' 6 rfl
     simp at t6
     simp [opOK,go_sem,t6]
     exact ⟨hJ.read (by omega),fun j _ _ v h _ => h⟩
    iterate 2
     (·simp [opOK,go_sem,hpre]
       exact ⟨hJ.read (by omega),fun j _ _ v h _ => h⟩)
    ·have c5 : W.cell? ⟨tt,5,none⟩ = some (.iface LT (.agg #[.int .i64 r.kind,.int .i64 r.players,.int .i64 r.last,.bool r.bull,.bool r.jump,.int .i64 r.rounds,.bool r.cut,.slice va nl vc,.int .i64 r.lives,.bool r.own])):=by rw [cell_of_heap hTW]; rfl
     simp [opOK,go_sem,hpre,c5]
     exact ⟨hJ.read (by omega),fun j _ _ v h _ => h⟩
    ·have t6:=ht' 6 rfl
     simp at t6
     simp [opOK,go_sem,t6]
     exact ⟨hJ.read (by omega),fun j _ _ v h _ => h⟩
    iterate 3
     (·simp [opOK,go_sem,hpre]
       exact ⟨hJ.read (by omega),fun j _ _ v h _ => h⟩)
    ·have c3 : W.cell? ⟨tt,3,none⟩ = some (.slice (some ⟨tt + 1,0,none⟩) n n):=by rw [cell_of_heap hTW]; rfl
     simp [opOK,go_sem,hpre,c3]
     exact ⟨hJ.read (by omega),fun j _ _ v h _ => h⟩
    ·have t7:=ht' 7 rfl
     simp at t7
     simp [opOK,go_sem,t7]
     exact ⟨hJ.read (by omega),fun j _ _ v h _ => h⟩
    ·simp [opOK,go_sem,hpre,hlt]
     exact ⟨hJ.read (by omega),fun j _ _ v h _ => h⟩
    ·simp [opOK,go_sem,hpre]
     exact ⟨hJ.read (by omega),fun j _ _ v h _ => h⟩
    ·simp [opOK,go_sem,hpre]
     exact ⟨hJ.read (by omega),fun j _ _ v h _ => h⟩
    ·have hw:=hJ.off hSi
     have hm:=HMB.out
     have hen:=HFB.out
     unfold Enters at hen
     obtain ⟨hkl,hat⟩ := HKL.out
     refine opOK_call (f:=FB) (args:=#[.agg #[.int .i64 r.kind,.int .i64 r.players,.int .i64 r.last,.bool r.bull,.bool r.jump,.int .i64 r.rounds,.bool r.cut,.slice va nl vc,.int .i64 r.lives,.bool r.own],.pointer (some ⟨tt + 1,k * 9,none⟩)]) (by simp [go_sem,hpre,hm,hen]) ?_
     refine (HCB.out W _ k hkl (HP.out.below hw) hat).mono fun e W' ⟨⟨v,he⟩,hs,hr⟩ => ⟨v,he,JSt.write (fun i hi => by simp at hi) ⟨by rw [← HNX.out]; exact hs,(HR.out.ext hw).trans hr⟩,fun j _ _ v h _ => h,trivial⟩
   intro w9 hJ
   simp only [List.take_succ_cons,List.take_zero,List.drop_succ_cons,List.drop_zero,EndAll]
   rintro _ rfl _ rfl _ rfl _ rfl _ rfl _ rfl _ rfl _ rfl _ rfl _ rfl _ rfl v11 - _ rfl v13 -
   simp only [Act.put,List.setIfInBounds_toArray,List.set_cons_succ,List.set_cons_zero]
   obtain ⟨hp9,hr9⟩ := hJ.on (by decide)
   have HP9:=Lib.hid hp9
   have HR9:=Lib.hid hr9
   clear hJ hp9 hr9
   go_wp2
   go_roundw
   case rel => exact ⟨k + 1,by omega,by go_num,HP9,HR9⟩
   case measure => simp [intOf]; omega
  ·obtain rfl : k = n:=by omega
   have hpl : (initG r).pls = List.replicate k (bP r):=by
    unfold initG bP; rw [HNP.out]; rfl
   have htab : TabAt wo tt (tt + 1) r (initG r) k (.slice none 0 0) (.slice va nl vc):=by
    have hR8:=HR.out
    refine ⟨?_, ?_,Sl.nil _ _, ?_,by omega, ?_⟩
    ·rw [HTO.out,hpl,List.length_replicate,← HLT.out]; rfl
    ·rw [hpl]; have:=HP.out; simpa using this
    ·have h1:=(HS.out.lt.below HB8.out).rel HR.out (fun q hq e => by have:=hq.2; omega)
     exact h1.mono fun q hq e => by rcases e with e | e <;> (have:=hq.2; omega)
    ·rw [hpl,List.length_replicate]; omega
   have HTAB:=Lib.hid htab
   have HBZ:=Lib.hid (HB8.out.trans (HR.out.below (B:=w.heap.size) (by exact HB8.out.size) (fun q hq e => by omega)))
   clear htab hpl
   go_wp2
   go_ret2
   exact ⟨tt,tt + 1,k,rfl,HBZ.out,HTAB.out,hs8,by omega⟩
end Go.Proofs.YtnhggfnnolfcdaaGreat

/- Chapter 4, games, in plain Lean: what is true after so many darts. -/
namespace Go.Proofs.YtnhggfnnolfcdaaGreat
open Go.RowKit Go.Oche Go.Proofs

structure Good (r : Rul) (k : Nat) (g : Gam) : Prop where
 inv : Inv r (9 + 100 * k) g
 live : g.win = [] → Live r (9 + 100 * k) g
 rd : g.round ≤ 2 * k
theorem Good.init {r : Rul} (h : checkR r = 0) : Good r 0 (initG r) :=
 ⟨by have:=(init_live h).toInv; simpa using this,fun _ => by have:=init_live h; simpa using this,by simp [initG]⟩
theorem throw_round {r : Rul} {M : Int} {g : Gam} (h : Live r M g) {f n : Int} (hb : okHit f n) : (throwG r g f n).round ≤ g.round + 2:=by
 have ht:=throw_thrown h hb
 have hd:=dart_ok (h.toRun.dart (g.darts + 1)) hb
 have h3:=h.darts
 have hk:=hd.kept.round
 have hl:=hd.kept.len
 dsimp only at hk hl
 by_cases hw : (throwG r g f n).win = []
 ·by_cases hc : g.darts < 2 ∧ isOutG r (dartG r { g with darts:=g.darts + 1 } f n).1 g.player = false
  ·rw [ht.stay hw hc.1 hc.2]; dsimp only; omega
  ·have hc' : g.darts = 2 ∨ isOutG r (dartG r { g with darts:=g.darts + 1 } f n).1 g.player = true:=by
    by_cases e : g.darts < 2
    ·right
     cases e2 : isOutG r (dartG r { g with darts:=g.darts + 1 } f n).1 g.player
     ·exact (hc ⟨e,e2⟩).elim
     ·rfl
    ·left; omega
   have hlive:=ht.live hw
   rw [ht.next hw hc'] at hlive ⊢
   dsimp only
   have hal : 1 ≤ alive r (dartG r { g with darts:=g.darts + 1 } f n).1:=by
    by_cases k4 : r.kind = 4
    ·have:=hlive.two k4
     have e : alive r (dartG r { g with darts:=g.darts + 1 } f n).1 = alive r { (dartG r { g with darts:=g.darts + 1 } f n).1 with win:=[],player:=(nextP r (dartG r { g with darts:=g.darts + 1 } f n).1 g.pls.length g.player g.round).1,round:=(nextP r (dartG r { g with darts:=g.darts + 1 } f n).1 g.pls.length g.player g.round).2,darts:=0,hit:=List.replicate 5 false }:=alive_pls rfl
     omega
    ·rw [alive_kind k4,hl]; have:=h.pl; omega
   have hp : g.player < (dartG r { g with darts:=g.darts + 1 } f n).1.pls.length:=by rw [hl]; exact h.pl
   obtain ⟨j,a,b,e⟩ := somebody hal hp
   rw [hl] at b
   obtain ⟨q1,q2,i,q3,q4,q5,q6⟩ := nextP_spec r (dartG r { g with darts:=g.darts + 1 } f n).1 g.pls.length g.player g.round hp ⟨j,a,by omega,by rw [hl] at e ⊢; exact e⟩
   rw [hl] at q5
   have hpp:=h.pl
   obtain ⟨q,hq⟩ : ∃ q,(nextP r (dartG r { g with darts:=g.darts + 1 } f n).1 g.pls.length g.player g.round).2 = q:=⟨_,rfl⟩
   rw [hq] at q5 ⊢
   obtain ⟨m,hm⟩ : ∃ m,g.pls.length = m:=⟨_,rfl⟩
   rw [hm] at q5 hpp q4
   by_cases hh : q ≤ g.round + 2
   ·exact hh
   ·exfalso
    have h5 : (g.round + 3) * m ≤ q * m:=Nat.mul_le_mul_right m (by omega)
    rw [Nat.add_mul] at h5
    omega
 ·rw [(ht.over hw).2.2.1]; omega
theorem Good.throw {r : Rul} {k : Nat} {g : Gam} (h : Good r k g) (hw : g.win = []) {f n : Int} (hb : okHit f n) : Good r (k + 1) (throwG r g f n):=by
 have hl:=h.live hw
 have ht:=throw_thrown hl hb
 have hr:=throw_round hl hb
 have:=h.rd
 have e : (9 + 100 * ((k + 1 : Nat) : Int)) = 9 + 100 * (k : Int) + 100:=by omega
 exact ⟨by rw [e]; exact ht.inv,fun q => by rw [e]; exact ht.live q,by omega⟩
theorem playF_bad {r : Rul} {g : Gam} {i : Nat} {b : Int} {l : List Int} (h : okBed b = false) : playF r g i (b :: l) = (none,i,2):=by rw [playF,if_pos h]
theorem playF_over {r : Rul} {g : Gam} {i : Nat} {b : Int} {l : List Int} (h : okBed b = true) (hw : g.win ≠ []) : playF r g i (b :: l) = (none,i,9):=by rw [playF,if_neg (by simp [h]),if_pos hw]
theorem playF_on {r : Rul} {g : Gam} {i : Nat} {b : Int} {l : List Int} (h : okBed b = true) (hw : g.win = []) : playF r g i (b :: l) = playF r (throwG r g (b.tdiv 100) (b.tmod 100)) (i + 1) l:=by rw [playF,if_neg (by simp [h]),if_neg (by simp [hw])]
theorem playF_good {r : Rul} : ∀ (l : List Int) (k : Nat) (g : Gam),Good r k g → ∀ g' at_ e,playF r g k l = (some g',at_,e) → Good r (k + l.length) g' ∧ at_ = 0 ∧ e = 0
 | [],k,g,h,g',at_,e,he => by
  rw [playF] at he; cases he; exact ⟨h,rfl,rfl⟩
 | b :: l,k,g,h,g',at_,e,he => by
  cases hb : okBed b
  ·rw [playF_bad hb] at he; cases he
  by_cases hw : g.win = []
  ·rw [playF_on hb hw] at he
   have:=playF_good l (k + 1) _ (h.throw hw (okBed_hit hb)) g' at_ e he
   rw [List.length_cons,show k + (l.length + 1) = k + 1 + l.length by omega]; exact this
  ·rw [playF_over hb hw] at he; cases he
theorem playF_snoc {r : Rul} {b : Int} : ∀ (l : List Int) (k : Nat) (g g' : Gam) (a e),playF r g k l = (some g',a,e) → playF r g k (l ++ [b]) = playF r g' (k + l.length) [b]
 | [],k,g,g',a,e,h => by rw [playF] at h; cases h; rfl
 | c :: l,k,g,g',a,e,h => by
  cases hb : okBed c
  ·rw [playF_bad hb] at h; cases h
  by_cases hw : g.win = []
  ·rw [playF_on hb hw] at h
   rw [List.cons_append,playF_on hb hw,playF_snoc l _ _ _ _ _ h,List.length_cons,show k + (l.length + 1) = k + 1 + l.length by omega]
  ·rw [playF_over hb hw] at h; cases h
end Go.Proofs.YtnhggfnnolfcdaaGreat

/- Chapter 4: a game after some darts (open). -/
namespace Go.Proofs.YtnhggfnnolfcdaaGreat
open Go.RowKit Go.Oche Go.Proofs
set_option maxRecDepth 100000 in
set_option maxHeartbeats 4000000 in
theorem newTable_err {S : Nat → Prop} (r : Rul) (va : Option Addr) (nl vc : Nat) (er : Int) (hc : checkR r = er) (hne : er ≠ 0) (w : World) (hs : Sl S w (.slice va nl vc) (ints r.nums)) :
  Calls Tryz.prog 45 #[.agg #[.int .i64 r.kind,.int .i64 r.players,.int .i64 r.last,.bool r.bull,.bool r.jump,.int .i64 r.rounds,.bool r.cut,.slice va nl vc,.int .i64 r.lives,.bool r.own]] w fun e w' => e = .returned (.tuple #[.pointer none,.int .i64 er]) ∧ Below w.heap.size w w':=by
 have HC:=Lib.hid hc
 have eb : (er != 0) = true:=by simp [hne]
 obtain ⟨w0,hw0⟩ : ∃ w0,w.alloc (.cells #[.int .i64 r.kind,.int .i64 r.players,.int .i64 r.last,.bool r.bull,.bool r.jump,.int .i64 r.rounds,.bool r.cut,.slice va nl vc,.int .i64 r.lives,.bool r.own] 29) = w0:=⟨_,rfl⟩
 obtain ⟨q,hq⟩ : ∃ q,w.heap.size = q:=⟨_,rfl⟩
 have hb0 : Below w.heap.size w w0:=by rw [← hw0]; exact aB _ _
 have k0 : w0.heap[q]? = some (.cells #[.int .i64 r.kind,.int .i64 r.players,.int .i64 r.last,.bool r.bull,.bool r.jump,.int .i64 r.rounds,.bool r.cut,.slice va nl vc,.int .i64 r.lives,.bool r.own] 29 (0,0)):=by rw [← hw0,← hq]; exact World.alloc_heap_new _ _
 have HS:=Lib.hid (hs.below hb0)
 have HB0:=Lib.hid hb0
 have HW0:=Lib.hid hw0
 have HQ:=Lib.hid hq
 clear hc hs hb0 hw0 k0 hq
 go_enter Tryz.func45,Tryz.ntmps45
 go_wp2_with fail
 rw [HW0.out,HQ.out]
 refine (check_r r va nl vc er HC w0 HS.out).mono ?_
 rintro e w1 ⟨rfl,hb1⟩
 have HB1:=Lib.hid (bThen HB0.out hb1)
 clear hb1
 go_wp2
 go_returns
 exact ⟨rfl,HB1.out⟩
def OpenPost (r : Rul) (nv : Value) (w : World) (x : Option Gam × Nat × Int) (e : Ending) (w' : World) : Prop :=
 Below w.heap.size w w' ∧ ((∃ a er,x = (none,a,er) ∧ e = .returned (.tuple #[.pointer none,.int .i64 a,.int .i64 er])) ∨
  ∃ g t pb cap wv,x = (some g,0,0) ∧ e = .returned (.tuple #[.pointer (some ⟨t,0,none⟩),.int .i64 0,.int .i64 0]) ∧ TabAt w' t pb r g cap wv nv ∧ w.heap.size ≤ t ∧ w.heap.size ≤ pb)
theorem newHit_r (b : Int) (ob : Bool) (ho : Hid (okBed b = ob)) (hb : -9223372036854775808 ≤ b ∧ b ≤ 9223372036854775807) (w : World) :
  Calls Tryz.prog 18 #[.int .i64 b] w fun e w' => e = .returned (.tuple #[.agg #[.int .i64 (b.tdiv 100),.int .i64 (b.tmod 100)],.bool ob]) ∧ Below w.heap.size w w':=by
 rw [← ho.out]; exact newHit_any b hb w
theorem isOver_r (t pb cap : Nat) (r : Rul) (g : Gam) (wv nv : Value) (ov : Bool) (ho : Hid ((!g.win.isEmpty) = ov)) (w : World) (h : TabAt w t pb r g cap wv nv) :
  Calls Tryz.prog 30 #[.pointer (some ⟨t,0,none⟩)] w fun e w' => e = .returned (.bool ov) ∧ w = w':=by
 rw [← ho.out]; exact isOver_any t pb cap r g wv nv w h
set_option maxRecDepth 100000 in
set_option maxHeartbeats 4000000 in
theorem open_any {S S' : Nat → Prop} (r : Rul) (va : Option Addr) (nl vc : Nat) (da : Option Addr) (n dc : Nat) (darts : List Int) (hn : darts.length = n) (h64 : ∀ b ∈ darts, -9223372036854775808 ≤ b ∧ b ≤ 9223372036854775807) (w : World) (hs : Sl S w (.slice va nl vc) (ints r.nums)) (hd : Sl S' w (.slice da n dc) (ints darts)) :
  Calls Tryz.prog 29 #[.agg #[.int .i64 r.kind,.int .i64 r.players,.int .i64 r.last,.bool r.bull,.bool r.jump,.int .i64 r.rounds,.bool r.cut,.slice va nl vc,.int .i64 r.lives,.bool r.own],.slice da n dc] w (OpenPost r (.slice va nl vc) w (playG r darts)):=by
 obtain ⟨w0,hw0⟩ : ∃ w0,w.alloc (.cells #[.int .i64 r.kind,.int .i64 r.players,.int .i64 r.last,.bool r.bull,.bool r.jump,.int .i64 r.rounds,.bool r.cut,.slice va nl vc,.int .i64 r.lives,.bool r.own] 29) = w0:=⟨_,rfl⟩
 obtain ⟨q,hq⟩ : ∃ q,w.heap.size = q:=⟨_,rfl⟩
 have hb0 : Below w.heap.size w w0:=by rw [← hw0]; exact aB _ _
 have HS:=Lib.hid (hs.below hb0)
 have HD:=Lib.hid hd
 have HB0:=Lib.hid hb0
 have HW0:=Lib.hid hw0
 have HQ:=Lib.hid hq
 have H64:=Lib.hid h64
 have HN:=Lib.hid hn
 obtain ⟨er,her⟩ : ∃ er,checkR r = er:=⟨_,rfl⟩
 have HER:=Lib.hid her
 clear hs hd hb0 hw0 hq h64 hn her
 go_enter Tryz.func29,Tryz.ntmps29
 go_wp2_with fail
 rw [HW0.out,HQ.out]
 by_cases hne : er ≠ 0
 ·have eb : (er != 0) = true:=by simp [hne]
  refine (newTable_err r va nl vc er HER.out hne w0 HS.out).mono ?_
  rintro e w1 ⟨rfl,hb1⟩
  have HB1:=Lib.hid (bThen HB0.out hb1)
  have HP : Hid (playG r darts = (none,0,er)):=Lib.hid (by unfold playG; rw [HER.out,if_pos hne])
  clear hb1 hne
  go_wp2
  go_returns
  exact ⟨HB1.out,.inl ⟨0,er,HP.out,rfl⟩⟩
 obtain rfl : er = 0:=by omega
 clear hne
 refine (newTable_ok r va nl vc HER.out w0 HS.out).mono ?_
 rintro e w1 ⟨t,pb,cap,rfl,hb1,ht1,q1,q2⟩
 have HB1:=Lib.hid (bThen HB0.out hb1)
 have HT1:=Lib.hid ht1
 have HTQ : Hid (w.heap.size ≤ t ∧ w.heap.size ≤ pb):=Lib.hid (by have:=HB0.out.size; omega)
 clear hb1 ht1 q1 q2
 obtain ⟨lb,hlb⟩ : ∃ lb,decide (600 < n) = lb:=⟨_,rfl⟩
 have hlb' : decide ((600 : Int) < (n : Int)) = lb:=by rw [← hlb]; exact decide_eq_decide.2 (by omega)
 cases lb
 ·have h600 : n ≤ 600:=by simpa using hlb
  have HPL : Hid (playG r darts = playF r (initG r) 0 darts):=Lib.hid (by
   unfold playG; rw [HER.out,if_neg (by decide),HN.out,if_neg (by omega)])
  go_wp2_with fail
  clear hlb hlb'
  go_loopw [4,7,8,9,10,26] (fun p _ _ _ _ iv wr => p = .pointer (some ⟨t,0,none⟩) ∧ ∃ (k : Nat) (g : Gam) (wv : Value),k ≤ n ∧ iv = .int .i64 k ∧ Hid (playF r (initG r) 0 darts = playF r g k (darts.drop k)) ∧ Hid (Good r k g) ∧ Hid (TabAt wr t pb r g cap wv (.slice va nl vc)) ∧ Hid (Below w.heap.size w wr)) (fun _ _ _ _ _ iv _ => n - (intOf iv).toNat)
  case atStart => exact ⟨rfl,0,initG r,_,by omega,by go_num,Lib.hid rfl,Lib.hid (Good.init HER.out),HT1,HB1⟩
  case round =>
   obtain ⟨rfl,k,g,wv,hk,rfl,HPF,HG,HT,HB⟩ := hrel
   obtain ⟨wo,rfl⟩ : ∃ wo : World,wo = wr:=⟨_,rfl⟩
   by_cases hlt : k < n
   ·have hkx : k < darts.length:=by rw [HN.out]; exact hlt
    obtain ⟨b,off,hal,_,hc⟩ := (HD.out.below HB.out).cell hkx
    cases hal
    obtain ⟨x,hx⟩ : ∃ x,darts[k] = x:=⟨_,rfl⟩
    rw [hx] at hc
    have hx64:=H64.out x (by rw [← hx]; exact List.getElem_mem hkx)
    have hdr : darts.drop k = x :: darts.drop (k + 1):=by rw [← hx]; exact List.drop_eq_getElem_cons hkx
    have HX64:=Lib.hid hx64
    have HDR:=Lib.hid hdr
    obtain ⟨ob,hob⟩ : ∃ ob,okBed x = ob:=⟨_,rfl⟩
    have HOB:=Lib.hid hob
    clear hx hx64 hdr hob hkx
    go_wp2_with fail
    refine (newHit_r x ob HOB HX64.out wo).mono ?_
    rintro e w2 ⟨rfl,hb2⟩
    obtain ⟨w3,hw3⟩ : ∃ w3,w2.alloc (.cells #[.int .i64 (x.tdiv 100),.int .i64 (x.tmod 100)] 61) = w3:=⟨_,rfl⟩
    obtain ⟨q3,hq3⟩ : ∃ q3,w2.heap.size = q3:=⟨_,rfl⟩
    have hb3 : Below wo.heap.size wo w3:=by rw [← hw3]; exact bThen hb2 (aB _ _)
    have k3 : w3.heap[q3]? = some (.cells #[.int .i64 (x.tdiv 100),.int .i64 (x.tmod 100)] 61 (0,0)):=by rw [← hw3,← hq3]; exact World.alloc_heap_new _ _
    have c0 : w3.cell? ⟨q3,0,none⟩ = some (.int .i64 (x.tdiv 100)):=by rw [cell_of_heap k3]; rfl
    have c1 : w3.cell? ⟨q3,1,none⟩ = some (.int .i64 (x.tmod 100)):=by rw [cell_of_heap k3]; rfl
    have HT3:=Lib.hid (HT.out.below hb3)
    have HB3:=Lib.hid (bThen HB.out hb3)
    have HW3:=Lib.hid hw3
    have HQ3:=Lib.hid hq3
    clear hb2 hw3 hq3 hb3 k3 hc
    cases ob
    ·have HP : Hid (playG r darts = (none,k,2)):=Lib.hid (by rw [HPL.out,HPF.out,HDR.out,playF_bad HOB.out])
     go_wp2
     rw [HW3.out]
     go_returns
     exact ⟨HB3.out,.inl ⟨k,2,HP.out,rfl⟩⟩
    ·obtain ⟨ov,hov⟩ : ∃ ov,(!g.win.isEmpty) = ov:=⟨_,rfl⟩
     have HOV:=Lib.hid hov
     clear hov
     go_wp2_with fail
     rw [HW3.out,HQ3.out]
     refine (isOver_r t pb cap r g wv _ ov HOV w3 HT3.out).mono ?_
     rintro e w4 ⟨rfl,rfl⟩
     cases ov
     ·have he : g.win = []:=by have:=HOV.out; simpa using this
      have HPF2 : Hid (playF r (initG r) 0 darts = playF r (throwG r g (x.tdiv 100) (x.tmod 100)) (k + 1) (darts.drop (k + 1))):=Lib.hid (by rw [HPF.out,HDR.out,playF_on HOB.out he])
      have HG2:=Lib.hid (HG.out.throw he (okBed_hit HOB.out))
      have HE:=Lib.hid he
      clear he
      go_wp2_with fail
      refine (throw_any t pb cap r g wv _ (x.tdiv 100) (x.tmod 100) _ w3 HT3.out (HG.out.live HE.out) (by omega) (okBed_hit HOB.out) (by have:=HG.out.rd; omega)).mono ?_
      rintro e w5 ⟨⟨v,rfl⟩,hr5,wv',ht5⟩
      have HT5:=Lib.hid ht5
      have HB5:=Lib.hid (HB3.out.trans (hr5.below (B:=w.heap.size) HB3.out.size (fun q hq e => by have:=HTQ.out; rcases e with e | e <;> omega)))
      clear hr5 ht5 c0 c1
      go_wp2
      go_roundw
      case rel => exact ⟨rfl,k + 1,_,wv',by omega,by go_num,HPF2,HG2,HT5,HB5⟩
      case measure => simp [intOf]; omega
     ·have he : g.win ≠ []:=by have:=HOV.out; simpa using this
      have HP : Hid (playG r darts = (none,k,9)):=Lib.hid (by rw [HPL.out,HPF.out,HDR.out,playF_over HOB.out he])
      clear he
      go_wp2
      go_returns
      exact ⟨HB3.out,.inl ⟨k,9,HP.out,rfl⟩⟩
   ·obtain rfl : k = n:=by omega
    have HP : Hid (playG r darts = (some g,0,0)):=Lib.hid (by rw [HPL.out,HPF.out,List.drop_eq_nil_of_le (by rw [HN.out]; exact Nat.le_refl _),playF])
    go_wp2
    go_returns
    exact ⟨HB.out,.inr ⟨g,t,pb,cap,wv,HP.out,rfl,HT.out,HTQ.out.1,HTQ.out.2⟩⟩
 ·have HP : Hid (playG r darts = (none,0,5)):=Lib.hid (by
   unfold playG; rw [HER.out,if_neg (by decide),HN.out,if_pos (by simpa using hlb)])
  go_wp2
  go_returns
  exact ⟨HB1.out,.inl ⟨0,5,HP.out,rfl⟩⟩
end Go.Proofs.YtnhggfnnolfcdaaGreat
