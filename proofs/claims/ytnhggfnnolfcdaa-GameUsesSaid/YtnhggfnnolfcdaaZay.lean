/- The texts KL, KB, KC, in build order. -/
import Derived.Test.YtnhggfnnolfcdaaZax
import Derived.Deep.DeepCutAuto
import Derived.Deep.CutRange

/- Chapter 4, the reference: a game without darts. -/
namespace Go.Proofs.Ytnhggfnnolfcdaa
open Go.RowKit Go.Oche Go.Proofs
theorem replicate_snoc {α : Type} (n : Nat) (x : α) : List.replicate (n + 1) x = List.replicate n x ++ [x]:=List.replicate_succ'
theorem plsFlat_snoc (l : List Plr) (p : Plr) : plsFlat (l ++ [p]) = plsFlat l ++ plrRow p:=by simp [plsFlat]
set_option maxRecDepth 100000 in
set_option maxHeartbeats 4000000 in
theorem refNew_any {S : Nat → Prop} (r : Rul) (nv : Value) (w : World) (hs : Sl S w nv (ints r.nums)) (hc : checkR r = 0) :
  Calls Try.prog 31 #[.agg #[.int .i64 r.kind,.int .i64 r.players,.int .i64 r.last,.bool r.bull,.bool r.jump,.int .i64 r.rounds,.bool r.cut,nv,.int .i64 r.lives,.bool r.own]] w (ThrowPost r (initG r) nv w):=by
 have hp8:=players_of hc
 obtain ⟨np,hnp⟩ : ∃ x,r.players.toNat = x:=⟨_,rfl⟩
 have hlen : (np : Int) = r.players:=by omega
 have hnp8 : 0 < np ∧ np ≤ 8:=by omega
 have hlv : (if r.kind = 4 then r.lives else 0) = r.lives:=by
  rcases kind_of hc with k | k | k | k
  ·rw [if_neg (by omega),(ok1 hc k).2.2.2.2.2.1]
  ·rw [if_neg (by omega),(ok2 hc k).2.2.2.2.2.2.1]
  ·rw [if_neg (by omega),(ok3 hc k).2.2.2.2.2.2.2.1]
  ·rw [if_pos k]
 obtain ⟨P,hP⟩ : ∃ x : Plr,⟨r.lives,List.replicate 7 0,false⟩ = x:=⟨_,rfl⟩
 have hin : initG r = ⟨0,0,0,List.replicate np P,[],List.replicate 5 false⟩ := by unfold initG; rw [hnp,hlv,hP]
 have hrow : (plrRow P).toArray = #[.int .i64 r.lives,.int .i64 0,.int .i64 0,.int .i64 0,.int .i64 0,.int .i64 0,.int .i64 0,.int .i64 0,.bool false]:=by rw [← hP]; rfl
 have h7 : ∀ k,Sevens (List.replicate k P):=fun k p hp => by rw [(List.mem_replicate.1 hp).2,← hP]; rfl
 obtain ⟨N,hN⟩ : ∃ N,w.heap.size = N:=⟨_,rfl⟩
 obtain ⟨w2,hw2⟩ : ∃ w2,(w.alloc (.cells #[.int .i64 r.kind,.int .i64 r.players,.int .i64 r.last,.bool r.bull,.bool r.jump,.int .i64 r.rounds,.bool r.cut,nv,.int .i64 r.lives,.bool r.own] 25)).alloc (.cells #[.int .i64 0,.int .i64 0,.int .i64 0,.bool false,.bool false,.int .i64 0,.bool false,.slice none 0 0,.int .i64 0,.bool false,.int .i64 0,.int .i64 0,.int .i64 0,.slice none 0 0,.slice none 0 0,.bool false,.bool false,.bool false,.bool false,.bool false] 41) = w2:=⟨_,rfl⟩
 have hb2 : Below w.heap.size w w2:=by rw [← hw2]; exact (aB _ _).alloc (by simp) _
 have k2 : w2.heap[N]? = some (.cells #[.int .i64 r.kind,.int .i64 r.players,.int .i64 r.last,.bool r.bull,.bool r.jump,.int .i64 r.rounds,.bool r.cut,nv,.int .i64 r.lives,.bool r.own] 25 (0,0)):=by rw [← hw2,← hN]; exact ((aB (w.alloc (.cells #[.int .i64 r.kind,.int .i64 r.players,.int .i64 r.last,.bool r.bull,.bool r.jump,.int .i64 r.rounds,.bool r.cut,nv,.int .i64 r.lives,.bool r.own] 25)) (.cells #[.int .i64 0,.int .i64 0,.int .i64 0,.bool false,.bool false,.int .i64 0,.bool false,.slice none 0 0,.int .i64 0,.bool false,.int .i64 0,.int .i64 0,.int .i64 0,.slice none 0 0,.slice none 0 0,.bool false,.bool false,.bool false,.bool false,.bool false] 41)).block _ (by simp)).trans (World.alloc_heap_new _ _)
 have z2 : w2.heap[N + 1]? = some (.cells #[.int .i64 0,.int .i64 0,.int .i64 0,.bool false,.bool false,.int .i64 0,.bool false,.slice none 0 0,.int .i64 0,.bool false,.int .i64 0,.int .i64 0,.int .i64 0,.slice none 0 0,.slice none 0 0,.bool false,.bool false,.bool false,.bool false,.bool false] 41 (0,0)):=by rw [← hw2,← hN]; have:=World.alloc_heap_new (w.alloc (.cells #[.int .i64 r.kind,.int .i64 r.players,.int .i64 r.last,.bool r.bull,.bool r.jump,.int .i64 r.rounds,.bool r.cut,nv,.int .i64 r.lives,.bool r.own] 25)) (.cells #[.int .i64 0,.int .i64 0,.int .i64 0,.bool false,.bool false,.int .i64 0,.bool false,.slice none 0 0,.int .i64 0,.bool false,.int .i64 0,.int .i64 0,.int .i64 0,.slice none 0 0,.slice none 0 0,.bool false,.bool false,.bool false,.bool false,.bool false] 41); simpa using this
 have hsz : w2.heap.size = N + 2:=by rw [← hw2,← hN]; simp
 obtain ⟨w3,hw3⟩ : ∃ w3,w2.alloc (.cells #[.int .i64 r.kind,.int .i64 r.players,.int .i64 r.last,.bool r.bull,.bool r.jump,.int .i64 r.rounds,.bool r.cut,nv,.int .i64 r.lives,.bool r.own,.int .i64 0,.int .i64 0,.int .i64 0,(.slice none 0 0),(.slice none 0 0),.bool false,.bool false,.bool false,.bool false,.bool false] 41) = w3:=⟨_,rfl⟩
 have hb3 : Below w2.heap.size w2 w3:=by rw [← hw3]; exact aB _ _
 have g3 : w3.heap[N + 2]? = some (.cells #[.int .i64 r.kind,.int .i64 r.players,.int .i64 r.last,.bool r.bull,.bool r.jump,.int .i64 r.rounds,.bool r.cut,nv,.int .i64 r.lives,.bool r.own,.int .i64 0,.int .i64 0,.int .i64 0,(.slice none 0 0),(.slice none 0 0),.bool false,.bool false,.bool false,.bool false,.bool false] 41 (0,0)):=by rw [← hw3,← hsz]; exact World.alloc_heap_new _ _
 have k3:=(hb3.block N (by omega)).trans k2
 have z3:=(hb3.block (N + 1) (by omega)).trans z2
 have hn1 : nv.oneCell' = true:=by obtain ⟨_,_,e,_⟩ := hs.form; rw [e]; rfl
 have hnum:=hs.lt
 rw [hN] at hnum
 have hsz3 : w3.heap.size = N + 3:=by rw [← hw3]; simp [hsz]
 have HB3:=Lib.hid (hb2.trans (hb3.mono hb2.size))
 have HK2:=Lib.hid k2
 have HW2:=Lib.hid hw2
 have HW3:=Lib.hid hw3
 have HSZ:=Lib.hid hsz
 have HSZ3 : Hid (N + 3 ≤ w3.heap.size):=Lib.hid (by omega)
 have HST3 : Hid (w3.heap[N + 2]? = some (.cells #[.int .i64 r.kind,.int .i64 r.players,.int .i64 r.last,.bool r.bull,.bool r.jump,.int .i64 r.rounds,.bool r.cut,nv,.int .i64 r.lives,.bool r.own,.int .i64 0,.int .i64 0,.int .i64 0,(.slice none 0 0),(.slice none 0 0),.bool false,.bool false,.bool false,.bool false,.bool false] 41 (0,0)) ∧ w3.heap[N]? = some (.cells #[.int .i64 r.kind,.int .i64 r.players,.int .i64 r.last,.bool r.bull,.bool r.jump,.int .i64 r.rounds,.bool r.cut,nv,.int .i64 r.lives,.bool r.own] 25 (0,0)) ∧ w3.heap[N + 1]? = some (.cells #[.int .i64 0,.int .i64 0,.int .i64 0,.bool false,.bool false,.int .i64 0,.bool false,.slice none 0 0,.int .i64 0,.bool false,.int .i64 0,.int .i64 0,.int .i64 0,.slice none 0 0,.slice none 0 0,.bool false,.bool false,.bool false,.bool false,.bool false] 41 (0,0))):=Lib.hid ⟨g3,k3,z3⟩
 have HN:=Lib.hid hN
 have HNUM:=Lib.hid hnum
 have HN1:=Lib.hid hn1
 have HLEN:=Lib.hid hlen
 have HIN:=Lib.hid hin
 have HROW:=Lib.hid hrow
 have H7:=Lib.hid h7
 clear hP hin hrow h7 hN hw2 hb2 k2 z2 hsz hw3 hb3 g3 k3 z3 hn1 hnum hlen hnp hlv hs hc hp8 hsz3
 go_enter Try.func31,Try.ntmps31
 go_upto_region 1 with fail
 rw [HW2.out,HN.out]
 go_wp2_with (first | (refine wpList_opOK (o:=⟨some 5,Op.load 25 (.tmp 1),_,_,_,_⟩) (R:=fun v w' => v = .agg #[.int .i64 r.kind,.int .i64 r.players,.int .i64 r.last,.bool r.bull,.bool r.jump,.int .i64 r.rounds,.bool r.cut,nv,.int .i64 r.lives,.bool r.own] ∧ w2 = w') (by rfl) (opOK_load_row 25 (.tmp 1) rfl (N) #[.int .i64 r.kind,.int .i64 r.players,.int .i64 r.last,.bool r.bull,.bool r.jump,.int .i64 r.rounds,.bool r.cut,nv,.int .i64 r.lives,.bool r.own] (by simp [Act.eval]) 25 (0,0) HK2.out _ Try.underlying25 rfl (by kernel_rfl) ⟨rfl,rfl⟩) ?_; rintro _ _ ⟨rfl,rfl⟩) | (refine wpList_opOK (o:=⟨none,Op.store 41 (.tmp 3) (.tmp 6),_,_,_,_⟩) (R:=fun _ w' => w3 = w') rfl (opOK_store_row 41 (.tmp 3) (.tmp 6) rfl w2.heap.size #[.int .i64 r.kind,.int .i64 r.players,.int .i64 r.last,.bool r.bull,.bool r.jump,.int .i64 r.rounds,.bool r.cut,nv,.int .i64 r.lives,.bool r.own,.int .i64 0,.int .i64 0,.int .i64 0,(.slice none 0 0),(.slice none 0 0),.bool false,.bool false,.bool false,.bool false,.bool false] rfl rfl _ _ (World.alloc_heap_new _ _) (by kernel_rfl) rfl (by simp only [List.all_toArray,List.all_cons,List.all_nil,HN1.out,Bool.and_true]; rfl) ((World.setRow_alloc_new _ _ _ _).trans HW3.out).symm) ?_; rintro _ _ rfl) | fail)
 rw [HSZ.out]
 go_loopw [4] (fun iv wr => ∃ (i : Nat) (u : Value),i ≤ np ∧ iv = .int .i64 i ∧ Hid (wr.ownsRow (N + 3) 62 9 u i (plsFlat (List.replicate i P)) ∧ (wr.heap[N + 2]? = some (.cells #[.int .i64 r.kind,.int .i64 r.players,.int .i64 r.last,.bool r.bull,.bool r.jump,.int .i64 r.rounds,.bool r.cut,nv,.int .i64 r.lives,.bool r.own,.int .i64 0,.int .i64 0,.int .i64 0,u,(.slice none 0 0),.bool false,.bool false,.bool false,.bool false,.bool false] 41 (0,0)) ∧ wr.heap[N]? = some (.cells #[.int .i64 r.kind,.int .i64 r.players,.int .i64 r.last,.bool r.bull,.bool r.jump,.int .i64 r.rounds,.bool r.cut,nv,.int .i64 r.lives,.bool r.own] 25 (0,0)) ∧ wr.heap[N + 1]? = some (.cells #[.int .i64 0,.int .i64 0,.int .i64 0,.bool false,.bool false,.int .i64 0,.bool false,.slice none 0 0,.int .i64 0,.bool false,.int .i64 0,.int .i64 0,.int .i64 0,.slice none 0 0,.slice none 0 0,.bool false,.bool false,.bool false,.bool false,.bool false] 41 (0,0))) ∧ N + 3 ≤ wr.heap.size ∧ Below w.heap.size w wr)) (fun iv _ => np - (intOf iv).toNat)
 case atStart => exact ⟨0,(.slice none 0 0),by omega,by go_num,Lib.hid ⟨World.ownsRow_nil _ _ _ _,HST3.out,HSZ3.out,HB3.out⟩⟩
 case round =>
  obtain ⟨i,u,hi,rfl,HR⟩ := hrel
  obtain ⟨wi,rfl⟩ : ∃ y : World,y = wr:=⟨_,rfl⟩
  have hBi:=HR.out.2.2.1
  have c1 : wi.cell? ⟨N,1,none⟩ = some (.int .i64 (np : Int)):=by rw [HLEN.out,cell_of_heap HR.out.2.1.2.1]; rfl
  by_cases hin : i < np
  ·have d1 : decide ((i : Int) < (np : Int)) = true:=decide_eq_true (by omega)
   have d1n : decide (i < np) = true:=decide_eq_true hin
   have zi : IntKind.i64.wrap ((i : Int) + 1) = (i : Int) + 1:=wrap_small _ (by omega) (by omega)
   have c8 : wi.cell? ⟨N,8,none⟩ = some (.int .i64 r.lives):=by rw [cell_of_heap HR.out.2.1.2.1]; rfl
   have c13 : wi.cell? ⟨N + 2,13,none⟩ = some u:=by rw [cell_of_heap HR.out.2.1.1]; rfl
   have HNEW : Hid (∀ j v,(plrRow P)[j]? = some v → (wi.alloc (.cells #[.int .i64 r.lives,.int .i64 0,.int .i64 0,.int .i64 0,.int .i64 0,.int .i64 0,.int .i64 0,.int .i64 0,.bool false] 62)).cell? ⟨wi.heap.size,0 + j,none⟩ = some v):=Lib.hid (fun j v hj => by
    rw [Nat.zero_add,cell_of_heap (World.alloc_heap_new _ _),← HROW.out,List.getElem?_toArray]; exact hj)
   have HRL : Hid ((plrRow P).length = 1 * 9):=Lib.hid (by have:=congrArg Array.size HROW.out; simpa using this)
   have HRO : Hid (∀ v ∈ plrRow P,v.oneCell' = true):=Lib.hid (fun v hv => by
    have:=(Array.all_eq_true_iff_forall_mem.1 (plrRow_oneK P)) v (by simpa using hv); exact this)
   go_wp2_with (first | (at_builtin; refine wpList_appendN rfl (.tmp 15) (.tmp 19) 32 rfl (N + 3) 62 zPlr 9 72 Try.underlying32 info_plr rfl (by decide) u i (plsFlat (List.replicate i P)) rfl (HR.out.1.alloc _) wi.heap.size 0 1 1 (plrRow P) rfl HRL.out HNEW.out HRO.out (by omega) (by decide) (by simp; omega) ?_) | fail)
   rintro v w4 hown hgr _
   obtain ⟨a',c',rfl⟩ := owns_form hown
   have hb4 : Below (N + 3) wi w4:=((aB wi (.cells #[.int .i64 r.lives,.int .i64 0,.int .i64 0,.int .i64 0,.int .i64 0,.int .i64 0,.int .i64 0,.int .i64 0,.bool false] 62)).mono hBi).trans (below_grownBy hgr (by simp; omega) fun q hq => (HR.out.1.lt q hq).1)
   have hg4:=(hb4.block (N + 2) (by omega)).trans HR.out.2.1.1
   have hk4:=(hb4.block N (by omega)).trans HR.out.2.1.2.1
   have hz4:=(hb4.block (N + 1) (by omega)).trans HR.out.2.1.2.2
   have hsz4 : N + 3 ≤ w4.heap.size:=Nat.le_trans hBi hb4.size
   have hbw4 : Below w.heap.size w w4:=HR.out.2.2.2.trans (hb4.mono (by rw [HN.out]; omega))
   have HOW : Hid (w4.ownsRow (N + 3) 62 9 (.slice a' (i + 1) c') (i + 1) (plsFlat (List.replicate (i + 1) P))):=Lib.hid (by rw [replicate_snoc,plsFlat_snoc]; exact hown)
   have c13' : w4.cell? ⟨N + 2,13,none⟩ = some u:=by rw [cell_of_heap hg4]; rfl
   have f13:=frozen_of_heap (o:=13) hg4
   have HG4:=Lib.hid (And.intro hg4 (And.intro hk4 (And.intro hz4 (And.intro hsz4 hbw4))))
   clear hown hgr hb4 hg4 hk4 hz4 hsz4 hbw4 c13 c8 c1
   go_wp2
   go_roundw
   case rel =>
    refine ⟨i + 1,.slice a' (i + 1) c',by omega,by go_num,Lib.hid ⟨?_,⟨?_, ?_, ?_⟩, ?_, ?_⟩⟩
    ·exact ownsN_kept HOW.out fun q hq => Below.heap_setCell _ _ _ _ (by have:=(HOW.out.lt q hq).1; dsimp only; omega)
    ·rw [heap_setCell_at HG4.out.1]; rfl
    ·exact (Below.heap_setCell _ _ _ _ (by dsimp only; omega)).trans HG4.out.2.1
    ·exact (Below.heap_setCell _ _ _ _ (by dsimp only; omega)).trans HG4.out.2.2.1
    ·rw [World.size_setCell]; exact HG4.out.2.2.2.1
    ·exact HG4.out.2.2.2.2.setCell (by dsimp only; rw [HN.out]; omega) _
   case measure => simp [intOf]; omega
  ·obtain rfl : i = np:=by omega
   obtain ⟨np,rfl⟩ : ∃ x : Nat,x = i:=⟨_,rfl⟩
   have d1 : decide ((np : Int) < (np : Int)) = false:=decide_eq_false (by omega)
   have HLP : Hid ((List.replicate np P).length = np):=Lib.hid (by simp)
   obtain ⟨pb,cap,hu,hbg,hPA,hc1,hc2⟩ := PlsAt.of_owns HR.out.1 HLP.out (H7.out np) hnp8.1
   subst hu
   have HPA:=Lib.hid hPA
   obtain ⟨wE,hwE⟩ : ∃ x,wi.setRow (N + 1) #[.int .i64 r.kind,.int .i64 r.players,.int .i64 r.last,.bool r.bull,.bool r.jump,.int .i64 r.rounds,.bool r.cut,nv,.int .i64 r.lives,.bool r.own,.int .i64 0,.int .i64 0,.int .i64 0,.slice (some ⟨pb,0,none⟩) np cap,(.slice none 0 0),.bool false,.bool false,.bool false,.bool false,.bool false] = x:=⟨_,rfl⟩
   have kE : wE.heap[N + 1]? = some (.cells #[.int .i64 r.kind,.int .i64 r.players,.int .i64 r.last,.bool r.bull,.bool r.jump,.int .i64 r.rounds,.bool r.cut,nv,.int .i64 r.lives,.bool r.own,.int .i64 0,.int .i64 0,.int .i64 0,.slice (some ⟨pb,0,none⟩) np cap,(.slice none 0 0),.bool false,.bool false,.bool false,.bool false,.bool false] 41 (0,0)):=by rw [← hwE]; exact setRow_heap _ _ _ _ _ _ HR.out.2.1.2.2
   have hBE : Below w.heap.size w wE:=by rw [← hwE]; exact below_setRow HR.out.2.2.2 (by have:=HN.out; omega) _
   have hVE : GamV wE r (initG r) nv pb cap (.slice none 0 0):=by
    rw [HIN.out]
    refine ⟨hPA.keep (by rw [← hwE]; exact setRow_other _ _ _ _ (by omega)),Sl.nil _ _,(HNUM.out.keepB fun k hk _ => hBE.block k (by have:=HN.out; omega)).mono fun _ _ => trivial,by rw [HLP.out]; exact ⟨hc1,hc2⟩⟩
   have HVE:=Lib.hid hVE
   have HBE:=Lib.hid hBE
   have HWE2:=Lib.hid hwE
   have KE:=Lib.hid kE
   clear hwE kE hBE hVE hPA
   go_wp2_with (first | (refine wpList_opOK (o:=⟨some 23,Op.load 41 (.tmp 3),_,_,_,_⟩) (R:=fun v w' => v = .agg #[.int .i64 r.kind,.int .i64 r.players,.int .i64 r.last,.bool r.bull,.bool r.jump,.int .i64 r.rounds,.bool r.cut,nv,.int .i64 r.lives,.bool r.own,.int .i64 0,.int .i64 0,.int .i64 0,.slice (some ⟨pb,0,none⟩) np cap,(.slice none 0 0),.bool false,.bool false,.bool false,.bool false,.bool false] ∧ wi = w') (by rfl) (opOK_load_row 41 (.tmp 3) rfl (N + 2) #[.int .i64 r.kind,.int .i64 r.players,.int .i64 r.last,.bool r.bull,.bool r.jump,.int .i64 r.rounds,.bool r.cut,nv,.int .i64 r.lives,.bool r.own,.int .i64 0,.int .i64 0,.int .i64 0,.slice (some ⟨pb,0,none⟩) np cap,(.slice none 0 0),.bool false,.bool false,.bool false,.bool false,.bool false] (by simp [Act.eval]) 41 (0,0) HR.out.2.1.1 _ Try.underlying41 rfl (by kernel_rfl) ⟨rfl,rfl⟩) ?_; rintro _ _ ⟨rfl,rfl⟩) | (refine wpList_opOK (o:=⟨none,Op.store 41 (.tmp 2) (.tmp 23),_,_,_,_⟩) (R:=fun _ w' => wE = w') rfl (opOK_store_row 41 (.tmp 2) (.tmp 23) rfl (N + 1) #[.int .i64 r.kind,.int .i64 r.players,.int .i64 r.last,.bool r.bull,.bool r.jump,.int .i64 r.rounds,.bool r.cut,nv,.int .i64 r.lives,.bool r.own,.int .i64 0,.int .i64 0,.int .i64 0,.slice (some ⟨pb,0,none⟩) np cap,(.slice none 0 0),.bool false,.bool false,.bool false,.bool false,.bool false] rfl rfl _ _ HR.out.2.1.2.2 (by kernel_rfl) rfl (by simp only [List.all_toArray,List.all_cons,List.all_nil,HN1.out,Bool.and_true]; rfl) HWE2.out.symm) ?_; rintro _ _ rfl) | fail)
   try simp only [Exit.inBlock,Exit.then]
   refine bodyPost_ret (results_cell Try.results31 rfl (run_loadVar_row wE (N + 1) 41 41 _ _ _ KE.out Try.underlying41 rfl (by kernel_rfl))) rfl ?_
   refine ⟨pb,cap,(.slice none 0 0), ?_,HVE.out,HBE.out,fun _ => rfl,by rw [HIN.out]; exact Sl.nil _ _⟩
   rw [HIN.out]
   show _ = Ending.returned (.agg (gamA r _ nv (.slice (some ⟨pb,0,none⟩) (List.replicate np P).length cap) (.slice none 0 0)))
   rw [HLP.out]; rfl
end Go.Proofs.Ytnhggfnnolfcdaa

/- Chapter 4, the reference: the error of rules (Check). -/
namespace Go.Proofs.Ytnhggfnnolfcdaa
open Go.RowKit Go.Oche Go.Proofs
theorem isIn_le (x a b : Int) : isIn x a b = (decide (a ≤ x) && decide (x ≤ b)):=by unfold isIn; rw [Bool.eq_iff_iff]
set_option maxRecDepth 100000 in
set_option maxHeartbeats 1000000 in
theorem refCheck5_any (r : Rul) (va : Option Addr) (nl vc : Nat) (h8 : 8 < nl) (w : World) :
  Calls Try.prog 16 #[.agg #[.int .i64 r.kind,.int .i64 r.players,.int .i64 r.last,.bool r.bull,.bool r.jump,.int .i64 r.rounds,.bool r.cut,.slice va nl vc,.int .i64 r.lives,.bool r.own]] w fun e w' => e = .returned (.int .i64 5) ∧ Below w.heap.size w w':=by
 have d1 : decide ((8 : Int) < (nl : Int)) = true:=decide_eq_true (by omega)
 have d2 : decide (8 < nl) = true:=decide_eq_true h8
 have r7 : (w.alloc (.cells #[.int .i64 r.kind,.int .i64 r.players,.int .i64 r.last,.bool r.bull,.bool r.jump,.int .i64 r.rounds,.bool r.cut,.slice va nl vc,.int .i64 r.lives,.bool r.own] 25)).cell? ⟨w.heap.size,7,none⟩ = some (.slice va nl vc):=by rw [cell_of_heap (World.alloc_heap_new _ _)]; rfl
 go_enter Try.func16,Try.ntmps16
 go_wp2
 go_ret
 exact ⟨rfl,aB _ _⟩
theorem okRul_1 (r : Rul) (hk : r.kind = 1) : okRul r = (decide (1 ≤ r.last) && decide (r.last ≤ 20) && (r.rounds == 0) && !r.cut && ((r.nums.length : Int) == 0) && (r.lives == 0) && !r.own && !decide (r.players < 1) && !decide (8 < r.players)):=by
 have hem : r.nums.isEmpty = ((r.nums.length : Int) == 0):=by
  cases r.nums with
  | nil => rfl
  | cons a l =>
   have h1 : ((((a :: l).length : Nat) : Int) == 0) = false:=by simp only [List.length_cons,beq_eq_false_iff_ne]; omega
   rw [h1]; rfl
 have h1 : (!decide (r.players < 1)) = decide (1 ≤ r.players):=by rw [← decide_not]; exact decide_eq_decide.2 (by omega)
 have h2 : (!decide (8 < r.players)) = decide (r.players ≤ 8):=by rw [← decide_not]; exact decide_eq_decide.2 (by omega)
 unfold okRul
 rw [h1,h2]
 simp only [hk,isIn_le,hem]
 simp [Bool.and_assoc]
theorem okRul_2 (r : Rul) (hk : r.kind = 2) : okRul r = (decide (1 ≤ r.rounds) && decide (r.rounds ≤ 20) && (r.last == 0) && !r.bull && !r.jump && ((r.nums.length : Int) == 0) && (r.lives == 0) && !r.own && !decide (r.players < 2) && !decide (8 < r.players)):=by
 have hem : r.nums.isEmpty = ((r.nums.length : Int) == 0):=by
  cases r.nums with
  | nil => rfl
  | cons a l =>
   have h1 : ((((a :: l).length : Nat) : Int) == 0) = false:=by simp only [List.length_cons,beq_eq_false_iff_ne]; omega
   rw [h1]; rfl
 have h1 : (!decide (r.players < 2)) = decide (2 ≤ r.players):=by rw [← decide_not]; exact decide_eq_decide.2 (by omega)
 have h2 : (!decide (8 < r.players)) = decide (r.players ≤ 8):=by rw [← decide_not]; exact decide_eq_decide.2 (by omega)
 unfold okRul
 rw [h1,h2]
 simp only [hk,isIn_le,hem]
 simp [Bool.and_assoc]
theorem okRul_3 (r : Rul) (hk : r.kind = 3) : okRul r = (decide (1 ≤ r.rounds) && decide (r.rounds ≤ 20) && (r.last == 0) && !r.bull && !r.jump && !r.cut && ((r.nums.length : Int) == 0) && (r.lives == 0) && !r.own && !decide (r.players < 2) && !decide (8 < r.players)):=by
 have hem : r.nums.isEmpty = ((r.nums.length : Int) == 0):=by
  cases r.nums with
  | nil => rfl
  | cons a l =>
   have h1 : ((((a :: l).length : Nat) : Int) == 0) = false:=by simp only [List.length_cons,beq_eq_false_iff_ne]; omega
   rw [h1]; rfl
 have h1 : (!decide (r.players < 2)) = decide (2 ≤ r.players):=by rw [← decide_not]; exact decide_eq_decide.2 (by omega)
 have h2 : (!decide (8 < r.players)) = decide (r.players ≤ 8):=by rw [← decide_not]; exact decide_eq_decide.2 (by omega)
 unfold okRul
 rw [h1,h2]
 simp only [hk,isIn_le,hem]
 simp [Bool.and_assoc]
set_option maxRecDepth 100000 in
set_option maxHeartbeats 4000000 in
theorem refCheck1_any (r : Rul) (va : Option Addr) (nl vc : Nat) (hnl : r.nums.length = nl) (hk : r.kind = 1) (h8 : nl ≤ 8) (w : World) :
  Calls Try.prog 16 #[.agg #[.int .i64 1,.int .i64 r.players,.int .i64 r.last,.bool r.bull,.bool r.jump,.int .i64 r.rounds,.bool r.cut,.slice va nl vc,.int .i64 r.lives,.bool r.own]] w fun e w' => e = .returned (.int .i64 (checkR r)) ∧ Below w.heap.size w w':=by
 obtain ⟨er,her⟩ : ∃ er,checkR r = er:=⟨_,rfl⟩
 rw [her]
 have hh : ∀ j,(w.alloc (.cells #[.int .i64 1,.int .i64 r.players,.int .i64 r.last,.bool r.bull,.bool r.jump,.int .i64 r.rounds,.bool r.cut,.slice va nl vc,.int .i64 r.lives,.bool r.own] 25)).cell? ⟨w.heap.size,j,none⟩ = _:=fun j => cell_of_heap (o:=j) (World.alloc_heap_new _ _)
 have r0:=hh 0
 have r1:=hh 1
 have r2:=hh 2
 have r3:=hh 3
 have r4:=hh 4
 have r5:=hh 5
 have r6:=hh 6
 have r7:=hh 7
 have r8:=hh 8
 have r9:=hh 9
 simp only [List.getElem?_toArray,List.getElem?_cons_zero,List.getElem?_cons_succ] at r0 r1 r2 r3 r4 r5 r6 r7 r8 r9
 have d1 : decide ((8 : Int) < (nl : Int)) = false:=decide_eq_false (by omega)
 have d2 : decide (8 < nl) = false:=decide_eq_false (by omega)
 obtain ⟨c0,h0⟩ : ∃ c,decide (1 ≤ r.last) = c:=⟨_,rfl⟩
 obtain ⟨c1,h1⟩ : ∃ c,decide (r.last ≤ 20) = c:=⟨_,rfl⟩
 obtain ⟨c2,h2⟩ : ∃ c,(r.rounds == 0) = c:=⟨_,rfl⟩
 obtain ⟨c3,h3⟩ : ∃ c,r.cut = c:=⟨_,rfl⟩
 obtain ⟨c4,h4⟩ : ∃ c,((nl : Int) == 0) = c:=⟨_,rfl⟩
 obtain ⟨c5,h5⟩ : ∃ c,(r.lives == 0) = c:=⟨_,rfl⟩
 obtain ⟨c6,h6⟩ : ∃ c,r.own = c:=⟨_,rfl⟩
 have h4n : (nl == 0) = c4:=by rw [← h4,Bool.eq_iff_iff]; simp
 obtain ⟨pa,hpa⟩ : ∃ c,decide (r.players < 1) = c:=⟨_,rfl⟩
 obtain ⟨pb,hpb⟩ : ∃ c,decide (8 < r.players) = c:=⟨_,rfl⟩
 have HE : Hid (er = if (c0 && c1 && c2 && !c3 && c4 && c5 && !c6 && !pa && !pb) = true then 0 else 2):=Lib.hid (by
  rw [← her]
  unfold checkR
  rw [hnl,if_neg (by omega)]
  have hok : okRul r = (c0 && c1 && c2 && !c3 && c4 && c5 && !c6 && !pa && !pb):=by
   rw [okRul_1 r hk,hnl,h0,h1,h2,h3,h4,h5,h6,hpa,hpb]
  rw [hok])
 clear her hh hnl
 cases c0
 ·have HR : Hid (er = 2):=Lib.hid (by rw [HE.out]; first | rfl | simp)
  go_enter Try.func16,Try.ntmps16
  go_wp2
  go_ret
  exact ⟨ret_int HR.out.symm,aB _ _⟩
 ·cases c1
  ·have HR : Hid (er = 2):=Lib.hid (by rw [HE.out]; first | rfl | simp)
   go_enter Try.func16,Try.ntmps16
   go_wp2
   go_ret
   exact ⟨ret_int HR.out.symm,aB _ _⟩
  ·cases c2
   ·have HR : Hid (er = 2):=Lib.hid (by rw [HE.out]; first | rfl | simp)
    go_enter Try.func16,Try.ntmps16
    go_wp2
    go_ret
    exact ⟨ret_int HR.out.symm,aB _ _⟩
   ·cases c3
    ·cases c4
     ·have HR : Hid (er = 2):=Lib.hid (by rw [HE.out]; first | rfl | simp)
      go_enter Try.func16,Try.ntmps16
      go_wp2
      go_ret
      exact ⟨ret_int HR.out.symm,aB _ _⟩
     ·cases c5
      ·have HR : Hid (er = 2):=Lib.hid (by rw [HE.out]; first | rfl | simp)
       go_enter Try.func16,Try.ntmps16
       go_wp2
       go_ret
       exact ⟨ret_int HR.out.symm,aB _ _⟩
      ·cases c6
       ·cases pa
        ·cases pb
         ·have HR : Hid (er = 0):=Lib.hid (by rw [HE.out]; first | rfl | simp)
          go_enter Try.func16,Try.ntmps16
          go_wp2
          go_ret
          exact ⟨ret_int HR.out.symm,aB _ _⟩
         ·have HR : Hid (er = 2):=Lib.hid (by rw [HE.out]; first | rfl | simp)
          go_enter Try.func16,Try.ntmps16
          go_wp2
          go_ret
          exact ⟨ret_int HR.out.symm,aB _ _⟩
        ·have HR : Hid (er = 2):=Lib.hid (by rw [HE.out]; first | rfl | simp)
         go_enter Try.func16,Try.ntmps16
         go_wp2
         go_ret
         exact ⟨ret_int HR.out.symm,aB _ _⟩
       ·have HR : Hid (er = 2):=Lib.hid (by rw [HE.out]; first | rfl | simp)
        go_enter Try.func16,Try.ntmps16
        go_wp2
        go_ret
        exact ⟨ret_int HR.out.symm,aB _ _⟩
    ·have HR : Hid (er = 2):=Lib.hid (by rw [HE.out]; first | rfl | simp)
     go_enter Try.func16,Try.ntmps16
     go_wp2
     go_ret
     exact ⟨ret_int HR.out.symm,aB _ _⟩
set_option maxRecDepth 100000 in
set_option maxHeartbeats 4000000 in
theorem refCheck2_any (r : Rul) (va : Option Addr) (nl vc : Nat) (hnl : r.nums.length = nl) (hk : r.kind = 2) (h8 : nl ≤ 8) (w : World) :
  Calls Try.prog 16 #[.agg #[.int .i64 2,.int .i64 r.players,.int .i64 r.last,.bool r.bull,.bool r.jump,.int .i64 r.rounds,.bool r.cut,.slice va nl vc,.int .i64 r.lives,.bool r.own]] w fun e w' => e = .returned (.int .i64 (checkR r)) ∧ Below w.heap.size w w':=by
 obtain ⟨er,her⟩ : ∃ er,checkR r = er:=⟨_,rfl⟩
 rw [her]
 have hh : ∀ j,(w.alloc (.cells #[.int .i64 2,.int .i64 r.players,.int .i64 r.last,.bool r.bull,.bool r.jump,.int .i64 r.rounds,.bool r.cut,.slice va nl vc,.int .i64 r.lives,.bool r.own] 25)).cell? ⟨w.heap.size,j,none⟩ = _:=fun j => cell_of_heap (o:=j) (World.alloc_heap_new _ _)
 have r0:=hh 0
 have r1:=hh 1
 have r2:=hh 2
 have r3:=hh 3
 have r4:=hh 4
 have r5:=hh 5
 have r6:=hh 6
 have r7:=hh 7
 have r8:=hh 8
 have r9:=hh 9
 simp only [List.getElem?_toArray,List.getElem?_cons_zero,List.getElem?_cons_succ] at r0 r1 r2 r3 r4 r5 r6 r7 r8 r9
 have d1 : decide ((8 : Int) < (nl : Int)) = false:=decide_eq_false (by omega)
 have d2 : decide (8 < nl) = false:=decide_eq_false (by omega)
 obtain ⟨c0,h0⟩ : ∃ c,decide (1 ≤ r.rounds) = c:=⟨_,rfl⟩
 obtain ⟨c1,h1⟩ : ∃ c,decide (r.rounds ≤ 20) = c:=⟨_,rfl⟩
 obtain ⟨c2,h2⟩ : ∃ c,(r.last == 0) = c:=⟨_,rfl⟩
 obtain ⟨c3,h3⟩ : ∃ c,r.bull = c:=⟨_,rfl⟩
 obtain ⟨c4,h4⟩ : ∃ c,r.jump = c:=⟨_,rfl⟩
 obtain ⟨c5,h5⟩ : ∃ c,((nl : Int) == 0) = c:=⟨_,rfl⟩
 obtain ⟨c6,h6⟩ : ∃ c,(r.lives == 0) = c:=⟨_,rfl⟩
 obtain ⟨c7,h7⟩ : ∃ c,r.own = c:=⟨_,rfl⟩
 have h5n : (nl == 0) = c5:=by rw [← h5,Bool.eq_iff_iff]; simp
 obtain ⟨pa,hpa⟩ : ∃ c,decide (r.players < 2) = c:=⟨_,rfl⟩
 obtain ⟨pb,hpb⟩ : ∃ c,decide (8 < r.players) = c:=⟨_,rfl⟩
 have HE : Hid (er = if (c0 && c1 && c2 && !c3 && !c4 && c5 && c6 && !c7 && !pa && !pb) = true then 0 else 2):=Lib.hid (by
  rw [← her]
  unfold checkR
  rw [hnl,if_neg (by omega)]
  have hok : okRul r = (c0 && c1 && c2 && !c3 && !c4 && c5 && c6 && !c7 && !pa && !pb):=by
   rw [okRul_2 r hk,hnl,h0,h1,h2,h3,h4,h5,h6,h7,hpa,hpb]
  rw [hok])
 clear her hh hnl
 cases c0
 ·have HR : Hid (er = 2):=Lib.hid (by rw [HE.out]; first | rfl | simp)
  go_enter Try.func16,Try.ntmps16
  go_wp2
  go_ret
  exact ⟨ret_int HR.out.symm,aB _ _⟩
 ·cases c1
  ·have HR : Hid (er = 2):=Lib.hid (by rw [HE.out]; first | rfl | simp)
   go_enter Try.func16,Try.ntmps16
   go_wp2
   go_ret
   exact ⟨ret_int HR.out.symm,aB _ _⟩
  ·cases c2
   ·have HR : Hid (er = 2):=Lib.hid (by rw [HE.out]; first | rfl | simp)
    go_enter Try.func16,Try.ntmps16
    go_wp2
    go_ret
    exact ⟨ret_int HR.out.symm,aB _ _⟩
   ·cases c3
    ·cases c4
     ·cases c5
      ·have HR : Hid (er = 2):=Lib.hid (by rw [HE.out]; first | rfl | simp)
       go_enter Try.func16,Try.ntmps16
       go_wp2
       go_ret
       exact ⟨ret_int HR.out.symm,aB _ _⟩
      ·cases c6
       ·have HR : Hid (er = 2):=Lib.hid (by rw [HE.out]; first | rfl | simp)
        go_enter Try.func16,Try.ntmps16
        go_wp2
        go_ret
        exact ⟨ret_int HR.out.symm,aB _ _⟩
       ·cases c7
        ·cases pa
         ·cases pb
          ·have HR : Hid (er = 0):=Lib.hid (by rw [HE.out]; first | rfl | simp)
           go_enter Try.func16,Try.ntmps16
           go_wp2
           go_ret
           exact ⟨ret_int HR.out.symm,aB _ _⟩
          ·have HR : Hid (er = 2):=Lib.hid (by rw [HE.out]; first | rfl | simp)
           go_enter Try.func16,Try.ntmps16
           go_wp2
           go_ret
           exact ⟨ret_int HR.out.symm,aB _ _⟩
         ·have HR : Hid (er = 2):=Lib.hid (by rw [HE.out]; first | rfl | simp)
          go_enter Try.func16,Try.ntmps16
          go_wp2
          go_ret
          exact ⟨ret_int HR.out.symm,aB _ _⟩
        ·have HR : Hid (er = 2):=Lib.hid (by rw [HE.out]; first | rfl | simp)
         go_enter Try.func16,Try.ntmps16
         go_wp2
         go_ret
         exact ⟨ret_int HR.out.symm,aB _ _⟩
     ·have HR : Hid (er = 2):=Lib.hid (by rw [HE.out]; first | rfl | simp)
      go_enter Try.func16,Try.ntmps16
      go_wp2
      go_ret
      exact ⟨ret_int HR.out.symm,aB _ _⟩
    ·have HR : Hid (er = 2):=Lib.hid (by rw [HE.out]; first | rfl | simp)
     go_enter Try.func16,Try.ntmps16
     go_wp2
     go_ret
     exact ⟨ret_int HR.out.symm,aB _ _⟩
set_option maxRecDepth 100000 in
set_option maxHeartbeats 4000000 in
theorem refCheck3_any (r : Rul) (va : Option Addr) (nl vc : Nat) (hnl : r.nums.length = nl) (hk : r.kind = 3) (h8 : nl ≤ 8) (w : World) :
  Calls Try.prog 16 #[.agg #[.int .i64 3,.int .i64 r.players,.int .i64 r.last,.bool r.bull,.bool r.jump,.int .i64 r.rounds,.bool r.cut,.slice va nl vc,.int .i64 r.lives,.bool r.own]] w fun e w' => e = .returned (.int .i64 (checkR r)) ∧ Below w.heap.size w w':=by
 obtain ⟨er,her⟩ : ∃ er,checkR r = er:=⟨_,rfl⟩
 rw [her]
 have hh : ∀ j,(w.alloc (.cells #[.int .i64 3,.int .i64 r.players,.int .i64 r.last,.bool r.bull,.bool r.jump,.int .i64 r.rounds,.bool r.cut,.slice va nl vc,.int .i64 r.lives,.bool r.own] 25)).cell? ⟨w.heap.size,j,none⟩ = _:=fun j => cell_of_heap (o:=j) (World.alloc_heap_new _ _)
 have r0:=hh 0
 have r1:=hh 1
 have r2:=hh 2
 have r3:=hh 3
 have r4:=hh 4
 have r5:=hh 5
 have r6:=hh 6
 have r7:=hh 7
 have r8:=hh 8
 have r9:=hh 9
 simp only [List.getElem?_toArray,List.getElem?_cons_zero,List.getElem?_cons_succ] at r0 r1 r2 r3 r4 r5 r6 r7 r8 r9
 have d1 : decide ((8 : Int) < (nl : Int)) = false:=decide_eq_false (by omega)
 have d2 : decide (8 < nl) = false:=decide_eq_false (by omega)
 obtain ⟨c0,h0⟩ : ∃ c,decide (1 ≤ r.rounds) = c:=⟨_,rfl⟩
 obtain ⟨c1,h1⟩ : ∃ c,decide (r.rounds ≤ 20) = c:=⟨_,rfl⟩
 obtain ⟨c2,h2⟩ : ∃ c,(r.last == 0) = c:=⟨_,rfl⟩
 obtain ⟨c3,h3⟩ : ∃ c,r.bull = c:=⟨_,rfl⟩
 obtain ⟨c4,h4⟩ : ∃ c,r.jump = c:=⟨_,rfl⟩
 obtain ⟨c5,h5⟩ : ∃ c,r.cut = c:=⟨_,rfl⟩
 obtain ⟨c6,h6⟩ : ∃ c,((nl : Int) == 0) = c:=⟨_,rfl⟩
 obtain ⟨c7,h7⟩ : ∃ c,(r.lives == 0) = c:=⟨_,rfl⟩
 obtain ⟨c8,h8⟩ : ∃ c,r.own = c:=⟨_,rfl⟩
 have h6n : (nl == 0) = c6:=by rw [← h6,Bool.eq_iff_iff]; simp
 obtain ⟨pa,hpa⟩ : ∃ c,decide (r.players < 2) = c:=⟨_,rfl⟩
 obtain ⟨pb,hpb⟩ : ∃ c,decide (8 < r.players) = c:=⟨_,rfl⟩
 have HE : Hid (er = if (c0 && c1 && c2 && !c3 && !c4 && !c5 && c6 && c7 && !c8 && !pa && !pb) = true then 0 else 2):=Lib.hid (by
  rw [← her]
  unfold checkR
  rw [hnl,if_neg (by omega)]
  have hok : okRul r = (c0 && c1 && c2 && !c3 && !c4 && !c5 && c6 && c7 && !c8 && !pa && !pb):=by
   rw [okRul_3 r hk,hnl,h0,h1,h2,h3,h4,h5,h6,h7,h8,hpa,hpb]
  rw [hok])
 clear her hh hnl
 cases c0
 ·have HR : Hid (er = 2):=Lib.hid (by rw [HE.out]; first | rfl | simp)
  go_enter Try.func16,Try.ntmps16
  go_wp2
  go_ret
  exact ⟨ret_int HR.out.symm,aB _ _⟩
 ·cases c1
  ·have HR : Hid (er = 2):=Lib.hid (by rw [HE.out]; first | rfl | simp)
   go_enter Try.func16,Try.ntmps16
   go_wp2
   go_ret
   exact ⟨ret_int HR.out.symm,aB _ _⟩
  ·cases c2
   ·have HR : Hid (er = 2):=Lib.hid (by rw [HE.out]; first | rfl | simp)
    go_enter Try.func16,Try.ntmps16
    go_wp2
    go_ret
    exact ⟨ret_int HR.out.symm,aB _ _⟩
   ·cases c3
    ·cases c4
     ·cases c5
      ·cases c6
       ·have HR : Hid (er = 2):=Lib.hid (by rw [HE.out]; first | rfl | simp)
        go_enter Try.func16,Try.ntmps16
        go_wp2
        go_ret
        exact ⟨ret_int HR.out.symm,aB _ _⟩
       ·cases c7
        ·have HR : Hid (er = 2):=Lib.hid (by rw [HE.out]; first | rfl | simp)
         go_enter Try.func16,Try.ntmps16
         go_wp2
         go_ret
         exact ⟨ret_int HR.out.symm,aB _ _⟩
        ·cases c8
         ·cases pa
          ·cases pb
           ·have HR : Hid (er = 0):=Lib.hid (by rw [HE.out]; first | rfl | simp)
            go_enter Try.func16,Try.ntmps16
            go_wp2
            go_ret
            exact ⟨ret_int HR.out.symm,aB _ _⟩
           ·have HR : Hid (er = 2):=Lib.hid (by rw [HE.out]; first | rfl | simp)
            go_enter Try.func16,Try.ntmps16
            go_wp2
            go_ret
            exact ⟨ret_int HR.out.symm,aB _ _⟩
          ·have HR : Hid (er = 2):=Lib.hid (by rw [HE.out]; first | rfl | simp)
           go_enter Try.func16,Try.ntmps16
           go_wp2
           go_ret
           exact ⟨ret_int HR.out.symm,aB _ _⟩
         ·have HR : Hid (er = 2):=Lib.hid (by rw [HE.out]; first | rfl | simp)
          go_enter Try.func16,Try.ntmps16
          go_wp2
          go_ret
          exact ⟨ret_int HR.out.symm,aB _ _⟩
      ·have HR : Hid (er = 2):=Lib.hid (by rw [HE.out]; first | rfl | simp)
       go_enter Try.func16,Try.ntmps16
       go_wp2
       go_ret
       exact ⟨ret_int HR.out.symm,aB _ _⟩
     ·have HR : Hid (er = 2):=Lib.hid (by rw [HE.out]; first | rfl | simp)
      go_enter Try.func16,Try.ntmps16
      go_wp2
      go_ret
      exact ⟨ret_int HR.out.symm,aB _ _⟩
    ·have HR : Hid (er = 2):=Lib.hid (by rw [HE.out]; first | rfl | simp)
     go_enter Try.func16,Try.ntmps16
     go_wp2
     go_ret
     exact ⟨ret_int HR.out.symm,aB _ _⟩
end Go.Proofs.Ytnhggfnnolfcdaa

/- Chapter 4, the reference: the error of killer's rules, of all rules (Check). -/
namespace Go.Proofs.Ytnhggfnnolfcdaa
open Go.RowKit Go.Oche Go.Proofs
def diffTo (xs : List Int) (i j : Nat) : Bool:=(List.range j).all fun p => xs.getD p 0 != xs.getD i 0
def okTo (xs : List Int) (k : Nat) : Bool:=(List.range k).all fun i => isIn (xs.getD i 0) 1 20 && diffTo xs i i
theorem diffTo_succ (xs : List Int) (i j : Nat) : diffTo xs i (j + 1) = (diffTo xs i j && (xs.getD j 0 != xs.getD i 0)):=by
 unfold diffTo; rw [List.range_succ,List.all_append]; simp
theorem okTo_succ (xs : List Int) (k : Nat) : okTo xs (k + 1) = (okTo xs k && (isIn (xs.getD k 0) 1 20 && diffTo xs k k)):=by
 unfold okTo; rw [List.range_succ,List.all_append]; simp
theorem okTo_all (xs : List Int) : okTo xs xs.length = (xs.all (fun n => isIn n 1 20) && decide xs.Nodup):=by
 rw [Bool.eq_iff_iff,Bool.and_eq_true,decide_eq_true_eq]
 unfold okTo diffTo
 simp only [List.all_eq_true,List.mem_range,Bool.and_eq_true,bne_iff_ne,ne_eq]
 constructor
 ·intro h
  refine ⟨fun x hx => ?_, ?_⟩
  ·obtain ⟨i,hi,rfl⟩ := List.getElem_of_mem hx
   have:=(h i hi).1
   rwa [getD_of hi] at this
  ·rw [List.nodup_iff_pairwise_ne,List.pairwise_iff_getElem]
   intro i j hi hj hij e
   have:=(h j hj).2 i hij
   rw [getD_of hi,getD_of hj] at this
   exact this e
 ·rintro ⟨h1,h2⟩ i hi
  refine ⟨by rw [getD_of hi]; exact h1 _ (List.getElem_mem hi),fun j hj e => ?_⟩
  rw [getD_of hi,getD_of (by omega)] at e
  rw [List.nodup_iff_pairwise_ne,List.pairwise_iff_getElem] at h2
  exact h2 j i (by omega) hi hj e
theorem okRul_4 (r : Rul) (hk : r.kind = 4) : okRul r = ((((r.nums.length : Int) == r.players) && decide (1 ≤ r.lives) && decide (r.lives ≤ 9) && (r.last == 0) && !r.bull && !r.jump && (r.rounds == 0) && !r.cut && okTo r.nums r.nums.length) && !decide (r.players < 2) && !decide (8 < r.players)):=by
 have h1 : (!decide (r.players < 2)) = decide (2 ≤ r.players):=by rw [← decide_not]; exact decide_eq_decide.2 (by omega)
 have h2 : (!decide (8 < r.players)) = decide (r.players ≤ 8):=by rw [← decide_not]; exact decide_eq_decide.2 (by omega)
 unfold okRul
 rw [h1,h2,okTo_all]
 simp only [hk,isIn_le]
 generalize r.nums.all (fun n => decide (1 ≤ n) && decide (n ≤ 20)) = q1
 generalize decide r.nums.Nodup = q2
 simp only [show ((4 : Int) = 1) = False by simp,show ((4 : Int) = 2) = False by simp,show ((4 : Int) = 3) = False by simp,if_false,if_true]
 generalize ((r.nums.length : Int) == r.players) = q3
 generalize decide (1 ≤ r.lives) = q4
 generalize decide (r.lives ≤ 9) = q5
 generalize (r.last == 0) = q6
 generalize r.bull = q7
 generalize r.jump = q8
 generalize (r.rounds == 0) = q9
 generalize r.cut = q10
 cases q1 <;> cases q2 <;> cases q3 <;> cases q4 <;> cases q5 <;> simp [Bool.and_assoc]
set_option maxRecDepth 100000 in
set_option maxHeartbeats 4000000 in
theorem refCheck4_any {S : Nat → Prop} (r : Rul) (va : Option Addr) (nl vc : Nat) (hnl : r.nums.length = nl) (hk : r.kind = 4) (h8 : nl ≤ 8) (w : World) (hs : Sl S w (.slice va nl vc) (ints r.nums)) :
  Calls Try.prog 16 #[.agg #[.int .i64 4,.int .i64 r.players,.int .i64 r.last,.bool r.bull,.bool r.jump,.int .i64 r.rounds,.bool r.cut,.slice va nl vc,.int .i64 r.lives,.bool r.own]] w fun e w' => e = .returned (.int .i64 (checkR r)) ∧ Below w.heap.size w w':=by
 obtain ⟨er,her⟩ : ∃ er,checkR r = er:=⟨_,rfl⟩
 rw [her]
 obtain ⟨w0,hw0⟩ : ∃ w0,w.alloc (.cells #[.int .i64 4,.int .i64 r.players,.int .i64 r.last,.bool r.bull,.bool r.jump,.int .i64 r.rounds,.bool r.cut,.slice va nl vc,.int .i64 r.lives,.bool r.own] 25) = w0:=⟨_,rfl⟩
 have hb0 : Below w.heap.size w w0:=by rw [← hw0]; exact aB _ _
 obtain ⟨q,hq⟩ : ∃ q,w.heap.size = q:=⟨_,rfl⟩
 have k0 : w0.heap[q]? = some (.cells #[.int .i64 4,.int .i64 r.players,.int .i64 r.last,.bool r.bull,.bool r.jump,.int .i64 r.rounds,.bool r.cut,.slice va nl vc,.int .i64 r.lives,.bool r.own] 25 (0,0)):=by rw [← hw0,← hq]; exact World.alloc_heap_new _ _
 have HS0:=Lib.hid (hs.below hb0)
 have K0:=Lib.hid k0
 have HB0:=Lib.hid hb0
 have hh : ∀ j,(w.alloc (.cells #[.int .i64 4,.int .i64 r.players,.int .i64 r.last,.bool r.bull,.bool r.jump,.int .i64 r.rounds,.bool r.cut,.slice va nl vc,.int .i64 r.lives,.bool r.own] 25)).cell? ⟨w.heap.size,j,none⟩ = _:=fun j => cell_of_heap (o:=j) (World.alloc_heap_new _ _)
 have r0:=hh 0
 have r1:=hh 1
 have r2:=hh 2
 have r3:=hh 3
 have r4:=hh 4
 have r5:=hh 5
 have r6:=hh 6
 have r7:=hh 7
 have r8:=hh 8
 have r9:=hh 9
 simp only [List.getElem?_toArray,List.getElem?_cons_zero,List.getElem?_cons_succ] at r0 r1 r2 r3 r4 r5 r6 r7 r8 r9
 have d1 : decide ((8 : Int) < (nl : Int)) = false:=decide_eq_false (by omega)
 have d2 : decide (8 < nl) = false:=decide_eq_false (by omega)
 obtain ⟨c0,h0⟩ : ∃ c,((nl : Int) == r.players) = c:=⟨_,rfl⟩
 obtain ⟨c1,h1⟩ : ∃ c,decide (1 ≤ r.lives) = c:=⟨_,rfl⟩
 obtain ⟨c2,h2⟩ : ∃ c,decide (r.lives ≤ 9) = c:=⟨_,rfl⟩
 obtain ⟨c3,h3⟩ : ∃ c,(r.last == 0) = c:=⟨_,rfl⟩
 obtain ⟨c6,h6⟩ : ∃ c,(r.rounds == 0) = c:=⟨_,rfl⟩
 obtain ⟨pa,hpa⟩ : ∃ c,decide (r.players < 2) = c:=⟨_,rfl⟩
 obtain ⟨pb,hpb⟩ : ∃ c,decide (8 < r.players) = c:=⟨_,rfl⟩
 obtain ⟨ok0,hok0⟩ : ∃ c,(c0 && c1 && c2 && c3 && !r.bull && !r.jump && c6 && !r.cut) = c:=⟨_,rfl⟩
 have HE : Hid (er = if ((ok0 && okTo r.nums nl) && !pa && !pb) = true then 0 else 2):=Lib.hid (by
  rw [← her,← hok0]
  unfold checkR
  rw [hnl,if_neg (by omega)]
  have hok : okRul r = (((c0 && c1 && c2 && c3 && !r.bull && !r.jump && c6 && !r.cut) && okTo r.nums nl) && !pa && !pb):=by
   rw [okRul_4 r hk,hnl,h0,h1,h2,h3,h6,hpa,hpb]
  rw [hok])
 have HOK0:=Lib.hid hok0
 have hrk:=r7
 clear hrk
 have HNL:=Lib.hid hnl
 have HW0:=Lib.hid hw0
 have HQ:=Lib.hid hq
 have HPA:=Lib.hid (And.intro hpa hpb)
 have hne1 : ((4 : Int) == 1) = false:=by decide
 clear her hh hnl hok0 hw0 hb0 k0 hs
 generalize r.bull = c4 at *
 generalize r.jump = c5 at *
 generalize r.cut = c7 at *
 go_enter Try.func16,Try.ntmps16
 go_upto_region 13 with fail
 rw [HW0.out]
 rw [HW0.out,HQ.out] at r0 r1 r2 r3 r4 r5 r6 r7 r8 r9
 clear hq
 have R:=Lib.hid (And.intro r1 r7)
 go_cut [4] from 138 to 178 (fun ov wx => ov = .bool ok0 ∧ wx = w0)
 case first =>
  have hok0:=HOK0.out
  cases c0
  ·go_wp2_with fail
   go_meet
   case rel => exact ⟨by first | rfl | (rw [← hok0]; simp) | simp_all,rfl⟩
  ·cases c1
   ·go_wp2_with fail
    go_meet
    case rel => exact ⟨by first | rfl | (rw [← hok0]; simp) | simp_all,rfl⟩
   ·cases c2
    ·go_wp2_with fail
     go_meet
     case rel => exact ⟨by first | rfl | (rw [← hok0]; simp) | simp_all,rfl⟩
    ·cases c3
     ·go_wp2_with fail
      go_meet
      case rel => exact ⟨by first | rfl | (rw [← hok0]; simp) | simp_all,rfl⟩
     ·cases c4
      ·cases c5
       ·cases c6
        ·go_wp2_with fail
         go_meet
         case rel => exact ⟨by first | rfl | (rw [← hok0]; simp) | simp_all,rfl⟩
        ·cases c7
         ·go_wp2_with fail
          go_meet
          case rel => exact ⟨by first | rfl | (rw [← hok0]; simp) | simp_all,rfl⟩
         ·go_wp2_with fail
          go_meet
          case rel => exact ⟨by first | rfl | (rw [← hok0]; simp) | simp_all,rfl⟩
       ·go_wp2_with fail
        go_meet
        case rel => exact ⟨by first | rfl | (rw [← hok0]; simp) | simp_all,rfl⟩
      ·go_wp2_with fail
       go_meet
       case rel => exact ⟨by first | rfl | (rw [← hok0]; simp) | simp_all,rfl⟩
 case rest =>
  obtain ⟨rfl,rfl⟩ := hcut
  clear r0 r2 r3 r4 r5 r6 r8 r9 d1 d2 h0 h1 h2 h3 h6 hk
  obtain ⟨w0,rfl⟩ : ∃ w : World,w = wc:=⟨_,rfl⟩
  go_wp2_with fail
  go_loopw [4,5,6] (fun ov iv _ wr => ∃ i : Nat,i ≤ nl ∧ iv = .int .i64 i ∧ ov = .bool (ok0 && okTo r.nums i) ∧ Hid (Below w0.heap.size w0 wr)) (fun _ iv _ _ => nl - (intOf iv).toNat)
  case atStart => exact ⟨0,by omega,by go_num,by simp [okTo],Lib.hid (Below.refl _ _)⟩
  case round =>
   obtain ⟨i,hi,rfl,rfl,HB⟩ := hrel
   obtain ⟨wo,rfl⟩ : ∃ wo : World,wo = wr:=⟨_,rfl⟩
   replace r1:=bAt HB.out R.out.1
   replace r7:=bAt HB.out R.out.2
   obtain ⟨oc,hoc⟩ : ∃ oc,(ok0 && okTo r.nums i) = oc:=⟨_,rfl⟩
   have HOC:=Lib.hid hoc
   rw [hoc]
   clear hoc
   by_cases hlt : i < nl
   ·have hx : i < r.nums.length:=by rw [HNL.out]; exact hlt
    obtain ⟨b,off,hal,_,hc⟩ := (HS0.out.below HB.out).cell hx
    subst hal
    obtain ⟨x,hX⟩ : ∃ x,r.nums[i] = x:=⟨_,rfl⟩
    rw [hX] at hc
    have HX : Hid (r.nums.getD i 0 = x):=Lib.hid (by rw [getD_of hx]; exact hX)
    have HC:=Lib.hid hc
    obtain ⟨e1,he1⟩ : ∃ e,decide (1 ≤ x) = e:=⟨_,rfl⟩
    obtain ⟨e2,he2⟩ : ∃ e,decide (x ≤ 20) = e:=⟨_,rfl⟩
    obtain ⟨o2,ho2⟩ : ∃ o,(oc && (e1 && e2)) = o:=⟨_,rfl⟩
    have HO2:=Lib.hid ho2
    have HIS : Hid (isIn (r.nums.getD i 0) 1 20 = (e1 && e2)):=Lib.hid (by rw [HX.out,isIn_le,he1,he2])
    have hlt1 : decide ((i : Int) < (nl : Int)) = true:=decide_eq_true (by omega)
    have hlt2 : decide (i < nl) = true:=decide_eq_true hlt
    clear hX hx
    go_upto_region 17 with fail
    go_cut [4] from 186 to 202 (fun ov wx => ov = .bool o2 ∧ wx = wo)
    case first =>
     have ho:=HO2.out
     cases oc
     ·go_wp2_with fail
      go_meet
      case rel => exact ⟨by first | rfl | (rw [← ho]; simp) | simp_all,rfl⟩
     ·cases e1
      ·go_wp2_with fail
       go_meet
       case rel => exact ⟨by first | rfl | (rw [← ho]; simp) | simp_all,rfl⟩
      ·cases e2
       ·go_wp2_with fail
        go_meet
        case rel => exact ⟨by first | rfl | (rw [← ho]; simp) | simp_all,rfl⟩
       ·go_wp2_with fail
        go_meet
        case rel => exact ⟨by first | rfl | (rw [← ho]; simp) | simp_all,rfl⟩
    case rest =>
     obtain ⟨rfl,rfl⟩ := hcut
     obtain ⟨wo,rfl⟩ : ∃ w : World,w = wc:=⟨_,rfl⟩
     clear hc r1 he1 he2 hlt1 hlt2
     go_wp2_with fail
     go_loopw [4,6] (fun ov kv wr => ∃ k : Nat,k ≤ i ∧ kv = .int .i64 k ∧ ov = .bool (o2 && diffTo r.nums i k) ∧ Hid (Below wo.heap.size wo wr)) (fun _ kv _ => i - (intOf kv).toNat)
     case atStart => exact ⟨0,by omega,by go_num,by simp [diffTo],Lib.hid (Below.refl _ _)⟩
     case round =>
      obtain ⟨k,hk,rfl,rfl,HB2⟩ := hrel
      obtain ⟨wi,rfl⟩ : ∃ w : World,w = wr:=⟨_,rfl⟩
      obtain ⟨od,hod⟩ : ∃ oc,(o2 && diffTo r.nums i k) = oc:=⟨_,rfl⟩
      have HOD:=Lib.hid hod
      rw [hod]
      clear hod
      replace r7:=bAt HB2.out r7
      have hc:=bAt HB2.out HC.out
      by_cases hlk : k < i
      ·have hy : k < r.nums.length:=by rw [HNL.out]; omega
       obtain ⟨b',off',hal',_,hd⟩ := (HS0.out.below (HB.out.trans (HB2.out.mono HB.out.size))).cell hy
       cases hal'
       obtain ⟨y,hY⟩ : ∃ y,r.nums[k] = y:=⟨_,rfl⟩
       rw [hY] at hd
       have hkn : k < nl:=by omega
       obtain ⟨ne,hne⟩ : ∃ e,(y != x) = e:=⟨_,rfl⟩
       have HD3 : Hid ((o2 && diffTo r.nums i (k + 1)) = (od && ne)):=Lib.hid (by rw [diffTo_succ,← Bool.and_assoc,HOD.out,getD_of hy,hY,HX.out,hne])
       have HNE:=Lib.hid hne
       clear hY hy hne
       cases od
       ·go_wp2_with fail
        refine wp_region_seq 15 [.is (.bool false),.is (.bool false),.is undef,.is undef,.is undef,.is undef,.is undef,.is undef,.is undef,.is undef,.is undef,.is undef,.is undef,.is (.bool false),.is (.bool false)] rfl mix (by kernel_rfl) (by kernel_rfl) ?seqm
        case seqm =>
         simp only [List.take_succ_cons,List.take_zero]
         iterate 2
          refine seq_on (by rfl) (fun w3 hb3 _ => ?_) ?_
          ·have ha:=bAt hb3 r7
           have hx:=bAt hb3 hc
           have hy:=bAt hb3 hd
           simp [opOK,go_sem,Below.refl]
           try exact rfl
          simp only [Act.put,List.setIfInBounds_toArray,List.set_cons_succ,List.set_cons_zero]
         iterate 11
          refine seq_off (by rfl) ?_
          simp only [Act.put,List.setIfInBounds_toArray,List.set_cons_succ,List.set_cons_zero]
         iterate 2
          refine seq_on (by rfl) (fun w3 hb3 _ => ?_) ?_
          ·have ha:=bAt hb3 r7
           have hx:=bAt hb3 hc
           have hy:=bAt hb3 hd
           simp [opOK,go_sem,Below.refl]
           try exact rfl
          simp only [Act.put,List.setIfInBounds_toArray,List.set_cons_succ,List.set_cons_zero]
         refine seq_end fun w3 hb3 _ => ?_
         simp only [List.drop_succ_cons,List.drop_zero]
         have HB5:=Lib.hid (HB2.out.trans (hb3.mono HB2.out.size))
         clear hb3 r7 hc hd
         go_wp2
         go_roundw
         case rel => exact ⟨k + 1,by omega,by go_num,by rw [HD3.out]; rfl,HB5⟩
         case measure => simp [intOf]; omega
       ·go_wp2_with fail
        refine wp_region_seq 15 [.is (.bool true),.is (.bool true),.is (.pointer (some ⟨q,7,none⟩)),.is (.slice (some ⟨b,off,none⟩) nl vc),.is (.int .i64 k),.is (.pointer (some ⟨b,off + k,none⟩)),.is (.int .i64 y),.is (.pointer (some ⟨q,7,none⟩)),.is (.slice (some ⟨b,off,none⟩) nl vc),.is (.int .i64 i),.is (.pointer (some ⟨b,off + i,none⟩)),.is (.int .i64 x),.is (.bool ne),.is (.bool ne),.is (.bool ne)] rfl mix (by kernel_rfl) (by kernel_rfl) ?seqm
        case seqm =>
         simp only [List.take_succ_cons,List.take_zero]
         iterate 15
          refine seq_on (by rfl) (fun w3 hb3 _ => ?_) ?_
          ·have ha:=bAt hb3 r7
           have hx:=bAt hb3 hc
           have hy:=bAt hb3 hd
           simp [opOK,go_sem,ha,hx,hy,hlt,hkn,HNE.out,Below.refl]
           try exact rfl
          simp only [Act.put,List.setIfInBounds_toArray,List.set_cons_succ,List.set_cons_zero]
         refine seq_end fun w3 hb3 _ => ?_
         simp only [List.drop_succ_cons,List.drop_zero]
         have HB5:=Lib.hid (HB2.out.trans (hb3.mono HB2.out.size))
         clear hb3 r7 hc hd
         go_wp2
         go_roundw
         case rel => exact ⟨k + 1,by omega,by go_num,by rw [HD3.out]; simp,HB5⟩
         case measure => simp [intOf]; omega
      ·obtain rfl : k = i:=by omega
       have HF : Hid ((ok0 && okTo r.nums (k + 1)) = od):=Lib.hid (by rw [okTo_succ,← Bool.and_assoc,HOC.out,HIS.out,← Bool.and_assoc,← HOD.out,← HO2.out]; try simp only [Bool.and_assoc])
       have HB5:=Lib.hid (HB.out.trans (HB2.out.mono HB.out.size))
       clear hc r7
       go_wp2
       go_roundw
       case rel => exact ⟨k + 1,by omega,by go_num,by rw [HF.out],HB5⟩
       case measure => simp [intOf]; omega
   ·obtain rfl : i = nl:=by omega
    have HE2 : Hid (er = if (oc && !pa && !pb) = true then 0 else 2):=Lib.hid (by rw [← HOC.out]; exact HE.out)
    have HBF:=Lib.hid (bThen HB0.out HB.out)
    cases oc
    ·have HR : Hid (er = 2):=Lib.hid (by rw [HE2.out]; rfl)
     go_wp2
     go_ret
     exact ⟨ret_int HR.out.symm,HBF.out⟩
    ·cases pa
     ·cases pb
      ·have HR : Hid (er = 0):=Lib.hid (by rw [HE2.out]; rfl)
       go_wp2
       go_ret
       exact ⟨ret_int HR.out.symm,HBF.out⟩
      ·have HR : Hid (er = 2):=Lib.hid (by rw [HE2.out]; rfl)
       go_wp2
       go_ret
       exact ⟨ret_int HR.out.symm,HBF.out⟩
     ·have HR : Hid (er = 2):=Lib.hid (by rw [HE2.out]; rfl)
      go_wp2
      go_ret
      exact ⟨ret_int HR.out.symm,HBF.out⟩
set_option maxRecDepth 100000 in
set_option maxHeartbeats 4000000 in
theorem refCheck0_any (r : Rul) (va : Option Addr) (nl vc : Nat) (h8 : nl ≤ 8) (e1 : (r.kind == 1) = false) (e2 : (r.kind == 2) = false) (e3 : (r.kind == 3) = false) (e4 : (r.kind == 4) = false) (w : World) :
  Calls Try.prog 16 #[.agg #[.int .i64 r.kind,.int .i64 r.players,.int .i64 r.last,.bool r.bull,.bool r.jump,.int .i64 r.rounds,.bool r.cut,.slice va nl vc,.int .i64 r.lives,.bool r.own]] w fun e w' => e = .returned (.int .i64 2) ∧ Below w.heap.size w w':=by
 have hh : ∀ j,(w.alloc (.cells #[.int .i64 r.kind,.int .i64 r.players,.int .i64 r.last,.bool r.bull,.bool r.jump,.int .i64 r.rounds,.bool r.cut,.slice va nl vc,.int .i64 r.lives,.bool r.own] 25)).cell? ⟨w.heap.size,j,none⟩ = _:=fun j => cell_of_heap (o:=j) (World.alloc_heap_new _ _)
 have r0:=hh 0
 have r1:=hh 1
 have r7:=hh 7
 simp only [List.getElem?_toArray,List.getElem?_cons_zero,List.getElem?_cons_succ] at r0 r1 r7
 have d1 : decide ((8 : Int) < (nl : Int)) = false:=decide_eq_false (by omega)
 have d2 : decide (8 < nl) = false:=decide_eq_false (by omega)
 clear hh
 go_enter Try.func16,Try.ntmps16
 go_wp2
 go_ret
 exact ⟨rfl,aB _ _⟩
theorem refCheck_any {S : Nat → Prop} (r : Rul) (va : Option Addr) (nl vc : Nat) (w : World) (hs : Sl S w (.slice va nl vc) (ints r.nums)) :
  Calls Try.prog 16 #[.agg #[.int .i64 r.kind,.int .i64 r.players,.int .i64 r.last,.bool r.bull,.bool r.jump,.int .i64 r.rounds,.bool r.cut,.slice va nl vc,.int .i64 r.lives,.bool r.own]] w fun e w' => e = .returned (.int .i64 (checkR r)) ∧ Below w.heap.size w w':=by
 have hnl : r.nums.length = nl:=by obtain ⟨_,_,e,_⟩ := hs.form; rw [ints_length] at e; cases e; rfl
 by_cases h8 : 8 < nl
 ·rw [show checkR r = 5 by unfold checkR; rw [hnl,if_pos h8]]
  exact refCheck5_any r va nl vc h8 w
 ·by_cases k1 : r.kind = 1
  ·have:=refCheck1_any r va nl vc hnl k1 (by omega) w; rw [← k1] at this; exact this
  by_cases k2 : r.kind = 2
  ·have:=refCheck2_any r va nl vc hnl k2 (by omega) w; rw [← k2] at this; exact this
  by_cases k3 : r.kind = 3
  ·have:=refCheck3_any r va nl vc hnl k3 (by omega) w; rw [← k3] at this; exact this
  by_cases k4 : r.kind = 4
  ·have:=refCheck4_any r va nl vc hnl k4 (by omega) w hs; rw [← k4] at this; exact this
  rw [show checkR r = 2 by unfold checkR okRul; rw [hnl,if_neg h8]; simp [k1,k2,k3,k4]]
  exact refCheck0_any r va nl vc (by omega) (by simpa using k1) (by simpa using k2) (by simpa using k3) (by simpa using k4) w
end Go.Proofs.Ytnhggfnnolfcdaa
