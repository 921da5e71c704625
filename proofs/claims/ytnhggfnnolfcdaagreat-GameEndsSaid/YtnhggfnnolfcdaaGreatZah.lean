/- The texts HQ, in build order. -/
import Derived.Test.YtnhggfnnolfcdaaGreatZag

/- Chapter 4: the numbers of killer's players (areNumbers). -/
namespace Go.Proofs.YtnhggfnnolfcdaaGreat
open Go.RowKit Go.Oche Go.Proofs
theorem int_key : KeyEq Tryz.prog 3 (Value.int .i64):=KeyEq.int Tryz.underlying3
structure Seen (L : List (Int × Value)) (xs : List Int) : Prop where
 nd : (L.map (·.1)).Nodup
 mem : ∀ p,p ∈ L.map (·.1) ↔ p ∈ xs
 le : L.length ≤ xs.length
 eq : L.length = xs.length ↔ xs.Nodup
theorem upd_some {L : List (Int × Value)} {k : Int} {v : Value} (h : k ∈ L.map (·.1)) : (upd L k v).map (·.1) = L.map (·.1):=by
 induction L with
 | nil => simp at h
 | cons p l ih =>
  unfold upd
  by_cases e : p.1 = k
  ·rw [if_pos e]; simp [e]
  ·rw [if_neg e]
   have : k ∈ l.map (·.1):=by simp only [List.map_cons,List.mem_cons] at h; rcases h with h | h; exact (e h.symm).elim; exact h
   simp [ih this]
theorem Seen.add {L : List (Int × Value)} {xs : List Int} (h : Seen L xs) (x : Int) (v : Value) : Seen (upd L x v) (xs ++ [x]):=by
 by_cases hx : x ∈ L.map (·.1)
 ·have hk:=upd_some (v:=v) hx
  have hl : (upd L x v).length = L.length:=by have:=congrArg List.length hk; simpa using this
  have hx2:=(h.mem x).1 hx
  refine ⟨by rw [hk]; exact h.nd,fun p => ?_,by rw [hl]; simp; have:=h.le; omega, ?_⟩
  ·rw [hk,h.mem]; simp; rintro rfl; exact hx2
  ·rw [hl]
   constructor
   ·intro e; have:=h.le; simp at e; omega
   ·intro e; exact ((List.nodup_append.1 e).2.2 x hx2 x (by simp) rfl).elim
 ·rw [upd_none hx]
  have hx2 : x ∉ xs:=fun e => hx ((h.mem x).2 e)
  refine ⟨?_,fun p => ?_,by simp; have:=h.le; omega, ?_⟩
  ·rw [List.map_append,List.nodup_append]
   exact ⟨h.nd,by simp,fun a ha b hb => by simp at hb; subst hb; rintro rfl; exact hx ha⟩
  ·rw [List.map_append,List.mem_append,List.mem_append,h.mem]; simp
  ·simp only [List.length_append,List.length_cons,List.length_nil]
   rw [List.nodup_append]
   have:=h.eq
   constructor
   ·intro e; exact ⟨this.1 (by omega),by simp,fun a ha b hb => by simp at hb; subst hb; rintro rfl; exact hx2 ha⟩
   ·intro e; have:=this.2 e.1; omega
theorem Seen.nil : Seen [] []:=⟨by simp,by simp,by simp,by simp⟩
theorem run_len_blk {P : Program} {T k e ty : TypeId} (ht : P.underlying T = some (.map k e)) {w : World} {b : Nat} {es : Array MapEntry} {c : Nat} (h : w.heap[b]? = some (.map es c)) : (Builtin.len_ #[T] ty #[.map (some b)]).run P w = .ok (.int .i64 es.size) w:=by
 simp [Builtin.len_,run_underlying ht,MapKept.run_getObj_map h,goInt]
def areB (xs : List Int) : Bool:=xs.all (fun n => isIn n 1 20) && decide xs.Nodup
theorem all_out (xs : List Int) (lo hi : Int) : (!xs.any (outB lo hi)) = xs.all (fun n => isIn n lo hi):=by
 induction xs with
 | nil => rfl
 | cons x l ih =>
  simp only [List.any_cons,List.all_cons,Bool.not_or,ih]
  congr 1
  unfold outB isIn; rw [Bool.eq_iff_iff]; simp
set_option maxRecDepth 100000 in
set_option maxHeartbeats 4000000 in
theorem areNumbers_any {S : Nat → Prop} (xs : List Int) (v : Value) (w : World) (hs : Sl S w v (ints xs)) :
  Calls Tryz.prog 80 #[v] w fun e w' => e = .returned (.bool (areB xs)) ∧ Below w.heap.size w w':=by
 obtain ⟨a,cap,rfl,h2,h3⟩ := hs.form
 simp only [ints_length] at *
 unfold maxLen at h3
 obtain ⟨er,her⟩ : ∃ x,areB xs = x:=⟨_,rfl⟩
 rw [her]
 have HER:=Lib.hid her
 have HS:=Lib.hid hs
 obtain ⟨n,hn⟩ : ∃ n,xs.length = n:=⟨_,rfl⟩
 have HN:=Lib.hid hn
 rw [hn] at h2
 have hmm := @run_makeMap Tryz.prog
 obtain ⟨w1,hw1⟩ : ∃ w1,w.alloc (.map #[] 0) = w1:=⟨_,rfl⟩
 have hb1 : Below w.heap.size w w1:=by rw [← hw1]; exact aB _ _
 have HM1 : Hid (MapAt (Value.int .i64) w1 w.heap.size []):=Lib.hid (by rw [← hw1]; exact MapAt.made _ _)
 have HW1:=Lib.hid hw1
 have HB1:=Lib.hid hb1
 obtain ⟨N,hNN⟩ : ∃ N,w.heap.size = N:=⟨_,rfl⟩
 have HNN:=Lib.hid hNN
 rw [hNN] at HM1 hb1 HB1
 rw [hn]
 clear her hs hw1 hb1 hn hNN
 go_enter Tryz.func80,Tryz.ntmps80
 go_wp2_with fail
 rw [HW1.out,HNN.out]
 clear hmm
 go_loopw [5,9] (fun _ i wr => ∃ (k : Nat) (L : List (Int × Value)),k ≤ n ∧ i = .int .i64 k ∧ Hid (MapAt (Value.int .i64) wr N L) ∧ Hid (Seen L (xs.take k)) ∧ Hid (Below N w wr)) (fun _ i _ => n - (intOf i).toNat)
 case atStart => exact ⟨0,[],by omega,rfl,HM1,Lib.hid (by simpa using Seen.nil),HB1⟩
 case round =>
  obtain ⟨k,L,hk,rfl,HM,HSE,HB⟩ := hrel
  obtain ⟨wo,rfl⟩ : ∃ wo : World,wo = wr:=⟨_,rfl⟩
  have hBW : Below w.heap.size w wo:=by rw [HNN.out]; exact HB.out
  by_cases hlt : k < n
  ·have hkx : k < xs.length:=by rw [HN.out]; exact hlt
   obtain ⟨b,off,hal,_,hc⟩ := (HS.out.below hBW).cell hkx
   cases hal
   obtain ⟨x,hx⟩ : ∃ x,xs[k] = x:=⟨_,rfl⟩
   rw [hx] at hc
   obtain ⟨w3,hup,hL3,hg3⟩ := MapAt.update int_key (T:=145) (E:=4) (by rfl) HM.out x (.bool true)
   have HL3:=Lib.hid hL3
   have HS3 : Hid (Seen (upd L x (.bool true)) (xs.take (k + 1))):=Lib.hid (by rw [List.take_succ_eq_append_getElem hkx,hx]; exact HSE.out.add x _)
   have HB3:=Lib.hid (HB.out.trans (below_grownBy hg3 (B:=N) (by have:=HB.out.size; have:=HNN.out; omega) fun q hq => by cases hq; exact Nat.le_refl _))
   clear hx hL3 hg3 hBW hkx
   go_wp2_with fail
   go_roundw
   case rel => exact ⟨k + 1,_,by omega,by go_num,HL3,HS3,HB3⟩
   case measure => simp [intOf]; omega
  ·obtain rfl : k = n:=by omega
   obtain ⟨es,clock,hh,hes,hvs,hbo⟩ := HM.out
   have hsz : es.size = L.length:=by have:=congrArg List.length hes; simpa using this
   obtain ⟨rb,hrb⟩ : ∃ rb,xs.any (outB 1 20) = rb:=⟨_,rfl⟩
   have HR:=Lib.hid hrb
   have hw : ∀ w',Below w.heap.size w w' → Calls Tryz.prog 35 #[.int .i64 1,.int .i64 20,.slice a k cap] w' fun e w'' => e = .returned (.bool (!rb)) ∧ Below w'.heap.size w' w'':=fun w' hb => by
    rw [← hrb]
    have:=within_any 1 20 xs (.slice a k cap) w' (by have:=HS.out.below hb; rw [HN.out] at this; exact this)
    exact this
   have HWI:=Lib.hid hw
   have HBW:=Lib.hid hBW
   have hxt : xs.take k = xs:=List.take_of_length_le (by rw [HN.out]; exact Nat.le_refl _)
   rw [hxt] at HSE
   obtain ⟨lb,hlb⟩ : ∃ lb,((es.size : Int) == (k : Int)) = lb:=⟨_,rfl⟩
   have hlb2 : (es.size == k) = lb:=by rw [← hlb,Bool.eq_iff_iff]; simp; omega
   have HER2 : Hid (er = (!rb && lb)):=Lib.hid (by
    rw [← HER.out,areB,← all_out,HR.out]
    congr 1
    rw [← hlb,Bool.eq_iff_iff]
    have:=HSE.out.eq
    rw [HN.out] at this
    simp only [decide_eq_true_eq,beq_iff_eq]
    rw [← this,hsz]; omega)
   have HH:=Lib.hid hh
   have HLB:=Lib.hid hlb
   have HLB2:=Lib.hid hlb2
   clear hes hvs hbo hsz hrb hw hBW hxt hlb hlb2 hh
   go_wp2_with fail
   refine (HWI.out wo HBW.out).mono ?_
   rintro e w3 ⟨rfl,hb3⟩
   have hh3:=(hb3.block _ (Array.getElem?_eq_some_iff.1 HH.out).1).trans HH.out
   have HB3:=Lib.hid (bThen HBW.out hb3)
   have q1:=HLB.out
   have q2:=HLB2.out
   clear hb3
   have hlen:=run_len_blk (P:=Tryz.prog) (T:=145) (k:=3) (e:=4) (ty:=3) rfl hh3
   cases rb
   ·go_wp2
    go_ret
    exact ⟨ret_bool (by rw [HER2.out]; simp),HB3.out⟩
   ·go_wp2
    go_ret
    exact ⟨ret_bool (by rw [HER2.out]; simp),HB3.out⟩
end Go.Proofs.YtnhggfnnolfcdaaGreat
