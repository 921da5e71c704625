/- The texts MT, FreeV, SeqV, JTwo, in build order. -/
import Derived.Test.YtnhggfnnolfcdaaGreatZay
import Derived.Lib.MinMax

/- Chapter 4: the bed that mostly does something (dart). -/
namespace Go.Proofs.YtnhggfnnolfcdaaGreat
open Go.RowKit Go.Oche Go.Proofs
theorem idx101_0 (w : World) : (Instr.index 83 (.agg #[.int .i64 0,.int .i64 125,.int .i64 225,.int .i64 301]) (.int .u8 0)).run Tryz.prog w = .ok (.int .i64 0) w:=by kernel_rfl
theorem idx101_1 (w : World) : (Instr.index 83 (.agg #[.int .i64 0,.int .i64 125,.int .i64 225,.int .i64 301]) (.int .u8 1)).run Tryz.prog w = .ok (.int .i64 125) w:=by kernel_rfl
theorem idx101_2 (w : World) : (Instr.index 83 (.agg #[.int .i64 0,.int .i64 125,.int .i64 225,.int .i64 301]) (.int .u8 2)).run Tryz.prog w = .ok (.int .i64 225) w:=by kernel_rfl
theorem idx101_3 (w : World) : (Instr.index 83 (.agg #[.int .i64 0,.int .i64 125,.int .i64 225,.int .i64 301]) (.int .u8 3)).run Tryz.prog w = .ok (.int .i64 301) w:=by kernel_rfl
set_option maxRecDepth 100000 in
set_option maxHeartbeats 4000000 in
theorem dart_any {S S' : Nat → Prop} (r : Rul) (g : Gam) (M : Int) (hM : M ≤ 1000000) (hL : Live r M g) (hrd : g.round ≤ 1000000) (y : Nat) (hy : y ≤ 255) (na : Option Addr) (nl nc : Nat) (pa : Option Addr) (n pc : Nat) (wa : Option Addr) (wl wc : Nat) (hn : g.pls.length = n) (w : World)
  (hp : SlN 9 S w (.slice pa n pc) (g.pls.map plrRow)) (hs : Sl S' w (.slice na nl nc) (ints r.nums)) :
  Calls Tryz.prog 9 #[.agg #[.int .i64 r.kind,.int .i64 r.players,.int .i64 r.last,.bool r.bull,.bool r.jump,.int .i64 r.rounds,.bool r.cut,.slice na nl nc,.int .i64 r.lives,.bool r.own],.agg #[.int .i64 g.round,.int .i64 g.player,.int .i64 g.darts,.slice pa n pc,.slice wa wl wc],.int .u8 y] w fun e w' => e = .returned (.int .i64 (dartS r g y)) ∧ Below w.heap.size w w':=by
 obtain ⟨q,hq⟩ : ∃ q,w.heap.size = q:=⟨_,rfl⟩
 obtain ⟨w0,hw0⟩ : ∃ w0,(w.alloc (.cells #[.int .i64 r.kind,.int .i64 r.players,.int .i64 r.last,.bool r.bull,.bool r.jump,.int .i64 r.rounds,.bool r.cut,.slice na nl nc,.int .i64 r.lives,.bool r.own] 29)).alloc (.cells #[.int .i64 g.round,.int .i64 g.player,.int .i64 g.darts,.slice pa n pc,.slice wa wl wc] 36) = w0:=⟨_,rfl⟩
 have hb0 : Below w.heap.size w w0:=by rw [← hw0]; exact (aB _ _).alloc (by simp) _
 have k0 : w0.heap[q]? = some (.cells #[.int .i64 r.kind,.int .i64 r.players,.int .i64 r.last,.bool r.bull,.bool r.jump,.int .i64 r.rounds,.bool r.cut,.slice na nl nc,.int .i64 r.lives,.bool r.own] 29 (0,0)):=by rw [← hw0,← hq]; exact heap_old (World.alloc_heap_new _ _)
 have k1 : w0.heap[q + 1]? = some (.cells #[.int .i64 g.round,.int .i64 g.player,.int .i64 g.darts,.slice pa n pc,.slice wa wl wc] 36 (0,0)):=by rw [← hw0,← hq]; exact heap_two _ _ _
 have HS:=Lib.hid (hs.below hb0)
 have HP:=Lib.hid (hp.below hb0)
 have HB0:=Lib.hid hb0
 have HW0:=Lib.hid hw0
 have HQ:=Lib.hid hq
 have HL:=Lib.hid hL
 have HN:=Lib.hid hn
 have r0 : w0.cell? ⟨q,0,none⟩ = _:=cell_of_heap (o:=0) k0
 have r2 : w0.cell? ⟨q,2,none⟩ = _:=cell_of_heap (o:=2) k0
 have r7 : w0.cell? ⟨q,7,none⟩ = _:=cell_of_heap (o:=7) k0
 have s0 : w0.cell? ⟨q + 1,0,none⟩ = _:=cell_of_heap (o:=0) k1
 have s1 : w0.cell? ⟨q + 1,1,none⟩ = _:=cell_of_heap (o:=1) k1
 have s3 : w0.cell? ⟨q + 1,3,none⟩ = _:=cell_of_heap (o:=3) k1
 simp only [List.getElem?_toArray,List.getElem?_cons_zero,List.getElem?_cons_succ] at r0 r2 r7 s0 s1 s3
 obtain ⟨er,her⟩ : ∃ er,dartS r g y = er:=⟨_,rfl⟩
 rw [her]
 have HER:=Lib.hid her
 obtain ⟨y3,hy3⟩ : ∃ x,y % 3 = x:=⟨_,rfl⟩
 have y3b : y3 ≤ 2:=by omega
 have m3 : (y : Int).tmod 3 = (y3 : Int):=by have:=tmod_nat y 3; rw [hy3] at this; simpa using this
 have HY3:=Lib.hid hy3
 clear hs hp hb0 k0 k1 hw0 hL her hq hn hy3
 go_enter Tryz.func9,Tryz.ntmps9
 go_upto_region 1 with fail
 rw [HW0.out,HQ.out]
 by_cases c1 : 240 ≤ y
 ·obtain ⟨x,hx⟩ : ∃ x,y % 20 = x:=⟨_,rfl⟩
  have hxb : x ≤ 19:=by omega
  have m20 : (y : Int).tmod 20 = (x : Int):=by have:=tmod_nat y 20; rw [hx] at this; simpa using this
  have d1 : decide ((240 : Int) ≤ (y : Int)) = true:=decide_eq_true (by omega)
  have HF : Hid (er = 400 + (x : Int) + 1):=Lib.hid (by rw [← HER.out]; unfold dartS; rw [if_pos c1,hx]; omega)
  clear hx HER r0 r2 r7 s0 s1 s3
  go_wp2
  go_ret
  exact ⟨ret_int HF.out.symm,HB0.out⟩
 have d1 : decide ((240 : Int) ≤ (y : Int)) = false:=decide_eq_false (by omega)
 by_cases c2 : 200 ≤ y
 ·have d2 : decide ((200 : Int) ≤ (y : Int)) = true:=decide_eq_true (by omega)
  obtain ⟨x,hx⟩ : ∃ x,y % 4 = x:=⟨_,rfl⟩
  have m4 : (y : Int).tmod 4 = (x : Int):=by have:=tmod_nat y 4; rw [hx] at this; simpa using this
  have HF : Hid (er = ([0,125,225,301] : List Int).getD x 0):=Lib.hid (by rw [← HER.out]; unfold dartS; rw [if_neg c1,if_pos c2,hx])
  have hxb : x = 0 ∨ x = 1 ∨ x = 2 ∨ x = 3:=by omega
  clear hx HER r0 r2 r7 s0 s1 s3
  rcases hxb with rfl | rfl | rfl | rfl
  all_goals
   go_wp2
   first | rw [idx101_0] | rw [idx101_1] | rw [idx101_2] | rw [idx101_3]
   go_wp2
   go_ret
   exact ⟨ret_int HF.out.symm,HB0.out⟩
 have d2 : decide ((200 : Int) ≤ (y : Int)) = false:=decide_eq_false (by omega)
 have HK:=Lib.hid (kind_of HL.out.ok)
 by_cases k1 : r.kind = 1
 ·have e1 : (r.kind == 1) = true:=by rw [k1]; rfl
  have hpl : g.player < n:=by rw [← HN.out]; exact HL.out.pl
  obtain ⟨b,o,hpa,hc⟩ := slN_cell9 HP.out HL.out.pl
  subst hpa
  have hgl:=HL.out.pl
  have hc0:=hc 0 (.int .i64 g.pls[g.player].pts) rfl
  rw [plr_at HL.out.pl] at hc0
  have hpb:=HL.out.each _ (plr_mem HL.out.pl)
  have hpn:=hpb.1.nn
  have hpm:=hpb.2
  have HD : Hid (er = if 20 < (plr g g.player).pts + 1 ∨ r.last < (plr g g.player).pts + 1 then 225 else 100 * (1 + (y % 3 : Nat)) + ((plr g g.player).pts + 1)):=Lib.hid (by rw [← HER.out]; unfold dartS; rw [if_neg c1,if_neg c2,if_pos k1])
  obtain ⟨P,hP⟩ : ∃ P,(plr g g.player).pts = P:=⟨_,rfl⟩
  rw [hP] at hc0 hpn hpm HD
  simp only [Nat.add_zero] at hc0
  rw [HY3.out] at HD
  obtain ⟨b1,hb1⟩ : ∃ x,decide (20 < P + 1) = x:=⟨_,rfl⟩
  obtain ⟨b2,hb2⟩ : ∃ x,decide (r.last < P + 1) = x:=⟨_,rfl⟩
  have HD2 : Hid (er = if (b1 || b2) = true then 225 else 100 * (1 + (y3 : Int)) + (P + 1)):=Lib.hid (by rw [HD.out,← hb1,← hb2]; simp [Bool.or_eq_true])
  clear HD
  have HD:=HD2
  have z1 : IntKind.i64.wrap (P + 1) = P + 1:=wrap_small _ (by omega) (by omega)
  have z2 : IntKind.i64.wrap (1 + (y3 : Int)) = 1 + (y3 : Int):=wrap_small _ (by omega) (by omega)
  have z3 : IntKind.i64.wrap (100 * (1 + (y3 : Int))) = 100 * (1 + (y3 : Int)):=wrap_small _ (by omega) (by omega)
  have z4 : IntKind.i64.wrap (100 * (1 + (y3 : Int)) + (P + 1)) = 100 * (1 + (y3 : Int)) + (P + 1):=wrap_small _ (by omega) (by omega)
  clear hc hpb hP HER k1 r7 s0
  cases b1
  ·cases b2
   ·have HF : Hid (er = 100 * (1 + (y3 : Int)) + (P + 1)):=Lib.hid (by rw [HD.out,if_neg (by simp)])
    go_wp2
    go_ret
    exact ⟨ret_int HF.out.symm,HB0.out⟩
   ·have HF : Hid (er = 225):=Lib.hid (by rw [HD.out,if_pos (by simp)])
    go_wp2
    go_ret
    exact ⟨ret_int HF.out.symm,HB0.out⟩
  ·have HF : Hid (er = 225):=Lib.hid (by rw [HD.out,if_pos (by simp)])
   go_wp2
   go_ret
   exact ⟨ret_int HF.out.symm,HB0.out⟩
 have e1 : (r.kind == 1) = false:=by simpa using k1
 by_cases k2 : r.kind = 2
 ·have e2 : (r.kind == 2) = true:=by rw [k2]; rfl
  obtain ⟨x,hx⟩ : ∃ x,y / 3 % 7 = x:=⟨_,rfl⟩
  have hxb : x ≤ 6:=by omega
  obtain ⟨z,hz⟩ : ∃ z,y / 3 = z:=⟨_,rfl⟩
  have t1 : (y : Int).tdiv 3 = (z : Int):=by have:=tdiv_nat y 3; rw [hz] at this; simpa using this
  have t2 : (z : Int).tmod 7 = (x : Int):=by have:=tmod_nat z 7; rw [← hz,hx] at this; rw [← hz]; simpa using this
  have hzb : z ≤ 85:=by omega
  have HD : Hid (er = if 15 + x = 21 then 225 else ((100 * (1 + y3) + (15 + x) : Nat) : Int)):=Lib.hid (by rw [← HER.out]; unfold dartS; rw [if_neg c1,if_neg c2,if_neg k1,if_pos k2,hx,HY3.out])
  clear hx hz HER r7 s0 s1 s3 r2
  by_cases c3 : 15 + x = 21
  ·have d3 : ((15 : Int) + (x : Int) == 21) = true:=by simp; omega
   have HF : Hid (er = 225):=Lib.hid (by rw [HD.out,if_pos c3])
   go_wp2
   go_ret
   exact ⟨ret_int HF.out.symm,HB0.out⟩
  ·have d3 : ((15 : Int) + (x : Int) == 21) = false:=by simp; omega
   have HF : Hid (er = 100 * (1 + (y3 : Int)) + (15 + (x : Int))):=Lib.hid (by rw [HD.out,if_neg c3]; omega)
   go_wp2
   go_ret
   exact ⟨ret_int HF.out.symm,HB0.out⟩
 have e2 : (r.kind == 2) = false:=by simpa using k2
 by_cases k3 : r.kind = 3
 ·have e3 : (r.kind == 3) = true:=by rw [k3]; rfl
  have HD : Hid (er = ((100 * (1 + y3) + min 20 (g.round + 1) : Nat) : Int)):=Lib.hid (by rw [← HER.out]; unfold dartS; rw [if_neg c1,if_neg c2,if_neg k1,if_neg k2,if_pos k3,HY3.out])
  obtain ⟨rd,hrdd⟩ : ∃ rd,g.round = rd:=⟨_,rfl⟩
  rw [hrdd] at HD hrd s0
  obtain ⟨mn,hmn⟩ : ∃ mn,min (20 : Int) ((rd : Int) + 1) = mn:=⟨_,rfl⟩
  have hmb : 0 ≤ mn ∧ mn ≤ 20:=by omega
  have z1 : IntKind.i64.wrap ((rd : Int) + 1) = (rd : Int) + 1:=wrap_small _ (by omega) (by omega)
  have HF : Hid (er = 100 * (1 + (y3 : Int)) + mn):=Lib.hid (by rw [HD.out,← hmn]; omega)
  clear HER r7 s1 s3 r2 hrdd HD
  go_wp2
  go_ret
  exact ⟨ret_int HF.out.symm,HB0.out⟩
 have e3 : (r.kind == 3) = false:=by simpa using k3
 have k4 : r.kind = 4:=by rcases HK.out with h | h | h | h <;> first | exact h | contradiction
 have h4:=ok4 HL.out.ok k4
 have hnl : r.nums.length = nl:=by obtain ⟨_,_,e,_⟩ := HS.out.form; rw [ints_length] at e; cases e; rfl
 have hnp : 2 ≤ nl ∧ nl ≤ 8:=by have:=h4.2.2.1; have:=h4.2.2.2.2.2.2.2.2.2.2; omega
 obtain ⟨z,hz⟩ : ∃ z,y / 3 = z:=⟨_,rfl⟩
 have hzb : z ≤ 85:=by omega
 obtain ⟨x,hx⟩ : ∃ x,z % nl = x:=⟨_,rfl⟩
 have hxb : x < nl:=by rw [← hx]; exact Nat.mod_lt _ (by omega)
 have t1 : (y : Int).tdiv 3 = (z : Int):=by have:=tdiv_nat y 3; rw [hz] at this; simpa using this
 have t2 : (z : Int).tmod (nl : Int) = (x : Int):=by rw [tmod_nat,hx]
 have hxl : x < r.nums.length:=by rw [hnl]; exact hxb
 obtain ⟨b,off,hal,_,hc⟩ := HS.out.cell hxl
 subst hal
 have hmb:=h4.1 _ (List.getElem_mem hxl)
 have HD : Hid (er = 200 + r.nums[x]):=Lib.hid (by rw [← HER.out]; unfold dartS; rw [if_neg c1,if_neg c2,if_neg k1,if_neg k2,if_neg k3,hnl,hz,hx,getD_of hxl])
 obtain ⟨m,hm⟩ : ∃ m,r.nums[x] = m:=⟨_,rfl⟩
 rw [hm] at hc hmb HD
 have hn0 : ¬ nl = 0:=by omega
 have z1 : IntKind.i64.wrap (y : Int) = (y : Int):=wrap_small _ (by omega) (by omega)
 have z2 : IntKind.i64.wrap (z : Int) = (z : Int):=wrap_small _ (by omega) (by omega)
 have z3 : IntKind.i64.wrap (x : Int) = (x : Int):=wrap_small _ (by omega) (by omega)
 clear HER s0 s1 s3 r2 hz hx h4 hm hnl hxl
 go_wp2
 refine wp_region_seq 13 [.is (.pointer (some ⟨q,7,none⟩)),.is (.slice (some ⟨b,off,none⟩) nl nc),.is (.int .u8 y),.is (.int .i64 y),.is (.int .i64 z),.is (.pointer (some ⟨q,7,none⟩)),.is (.slice (some ⟨b,off,none⟩) nl nc),.is (.int .i64 nl),.is (.int .i64 x),.is (.pointer (some ⟨b,off + x,none⟩)),.is (.int .i64 m),.is (.int .i64 2),.is (.int .i64 m)] rfl mix (by kernel_rfl) (by kernel_rfl) ?seqm
 case seqm =>
  simp only [List.take_succ_cons,List.take_zero]
  iterate 13
   refine seq_on (by rfl) (fun w3 hb3 _ => ?_) ?_
   ·have ha:=bAt hb3 r7
    have hx:=bAt hb3 hc
    simp [opOK,go_sem,ha,hx,t1,t2,z1,z2,hn0,hxb,Below.refl]
    try exact rfl
   simp only [Act.put,List.setIfInBounds_toArray,List.set_cons_succ,List.set_cons_zero]
  refine seq_end fun w3 hb3 _ => ?_
  simp only [List.drop_succ_cons,List.drop_zero]
  have HB3:=Lib.hid (bThen HB0.out hb3)
  clear hb3 r7 hc
  go_wp2
  go_ret
  exact ⟨ret_int (by rw [HD.out]),HB3.out⟩
end Go.Proofs.YtnhggfnnolfcdaaGreat

/- The law of a drawn region (Free) once more: what holds at every moment may speak of the values together. -/
namespace Go.Oche
open Go Go.RowKit
def updV (vs : Nat → Value) (i : Nat) (v : Value) : Nat → Value:=fun j => if j = i then v else vs j
section
variable (P : Program) (ops : Array Oper) (J : (Nat → Bool) → (Nat → Value) → World → Prop) (a₀ : Act)
def VVC (i : Nat) (o : Oper) : Prop :=
 ∀ (a : Act) (w : World) (L : Nat → Bool) (vs : Nat → Value),L i = false → J L vs w →
  (∀ e ∈ o.after.toList,Region.binds .any e = true → ∃ oj,ops[e.on]? = some oj ∧ L e.on = true ∧ ∀ d,oj.dst = some d → a.tmps[d]? = some (vs e.on)) →
  (∀ t : Nat,(ops.toList.all fun oj => oj.dst != some t || oj.after.toList.any fun e => Region.binds .any e && e.on == i) = true → a.tmps[t]? = a₀.tmps[t]?) →
  if Region.wanted o (yielded ops a.tmps) then opOK P o a w (fun v w' => J (setB L i) (updV vs i v) w') else J (setB L i) (updV vs i undef) w
def VAll : List Oper → Nat → Prop
 | [],_ => True
 | o :: l,i => VVC P ops J a₀ i o ∧ VAll l (i + 1)
end
structure VInv (ops : Array Oper) (J : (Nat → Bool) → (Nat → Value) → World → Prop) (a₀ : Act) (vs : Nat → Value) (listed : Array Bool) (a : Act) (w : World) : Prop where
 inv : J (fun j => listed.getD j false) vs w
 vals : ∀ j o,ops[j]? = some o → listed.getD j false = true → ∀ d,o.dst = some d → a.tmps[d]? = some (vs j)
 rest : ∀ t,(∀ j o,ops[j]? = some o → listed.getD j false = true → o.dst ≠ some t) → a.tmps[t]? = a₀.tmps[t]?
 size : a.tmps.size = a₀.tmps.size
 defers : a.defers = a₀.defers
theorem vAll_at {P : Program} {ops : Array Oper} {J : (Nat → Bool) → (Nat → Value) → World → Prop} {a₀ : Act} : ∀ {l : List Oper} {i j : Nat} {o : Oper},
  VAll P ops J a₀ l i → l[j]? = some o → VVC P ops J a₀ (i + j) o
 | [],_,_,_,_,h => by simp at h
 | o' :: l,i,0,o,h,hj => by simp at hj; subst hj; exact h.1
 | o' :: l,i,j + 1,o,h,hj => by
  have:=vAll_at h.2 (j:=j) (o:=o) (by simpa using hj)
  rwa [show i + 1 + j = i + (j + 1) by omega] at this
section law
variable {P : Program} {ops : Array Oper} {J : (Nat → Bool) → (Nat → Value) → World → Prop} {a₀ : Act} {Q : Exit → Act → World → Prop} {n : Nat}

theorem v_head (hB : freeB ops n a₀.tmps.size = true) (hv : VAll P ops J a₀ (ops.toList.take n) 0)
  (he : ∀ vs w,J (fun j => decide (j < n)) vs w → wpList P ops Q (ops.toList.drop n) (putAll vs (ops.toList.take n) 0 a₀) w) :
  ∀ (f : Nat) (vs : Nat → Value) (listed : Array Bool) (a : Act) (w : World),left n listed ≤ f → HeadInv .any ops n listed → VInv ops J a₀ vs listed a w → wpAny P .any ops Q (f + (ops.size - n)) listed a w:=by
 simp only [freeB,Bool.and_eq_true,Bool.or_eq_true,beq_iff_eq,decide_eq_true_eq] at hB
 obtain ⟨⟨⟨⟨⟨hn,hback⟩,hdist⟩,hin⟩,htail⟩,hseq⟩ := hB
 have hin' : ∀ j o d,ops[j]? = some o → j < n → o.dst = some d → d < a₀.tmps.size:=fun j o d ho hj hd => by
  have hmem : o ∈ ops.toList.take n:=List.mem_of_getElem? (i:=j) (by rw [List.getElem?_take,if_pos hj]; simpa using ho)
  have:=List.all_eq_true.1 hin o hmem
  rw [hd] at this
  simpa using this
 have hld : ∀ j o,ops[j]? = some o → j < n → (ops.toList.take n)[j]? = some o:=fun j o ho hj => by rw [List.getElem?_take,if_pos hj]; simpa using ho
 intro f
 induction f with
 | zero =>
  intro vs listed a w hl inv fi
  have hall:=left_zero (Nat.le_zero.1 hl)
  have harr : listed = headArr n ops.size:=by
   refine Array.ext (by simp [inv.size,headArr]; omega) fun j h1 h2 => ?_
   by_cases hj : j < n
   ·have:=hall j hj
    simp [h1] at this
    rw [this]
    simp only [headArr]
    rw [Array.getElem_append_left (by simpa using hj)]
    simp
   ·have:=inv.tail j (by omega) (by rw [inv.size] at h1; exact h1)
    simp [h1] at this
    rw [this]
    simp only [headArr]
    rw [Array.getElem_append_right (by simpa using hj)]
    simp
  have hnl : ∀ j o,ops[j]? = some o → listed.getD j false = true → j < n:=fun j o ho hl => by
   rcases Nat.lt_or_ge j n with h | h
   ·exact h
   ·have:=inv.tail j h (Array.getElem?_eq_some_iff.1 ho).1
    rw [getD_both this] at hl; cases hl
  have hK:=he vs w (by have h1:=fi.inv; rwa [show (fun j => listed.getD j false) = (fun j => decide (j < n)) from funext fun j => by
   by_cases hj : j < n
   ·rw [hall j hj]; simp [hj]
   ·have : listed.getD j false = false:=by
     rcases Nat.lt_or_ge j ops.size with h | h
     ·exact getD_both (inv.tail j (by omega) h)
     ·simp [Array.getElem?_eq_none (show listed.size ≤ j by rw [inv.size]; exact h)]
    rw [this]; simp [hj]] at h1)
  have ha : a = putAll vs (ops.toList.take n) 0 a₀ := by
   refine act_ext (fun t => ?_) (by rw [putAll_defers]; exact fi.defers)
   by_cases ht : ∃ j o,ops[j]? = some o ∧ j < n ∧ o.dst = some t
   ·obtain ⟨j,o,ho,hj,hd⟩ := ht
    rw [fi.vals j o ho (hall j hj) t hd,putAll_some vs t _ 0 a₀ j o hdist (hld j o ho hj) hd (hin' j o t ho hj hd)]
    simp
   ·rw [fi.rest t (fun j o ho hl hd => ht ⟨j,o,ho,hnl j o ho hl,hd⟩),putAll_none]
    intro o ho hd
    obtain ⟨j,hj⟩ := List.getElem?_of_mem ho
    rw [List.getElem?_take] at hj
    split at hj
    ·exact ht ⟨j,o,by simpa using hj,by assumption,hd⟩
    ·cases hj
  rw [← ha] at hK
  rw [Nat.zero_add]
  have hlen : (ops.toList.drop n).length = ops.size - n:=by simp
  have:=wpAny_of_seq (P:=P) (md:=.any) (Q':=Q) (ops.toList.drop n) n listed a w (fun j => by simp [List.getElem?_drop]) (by rw [hlen,harr]; exact hseq) hK
  rwa [hlen] at this
 | succ f ih =>
  intro vs listed a w hl inv fi
  by_cases h0 : left n listed = 0
  ·have:=ih vs listed a w (by omega) inv fi
   rw [show f + 1 + (ops.size - n) = f + (ops.size - n) + 1 by omega]
   exact wpAny_more _ _ _ _ this
  ·obtain ⟨j₀,hj₀,hun₀,hbefore⟩ := exists_unlisted h0
   have hj₀s : j₀ < ops.size:=by omega
   rw [show f + 1 + (ops.size - n) = f + (ops.size - n) + 1 by omega]
   refine ⟨fun hr => ?_,fun i hi => ?_⟩
   ·exfalso
    have : j₀ ∈ Region.ready .any ops listed:=mem_ready.2 ⟨getD_in (by rw [inv.size]; omega) hun₀,ops[j₀],by simp [hj₀s],fun e he hb => by
     have h1:=List.all_eq_true.1 hback (ops[j₀],j₀) (List.mem_iff_getElem?.2 ⟨j₀,by simp [hj₀s]⟩)
     have h2:=List.all_eq_true.1 h1 e (by simpa using he)
     simp only [hb,Bool.not_true,Bool.false_or,decide_eq_true_eq] at h2
     exact hbefore _ h2⟩
    rw [hr] at this; cases this
   ·have hin0 : i < n:=by
     rcases Nat.lt_or_ge i n with h | h
     ·exact h
     ·exfalso
      rcases htail with h1 | ⟨⟨h1,h2⟩,h3⟩
      ·obtain ⟨_,oi,hoi,_⟩ := mem_ready.1 hi
       have:=(Array.getElem?_eq_some_iff.1 hoi).1
       omega
      ·exact tail_waits h2 h3 h1 inv (n - j₀) j₀ rfl hj₀ (getD_in (by rw [inv.size]; omega) hun₀) i h hi
    obtain ⟨hiun,oi,hoi,hready⟩ := mem_ready.1 hi
    have his : i < ops.size:=(Array.getElem?_eq_some_iff.1 hoi).1
    have hvc:=vAll_at hv (hld i oi hoi hin0)
    rw [Nat.zero_add] at hvc
    have hvc:=hvc a w (fun j => listed.getD j false) vs (getD_both hiun) fi.inv (fun e he hb => by
      have hl':=hready e (by simpa using he) hb
      have hes : e.on < ops.size:=by
       have : e.on < listed.size:=by
        rcases Nat.lt_or_ge e.on listed.size with h | h
        ·exact h
        ·rw [show listed.getD e.on false = false from by simp [Array.getElem?_eq_none h]] at hl'; cases hl'
       rw [inv.size] at this; exact this
      have:=fi.vals e.on ops[e.on] (by simp [hes]) hl'
      exact ⟨ops[e.on],by simp [hes],hl',this⟩)
     (fun t ht => fi.rest t fun j o ho hlj => by
      have h1:=List.all_eq_true.1 ht o (by simpa using Array.mem_of_getElem? ho)
      simp only [Bool.or_eq_true,List.any_eq_true,Bool.and_eq_true,beq_iff_eq] at h1
      rcases h1 with h1 | ⟨e,he,hb,hei⟩
      ·simpa using h1
      ·exfalso
       have h2:=inv.closed j o ho hlj e (by simpa using he) hb
       rw [hei,getD_both hiun] at h2
       cases h2)
    have hset : (fun j => (listed.setIfInBounds i true).getD j false) = setB (fun j => listed.getD j false) i:=funext fun j => by
     unfold setB
     by_cases hji : j = i
     ·subst hji; simp [inv.size,his]
     ·rw [if_neg hji,getD_set_ne false (Ne.symm hji)]
    have next : ∀ v w',J (setB (fun j => listed.getD j false) i) (updV vs i v) w' → wpAny P .any ops Q (f + (ops.size - n)) (listed.setIfInBounds i true) (a.put oi.dst v) w':=fun v w' hj' => by
     refine ih (updV vs i v) _ _ _ (by have:=left_set hin0 (by rw [inv.size]; exact his) hiun; omega) (inv.set hi hin0) ⟨?_, ?_, ?_, ?_, ?_⟩
     ·rw [hset]; exact hj'
     ·intro j o ho hl' d hd
      by_cases hji : j = i
      ·subst hji
       have : o = oi:=Option.some.inj (ho.symm.trans hoi)
       subst this
       rw [put_at,if_pos ⟨hd,by rw [fi.size]; exact hin' _ _ _ ho hin0 hd⟩]; simp [updV]
      ·rw [getD_set_ne false (Ne.symm hji)] at hl'
       have hjn : j < n:=by
        rcases Nat.lt_or_ge j n with h | h
        ·exact h
        ·have:=inv.tail j h (Array.getElem?_eq_some_iff.1 ho).1
         rw [getD_both this] at hl'; cases hl'
       rw [put_at,if_neg (fun h' => distB_ne hdist (hld j o ho hjn) (hld i oi hoi hin0) hji hd h'.1)]
       simpa [updV,hji] using fi.vals j o ho hl' d hd
     ·intro t ht
      have h1 : oi.dst ≠ some t:=ht i oi hoi (by simp [inv.size,his])
      rw [put_at,if_neg (fun h' => h1 h'.1)]
      refine fi.rest t fun j o ho hl' => ht j o ho ?_
      exact getD_set_true hl'
     ·rw [put_size]; exact fi.size
     ·rw [put_defers]; exact fi.defers
    unfold wpOp
    simp only [hoi]
    split
    ·rename_i hwd
     rw [if_pos hwd] at hvc
     exact .inl (wp_of_opOK hvc fun v w' hj' => next v w' hj')
    ·rename_i hwd
     rw [if_neg hwd] at hvc
     exact next _ _ hvc

theorem wp_region_v {id : Nat} {l : List Oper} {a : Act} {w : World} (n : Nat) (J : (Nat → Bool) → (Nat → Value) → World → Prop) (hmix : P.follows .mixedOrders = true) (hB : freeB l.toArray n a.tmps.size = true)
  (hJ : ∀ vs,J (fun _ => false) vs w.drew) (hv : VAll P l.toArray J a (l.take n) 0)
  (he : ∀ vs w',J (fun j => decide (j < n)) vs w' → wpList P l.toArray Q (l.drop n) (putAll vs (l.take n) 0 a) w') : (Code.region id l.toArray true).wp P Q a w:=by
 refine wp_region_any hmix ?_
 have:=v_head (Q:=Q) (a₀ := a) hB hv he n (fun _ => undef) (Array.replicate l.toArray.size false) a w.drew (by
   unfold left; exact Nat.le_trans List.countP_le_length (by simp))
  ⟨by simp,fun j oj _ hl => (by rw [getD_replicate_false] at hl; cases hl),fun t _ ht => getD_in (by simpa using ht) (getD_replicate_false _ _)⟩
  ⟨by rw [show (fun j => (Array.replicate l.toArray.size false).getD j false) = (fun _ => false) from funext fun j => getD_replicate_false _ _]; exact hJ _,fun j o _ hl => (by rw [getD_replicate_false] at hl; cases hl),fun _ _ => rfl,rfl,rfl⟩
 have hn : n ≤ l.toArray.size:=by simp only [freeB,Bool.and_eq_true,decide_eq_true_eq] at hB; exact hB.1.1.1.1.1
 rw [show n + (l.toArray.size - n) = l.toArray.size by omega] at this
 exact this
end law
end Go.Oche

/- A region whose order is drawn, walked in the text's order, where what holds may speak of the values together. -/
namespace Go.Oche
open Go Go.RowKit
def jShape (J : (Nat → Bool) → (Nat → Value) → World → Prop) (ss : List (Value → Prop)) : (Nat → Bool) → (Nat → Value) → World → Prop :=
 fun L vs w => J L vs w ∧ ∀ j s,ss[j]? = some s → L j = true → s (vs j)
def SeqVCd (P : Program) (ops : Array Oper) (J : (Nat → Bool) → (Nat → Value) → World → Prop) (s : Value → Prop) (o : Oper) (a : Act) (vals : List Value) : Prop :=
 ∀ w L vs,(∀ j u,vals[j]? = some u → vs j = u) → L vals.length = false → J L vs w → (∀ e ∈ o.after.toList,Region.binds .any e = true → L e.on = true) →
  if guardOn ops o a then opOK P o a w (fun v w' => s v ∧ J (setB L vals.length) (updV vs vals.length v) w') else s undef ∧ J (setB L vals.length) (updV vs vals.length undef) w
def SeqVAll (P : Program) (ops : Array Oper) (J : (Nat → Bool) → (Nat → Value) → World → Prop) (K : Act → List Value → Prop) : List (Value → Prop) → List Oper → Act → List Value → Prop
 | _,[],a,vals => K a vals
 | [],_ :: _,_,_ => False
 | s :: ss,o :: l,a,vals => (∃ v,s v) ∧ SeqVCd P ops J s o a vals ∧ ∀ v,s v → SeqVAll P ops J K ss l (a.put o.dst v) (vals ++ [v])
section
variable {P : Program} {ops : Array Oper} {J : (Nat → Bool) → (Nat → Value) → World → Prop} {K : Act → List Value → Prop}
theorem seqV_has : ∀ {ss : List (Value → Prop)} {l : List Oper} {a : Act} {vals : List Value},SeqVAll P ops J K ss l a vals → (∀ m s,m < 0 → ss[m]? = some s → ∃ s',ss[m]? = some s') → ∀ j,j < l.length → ∃ s v,ss[j]? = some s ∧ s v
 | [],_ :: _,_,_,h,_,_,_ => h.elim
 | _,[],_,_,_,_,j,hj => by simp at hj
 | s :: ss,o :: l,a,vals,h,_,0,_ => let ⟨v,hv⟩ := h.1; ⟨s,v,rfl,hv⟩
 | s :: ss,o :: l,a,vals,h,_,j + 1,hj => by
  obtain ⟨v,hv⟩ := h.1
  obtain ⟨s',v',e,h'⟩ := seqV_has (h.2.2 v hv) (fun m s hm _ => by omega) j (by simp at hj; omega)
  exact ⟨s',v',by simpa using e,h'⟩
theorem seqV_at : ∀ {ss : List (Value → Prop)} {l : List Oper} {a : Act} {vals : List Value} (vs : Nat → Value),SeqVAll P ops J K ss l a vals → ∀ j,j < l.length → (∀ m s,m < j → ss[m]? = some s → s (vs (vals.length + m))) →
  ∃ s o,ss[j]? = some s ∧ l[j]? = some o ∧ (∃ v,s v) ∧ SeqVCd P ops J s o (putAll vs (l.take j) vals.length a) (vals ++ (List.range j).map fun m => vs (vals.length + m))
 | [],_ :: _,_,_,_,h,_,_,_ => h.elim
 | _,[],_,_,_,_,j,hj,_ => by simp at hj
 | s :: ss,o :: l,a,vals,vs,h,0,_,_ => ⟨s,o,rfl,rfl,h.1,by simpa [putAll] using h.2.1⟩
 | s :: ss,o :: l,a,vals,vs,h,j + 1,hj,hs => by
  have h0 : s (vs vals.length):=by simpa using hs 0 s (by omega) rfl
  obtain ⟨s',o',e1,e2,e3,e4⟩ := seqV_at vs (h.2.2 _ h0) j (by simp at hj; omega) (fun m s hm hk => by
   have:=hs (m + 1) s (by omega) (by simpa using hk)
   rw [List.length_append,List.length_cons,List.length_nil]
   rwa [show vals.length + (m + 1) = vals.length + (0 + 1) + m by omega] at this)
  refine ⟨s',o',by simpa using e1,by simpa using e2,e3, ?_⟩
  have ev : vals ++ [vs vals.length] ++ (List.range j).map (fun m => vs ((vals ++ [vs vals.length]).length + m)) = vals ++ (List.range (j + 1)).map fun m => vs (vals.length + m):=by
   rw [List.append_assoc,List.range_succ_eq_map,List.map_cons,List.map_map]
   simp only [List.length_append,List.length_cons,List.length_nil,List.singleton_append,Nat.add_zero]
   congr 2
   refine List.map_congr_left fun m _ => ?_
   simp only [Function.comp_apply]
   congr 1; omega
  rw [ev] at e4
  rw [List.length_append,List.length_cons,List.length_nil,Nat.zero_add] at e4
  exact e4
theorem seqV_end : ∀ {ss : List (Value → Prop)} {l : List Oper} {a : Act} {vals : List Value} (vs : Nat → Value),SeqVAll P ops J K ss l a vals → (∀ m s,m < l.length → ss[m]? = some s → s (vs (vals.length + m))) →
  K (putAll vs l vals.length a) (vals ++ (List.range l.length).map fun m => vs (vals.length + m))
 | [],[],_,_,_,h,_ => by simpa [putAll,SeqVAll] using h
 | _ :: _,[],_,_,_,h,_ => by simpa [putAll,SeqVAll] using h
 | [],_ :: _,_,_,_,h,_ => h.elim
 | s :: ss,o :: l,a,vals,vs,h,hs => by
  have h0 : s (vs vals.length):=by simpa using hs 0 s (by simp) rfl
  have:=seqV_end vs (h.2.2 _ h0) (fun m s hm hk => by
   have:=hs (m + 1) s (by simp; omega) (by simpa using hk)
   rw [List.length_append,List.length_cons,List.length_nil]
   rwa [show vals.length + (m + 1) = vals.length + (0 + 1) + m by omega] at this)
  have ev : vals ++ [vs vals.length] ++ (List.range l.length).map (fun m => vs ((vals ++ [vs vals.length]).length + m)) = vals ++ (List.range (l.length + 1)).map fun m => vs (vals.length + m):=by
   rw [List.append_assoc,List.range_succ_eq_map,List.map_cons,List.map_map]
   simp only [List.length_append,List.length_cons,List.length_nil,List.singleton_append,Nat.add_zero]
   congr 2
   refine List.map_congr_left fun m _ => ?_
   simp only [Function.comp_apply]
   congr 1; omega
  rw [ev] at this
  rw [List.length_append,List.length_cons,List.length_nil,Nat.zero_add] at this
  rw [List.length_cons]
  exact this
theorem seqV_free {n : Nat} {a₀ : Act} {ss : List (Value → Prop)} (hB : freeB ops n a₀.tmps.size = true) (hR : readsB ops n = true) (_hlk : ss.length = n) (hc : ∀ L vs vs' w,(∀ j,L j = true → vs j = vs' j) → J L vs w → J L vs' w)
  (h : SeqVAll P ops J K ss (ops.toList.take n) a₀ []) :
  VAll P ops (jShape J ss) a₀ (ops.toList.take n) 0:=by
 simp only [freeB,Bool.and_eq_true,Bool.or_eq_true,beq_iff_eq,decide_eq_true_eq] at hB
 obtain ⟨⟨⟨⟨⟨hn,hback⟩,hdist⟩,hin⟩, -⟩, -⟩ := hB
 have hlen : (ops.toList.take n).length = n:=by simp; omega
 have key : ∀ i o,(ops.toList.take n)[i]? = some o → VVC P ops (jShape J ss) a₀ i o:=by
  intro i o ho
  have hi : i < n:=by have:=(List.getElem?_eq_some_iff.1 ho).1; omega
  have hoi : ops[i]? = some o:=by rw [List.getElem?_take,if_pos hi] at ho; simpa using ho
  intro a w L vs₀ hL0 hb hp ht
  classical
  obtain ⟨vs,hvL,hvs⟩ : ∃ vs : Nat → Value,(∀ j,L j = true → vs₀ j = vs j) ∧ ∀ j s,j < n → ss[j]? = some s → s (vs j):=by
   refine ⟨fun j => if L j = true then vs₀ j else if hj2 : ∃ v, ∃ s,ss[j]? = some s ∧ s v then Classical.choose hj2 else undef,fun j hj => by simp [hj],fun j s hj hs => ?_⟩
   by_cases hL : L j = true
   ·simp only [hL,if_true]; exact hb.2 j s hs hL
   ·simp only [hL]
    obtain ⟨s',v',hs',hv'⟩ := seqV_has h (fun m s _ hs => ⟨_,hs⟩) j (by omega)
    have hj2 : ∃ v, ∃ s,ss[j]? = some s ∧ s v:=⟨v',s',hs',hv'⟩
    rw [if_neg (by decide),dif_pos hj2]
    obtain ⟨k2,hk2,hs2⟩ := Classical.choose_spec hj2
    rw [hs] at hk2
    cases hk2
    exact hs2
  obtain ⟨s,o',e1,e2,_,hop⟩ := seqV_at vs h i (by omega) (fun m s hm hs => by simpa using hvs m s (by omega) hs)
  rw [ho] at e2
  cases e2
  have hlt : ∀ e ∈ o.after.toList,Region.binds .any e = true → e.on < i:=fun e he hbe => by
   have h1:=List.all_eq_true.1 hback (o,i) (List.mem_iff_getElem?.2 ⟨i,by simp only [List.getElem?_zipIdx,Array.getElem?_toList,hoi,Option.map_some,Nat.zero_add]⟩)
   have h2:=List.all_eq_true.1 h1 e (by simpa using he)
   simpa [hbe] using h2
  have hdep : ∀ e ∈ o.after.toList,Region.binds .any e = true → L e.on = true ∧ ∀ oj d,ops[e.on]? = some oj → oj.dst = some d → a.tmps[d]? = some (vs e.on):=fun e he hbe => by
   obtain ⟨oj,h1,h2,h3⟩ := hp e he hbe
   refine ⟨h2,fun oj' d hoj hd => ?_⟩
   rw [h1] at hoj
   cases hoj
   rw [← hvL _ h2]
   exact h3 d hd
  unfold SeqVCd at hop
  simp only [List.length_nil,Nat.zero_add,List.nil_append,List.length_map,List.length_range] at hop
  have hop:=hop w L vs (fun j u hj => by
   rw [List.getElem?_map,Option.map_eq_some_iff] at hj
   obtain ⟨q,hq,rfl⟩ := hj
   have:=List.getElem?_eq_some_iff.1 hq
   obtain ⟨hq1,hq2⟩ := this
   simp at hq2
   rw [hq2]) hL0 (hc L vs₀ vs w hvL hb.1) (fun e he hbe => (hdep e he hbe).1)
  have hread : ((match o.op with | .select _ _ => false | _ => true) = true) ∧ ∀ t ∈ o.looksAt ops,(∃ e ∈ o.after.toList,Region.binds .any e = true ∧ (ops[e.on]?).bind (·.dst) = some t) ∨
    (ops.toList.all fun oj => oj.dst != some t || oj.after.toList.any fun e => Region.binds .any e && e.on == i) = true:=by
   have h1:=List.all_eq_true.1 hR (o,i) (List.mem_iff_getElem?.2 ⟨i,by rw [List.getElem?_zipIdx,ho]; simp⟩)
   simp only [Bool.and_eq_true] at h1
   refine ⟨h1.1,fun t ht => ?_⟩
   have h2:=List.all_eq_true.1 h1.2 t ht
   simp only [Bool.or_eq_true] at h2
   rcases h2 with h2 | h2
   ·left
    obtain ⟨e,he,h3⟩ := List.any_eq_true.1 h2
    simp only [Bool.and_eq_true,beq_iff_eq] at h3
    exact ⟨e,he,h3.1,h3.2⟩
   ·exact .inr h2
  have hsel : ∀ cs b,o.op ≠ .select cs b:=fun cs b hc => by have:=hread.1; rw [hc] at this; cases this
  have hsz : ∀ d oj j,ops[j]? = some oj → j < n → oj.dst = some d → d < a₀.tmps.size:=fun d oj j hj hjn hd => by
   have hmem : oj ∈ ops.toList.take n:=List.mem_of_getElem? (i:=j) (by rw [List.getElem?_take,if_pos hjn]; simpa using hj)
   have:=List.all_eq_true.1 hin oj hmem
   rw [hd] at this
   simpa using this
  have hdval : ∀ e ∈ o.after.toList,Region.binds .any e = true → ∀ oj d,ops[e.on]? = some oj → oj.dst = some d → (putAll vs ((ops.toList.take n).take i) 0 a₀).tmps[d]? = some (vs e.on):=by
   intro e he hbe oj t hoj hdj
   have hei:=hlt e he hbe
   have hd2 : distB ((ops.toList.take n).take i) = true:=by
    have : ∀ (l : List Oper) (m : Nat),distB l = true → distB (l.take m) = true:=by
     intro l
     induction l with
     | nil => intro m _; simp [distB]
     | cons x l ih =>
      intro m hx
      cases m with
      | zero => rfl
      | succ m =>
       simp only [distB,Bool.and_eq_true,List.take_succ_cons] at hx ⊢
       refine ⟨?_,ih m hx.2⟩
       cases hxd : x.dst with
       | none => rfl
       | some d =>
        have h1:=hx.1
        rw [hxd] at h1
        exact List.all_eq_true.2 fun y hy => List.all_eq_true.1 h1 y (List.mem_of_mem_take hy)
    exact this _ _ hdist
   have:=putAll_some vs t ((ops.toList.take n).take i) 0 a₀ e.on oj hd2 (by rw [List.getElem?_take,if_pos hei,List.getElem?_take,if_pos (by omega)]; simpa using hoj) hdj (hsz t oj e.on hoj (by omega) hdj)
   rw [this,Nat.zero_add]
  have heq : ∀ t ∈ o.looksAt ops,a.tmps[t]? = (putAll vs ((ops.toList.take n).take i) 0 a₀).tmps[t]? := by
   intro t hmem
   rcases hread.2 t hmem with ⟨e,he,hbe,hd⟩ | hall
   ·obtain ⟨oj,hoj,hdj⟩ := Option.bind_eq_some_iff.1 hd
    rw [(hdep e he hbe).2 oj t hoj hdj,hdval e he hbe oj t hoj hdj]
   ·rw [ht t hall,putAll_none]
    intro oj hoj hd
    obtain ⟨j,hj⟩ := List.getElem?_of_mem hoj
    rw [List.getElem?_take] at hj
    split at hj
    ·rename_i hji
     rw [List.getElem?_take,if_pos (by omega)] at hj
     have hj' : ops[j]? = some oj:=by simpa using hj
     have h1:=List.all_eq_true.1 hall oj (by simpa using Array.mem_of_getElem? hj')
     simp only [Bool.or_eq_true,List.any_eq_true,Bool.and_eq_true,beq_iff_eq,bne_iff_ne,ne_eq] at h1
     rcases h1 with h1 | ⟨e,he,hbe,hei⟩
     ·exact h1 hd
     ·have h2:=List.all_eq_true.1 hback (oj,j) (List.mem_iff_getElem?.2 ⟨j,by simp only [List.getElem?_zipIdx,Array.getElem?_toList,hj',Option.map_some,Nat.zero_add]⟩)
      have h3:=List.all_eq_true.1 h2 e (by simpa using he)
      simp only [hbe,Bool.not_true,Bool.false_or,decide_eq_true_eq] at h3
      omega
    ·cases hj
  have hev : execOp a.eval o = execOp (putAll vs ((ops.toList.take n).take i) 0 a₀).eval o:=execOp_congr o hsel fun x hx => by
   cases x with
   | tmp t =>
    have:=heq t (List.mem_append_left _ (List.mem_filterMap.2 ⟨.tmp t,by simpa using hx,rfl⟩))
    simp only [Act.eval,Array.getD_eq_getD_getElem?,this]
   | const v => rfl
   | global g => rfl
   | func f => rfl
  have hgd : Region.wanted o (yielded ops a.tmps) = guardOn ops o (putAll vs ((ops.toList.take n).take i) 0 a₀):=by
   unfold guardOn Region.wanted
   cases hg : o.guard with
   | none => rfl
   | some jb =>
    obtain ⟨j,b⟩ := jb
    have : yielded ops a.tmps j = yielded ops (putAll vs ((ops.toList.take n).take i) 0 a₀).tmps j:=by
     unfold yielded
     cases hd : (ops[j]?).bind (·.dst) with
     | none => rfl
     | some t =>
      simp only [Option.bind_some]
      rw [heq t (List.mem_append_right _ (by rw [hg]; simp [hd]))]
    simp only [this]
  rw [hgd]
  have hok : ∀ R,opOK P o (putAll vs ((ops.toList.take n).take i) 0 a₀) w R → opOK P o a w R:=fun R hR => by
   unfold opOK at *
   rw [hev]; exact hR
  have hback2 : ∀ v w',s v → J (setB L i) (updV vs i v) w' → jShape J ss (setB L i) (updV vs₀ i v) w':=fun v w' h1 h2 => by
   refine ⟨hc _ _ _ _ (fun j hj => ?_) h2,fun j s' hs' hj => ?_⟩
   ·unfold updV
    split
    ·rfl
    ·rename_i hji
     have : L j = true:=by unfold setB at hj; rwa [if_neg hji] at hj
     exact (hvL j this).symm
   ·unfold updV
    split
    ·rename_i hji
     subst hji
     rw [e1] at hs'; cases hs'; exact h1
    ·rename_i hji
     have : L j = true:=by unfold setB at hj; rwa [if_neg hji] at hj
     exact hb.2 j s' hs' this
  split at hop
  ·rename_i hg
   rw [if_pos hg]
   exact hok _ (opOK_mono hop fun v w' ⟨h1,h2⟩ => hback2 v w' h1 h2)
  ·rename_i hg
   rw [if_neg hg]
   exact hback2 _ _ hop.1 hop.2
 have all : ∀ (l : List Oper) (i : Nat),(∀ j o,l[j]? = some o → VVC P ops (jShape J ss) a₀ (i + j) o) → VAll P ops (jShape J ss) a₀ l i:=by
  intro l
  induction l with
  | nil => intro i _; trivial
  | cons o l ih =>
   intro i hl
   refine ⟨by simpa using hl 0 o rfl,ih (i + 1) fun j o' hj => ?_⟩
   have:=hl (j + 1) o' (by simpa using hj)
   rwa [show i + (j + 1) = i + 1 + j by omega] at this
 exact all _ 0 fun j o ho => by rw [Nat.zero_add]; exact key j o ho
end
def seqVK (J : (Nat → Bool) → (Nat → Value) → World → Prop) (K : Act → World → Prop) (n : Nat) : Act → List Value → Prop:=fun a vals => ∀ vs w',(∀ j u,vals[j]? = some u → vs j = u) → J (fun j => decide (j < n)) vs w' → K a w'
section
variable {P : Program} {id : Nat} {l : List Oper} {a : Act} {w : World} {Q : Exit → Act → World → Prop}
theorem wp_region_seqV (n : Nat) (ss : List (Value → Prop)) (J : (Nat → Bool) → (Nat → Value) → World → Prop) (hlk : ss.length = n) (hmix : P.follows .mixedOrders = true) (hB : freeB l.toArray n a.tmps.size = true) (hR : readsB l.toArray n = true)
  (hc : ∀ L vs vs' w,(∀ j,L j = true → vs j = vs' j) → J L vs w → J L vs' w) (h0 : ∀ vs,J (fun _ => false) vs w.drew)
  (h : SeqVAll P l.toArray J (seqVK J (fun a w' => wpList P l.toArray Q (l.drop n) a w') n) ss (l.take n) a []) : (Code.region id l.toArray true).wp P Q a w:=by
 have hn : n ≤ l.length:=by simp only [freeB,Bool.and_eq_true,decide_eq_true_eq] at hB; simpa using hB.1.1.1.1.1
 have hlen : (l.take n).length = n:=by simp; omega
 refine wp_region_v n (jShape J ss) hmix hB (fun vs => ⟨h0 vs,fun j s _ hj => by cases hj⟩) (seqV_free (ops:=l.toArray) hB hR hlk hc (by simpa using h)) fun vs w' hJ => ?_
 have:=seqV_end vs h (fun m s hm hs => by
  simp only [List.length_nil,Nat.zero_add]
  exact hJ.2 m s hs (decide_eq_true (by omega)))
 simp only [List.length_nil,Nat.zero_add,List.nil_append] at this
 refine this vs w' (fun j u hj => ?_) hJ.1
 rw [List.getElem?_map,Option.map_eq_some_iff] at hj
 obtain ⟨q,hq,rfl⟩ := hj
 obtain ⟨hq1,hq2⟩ := List.getElem?_eq_some_iff.1 hq
 simp at hq2
 rw [hq2]
end
section
variable {P : Program} {ops : Array Oper} {J : (Nat → Bool) → (Nat → Value) → World → Prop} {K : Act → List Value → Prop} {ss : List (Value → Prop)} {o : Oper} {l : List Oper} {a : Act} {vals : List Value}
theorem sv_rd {c : Value} (hg : o.guard = none) (hJ : ∀ w L vs,J L vs w → J (setB L vals.length) (updV vs vals.length c) w)
  (h : ∀ w L vs,(∀ j u,vals[j]? = some u → vs j = u) → L vals.length = false → J L vs w → opOK P o a w (fun v w' => v = c ∧ w' = w))
  (hr : SeqVAll P ops J K ss l (a.put o.dst c) (vals ++ [c])) : SeqVAll P ops J K ((fun v => v = c) :: ss) (o :: l) a vals:=by
 refine ⟨⟨c,rfl⟩,fun w L vs hvs hL hj _ => ?_,fun v hv => by subst hv; exact hr⟩
 rw [if_pos (by simp [guardOn,Region.wanted,hg])]
 exact opOK_mono (h w L vs hvs hL hj) fun v w' ⟨h1,h2⟩ => by subst h1 h2; exact ⟨rfl,hJ _ L vs hj⟩
theorem sv_new {s : Value → Prop} (hs : ∃ v,s v) (hg : o.guard = none)
  (h : ∀ w L vs,(∀ j u,vals[j]? = some u → vs j = u) → L vals.length = false → J L vs w → (∀ e ∈ o.after.toList,Region.binds .any e = true → L e.on = true) → opOK P o a w (fun v w' => s v ∧ J (setB L vals.length) (updV vs vals.length v) w'))
  (hr : ∀ v,s v → SeqVAll P ops J K ss l (a.put o.dst v) (vals ++ [v])) : SeqVAll P ops J K (s :: ss) (o :: l) a vals:=by
 refine ⟨hs,fun w L vs hvs hL hj hd => ?_,hr⟩
 rw [if_pos (by simp [guardOn,Region.wanted,hg])]
 exact h w L vs hvs hL hj hd
theorem sv_end (h : K a vals) : SeqVAll P ops J K ss [] a vals:=by cases ss <;> exact h
end
end Go.Oche

/- A region that draws its order, with an append to each of two rows of one's own. -/
namespace Go.Oche
open Go Go.RowKit
structure JTwoA (w0 : World) (v1 v2 : Value) (i1 i2 : Nat) (L : Nat → Bool) (W : World) : Prop where
 os : W.os = w0.os
 tape : W.tape = w0.tape
 output : W.output = w0.output
 size : w0.heap.size ≤ W.heap.size
 block : ∀ k,k < w0.heap.size → (L i1 = false ∨ v1.ownBlock ≠ some k) → (L i2 = false ∨ v2.ownBlock ≠ some k) → W.heap[k]? = w0.heap[k]?
section
variable {w0 W W' : World} {v1 v2 : Value} {i1 i2 : Nat} {L : Nat → Bool}
theorem JTwoA.start : JTwoA w0 v1 v2 i1 i2 (fun _ => false) w0.drew:=⟨rfl,rfl,rfl,Nat.le_refl _,fun _ _ _ _ => rfl⟩
theorem setB_or {i j : Nat} (h : setB L i j = false) : L j = false:=by
 unfold setB at h
 split at h
 ·cases h
 ·exact h
theorem JTwoA.read (h : JTwoA w0 v1 v2 i1 i2 L W) {i : Nat} : JTwoA w0 v1 v2 i1 i2 (setB L i) W :=
 ⟨h.os,h.tape,h.output,h.size,fun k hk h1 h2 => h.block k hk (h1.imp setB_or id) (h2.imp setB_or id)⟩
theorem JTwoA.grow (h : JTwoA w0 v1 v2 i1 i2 L W) {i : Nat} (hb : Below W.heap.size W W') : JTwoA w0 v1 v2 i1 i2 (setB L i) W' :=
 ⟨hb.os.trans h.os,hb.tape.trans h.tape,hb.output.trans h.output,Nat.le_trans h.size hb.size,fun k hk h1 h2 => (hb.block k (Nat.lt_of_lt_of_le hk h.size)).trans (h.block k hk (h1.imp setB_or id) (h2.imp setB_or id))⟩
theorem JTwoA.app1 (h : JTwoA w0 v1 v2 i1 i2 L W) (hg : W.grownBy W' v1.ownBlock) : JTwoA w0 v1 v2 i1 i2 (setB L i1) W' :=
 ⟨hg.os.trans h.os,hg.tape.trans h.tape,hg.output.trans h.output,Nat.le_trans h.size hg.size,fun k hk h1 h2 => by
  rcases h1 with h1 | h1
  ·rw [setB_eq] at h1; cases h1
  ·exact (hg.block k (Nat.lt_of_lt_of_le hk h.size) (Ne.symm h1)).trans (h.block k hk (.inr h1) (h2.imp setB_or id))⟩
theorem JTwoA.app2 (h : JTwoA w0 v1 v2 i1 i2 L W) (hg : W.grownBy W' v2.ownBlock) : JTwoA w0 v1 v2 i1 i2 (setB L i2) W' :=
 ⟨hg.os.trans h.os,hg.tape.trans h.tape,hg.output.trans h.output,Nat.le_trans h.size hg.size,fun k hk h1 h2 => by
  rcases h2 with h2 | h2
  ·rw [setB_eq] at h2; cases h2
  ·exact (hg.block k (Nat.lt_of_lt_of_le hk h.size) (Ne.symm h2)).trans (h.block k hk (h1.imp setB_or id) (.inr h2))⟩
theorem JTwoA.heap (h : JTwoA w0 v1 v2 i1 i2 L W) {b : Nat} {o : Obj} (hb : w0.heap[b]? = some o) (h1 : v1.ownBlock ≠ some b) (h2 : v2.ownBlock ≠ some b) : W.heap[b]? = some o :=
 (h.block b (Array.getElem?_eq_some_iff.1 hb).1 (.inr h1) (.inr h2)).trans hb
theorem JTwoA.own1 (h : JTwoA w0 v1 v2 i1 i2 L W) {base n k : Nat} {e : TypeId} {xs : List Value} (ho : w0.ownsRow base e k v1 n xs) (hL : L i1 = false) (hne : v1.ownBlock = none ∨ v1.ownBlock ≠ v2.ownBlock) : W.ownsRow base e k v1 n xs :=
 ownsN_kept ho fun g hg => h.block g (ho.lt g hg).2 (.inl hL) (.inr fun e => by
  rcases hne with hn | hn
  ·rw [hg] at hn; cases hn
  ·exact hn (hg.trans e.symm))
end
structure JTwoV (w0 : World) (v1 v2 : Value) (l1 i1 l2 i2 : Nat) (base : Nat) (e1 e2 : TypeId) (n1 n2 : Nat) (xs1 xs2 : List Value) (u1 u2 : Value) (L : Nat → Bool) (vs : Nat → Value) (W : World) : Prop where
 b : JTwoA w0 v1 v2 i1 i2 L W
 lit1 : L l1 = true → ∃ q,vs l1 = .slice (some ⟨q,0,none⟩) 1 1 ∧ w0.heap.size ≤ q ∧ W.cell? ⟨q,0,none⟩ = some u1
 lit2 : L l2 = true → ∃ q,vs l2 = .slice (some ⟨q,0,none⟩) 1 1 ∧ w0.heap.size ≤ q ∧ W.cell? ⟨q,0,none⟩ = some u2
 row1 : L i1 = true → W.ownsRow base e1 1 (vs i1) (n1 + 1) (xs1 ++ [u1]) ∧ ((vs i1).ownBlock = v1.ownBlock ∨ ∃ g,(vs i1).ownBlock = some g ∧ w0.heap.size ≤ g)
 row2 : L i2 = true → W.ownsRow base e2 1 (vs i2) (n2 + 1) (xs2 ++ [u2]) ∧ ((vs i2).ownBlock = v2.ownBlock ∨ ∃ g,(vs i2).ownBlock = some g ∧ w0.heap.size ≤ g)
 ne : L i1 = true → L i2 = true → (vs i1).ownBlock ≠ (vs i2).ownBlock
 ord : L i2 = true → L i1 = true
section
variable {w0 W W' : World} {v1 v2 : Value} {l1 i1 l2 i2 base : Nat} {e1 e2 : TypeId} {n1 n2 : Nat} {xs1 xs2 : List Value} {u1 u2 : Value} {L : Nat → Bool} {vs vs' : Nat → Value}
theorem JTwoV.congr (hc : ∀ j,L j = true → vs j = vs' j) (h : JTwoV w0 v1 v2 l1 i1 l2 i2 base e1 e2 n1 n2 xs1 xs2 u1 u2 L vs W) : JTwoV w0 v1 v2 l1 i1 l2 i2 base e1 e2 n1 n2 xs1 xs2 u1 u2 L vs' W :=
 ⟨h.b,fun hl => hc _ hl ▸ h.lit1 hl,fun hl => hc _ hl ▸ h.lit2 hl,fun hl => hc _ hl ▸ h.row1 hl,fun hl => hc _ hl ▸ h.row2 hl,fun ha hb => hc _ ha ▸ hc _ hb ▸ h.ne ha hb,h.ord⟩
theorem JTwoV.start : JTwoV w0 v1 v2 l1 i1 l2 i2 base e1 e2 n1 n2 xs1 xs2 u1 u2 (fun _ => false) vs w0.drew :=
 ⟨.start,fun h => (by cases h),fun h => (by cases h),fun h => (by cases h),fun h => (by cases h),fun h => (by cases h),fun h => (by cases h)⟩
theorem updV_ne {i j : Nat} {v : Value} (h : j ≠ i) : updV vs i v j = vs j:=by unfold updV; rw [if_neg h]
theorem updV_eq {i : Nat} {v : Value} : updV vs i v i = v:=by unfold updV; rw [if_pos rfl]
theorem JTwoV.grow (h : JTwoV w0 v1 v2 l1 i1 l2 i2 base e1 e2 n1 n2 xs1 xs2 u1 u2 L vs W) (hb : Below W.heap.size W W') {i : Nat} {v : Value} (h1 : l1 ≠ i) (h2 : i1 ≠ i) (h3 : l2 ≠ i) (h4 : i2 ≠ i) :
  JTwoV w0 v1 v2 l1 i1 l2 i2 base e1 e2 n1 n2 xs1 xs2 u1 u2 (setB L i) (updV vs i v) W':=by
 refine ⟨h.b.grow hb, ?_, ?_, ?_, ?_, ?_, ?_⟩
 ·rw [setB_ne h1,updV_ne h1]; exact fun hl => let ⟨q,a,b,c⟩ := h.lit1 hl; ⟨q,a,b,bAt hb c⟩
 ·rw [setB_ne h3,updV_ne h3]; exact fun hl => let ⟨q,a,b,c⟩ := h.lit2 hl; ⟨q,a,b,bAt hb c⟩
 ·rw [setB_ne h2,updV_ne h2]; exact fun hl => let ⟨a,b⟩ := h.row1 hl; ⟨ownsN_below a hb,b⟩
 ·rw [setB_ne h4,updV_ne h4]; exact fun hl => let ⟨a,b⟩ := h.row2 hl; ⟨ownsN_below a hb,b⟩
 ·rw [setB_ne h2,setB_ne h4,updV_ne h2,updV_ne h4]; exact h.ne
 ·rw [setB_ne h2,setB_ne h4]; exact h.ord
theorem JTwoV.read (h : JTwoV w0 v1 v2 l1 i1 l2 i2 base e1 e2 n1 n2 xs1 xs2 u1 u2 L vs W) {i : Nat} {v : Value} (h1 : l1 ≠ i) (h2 : i1 ≠ i) (h3 : l2 ≠ i) (h4 : i2 ≠ i) :
  JTwoV w0 v1 v2 l1 i1 l2 i2 base e1 e2 n1 n2 xs1 xs2 u1 u2 (setB L i) (updV vs i v) W:=h.grow (Below.refl _ _) h1 h2 h3 h4
theorem litKeep {g : Option Nat} {Z : Nat} {v u : Value} (hg : W.grownBy W' g) (hlt : ∀ q,g = some q → q < Z) (h : ∃ q,v = .slice (some ⟨q,0,none⟩) 1 1 ∧ Z ≤ q ∧ W.cell? ⟨q,0,none⟩ = some u) : ∃ q,v = .slice (some ⟨q,0,none⟩) 1 1 ∧ Z ≤ q ∧ W'.cell? ⟨q,0,none⟩ = some u:=by
 obtain ⟨q,a,b,c⟩ := h
 exact ⟨q,a,b,(World.cell?_of_block (w:=W) (hg.block q (World.block_lt_of_cell? W _ c) (fun e => by have:=hlt q e.symm; omega))).trans c⟩
theorem JTwoV.app1 (h : JTwoV w0 v1 v2 l1 i1 l2 i2 base e1 e2 n1 n2 xs1 xs2 u1 u2 L vs W) (hL : L i1 = false) (hg : W.grownBy W' v1.ownBlock) (hv1 : ∀ q,v1.ownBlock = some q → q < w0.heap.size) {v : Value} (ho : W'.ownsRow base e1 1 v (n1 + 1) (xs1 ++ [u1]))
  (hat : v.ownBlock = v1.ownBlock ∨ ∃ g,v.ownBlock = some g ∧ w0.heap.size ≤ g) (h1 : l1 ≠ i1) (h3 : l2 ≠ i1) (h4 : i2 ≠ i1) : JTwoV w0 v1 v2 l1 i1 l2 i2 base e1 e2 n1 n2 xs1 xs2 u1 u2 (setB L i1) (updV vs i1 v) W':=by
 have h2L : L i2 = false:=by
  cases hq : L i2 with
  | false => rfl
  | true => rw [h.ord hq] at hL; cases hL
 refine ⟨h.b.app1 hg, ?_, ?_, ?_, ?_, ?_, ?_⟩
 ·rw [setB_ne h1,updV_ne h1]; exact fun hl => litKeep hg hv1 (h.lit1 hl)
 ·rw [setB_ne h3,updV_ne h3]; exact fun hl => litKeep hg hv1 (h.lit2 hl)
 ·rw [updV_eq]; exact fun _ => ⟨ho,hat⟩
 ·rw [setB_ne h4,h2L]; exact fun hl => by cases hl
 ·rw [setB_ne h4,h2L]; exact fun _ hl => by cases hl
 ·rw [setB_eq]; exact fun _ => rfl
theorem JTwoV.app2 (h : JTwoV w0 v1 v2 l1 i1 l2 i2 base e1 e2 n1 n2 xs1 xs2 u1 u2 L vs W) (hL1 : L i1 = true) (hg : W.grownBy W' v2.ownBlock) (hv2 : ∀ q,v2.ownBlock = some q → q < w0.heap.size) (hne : v1.ownBlock = none ∨ v1.ownBlock ≠ v2.ownBlock)
  {v : Value} {g : Nat} (ho : W'.ownsRow base e2 1 v (n2 + 1) (xs2 ++ [u2])) (hv : v.ownBlock = some g) (hat : v2.ownBlock = some g ∨ g = W.heap.size) (h1 : l1 ≠ i2) (h2 : i1 ≠ i2) (h3 : l2 ≠ i2) : JTwoV w0 v1 v2 l1 i1 l2 i2 base e1 e2 n1 n2 xs1 xs2 u1 u2 (setB L i2) (updV vs i2 v) W':=by
 obtain ⟨hr1,hr2⟩ := h.row1 hL1
 have key : ∀ q,(vs i1).ownBlock = some q → v2.ownBlock ≠ some q:=fun q hq e => by
  rcases hr2 with hr2 | ⟨q',hr2,hr3⟩
  ·rw [hr2] at hq
   rcases hne with hn | hn
   ·rw [hn] at hq; cases hq
   ·exact hn (hq.trans e.symm)
  ·rw [hq] at hr2; cases hr2; have:=hv2 q e; omega
 refine ⟨h.b.app2 hg, ?_, ?_, ?_, ?_, ?_, ?_⟩
 ·rw [setB_ne h1,updV_ne h1]; exact fun hl => litKeep hg hv2 (h.lit1 hl)
 ·rw [setB_ne h3,updV_ne h3]; exact fun hl => litKeep hg hv2 (h.lit2 hl)
 ·rw [setB_ne h2,updV_ne h2]; exact fun _ => ⟨ownsN_kept hr1 fun q hq => hg.block q (hr1.lt q hq).2 (Ne.symm (key q hq)),hr2⟩
 ·rw [updV_eq]; exact fun _ => ⟨ho,hat.elim (fun e => .inl (hv.trans e.symm)) (fun e => .inr ⟨g,hv,by rw [e]; exact h.b.size⟩)⟩
 ·rw [updV_eq,updV_ne h2]
  intro _ _ e
  rw [hv] at e
  rcases hat with hat | hat
  ·exact key g e hat
  ·have:=(hr1.lt g e).2; omega
 ·rw [setB_ne h2]; exact fun _ => hL1
end
end Go.Oche
